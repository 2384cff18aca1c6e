/- A part of a proof. -/
import GoSem.Step
import Derived.Calls
import Derived.Orders
import Derived.Laws.World
import Derived.Laws.Cells
import Derived.Deep.AppendSrc
import Derived.Laws.BytesString
import Derived.Laws.StructEq
set_option linter.unusedVariables false
set_option linter.unusedSimpArgs false
namespace Go.RE
abbrev ai:= @Option.some.injEq
abbrev aL:= @Prod.mk.injEq
abbrev bn:= @List.getElem?_eq_some_iff
abbrev bR:= @Nat.eq_of_beq_eq_true
abbrev aq:= @Nat.le_refl
abbrev bL:= @List.getElem?_eq_getElem
abbrev bC:= @Bool.and_eq_true
abbrev cT:= @Nat.testBit_eq_decide_div_mod_eq
abbrev eZ:= @List.getElem?_append_right
abbrev cw:= @List.getElem?_append_left
abbrev gb:= @Nat.le_of_ble_eq_true
abbrev gB:= @List.mem_cons_of_mem
abbrev eM:= @List.getElem?_set
abbrev jq:= @List.eq_nil_of_length_eq_zero
abbrev eU:= @List.mem_cons_self
abbrev jU:= @List.take_of_length_le
abbrev oS:= @Bool.false_eq_true
abbrev ou:= @Nat.ble_eq_true_of_le
abbrev me:= @Nat.mul_le_mul_right
abbrev lG:= @List.length_append
abbrev kN:= @List.append_assoc
abbrev mg:= @Nat.lt_of_lt_of_le
abbrev jP:= @List.getElem?_take
abbrev CW:= @Array.getElem?_eq_none
abbrev CX:= @Nat.add_sub_cancel_left
abbrev Gt:= @List.drop_of_length_le
abbrev XF:= @List.drop_eq_getElem_cons
abbrev sR:= @Array.getElem?_eq_getElem
abbrev oT:= @Nat.le_max_left
abbrev eR:= @List.mem_map
abbrev gd:= @List.mem_append
abbrev dM:= @List.mem_cons
abbrev rE:= @Array.getD_eq_getD_getElem?
abbrev Gu:= @Array.getElem?_setIfInBounds
abbrev gv:= @Nat.ble_eq
abbrev dS:= @Nat.zero_le
abbrev qd:= @List.getElem?_drop
abbrev iY:= @Nat.beq_refl
abbrev qgs:= @List.mem_of_find?_eq_some
abbrev jr:= @List.all_eq_true
inductive PT(α:Type) where
 |e
 |n (v:Option α) (l r:PT α)
deriving Inhabited
namespace PT
variable{α:Type}
def get:PT α→Nat→Option α
 | .e,_=>none
 | .n v l r,k=>match k with
  |0=>v
  |j+1=>bif Nat.beq (j % 2) 0 then l.get (j / 2)else r.get (j / 2)
def yG:Nat→PT α→Nat→Option α→PT α
 |0,t,_,_=>t
 |f+1,t,k,x=>match t with
  | .e=>(match k with
   |0=> .n x .e .e
   |j+1=>bif Nat.beq (j % 2) 0 then .n none (yG f .e (j / 2) x) .e else .n none .e (yG f .e (j / 2) x))
  | .n v l r=>(match k with
   |0=> .n x l r
   |j+1=>bif Nat.beq (j % 2) 0 then .n v (yG f l (j / 2) x) r else .n v l (yG f r (j / 2) x))
def set(t:PT α)(k:Nat)(x:α):PT α:=yG (k+1) t k (some x)
theorem Py(f:Nat):∀ (t:PT α) (k:Nat) (x:Option α) (j:Nat),k<f→(yG f t k x).get j=if j=k then x else t.get j:=by
 induction f with
 |zero=>intro t k x j h;omega
 |succ f ih=>
  intro t k x j h;cases t with
  |e=>
   cases k with
   |zero=>
    cases j with
    |zero=>simp[yG,get]
    |succ j=>simp only[yG,get];cases Nat.beq (j % 2) 0<;>simp[get]
   |succ k=>
    simp only[yG];have hk:k / 2<f:=by omega
    cases hb:Nat.beq (k % 2) 0 with
    |true=>
     simp only[cond_true];cases j with
     |zero=>simp[get]
     |succ j=>
      simp only[get];cases hc:Nat.beq (j % 2) 0 with
      |true=>
       simp only[cond_true];rw[ih _ _ _ _ hk];have h1:k % 2=0:=bR hb;have h2:j % 2=0:=bR hc;by_cases hj:j=k
       ·subst hj;simp
       ·rw[if_neg (by omega),if_neg (by omega)];simp[get]
      |false=>
       have h1:k % 2=0:=bR hb;have h2:¬j % 2=0:=by intro h;rw[h]at hc;simp at hc
       rw[if_neg (by intro h;apply h2;have:j=k:=(by omega);rw[this];exact h1)];simp[get]
    |false=>
     simp only[cond_false];cases j with
     |zero=>simp[get]
     |succ j=>
      simp only[get];cases hc:Nat.beq (j % 2) 0 with
      |false=>
       simp only[cond_false];rw[ih _ _ _ _ hk];have h1:¬k % 2=0:=by intro h;rw[h]at hb;simp at hb
       have h2:¬j % 2=0:=by intro h;rw[h]at hc;simp at hc
       by_cases hj:j=k
       ·subst hj;simp
       ·rw[if_neg (by omega),if_neg (by omega)];simp[get]
      |true=>
       have h1:¬k % 2=0:=by intro h;rw[h]at hb;simp at hb
       have h2:j % 2=0:=bR hc;rw[if_neg (by intro h;apply h1;have:j=k:=(by omega);rw[←this];exact h2)];simp[get]
  |n v l r=>
   cases k with
   |zero=>
    cases j with
    |zero=>simp[yG,get]
    |succ j=>simp[yG,get]
   |succ k=>
    simp only[yG];have hk:k / 2<f:=by omega
    cases hb:Nat.beq (k % 2) 0 with
    |true=>
     simp only[cond_true];cases j with
     |zero=>simp[get]
     |succ j=>
      simp only[get];cases hc:Nat.beq (j % 2) 0 with
      |true=>
       simp only[cond_true];rw[ih _ _ _ _ hk];have h1:k % 2=0:=bR hb;have h2:j % 2=0:=bR hc;by_cases hj:j=k
       ·subst hj;simp
       ·rw[if_neg (by omega),if_neg (by omega)]
      |false=>
       have h1:k % 2=0:=bR hb;have h2:¬j % 2=0:=by intro h;rw[h]at hc;simp at hc
       rw[if_neg (by intro h;apply h2;have:j=k:=(by omega);rw[this];exact h1)];simp
    |false=>
     simp only[cond_false];cases j with
     |zero=>simp[get]
     |succ j=>
      simp only[get];cases hc:Nat.beq (j % 2) 0 with
      |false=>
       simp only[cond_false];rw[ih _ _ _ _ hk];have h1:¬k % 2=0:=by intro h;rw[h]at hb;simp at hb
       have h2:¬j % 2=0:=by intro h;rw[h]at hc;simp at hc
       by_cases hj:j=k
       ·subst hj;simp
       ·rw[if_neg (by omega),if_neg (by omega)]
      |true=>
       have h1:¬k % 2=0:=by intro h;rw[h]at hb;simp at hb
       have h2:j % 2=0:=bR hc;rw[if_neg (by intro h;apply h1;have:j=k:=(by omega);rw[←this];exact h2)];simp
theorem iC(t:PT α)(k:Nat)(x:α)(j:Nat):(t.set k x).get j=if j=k then some x else t.get j:=
 Py (k+1) t k (some x) j (Nat.lt_succ_self k)
@[simp] theorem XR(k:Nat):(PT.e:PT α).get k=none:=by cases k<;>rfl
end PT
inductive V where
 |bool (b:Bool)
 |int (k:IntKind) (n:Int)
 |str (s:List UInt8)
 |bA
 |ptr (b off:Nat)
 |eu (row:List V) (off:Nat)
 |bu
 |bK
 |slice (b off len cap sz:Nat) (exact:Bool)
 |ag (row:List V) (off len sz:Nat)
 |bO
 |map (b:Nat)
 |dy
 |func (f:Nat) (first captured:List V)
 |cU
 |iface (t:Nat) (v:V)
 |agg (cs:List V)
 |aX (vs:List V)
deriving Inhabited
def V.one:V→Bool
 | .agg _=>false
 | .aX _=>false
 |_=>true
def V.cells:V→List V
 | .agg cs=>cs
 |v=>[v]
mutual
def V.beq:V→V→Bool
 | .bool a,.bool b=>a==b
 | .int j a,.int k b=>decide (j=k)&&decide (a=b)
 | .str a,.str b=>a==b
 | .bA,.bA=>true
 | .ptr a b,.ptr c d=>Nat.beq a c&&Nat.beq b d
 | .eu a b,.eu c d=>V.Ad a c&&Nat.beq b d
 | .bu,.bu=>true
 | .bK,.bK=>true
 | .slice a b c d e f,.slice a' b' c' d' e' f' =>Nat.beq a a' &&Nat.beq b b' &&Nat.beq c c' &&Nat.beq d d' &&Nat.beq e e' &&(f==f')
 | .ag a b c d,.ag a' b' c' d' =>V.Ad a a' &&Nat.beq b b' &&Nat.beq c c' &&Nat.beq d d'
 | .bO,.bO=>true
 | .map a,.map b=>Nat.beq a b
 | .dy,.dy=>true
 | .func f a b,.func g c d=>Nat.beq f g&&V.Ad a c&&V.Ad b d
 | .cU,.cU=>true
 | .iface t v,.iface u w=>Nat.beq t u&&V.beq v w
 | .agg a,.agg b=>V.Ad a b
 | .aX a,.aX b=>V.Ad a b
 |_,_=>false
def V.Ad:List V→List V→Bool
 |[],[]=>true
 |a::as,b::bs=>V.beq a b&&V.Ad as bs
 |_,_=>false
end
mutual
theorem V.eq_of_beq:∀ {a b:V},V.beq a b=true→a=b
 | .bool a,b,h=>by cases b<;>simp_all [V.beq]
 | .int j a,b,h=>by cases b<;>simp_all [V.beq]
 | .str a,b,h=>by cases b<;>simp_all [V.beq]
 | .bA,b,h=>by cases b<;>simp_all [V.beq]
 | .ptr a c,b,h=>by cases b<;>simp_all [V.beq]
 | .eu a c,b,h=>by
  cases b<;>simp[V.beq]at h;obtain⟨h1,h2⟩:=h;rw[V.jf h1,h2]
 | .bu,b,h=>by cases b<;>simp_all [V.beq]
 | .bK,b,h=>by cases b<;>simp_all [V.beq]
 | .slice a1 a2 a3 a4 a5 a6,b,h=>by cases b<;>simp_all [V.beq]
 | .ag a c d e,b,h=>by
  cases b<;>simp[V.beq]at h;obtain⟨⟨⟨h1,h2⟩,h3⟩,h4⟩:=h;rw[V.jf h1,h2,h3,h4]
 | .bO,b,h=>by cases b<;>simp_all [V.beq]
 | .map a,b,h=>by cases b<;>simp_all [V.beq]
 | .dy,b,h=>by cases b<;>simp_all [V.beq]
 | .func f a c,b,h=>by
  cases b<;>simp[V.beq]at h;obtain⟨⟨h1,h2⟩,h3⟩:=h;rw[V.jf h2,V.jf h3,h1]
 | .cU,b,h=>by cases b<;>simp_all [V.beq]
 | .iface t v,b,h=>by
  cases b<;>simp[V.beq]at h;obtain⟨h1,h2⟩:=h;rw[V.eq_of_beq h2,h1]
 | .agg a,b,h=>by
  cases b<;>simp[V.beq]at h;rw[V.jf h]
 | .aX a,b,h=>by
  cases b<;>simp[V.beq]at h;rw[V.jf h]
theorem V.jf:∀ {a b:List V},V.Ad a b=true→a=b
 |[],[],_=>rfl
 |[],_::_,h=>by simp[V.Ad]at h
 |_::_,[],h=>by simp[V.Ad]at h
 |a::as,b::bs,h=>by
  simp[V.Ad]at h;rw[V.eq_of_beq h.1,V.jf h.2]
end
structure ME where
 key:V
 val:V
 born:Nat
deriving Inhabited
inductive Ob where
 |row (cs:List V)
 |uI (cs:List V)
 |map (es:List ME) (clock:Nat)
 |fZ (m:Option Nat) (since:Nat) (seen:List Nat) (stepped:Nat)
 |dead
deriving Inhabited
structure St where
 h:PT Ob
 next:Nat
deriving Inhabited
def St.get(s:St)(n:Nat):Option Ob:=s.h.get n
def St.put(s:St)(n:Nat)(o:Ob):St:={s with h:=s.h.set n o}
def St.alloc(s:St)(o:Ob):St:={h:=s.h.set s.next o,next:=s.next+1}
def St.row(s:St)(n:Nat):Option (List V):=
 match s.get n with
 |some (.row cs)=>some cs
 |some (.uI cs)=>some cs
 |_=>none
def St.vW(s:St)(n:Nat):Option (List V):=
 match s.get n with
 |some (.row cs)=>some cs
 |_=>none
class iB(R:Type) where
 fail:R
 all:Nat→(Nat→R)→R
 chk:V→V→R→R
instance:iB Prop where
 fail:=False
 all n f:=∀ i,i<n→f i
 chk a b r:=a=b∧r
instance:iB Bool where
 fail:=false
 all n f:=(List.range n).all f
 chk a b r:=bif V.beq a b then r else false
inductive bH where
 |t (n:Nat)
 |c (v:V)
deriving Inhabited
inductive gU where
 |bool|int|str
 |bA|bu|bO|dy -- compared with nil (or both nil)
 |iface (guard:Bool) -- guard:two bu are not told
 |flat (ks:List (Nat×gU)) -- a struct,cell by cell,of bool,int,str
 |no
deriving Inhabited
inductive fR where
 |br (x:bH)
 |pick (c a b:bH)
 |load (n:Option Nat) (x:bH)
 |nilCheck (x:bH)
 |bin (op:BinOp) (ek:gU) (x y:bH)
 |un (op:UnOp) (x:bH)
 |ep (k:IntKind) (x:bH)
 |tg (x:bH)
 |toStr (x:bH)
 |nP (t:Nat) (x:bH)
 |ji (f:Nat) (first captured:List bH)
 |build (zero:List V) (parts:List (Nat×Nat×bH))
 |nA (x:bH) (lo hi:Option bH)
 |slice (sz:Nat) (x:bH) (lo hi mx:Option bH)
 |iV (n sz:Nat) (x:bH) (lo hi:Option bH)
 |fieldAddr (off:Nat) (x:bH)
 |field (off:Nat) (n:Option Nat) (x:bH)
 |indexAddr (sz:Nat) (x i:bH)
 |mR (len sz:Nat) (x i:bH)
 |index (x i:bH)
 |CB (len:Nat) (x i:bH) -- of an array
 |lookup (kk:gU) (zero:V) (ok:Bool) (x i:bH)
 |extract (i:Nat) (x:bH)
 |len (k:Nat) (x:bH) -- 0:of a string,1:of a slice,2:of a map
 |cap (x:bH)
 |max (xs:List bH)
 |min (xs:List bH)
 |mF (t:Nat) (zero:V) (x:bH) -- x.(T),v,ok;T concrete
 |entry (x:bH) -- a map iterator's entry
deriving Inhabited
inductive Gv where
 |alloc (zero:List V)
 |box (x:bH)
 |buildSlice (sz len:Nat) (zero:List V) (parts:List (Nat×Nat×bH))
 |makeMap
 |makeSlice (sz bytes:Nat) (zero:List V) (len cap:bH)
 |l9 (x:bH)
deriving Inhabited
inductive xV where
 |store (n:Nat) (a x:bH)
 |mapUpdate (kk:gU) (m k x:bH)
 |delete (kk:gU) (m k:bH)
 |append (sz bytes:Nat) (str:Bool) (s x:bH) -- str:a string's bytes come
 |copy (sz:Nat) (str:Bool) (d s:bH)
 |clear (sz:Nat) (zero:List V) (x:bH)
 |range (x:bH)
deriving Inhabited
inductive jF where
 |s (o:fR)
 |m (o:Gv)
 |h (o:xV)
 |call (f:bH) (args:List bH)
 |invoke (name:String) (x:bH) (args:List bH)
 |next (x:bH)
 |bad
deriving Inhabited
structure aF where
 dst:Option Nat
 op:jF
 guard:Option (Nat×Bool) -- a temporary,and what it must hold
 aQ:Nat -- all that must run before,as bits
deriving Inhabited
inductive aj where
 |skip
 |region (ops:List aF)
 |draw (ops:List aF)
 |seq (a b:aj)
 |cond (c:bH) (a b:aj)
 |block (id:Nat) (b:aj)
 |loop (b:aj)
 |exit (id:Nat)
 |ret
 |bad
 |uD (n:Nat) (p:List V→St→Option (V×St)) -- what a call comes to,by a contract
deriving Inhabited
inductive tX where
 |t (n:Nat)
 |cell (a:Nat) (n:Option Nat)
deriving Inhabited
structure b8 where
 ntmps:Nat
 results:List tX
 body:aj
deriving Inhabited
inductive Ex where
 |normal
 |exit (id:Nat)
 |ret
deriving Inhabited
end Go.RE
namespace Go.RE
def bH.ev(env:PT V):bH→Option V
 | .t n=>env.get n
 | .c v=>some v
def I7(env:PT V):List bH→Option (List V)
 |[]=>some []
 |x::xs=>match x.ev env with
  |some v=>(match I7 env xs with|some vs=>some (v::vs)|none=>none)
  |none=>none
def AN:IntKind→Nat
 | .i8=>127| .i16=>32767| .i32=>2147483647| .i64=>9223372036854775807
 | .u8=>255| .u16=>65535| .u32=>4294967295| .u64=>18446744073709551615
def aI(k:IntKind)(n:Int):Int:=
 match n with
 | .ofNat m=>bif Nat.ble m (AN k)then .ofNat m else k.wrap (.ofNat m)
 | .negSucc m=>bif k.signed&&Nat.ble m (AN k)then .negSucc m else k.wrap (.negSucc m)
def jL(op:BinOp)(k:IntKind)(a b:Int):Option V:=
 match op with
 | .add=>some (.int k (aI k (a+b)))
 | .sub=>some (.int k (aI k (a - b)))
 | .mul=>some (.int k (aI k (a*b)))
 | .quo=>if b=0 then none else some (.int k (aI k (a.tdiv b)))
 | .rem=>if b=0 then none else some (.int k (a.tmod b))
 | .and=>some (.int k (aI k (BitVec.ofInt k.bits a&&&BitVec.ofInt k.bits b).toNat))
 | .or=>some (.int k (aI k (BitVec.ofInt k.bits a|||BitVec.ofInt k.bits b).toNat))
 | .xor=>some (.int k (aI k (BitVec.ofInt k.bits a ^^^ BitVec.ofInt k.bits b).toNat))
 | .andNot=>some (.int k (aI k (BitVec.ofInt k.bits a&&& ~~~BitVec.ofInt k.bits b).toNat))
 | .eql=>some (.bool (a==b))
 | .neq=>some (.bool (a !=b))
 | .lss=>some (.bool (decide (a<b)))
 | .leq=>some (.bool (decide (a≤b)))
 | .gtr=>some (.bool (decide (a>b)))
 | .geq=>some (.bool (decide (a≥b)))
 |_=>none
def wP(op:BinOp)(k:IntKind)(a b:Int):Option V:=
 if b<0 then none else
 match op with
 | .shl=>some (.int k (aI k (a*2 ^ (min b.toNat k.bits))))
 | .shr=>some (.int k (a.fdiv (2 ^ (min b.toNat k.bits))))
 |_=>none
def aZ:Nat:=1099511627776
def kK(op:BinOp)(a b:List UInt8):Option V:=
 match op with
 | .add=>bif Nat.ble (a.length+b.length) aZ then some (.str (a++b))else none
 | .eql=>some (.bool (a==b))
 | .neq=>some (.bool (!(a==b)))
 | .lss=>some (.bool (Op.bytesLess a b))
 | .leq=>some (.bool (Op.bytesLess a b||a==b))
 | .gtr=>some (.bool (!(Op.bytesLess a b||a==b)))
 | .geq=>some (.bool (!Op.bytesLess a b))
 |_=>none
def jN:gU→V→V→Option Bool
 | .bool,.bool a,.bool b=>some (a==b)
 | .int,.int j a,.int k b=>if j=k then some (a==b)else none
 | .str,.str a,.str b=>some (a==b)
 |_,_,_=>none
def qB:List (Nat×gU)→List V→List V→Option Bool
 |[],_,_=>some true
 |(o,k)::r,xs,ys=>match xs[o]?,ys[o]? with
  |some a,some b=>(match jN k a b with
   |some true=>qB r xs ys
   |some false=>some false
   |none=>none)
  |_,_=>none
def Gw(ek:gU)(a b:V):Option Bool:=
 match ek,a,b with
 | .bool,.bool x,.bool y=>some (x==y)
 | .bA,.bA,.bA=>some true
 | .bA,.bA,.ptr _ _=>some false
 | .bA,.bA,.eu _ _=>some false
 | .bA,.ptr _ _,.bA=>some false
 | .bA,.eu _ _,.bA=>some false
 | .bu,.bu,.bu=>some true
 | .bu,.bu,.slice .. =>some false
 | .bu,.bu,.ag .. =>some false
 | .bu,.bu,.bK=>some false
 | .bu,.bK,.bu=>some false
 | .bu,.slice ..,.bu=>some false
 | .bu,.ag ..,.bu=>some false
 | .bO,.bO,.bO=>some true
 | .bO,.bO,.map _=>some false
 | .bO,.map _,.bO=>some false
 | .dy,.dy,.dy=>some true
 | .dy,.dy,.func .. =>some false
 | .dy,.func ..,.dy=>some false
 | .iface false,.cU,.cU=>some true
 | .iface _,.cU,.iface _ _=>some false
 | .iface _,.iface _ _,.cU=>some false
 | .flat ks,.agg xs,.agg ys=>qB ks xs ys
 |_,_,_=>none
def jG(op:BinOp)(ek:gU)(a b:V):Option V:=
 match op,a,b with
 | .shl,.int k x,.int _ y=>wP .shl k x y
 | .shr,.int k x,.int _ y=>wP .shr k x y
 |op,.int k x,.int j y=>if k=j then jL op k x y else none
 |op,.str x,.str y=>kK op x y
 | .eql,a,b=>(match Gw ek a b with|some r=>some (.bool r)|none=>none)
 | .neq,a,b=>(match Gw ek a b with|some r=>some (.bool (!r))|none=>none)
 |_,_,_=>none
def unV(op:UnOp)(a:V):Option V:=
 match op,a with
 | .neg,.int k n=>some (.int k (aI k (0 - n)))
 | .not,.bool b=>some (.bool (!b))
 | .xor,.int k n=>jL .xor k (if k.signed then -1 else k.max) n
 |_,_=>none
def dW(n:Option Nat)(cs:List V)(off:Nat):Option V:=
 match n with
 |none=>cs[off]?
 |some n=>bif Nat.ble (off+n) cs.length then some (.agg ((cs.drop off).take n))else none
def jR(cs:List V)(off:Nat)(vs:List V):List V:=cs.take off++vs++cs.drop (off+vs.length)
def mN(env:PT V)(cells:List V):List (Nat×Nat×bH)→Option (List V)
 |[]=>some cells
 |(off,size,x)::rest=>match x.ev env with
  |some v=>bif Nat.beq v.cells.length size&&Nat.ble (off+v.cells.length) cells.length then mN env (jR cells off v.cells) rest else none
  |none=>none
def asNat(v:V)(most:Nat):Option Nat:=
 match v with
 | .int _ n=>if 0≤n∧n≤(most:Int)then some n.toNat else none
 |_=>none
def ay(env:PT V)(x:Option bH)(dflt most:Nat):Option Nat:=
 match x with
 |none=>some dflt
 |some x=>match x.ev env with
  |some v=>asNat v most
  |none=>none
def gZ(b:UInt8):V:=.int .u8 b.toNat
def bytesOf:List V→Option (List UInt8)
 |[]=>some []
 | .int .u8 n::r=>(match bytesOf r with|some bs=>some (UInt8.ofNat n.toNat::bs)|none=>none)
 |_::_=>none
def bG(s:St)(w:Nat):V→Option (List V)
 | .bu=>some []
 | .bK=>some []
 | .slice b off len _ sz _=>match s.row b with
  |some cs=>bif Nat.beq sz w&&Nat.ble (off+len*sz) cs.length then some ((cs.drop off).take (len*sz))else none
  |none=>none
 | .ag row off len sz=>bif Nat.beq sz w&&Nat.ble (off+len*sz) row.length then some ((row.drop off).take (len*sz))else none
 |_=>none
def iA(s:St)(w:Nat)(str:Bool)(x:V):Option (List V):=
 match str,x with
 |true,.str b=>bif Nat.beq w 1 then some (b.map gZ)else none
 |false,x=>bG s w x
 |_,_=>none
def tv:V→Option Nat
 | .bu=>some 0
 | .bK=>some 0
 | .slice _ _ len _ _ _=>some len
 | .ag _ _ len _=>some len
 | .str b=>some b.length
 |_=>none
def lK(s:St)(k:Nat):V→Option Nat
 | .str b=>bif Nat.beq k 0 then some b.length else none
 | .bu=>bif Nat.beq k 1 then some 0 else none
 | .bK=>bif Nat.beq k 1 then some 0 else none
 | .slice _ _ len _ _ _=>bif Nat.beq k 1 then some len else none
 | .ag _ _ len _=>bif Nat.beq k 1 then some len else none
 | .bO=>bif Nat.beq k 2 then some 0 else none
 | .map m=>bif Nat.beq k 2 then(match s.get m with
  |some (.map es _)=>some es.length
  |_=>none)else none
 |_=>none
def mO(kk:gU)(k:V):List ME→Nat→Option (Option (Nat×V))
 |[],_=>some none
 |e::es,i=>match jN kk k e.key with
  |some true=>some (some (i,e.val))
  |some false=>mO kk k es (i+1)
  |none=>none
def plainKey:gU→V→Bool
 | .bool,.bool _=>true
 | .int,.int _ _=>true
 | .str,.str _=>true
 |_,_=>false
def yj:V→V→Option V
 | .int k x,.int j y=>if k=j then some (.int k (if y>x then y else x))else none
 | .str x,.str y=>some (.str (if Op.bytesLess x y then y else x))
 |_,_=>none
def A0:V→V→Option V
 | .int k x,.int j y=>if k=j then some (.int k (if y<x then y else x))else none
 | .str x,.str y=>some (.str (if Op.bytesLess x y||x==y then x else y))
 |_,_=>none
def ye(f:V→V→Option V):V→List V→Option V
 |a,[]=>some a
 |a,b::r=>match f a b with
  |some c=>ye f c r
  |none=>none
def pI(s:St)(kk:gU)(zero:V)(ok:Bool)(m k:V):Option V:=
 match m with
 | .bO=>bif plainKey kk k then some (if ok then .aX [zero,.bool false]else zero)else none
 | .map m=>(match s.get m with
  |some (.map es _)=>bif plainKey kk k then(match mO kk k es 0 with
   |some (some (_,v))=>some (if ok then .aX [v,.bool true]else v)
   |some none=>some (if ok then .aX [zero,.bool false]else zero)
   |none=>none)else none
  |_=>none)
 |_=>none
def As(s:St)(b:Nat):Option V:=
 match s.get b with
 |some (.fZ (some m) _ seen last)=>(match s.get m,seen.getLast? with
  |some (.map es clock),some n=>bif Nat.beq clock last then(match es.find? (fun e=>Nat.beq e.born n)with
   |some e=>some (.aX [e.key,e.val])
   |none=>none)else none
  |_,_=>none)
 |_=>none
def cK(env:PT V)(s:St):fR→Option V
 | .entry x=>match x.ev env with
  |some (.ptr b 0)=>As s b
  |_=>none
 | .br x=>x.ev env
 | .pick c a b=>match c.ev env with
  |some (.bool true)=>a.ev env
  |some (.bool false)=>b.ev env
  |_=>none
 | .load n x=>match x.ev env with
  |some (.ptr b off)=>(match s.row b with|some cs=>dW n cs off|none=>none)
  |some (.eu row off)=>dW n row off
  |_=>none
 | .nilCheck x=>match x.ev env with
  |some .bA=>none
  |some .cU=>none
  |some .dy=>none
  |v=>v
 | .bin op ek x y=>match x.ev env,y.ev env with
  |some a,some b=>jG op ek a b
  |_,_=>none
 | .un op x=>match x.ev env with
  |some a=>unV op a
  |none=>none
 | .ep k x=>match x.ev env with
  |some (.int _ n)=>some (.int k (aI k n))
  |_=>none
 | .tg x=>match x.ev env with
  |some (.str b)=>some (.str b)
  |_=>none
 | .toStr x=>match x.ev env with
  |some v=>(match bG s 1 v with
   |some cs=>(match bytesOf cs with|some bs=>some (.str bs)|none=>none)
   |none=>none)
  |none=>none
 | .nP t x=>match x.ev env with
  |some v=>some (.iface t v)
  |none=>none
 | .ji f first captured=>match I7 env first,I7 env captured with
  |some a,some b=>some (.func f a b)
  |_,_=>none
 | .build zero parts=>match mN env zero parts with
  |some cs=>some (.agg cs)
  |none=>none
 | .nA x lo hi=>match x.ev env with
  |some (.str b)=>(match ay env hi b.length b.length with
   |some h=>(match ay env lo 0 h with
    |some l=>some (.str ((b.take h).drop l))
    |none=>none)
   |none=>none)
  |_=>none
 | .slice w x lo hi mx=>match x.ev env with
  |some .bu=>(match ay env mx 0 0 with
   |some m=>(match ay env hi 0 m with
    |some h=>(match ay env lo 0 h with
     |some _=>some .bu
     |none=>none)
    |none=>none)
   |none=>none)
  |some (.slice b off len cap sz ex)=>(match ay env mx cap cap with
   |some m=>(match ay env hi len m with
    |some h=>(match ay env lo 0 h with
     |some l=>bif Nat.beq w sz then(bif mx.isSome&&Nat.beq m 0 then some .bK else some (.slice b (off+l*sz) (h - l) (m - l) sz (ex||mx.isSome)))else none
     |none=>none)
    |none=>none)
   |none=>none)
  |some .bK=>(match ay env mx 0 0 with
   |some m=>(match ay env hi 0 m with
    |some h=>(match ay env lo 0 h with
     |some _=>some .bK
     |none=>none)
    |none=>none)
   |none=>none)
  |some (.ag row off len sz)=>(match ay env mx len len with
   |some m=>(match ay env hi len m with
    |some h=>(match ay env lo 0 h with
     |some l=>bif Nat.beq w sz then(bif mx.isSome&&Nat.beq m 0 then some .bK else some (.ag row (off+l*sz) (h - l) sz))else none
     |none=>none)
    |none=>none)
   |none=>none)
  |_=>none
 | .iV n sz x lo hi=>match x.ev env with
  |some (.ptr b off)=>(match ay env hi n n with
   |some h=>(match ay env lo 0 h with
    |some l=>(match s.row b with
     |some cs=>bif Nat.ble (off+n*sz) cs.length then some (.slice b (off+l*sz) (h - l) (n - l) sz true)else none
     |none=>none)
    |none=>none)
   |none=>none)
  |_=>none
 | .fieldAddr off x=>match x.ev env with
  |some (.ptr b o)=>some (.ptr b (o+off))
  |some (.eu row o)=>some (.eu row (o+off))
  |_=>none
 | .field off n x=>match x.ev env with
  |some (.agg cs)=>dW n cs off
  |_=>none
 | .indexAddr sz x i=>match x.ev env,i.ev env with
  |some (.slice b off len _ z _),some (.int _ n)=>if 0≤n∧n<(len:Int)then(bif Nat.beq z sz then some (.ptr b (off+n.toNat*sz))else none)else none
  |some (.ag row off len z),some (.int _ n)=>if 0≤n∧n<(len:Int)then(bif Nat.beq z sz then some (.eu row (off+n.toNat*sz))else none)else none
  |_,_=>none
 | .mR len sz x i=>match x.ev env,i.ev env with
  |some (.ptr b off),some (.int _ n)=>if 0≤n∧n<(len:Int)then some (.ptr b (off+n.toNat*sz))else none
  |some (.eu row off),some (.int _ n)=>if 0≤n∧n<(len:Int)then some (.eu row (off+n.toNat*sz))else none
  |_,_=>none
 | .index x i=>match x.ev env,i.ev env with
  |some (.str b),some (.int _ n)=>if 0≤n then(match b[n.toNat]? with|some c=>some (.int .u8 c.toNat)|none=>none)else none
  |_,_=>none
 | .CB len x i=>match x.ev env,i.ev env with
  |some (.agg cs),some (.int _ n)=>if 0≤n∧n<(len:Int)then cs[n.toNat]? else none
  |_,_=>none
 | .lookup kk zero ok x i=>match x.ev env,i.ev env with
  |some m,some k=>pI s kk zero ok m k
  |_,_=>none
 | .extract i x=>match x.ev env with
  |some (.aX vs)=>vs[i]?
  |_=>none
 | .len k x=>match x.ev env with
  |some v=>(match lK s k v with|some n=>some (.int .i64 n)|none=>none)
  |none=>none
 | .cap x=>match x.ev env with
  |some .bu=>some (.int .i64 0)
  |some .bK=>some (.int .i64 0)
  |some (.slice _ _ _ cap _ true)=>some (.int .i64 cap)
  |_=>none
 | .max xs=>match I7 env xs with
  |some (v::vs)=>ye yj v vs
  |_=>none
 | .min xs=>match I7 env xs with
  |some (v::vs)=>ye A0 v vs
  |_=>none
 | .mF t zero x=>match x.ev env with
  |some .cU=>some (.aX [zero,.bool false])
  |some (.iface u v)=>some (if u=t then .aX [v,.bool true]else .aX [zero,.bool false])
  |_=>none
def St.write(s:St)(b off:Nat)(vs:List V):Option St:=
 match s.vW b with
 |some cs=>bif Nat.ble (off+vs.length) cs.length&&vs.all V.one then some (s.put b (.row (jR cs off vs)))else none
 |none=>none
def k9(i:Nat)(f:ME→ME):List ME→List ME
 |[]=>[]
 |e::es=>match i with
  |0=>f e::es
  |j+1=>e::k9 j f es
def gP(i:Nat):List ME→List ME
 |[]=>[]
 |e::es=>match i with
  |0=>es
  |j+1=>e::gP j es
def eD(zero:List V):Nat→List V
 |0=>[]
 |n+1=>zero++eD zero n
def oW(s:St)(sz bytes:Nat)(str:Bool)(a x:V):Option (V×St):=
 match iA s sz str x,tv x with
 |some new,some k=>
  bif new.all V.one then
  (match a with
  | .bu=>
   bif Nat.beq k 0 then some (.bu,s)else
   bif Nat.ble (k*bytes) aZ&&Nat.ble k aZ then some (.slice s.next 0 k k sz false,s.alloc (.row new))else none
  | .bK=>
   bif Nat.beq k 0 then some (.bK,s)else
   bif Nat.ble (k*bytes) aZ&&Nat.ble k aZ then some (.slice s.next 0 k k sz false,s.alloc (.row new))else none
  | .ag row off len z=>bif Nat.beq k 0 then some (.ag row off len z,s)else none
  | .slice b off len cap z ex=>
   bif Nat.beq z sz&&Nat.ble ((len+k)*bytes) aZ&&Nat.ble (len+k) aZ then
    (bif Nat.ble (len+k) cap then
     (bif Nat.beq k 0 then some (.slice b off len cap z ex,s)else
     (match s.write b (off+len*sz) new with
     |some s' =>some (.slice b off (len+k) cap z ex,s')
     |none=>none))
    else
     (match s.vW b,bG s sz (.slice b off len cap z ex)with
     |some _,some old=>
      let s0:=bif ex then s else s.put b .dead
      some (.slice s.next 0 (len+k) (len+k) sz false,s0.alloc (.row (old++new)))
     |_,_=>none))
   else none
  |_=>none)
  else none
 |_,_=>none
def copyV(s:St)(sz:Nat)(str:Bool)(d x:V):Option (V×St):=
 match iA s sz str x,tv x with
 |some cs,some k=>
  (match d with
  | .bu=>some (.int .i64 0,s)
  | .bK=>some (.int .i64 0,s)
  | .slice b off len _ z _=>bif Nat.beq z sz then
    (match s.write b off (cs.take ((min k len)*sz))with
    |some s' =>some (.int .i64 (min k len:Nat),s')
    |none=>none)
   else none
  |_=>none)
 |_,_=>none
def Az(env:PT V):Gv→Option (Ob×(Nat→V))
 | .alloc zero=>some (.row zero,fun n=> .ptr n 0)
 | .box x=>match x.ev env with
  |some v=>some (.row v.cells,fun n=> .ptr n 0)
  |none=>none
 | .buildSlice sz len zero parts=>match mN env (eD zero len) parts with
  |some cs=>some (.row cs,fun n=> .slice n 0 len len sz true)
  |none=>none
 | .makeMap=>some (.map [] 0,fun n=> .map n)
 | .makeSlice sz bytes zero len cap=>match len.ev env,cap.ev env with
  |some l,some c=>(match asNat c aZ with
   |some c=>(match asNat l c with
    |some l=>bif Nat.ble (c*bytes) aZ then some (.row (eD zero c),fun n=> .slice n 0 l c sz true)else none
    |none=>none)
   |none=>none)
  |_,_=>none
 | .l9 x=>match x.ev env with
  |some (.str b)=>bif Nat.ble b.length aZ then some (.uI (b.map gZ),fun n=> .slice n 0 b.length b.length 1 false)else none
  |_=>none
def yc(env:PT V)(s:St):xV→Option (V×St)
 | .store n a x=>match a.ev env,x.ev env with
  |some (.ptr b off),some v=>bif Nat.beq v.cells.length n then(match s.write b off v.cells with|some s' =>some (.aX [],s')|none=>none)else none
  |_,_=>none
 | .mapUpdate kk m k x=>match m.ev env,k.ev env,x.ev env with
  |some (.map m),some k,some v=>(match s.get m with
   |some (.map es clock)=>bif plainKey kk k then(match mO kk k es 0 with
    |some (some (i,_))=>some (.aX [],s.put m (.map (k9 i (fun e=>{e with key:=k,val:=v}) es) clock))
    |some none=>some (.aX [],s.put m (.map (es++[{key:=k,val:=v,born:=clock}]) (clock+1)))
    |none=>none)else none
   |_=>none)
  |_,_,_=>none
 | .delete kk m k=>match m.ev env,k.ev env with
  |some .bO,some k=>bif plainKey kk k then some (.aX [],s)else none
  |some (.map m),some k=>(match s.get m with
   |some (.map es clock)=>bif plainKey kk k then(match mO kk k es 0 with
    |some (some (i,_))=>some (.aX [],s.put m (.map (gP i es) clock))
    |some none=>some (.aX [],s)
    |none=>none)else none
   |_=>none)
  |_,_=>none
 | .append sz bytes str a x=>match a.ev env,x.ev env with
  |some a,some x=>oW s sz bytes str a x
  |_,_=>none
 | .copy sz str d x=>match d.ev env,x.ev env with
  |some d,some x=>copyV s sz str d x
  |_,_=>none
 | .clear _ _ _=>none
 | .range x=>match x.ev env with
  |some .bO=>some (.ptr s.next 0,s.alloc (.fZ none 0 [] 0))
  |some (.map m)=>(match s.get m with
   |some (.map _ clock)=>some (.ptr s.next 0,s.alloc (.fZ (some m) clock [] clock))
   |_=>none)
  |_=>none
section
variable{R:Type}[iB R]
def dQ(es:List ME)(since:Nat)(seen:List Nat):List (Option ME):=
 let left:=es.filter fun e=> !seen.contains e.born;let old:=left.filter fun e=>Nat.blt e.born since;let new:=left.filter fun e=>Nat.ble since e.born
 (bif old.isEmpty then[none]else[])++(old++new).map some
def pq(s:St)(b:Nat)(k:V→St→R):R:=
 match s.get b with
 |some (.fZ none _ _ _)=>k (.aX [.bool false]) s
 |some (.fZ (some m) since seen last)=>(match s.get m with
  |some (.map es clock)=>
   bif !seen.isEmpty&& !es.isEmpty&&es.all (fun e=>Nat.ble last e.born)then iB.fail else
   iB.all (dQ es since seen).length fun i=>match(dQ es since seen)[i]? with
    |some (some e)=>k (.aX [.bool true,e.key,e.val]) (s.put b (.fZ (some m) since (seen++[e.born]) clock))
    |some none=>k (.aX [.bool false]) s
    |none=>iB.fail
  |_=>iB.fail)
 |_=>iB.fail
def dF(M:Nat→String→Option Nat)(F:Nat→List V→St→(V→St→R)→R)(env:PT V)(s:St)(o:jF)(k:V→St→R):R:=
 match o with
 | .s o=>(match cK env s o with|some v=>k v s|none=>iB.fail)
 | .m o=>(match Az env o with|some (ob,f)=>k (f s.next) (s.alloc ob)|none=>iB.fail)
 | .h o=>(match yc env s o with|some (v,s')=>k v s' |none=>iB.fail)
 | .call f args=>(match f.ev env,I7 env args with
  |some (.func f first captured),some vs=>F f (first++vs++captured) s k
  |_,_=>iB.fail)
 | .invoke name x args=>(match x.ev env,I7 env args with
  |some (.iface t v),some vs=>(match M t name with
   |some f=>F f (v::vs) s k
   |none=>iB.fail)
  |_,_=>iB.fail)
 | .next x=>(match x.ev env with
  |some (.ptr b 0)=>pq s b k
  |_=>iB.fail)
 | .bad=>iB.fail
def bT(g:Option (Nat×Bool))(env:PT V):Option Bool:=
 match g with
 |none=>some true
 |some (t,want)=>match env.get t with
  |some (.bool b)=>some (b==want)
  |some _=>some false
  |none=>none
def fu(dst:Option Nat)(v:V)(env:PT V):PT V:=
 match dst with
 |some d=>env.set d v
 |none=>env
def eV(M:Nat→String→Option Nat)(F:Nat→List V→St→(V→St→R)→R):List aF→PT V→St→(PT V→St→R)→R
 |[],env,s,k=>k env s
 |o::r,env,s,k=>match bT o.guard env with
  |some true=>dF M F env s o.op fun v s' =>eV M F r (fu o.dst v env) s' k
  |some false=>eV M F r (fu o.dst (.aX []) env) s k
  |none=>iB.fail
def aF.small(o:aF):Bool:=match o.op with| .s _=>true| .m _=>true|_=>false
def within(a b:Nat):Bool:=Nat.beq (Nat.land a b) a
abbrev fC:=List (Nat×fR×PT V×V)
def jb:List (Nat×aF)→Nat→PT V→St→List (Nat×aF)→fC→Option (List (Nat×aF)×Nat×PT V×St×fC)
 |[],done,env,s,left,ah=>some (left.reverse,done,env,s,ah)
 |(i,o)::r,done,env,s,left,ah=>
  bif o.small&&within o.aQ done then
   (match bT o.guard env with
   |some true=>(match o.op with
    | .s op=>(match cK env s op with
     |some v=>jb r (Nat.lor done (2 ^ i)) (fu o.dst v env) s left ((i,op,env,v)::ah)
     |none=>none)
    | .m op=>(match Az env op with
     |some (ob,f)=>jb r (Nat.lor done (2 ^ i)) (fu o.dst (f s.next) env) (s.alloc ob) left ah
     |none=>none)
    |_=>none)
   |some false=>jb r (Nat.lor done (2 ^ i)) (fu o.dst (.aX []) env) s left ah
   |none=>none)
  else jb r done env s ((i,o)::left) ah
def eL:List (Nat×aF)→List (Nat×aF)→Option (Nat×aF×List (Nat×aF))
 |_,[]=>none
 |pre,(i,o)::r=>bif o.small then eL ((i,o)::pre) r else some (i,o,pre.reverse++r)
def recheck(s:St)(aQ:Nat):fC→R→R
 |[],r=>r
 |(i,op,env,v)::rest,r=>
  bif Nat.testBit aQ i then recheck s aQ rest r
  else match cK env s op with
   |some u=>iB.chk u v (recheck s aQ rest r)
   |none=>iB.fail
def dK(aQ:Nat)(l:fC):fC:=l.filter fun x=> !Nat.testBit aQ x.1
def eS(M:Nat→String→Option Nat)(F:Nat→List V→St→(V→St→R)→R):Nat→List (Nat×aF)→Nat→PT V→St→fC→(PT V→St→R)→R
 |0,_,_,_,_,_,_=>iB.fail
 |n+1,todo,done,env,s,ah,k=>
  match jb todo done env s [] ah with
  |none=>iB.fail
  |some (todo,done,env,s,ah)=>
   match eL [] todo with
   |none=>(match todo with|[]=>k env s|_=>iB.fail)
   |some (i,o,rest)=>
    bif within o.aQ done&&rest.all (fun x=>x.2.small||Nat.testBit x.2.aQ i)then
     (match bT o.guard env with
     |some true=>dF M F env s o.op fun v s' =>recheck s' o.aQ ah
       (eS M F n rest (Nat.lor done (2 ^ i)) (fu o.dst v env) s' (dK o.aQ ah) k)
     |some false=>eS M F n rest (Nat.lor done (2 ^ i)) (fu o.dst (.aX []) env) s ah k
     |none=>iB.fail)
    else iB.fail
def bt:List aF→Nat→List (Nat×aF)
 |[],_=>[]
 |o::r,i=>(i,o)::bt r (i+1)
def firsts(env:PT V):Nat→List V→Option (List V)
 |0,acc=>some acc
 |n+1,acc=>match env.get n with
  |some v=>firsts env n (v::acc)
  |none=>none
def cA:List V→Nat→PT V→PT V
 |[],_,env=>env
 |v::vs,i,env=>cA vs (i+1) (env.set i v)
def CM(env:PT V)(s:St):tX→Option V
 | .t n=>env.get n
 | .cell a n=>match env.get a with
  |some (.ptr b off)=>(match s.row b with|some cs=>dW n cs off|none=>none)
  |_=>none
def tH(env:PT V)(s:St):List tX→Option (List V)
 |[]=>some []
 |r::rs=>match CM env s r with
  |some v=>(match tH env s rs with|some vs=>some (v::vs)|none=>none)
  |none=>none
def cu(env:PT V)(s:St)(rs:List tX):Option V:=
 match tH env s rs with
 |some [v]=>some v
 |some vs=>some (.aX vs)
 |none=>none
def fV(C:Nat→Option b8)(M:Nat→String→Option Nat):Nat→aj→PT V→St→(Ex→PT V→St→R)→R
 |0,_,_,_,_=>iB.fail
 |n+1,c,env,s,k=>
  let F:Nat→List V→St→(V→St→R)→R:=fun f args s k=>match C f with
   |none=>iB.fail
   |some fn=>
    bif Nat.ble args.length fn.ntmps then
     fV C M n fn.body (cA args 0 .e) s fun e env s=>match e with
      | .exit _=>iB.fail
      |_=>(match cu env s fn.results with|some v=>k v s|none=>iB.fail)
    else iB.fail
  match c with
  | .skip=>k .normal env s
  | .region ops=>eV M F ops env s fun env s=>k .normal env s
  | .draw ops=>eS M F (ops.length+1) (bt ops 0) 0 env s [] fun env s=>k .normal env s
  | .seq a b=>fV C M n a env s fun e env s=>match e with
   | .normal=>fV C M n b env s k
   | .exit i=>k (.exit i) env s
   | .ret=>k .ret env s
  | .cond x a b=>(match x.ev env with
   |some (.bool true)=>fV C M n a env s k
   |some (.bool false)=>fV C M n b env s k
   |_=>iB.fail)
  | .block id b=>fV C M n b env s fun e env s=>match e with
   | .normal=>k .normal env s
   | .exit i=>bif Nat.beq i id then k .normal env s else k (.exit i) env s
   | .ret=>k .ret env s
  | .loop b=>fV C M n b env s fun e env s=>match e with
   | .normal=>fV C M n (.loop b) env s k
   | .exit i=>k (.exit i) env s
   | .ret=>k .ret env s
  | .exit i=>k (.exit i) env s
  | .ret=>k .ret env s
  | .bad=>iB.fail
  | .uD m p=>(match firsts env m []with
   |some vs=>(match p vs s with
    |some (v,s)=>k .ret (env.set 0 v) s
    |none=>iB.fail)
   |none=>iB.fail)
def Wu(C:Nat→Option b8)(M:Nat→String→Option Nat)(n f:Nat)(args:List V)(s:St)(k:V→St→R):R:=
 match C f with
 |none=>iB.fail
 |some fn=>
  bif Nat.ble args.length fn.ntmps then
   fV C M n fn.body (cA args 0 .e) s fun e env s=>match e with
    | .exit _=>iB.fail
    |_=>(match cu env s fn.results with|some v=>k v s|none=>iB.fail)
  else iB.fail
end
end Go.RE
namespace Go.RE
def qL:Value→Option V
 | .bool b=>some (.bool b)
 | .int k n=>some (.int k n)
 | .string s=>some (.str s.data.toList)
 | .pointer none=>some .bA
 | .slice none 0 0=>some .bu
 | .map none=>some .bO
 | .nilFunc=>some .dy
 | .nilIface=>some .cU
 |_=>none
def ofL(f:Value→Option V):List Value→Option (List V)
 |[]=>some []
 |x::xs=>match f x with
  |some v=>(match ofL f xs with|some vs=>some (v::vs)|none=>none)
  |none=>none
def ofValue:Value→Option V
 | .agg cs=>(match ofL qL cs.toList with|some l=>some (.agg l)|none=>none)
 | .iface t v=>(match qL v with|some x=>some (.iface t x)|none=>none)
 |v=>qL v
def cI:Operand→Option bH
 | .tmp t=>some (.t t)
 | .const v=>(match ofValue v with|some x=>some (.c x)|none=>none)
 | .func f=>some (.c (.func f [] []))
 | .global _=>none
def nj:List Operand→Option (List bH)
 |[]=>some []
 |x::xs=>match cI x with
  |some v=>(match nj xs with|some vs=>some (v::vs)|none=>none)
  |none=>none
def ni:Option Operand→Option (Option bH)
 |none=>some none
 |some x=>match cI x with
  |some v=>some (some v)
  |none=>none
section
variable(P:Program)
def zeroOf(t:TypeId):Option V:=match P.info? t with
 |some i=>(match i.zero with|some v=>ofValue v|none=>none)
 |none=>none
def gf(t:TypeId):Option Nat:=match P.info? t with
 |some i=>some i.size
 |none=>none
def wh(t:TypeId):Option Nat:=match P.info? t with
 |some i=>some i.bytes
 |none=>none
def spread(t:TypeId):Option (Option Nat):=match P.underlying t with
 |some (.struct _)=>(match gf P t with|some n=>some (some n)|none=>none)
 |some (.array _ _)=>(match gf P t with|some n=>some (some n)|none=>none)
 |some _=>some none
 |none=>none
def dP:Operand→Bool
 | .const _=>true
 |_=>false
def flatK:List Field→Option (List (Nat×gU))
 |[]=>some []
 |f::fs=>bif f.name== "_" then none else
  match P.underlying f.type,flatK fs with
  |some .bool,some r=>some ((f.offset,.bool)::r)
  |some (.int _),some r=>some ((f.offset,.int)::r)
  |some .string,some r=>some ((f.offset,.str)::r)
  |_,_=>none
def Ox(op:BinOp)(t:TypeId)(x y:Operand):gU:=
 match op with
 | .eql| .neq=>
  (match P.underlying t with
  |some .bool=> .bool
  |some (.int _)=> .int
  |some .string=> .str
  |some (.pointer _)=> .bA
  |some (.slice _)=> .bu
  |some (.map _ _)=> .bO
  |some (.func _ _ _)=> .dy
  |some (.interface _)=> .iface (!(dP x||dP y))
  |some (.struct fs)=>(match flatK P fs.toList with
   |some ks=>bif P.stoodInHeld t||P.eqGuardType P.depth t then .no else .flat ks
   |none=> .no)
  |_=> .no)
 |_=> .no
def places:List Field→Option (List (Nat×Nat))
 |[]=>some []
 |f::fs=>match gf P f.type,places fs with
  |some n,some r=>some ((f.offset,n)::r)
  |_,_=>none
def kR(place:Nat→Option (Nat×Nat)):List (Nat×Operand)→Option (List (Nat×Nat×bH))
 |[]=>some []
 |(i,x)::r=>match place i,cI x,kR place r with
  |some (o,n),some x,some r=>some ((o,n,x)::r)
  |_,_,_=>none
def kT(t:TypeId):Option gU:=match P.underlying t with
 |some .bool=>some .bool
 |some (.int _)=>some .int
 |some .string=>some .str
 |_=>none
def Hh(t:TypeId):Bool:=match P.underlying t with
 |some (.int .u8)=>true
 |_=>false
def nR(t:TypeId):Option TypeId:=match P.underlying t with
 |some (.slice e)=>some e
 |_=>none
def jI(b:Builtin)(argTypes:List TypeId)(args:List bH):jF:=
 match b,argTypes,args with
 | .len,t::_,x::_=>(match P.underlying t with
  |some .string=> .s (.len 0 x)
  |some (.slice _)=> .s (.len 1 x)
  |some (.map _ _)=> .s (.len 2 x)
  |_=> .bad)
 | .cap,t::_,x::_=>(match P.underlying t with
  |some (.slice _)=> .s (.cap x)
  |_=> .bad)
 | .max,_,xs=> .s (.max xs)
 | .min,_,xs=> .s (.min xs)
 | .append,[t,u],[a,x]=>(match nR P t,P.underlying u with
  |some e,some ud=>(match ud,gf P e,wh P e,zeroOf P e with
   | .slice _,some sz,some bs,some z=>bif Nat.beq z.cells.length sz then .h (.append sz bs false a x)else .bad
   | .string,some sz,some bs,some z=>bif Nat.beq z.cells.length sz then .h (.append sz bs true a x)else .bad
   |_,_,_,_=> .bad)
  |_,_=> .bad)
 | .copy,[t,u],[d,x]=>(match nR P t,P.underlying u with
  |some e,some ud=>(match ud,gf P e with
   | .slice _,some sz=> .h (.copy sz false d x)
   | .string,some sz=> .h (.copy sz true d x)
   |_,_=> .bad)
  |_,_=> .bad)
 | .delete,t::_,[m,k]=>(match P.underlying t with
  |some (.map kt _)=>(match kT P kt with|some kk=> .h (.delete kk m k)|none=> .bad)
  |_=> .bad)
 |_,_,_=> .bad
def cop(o:Op):jF:=
 match o with
 | .move x| .assign x=>(match cI x with|some x=> .s (.br x)|none=> .bad)
 | .pick c a b=>(match cI c,cI a,cI b with|some c,some a,some b=> .s (.pick c a b)|_,_,_=> .bad)
 | .alloc e=>(match zeroOf P e with|some z=> .m (.alloc z.cells)|none=> .bad)
 | .box _ x=>(match cI x with|some x=> .m (.box x)|none=> .bad)
 | .build t parts=>(match P.underlying t with
  |some (.struct fs)=>(match zeroOf P t,places P fs.toList with
   |some z,some ps=>(match kR (fun i=>ps[i]?) parts.toList with
    |some l=> .s (.build z.cells l)
    |none=> .bad)
   |_,_=> .bad)
  |some (.array _ e)=>(match zeroOf P t,gf P e with
   |some z,some sz=>(match kR (fun i=>some (i*sz,sz)) parts.toList with
    |some l=> .s (.build z.cells l)
    |none=> .bad)
   |_,_=> .bad)
  |_=> .bad)
 | .buildSlice t len parts=>(match nR P t with
  |some e=>(match gf P e,zeroOf P e with
   |some sz,some z=>bif Nat.ble (len*sz) 16777216&&Nat.beq z.cells.length sz&&Nat.ble 1 sz then
     (match kR (fun i=>some (i*sz,sz)) parts.toList with
     |some l=> .m (.buildSlice sz len z.cells l)
     |none=> .bad)
    else .bad
   |_,_=> .bad)
  |none=> .bad)
 | .load t a=>(match spread P t,cI a with|some n,some a=> .s (.load n a)|_,_=> .bad)
 | .store t a x=>(match gf P t,cI a,cI x with|some n,some a,some x=> .h (.store n a x)|_,_,_=> .bad)
 | .nilCheck x=>(match cI x with|some x=> .s (.nilCheck x)|none=> .bad)
 | .binOp op t x y _=>(match cI x,cI y with|some a,some b=> .s (.bin op (Ox P op t x y) a b)|_,_=> .bad)
 | .unOp op _ x=>(match cI x with|some x=> .s (.un op x)|none=> .bad)
 | .convert src dst x=>(match P.underlying src,P.underlying dst,cI x with
  |some _,some (.int k),some x=> .s (.ep k x)
  |some .string,some .string,some x=> .s (.tg x)
  |some (.slice e),some .string,some x=>bif Hh P e then .s (.toStr x)else .bad
  |some .string,some (.slice e),some x=>bif Hh P e then .m (.l9 x)else .bad
  |_,_,_=> .bad)
 | .makeInterface t x=>(match P.underlying t,cI x with
  |some (.interface _),_=> .bad
  |some _,some x=> .s (.nP t x)
  |_,_=> .bad)
 | .makeFunc (.func f) first captured=>(match nj first.toList,nj captured.toList with
  |some a,some b=> .s (.ji f a b)
  |_,_=> .bad)
 | .makeMap t r=>(match P.underlying t,r with
  |some (.map _ _),none=> .m .makeMap
  |some (.map _ _),some (.const (.int _ _))=> .m .makeMap
  |_,_=> .bad)
 | .makeSlice t l c=>(match nR P t with
  |some e=>(match gf P e,wh P e,zeroOf P e,cI l,cI c with
   |some sz,some bs,some z,some l,some c=>bif Nat.beq z.cells.length sz&&Nat.ble 1 sz then .m (.makeSlice sz bs z.cells l c)else .bad
   |_,_,_,_,_=> .bad)
  |none=> .bad)
 | .slice t x lo hi mx=>(match P.underlying t,cI x,ni lo,ni hi,ni mx with
  |some .string,some x,some lo,some hi,some none=> .s (.nA x lo hi)
  |some (.slice e),some x,some lo,some hi,some mx=>(match gf P e with
   |some sz=>bif mx.isSome&& !hi.isSome then .bad else .s (.slice sz x lo hi mx)
   |none=> .bad)
  |some (.array n e),some x,some lo,some hi,some none=>(match gf P e with
   |some sz=>bif Nat.ble n 16777216 then .s (.iV n sz x lo hi)else .bad
   |none=> .bad)
  |_,_,_,_,_=> .bad)
 | .fieldAddr t x f=>(match P.underlying t,cI x with
  |some (.struct fs),some x=>(match fs[f]? with
   |some f=>(match gf P f.type with
    |some (_+1)=> .s (.fieldAddr f.offset x)
    |_=> .bad)
   |none=> .bad)
  |_,_=> .bad)
 | .field t x f=>(match P.underlying t,cI x with
  |some (.struct fs),some x=>(match fs[f]? with
   |some f=>(match spread P f.type with
    |some n=> .s (.field f.offset n x)
    |none=> .bad)
   |none=> .bad)
  |_,_=> .bad)
 | .indexAddr t x i=>(match P.underlying t,cI x,cI i with
  |some (.slice e),some x,some i=>(match gf P e with|some sz=> .s (.indexAddr sz x i)|none=> .bad)
  |some (.array n e),some x,some i=>(match gf P e with|some sz=> .s (.mR n sz x i)|none=> .bad)
  |_,_,_=> .bad)
 | .index t x i=>(match P.underlying t,cI x,cI i with
  |some .string,some x,some i=> .s (.index x i)
  |some (.array n e),some x,some i=>(match gf P e,spread P e with
   |some 1,some none=> .s (.CB n x i)
   |_,_=> .bad)
  |_,_,_=> .bad)
 | .lookup t x i ok=>(match P.underlying t,cI x,cI i with
  |some (.map k e),some x,some i=>(match zeroOf P e,kT P k with
   |some z,some kk=> .s (.lookup kk z ok x i)
   |_,_=> .bad)
  |_,_,_=> .bad)
 | .mapUpdate t m k x| .insert t m k x=>(match P.underlying t,cI m,cI k,cI x with
  |some (.map kt _),some m,some k,some x=>(match kT P kt with|some kk=> .h (.mapUpdate kk m k x)|none=> .bad)
  |_,_,_,_=> .bad)
 | .extract x i=>(match cI x with|some x=> .s (.extract i x)|none=> .bad)
 | .typeAssert x _ t true=>(match P.underlying t,cI x,zeroOf P t with
  |some (.interface _),_,_=> .bad
  |some _,some x,some z=> .s (.mF t z x)
  |_,_,_=> .bad)
 | .range t x=>(match P.underlying t,cI x with
  |some (.map _ _),some x=> .h (.range x)
  |_,_=> .bad)
 | .entry x=>(match cI x with|some x=> .s (.entry x)|none=> .bad)
 | .next x false=>(match cI x with|some x=> .next x|none=> .bad)
 | .call c=>(match c.callee,nj c.args.toList with
  | .value f,some args=>(match cI f with|some f=> .call f args|none=> .bad)
  | .builtin b,some args=>jI P b c.argTypes.toList args
  | .invoke r m,some args=>(match cI r with|some r=> .invoke m r args|none=> .bad)
  |_,none=> .bad)
 |_=> .bad
def nT(acc:List Nat)(o:Oper):Nat:=
 o.after.toList.foldl (fun s e=>bif Region.binds .any e then Nat.lor (Nat.lor s (2 ^ e.on)) (acc.getD e.on 0)else s) 0
def guardOf(ops:List Oper)(o:Oper):Option (Option (Nat×Bool)):=
 match o.guard with
 |none=>some none
 |some (j,want)=>match ops[j]? with
  |some p=>(match p.dst with|some d=>some (some (d,want))|none=>none)
  |none=>none
def yE(n:Nat)(all:List Oper):List Oper→List Nat→Option (List aF)
 |[],_=>some []
 |o::r,acc=>
  match guardOf all o,yE n all r (acc++[nT acc o])with
  |some g,some l=>
   bif(match o.dst with|some d=>Nat.blt d n|none=>true)then some ({dst:=o.dst,op:=cop P o.op,guard:=g,aQ:=nT acc o}::l)else none
  |_,_=>none
def nC(o:Oper)(all:List Oper):List Nat:=
 (o.op.operands.toList.filterMap fun| .tmp t=>some t|_=>none)++
 (match o.guard with
  |some (g,_)=>((all[g]?).bind (·.dst)).toList
  |none=>[])
def Ar(all:List Oper)(cs:List aF):Bool:=
 (List.range all.length).all fun i=>
  (match all[i]?,cs[i]? with
  |some o,some _=>
   o.after.toList.all (fun e=> !Region.binds .any e||Nat.blt e.on i)&&
   (List.range all.length).all (fun j=>Nat.beq i j||
    (match all[j]?,cs[j]? with
    |some p,some d=>
     (match p.dst with
     |none=>true
     |some t=>
      (match o.dst with|some u=> !Nat.beq t u|none=>true)&&
      (!(nC o all).elem t||Nat.testBit ((cs.getD i default).aQ) j||Nat.testBit d.aQ i))
    |_,_=>true))
  |_,_=>false)
def hU(n:Nat):Code→aj
 | .skip=> .skip
 | .region _ ops draw=>(match yE P n ops.toList ops.toList []with
  |some l=>bif draw then(bif Ar ops.toList l then .draw l else .bad)else .region l
  |none=> .bad)
 | .seq a b=> .seq (hU n a) (hU n b)
 | .cond c a b=>(match cI c with|some c=> .cond c (hU n a) (hU n b)|none=> .bad)
 | .block id b=> .block id (hU n b)
 | .loop b=> .loop (hU n b)
 | .exit id=> .exit id
 | .ret=> .ret
 | .scope b=> .seq (hU n b) .skip
 | .label _=> .skip
 |_=> .bad
def qy:List ResultVar→Option (List tX)
 |[]=>some []
 | .tmp t::r=>(match qy r with|some l=>some (.t t::l)|none=>none)
 | .cell a t::r=>(match spread P t,qy r with|some n,some l=>some (.cell a n::l)|_,_=>none)
def qec(f:Nat):Option b8:=
 match P.funcs[f]? with
 |none=>none
 |some fn=>match fn.body with
  |none=>none
  |some b=>bif fn.name== "runtime.NumGoroutine" then none else
   match qy P fn.results.toList with
   |some rs=>some {ntmps:=fn.ntmps,results:=rs,body:=hU P fn.ntmps b}
   |none=>none
def methodOf(t:Nat)(name:String):Option Nat:=
 match P.info? t with
 |none=>none
 |some i=>match i.methods.find? (·.name==name)with
  |none=>none
  |some m=>bif m.path.isEmpty then(match m.func,P.underlying t with
   |some (f,true),some (.pointer _)=>some f
   |some (_,false),some (.pointer _)=>none
   |some (f,false),some _=>some f
   |_,_=>none)else none
end
end Go.RE
namespace Go.RE
abbrev Ren:=Nat→Option (Nat×Nat×Nat)
def Ren.le(ρ ρ' :Ren):Prop:=∀ n x,ρ n=some x→ρ' n=some x
inductive aC(w0:World)(ρ:Ren):V→Value→Prop
 |bool (b:Bool):aC w0 ρ (.bool b) (.bool b)
 |int (k:IntKind) (n:Int):aC w0 ρ (.int k n) (.int k n)
 |str {l:List UInt8} {s:ByteArray} (h:s.data.toList=l):aC w0 ρ (.str l) (.string s)
 |bA:aC w0 ρ .bA (.pointer none)
 |ptr {b off r o lim:Nat} (h:ρ b=some (r,o,lim)):aC w0 ρ (.ptr b off) (.pointer (some ⟨r,o+off,none⟩))
 |eu {row:List V} {off r o:Nat} (c:Nat→Value) (hr:row≠[]→r<w0.heap.size) (hc:∀ i,i<row.length→w0.cell? ⟨r,o+i,none⟩=some (c i))
   (hv:∀ i (h:i<row.length),aC w0 ρ row[i] (c i)):aC w0 ρ (.eu row off) (.pointer (some ⟨r,o+off,none⟩))
 |bu:aC w0 ρ .bu (.slice none 0 0)
 |bK {a:Addr}:aC w0 ρ .bK (.slice (some a) 0 0)
 |slice {b off len cap sz:Nat} {ex:Bool} {r o lim:Nat} {a:Addr} {cap' :Nat} (h:ρ b=some (r,o,lim)) (h1:cap≤cap') (h2:ex=true→cap' =cap)
   (h3:len≤cap) (h4:cap' =0∨(a=⟨r,o+off,none⟩∧o+off+cap'*sz≤lim)) (h5:cap'≤9223372036854775807):aC w0 ρ (.slice b off len cap sz ex) (.slice (some a) len cap')
 |ag {row:List V} {off len sz r o:Nat} {a:Addr} {cap' :Nat} (c:Nat→Value) (hr:row≠[]→r<w0.heap.size) (hc:∀ i,i<row.length→w0.cell? ⟨r,o+i,none⟩=some (c i))
   (hv:∀ i (h:i<row.length),aC w0 ρ row[i] (c i)) (h3:len≤cap') (h4:cap' =0∨a=⟨r,o+off,none⟩):aC w0 ρ (.ag row off len sz) (.slice (some a) len cap')
 |bO:aC w0 ρ .bO (.map none)
 |map {b r o lim:Nat} (h:ρ b=some (r,o,lim)):aC w0 ρ (.map b) (.map (some r))
 |dy:aC w0 ρ .dy .nilFunc
 |func {f:Nat} {a b:List V} {a' b' :Array Value} (ha:a.length=a'.size) (hb:b.length=b'.size)
   (va:∀ i (h:i<a.length) (h' :i<a'.size),aC w0 ρ a[i] a'[i]) (vb:∀ i (h:i<b.length) (h' :i<b'.size),aC w0 ρ b[i] b'[i]):aC w0 ρ (.func f a b) (.func (.func f) a' b')
 |cU:aC w0 ρ .cU .nilIface
 |iface {t:Nat} {v:V} {v' :Value} (h:aC w0 ρ v v'):aC w0 ρ (.iface t v) (.iface t v')
 |agg {a:List V} {a' :Array Value} (ha:a.length=a'.size) (va:∀ i (h:i<a.length) (h' :i<a'.size),aC w0 ρ a[i] a'[i]):aC w0 ρ (.agg a) (.agg a')
 |aX {a:List V} {a' :Array Value} (ha:a.length=a'.size) (va:∀ i (h:i<a.length) (h' :i<a'.size),aC w0 ρ a[i] a'[i]):aC w0 ρ (.aX a) (.tuple a')
theorem aC.mono{w0:World}{ρ ρ' :Ren}(hρ:ρ.le ρ'){v:V}{x:Value}(h:aC w0 ρ v x):aC w0 ρ' v x:=by
 induction h with
 |bool b=>exact .bool b
 |int k n=>exact .int k n
 |str h=>exact .str h
 |bA=>exact .bA
 |ptr h=>exact .ptr (hρ _ _ h)
 |eu c hr hc _ ih=>exact .eu c hr hc ih
 |bu=>exact .bu
 |bK=>exact .bK
 |slice h h1 h2 h3 h4 h5=>exact .slice (hρ _ _ h) h1 h2 h3 h4 h5
 |ag c hr hc _ h3 h4 ih=>exact .ag c hr hc ih h3 h4
 |bO=>exact .bO
 |map h=>exact .map (hρ _ _ h)
 |dy=>exact .dy
 |func ha hb _ _ iha ihb=>exact .func ha hb iha ihb
 |cU=>exact .cU
 |iface _ ih=>exact .iface ih
 |agg ha _ ih=>exact .agg ha ih
 |aX ha _ ih=>exact .aX ha ih
def aU(w0:World)(ρ:Ren)(a:List V)(b:List Value):Prop:=a.length=b.length∧∀ i (h:i<a.length) (h' :i<b.length),aC w0 ρ a[i] b[i]
theorem aU.nil{w0:World}{ρ:Ren}:aU w0 ρ [] []:=⟨rfl,fun i h=>by simp at h⟩
theorem aU.cons{w0:World}{ρ:Ren}{a:V}{b:Value}{as:List V}{bs:List Value}(h:aC w0 ρ a b)(hs:aU w0 ρ as bs):aU w0 ρ (a::as) (b::bs):=
 ⟨by simp[hs.1],fun i h1 h2=>by
  cases i with
  |zero=>simpa using h
  |succ i=>simpa using hs.2 i (by simpa using h1) (by simpa using h2)⟩
theorem aU.append{w0:World}{ρ:Ren}{a c:List V}{b d:List Value}(h:aU w0 ρ a b)(hs:aU w0 ρ c d):aU w0 ρ (a++c) (b++d):=
 ⟨by simp[h.1,hs.1],fun i h1 h2=>by
  have e:=h.1;by_cases hi:i<a.length
  ·rw[List.getElem_append_left hi,List.getElem_append_left (by omega)];exact h.2 i hi (by omega)
  ·simp only[lG]at h1 h2;rw[List.getElem_append_right (by omega),List.getElem_append_right (by omega)];have:=hs.2 (i - a.length) (by omega) (by omega);simpa[e]using this⟩
theorem aU.take{w0:World}{ρ:Ren}{a:List V}{b:List Value}(n:Nat)(h:aU w0 ρ a b):aU w0 ρ (a.take n) (b.take n):=
 ⟨by simp[h.1],fun i h1 h2=>by
  simp only[List.length_take]at h1 h2;simpa using h.2 i (by omega) (by omega)⟩
theorem aU.drop{w0:World}{ρ:Ren}{a:List V}{b:List Value}(n:Nat)(h:aU w0 ρ a b):aU w0 ρ (a.drop n) (b.drop n):=
 ⟨by simp[h.1],fun i h1 h2=>by
  simp only[List.length_drop]at h1 h2;simpa using h.2 (n+i) (by omega) (by omega)⟩
theorem aU.of_array{w0:World}{ρ:Ren}{a:List V}{b:Array Value}(h:a.length=b.size)(hv:∀ i (h:i<a.length) (h' :i<b.size),aC w0 ρ a[i] b[i]):aU w0 ρ a b.toList:=
 ⟨by simpa using h,fun i h1 h2=>by simpa using hv i h1 (by simpa using h2)⟩
theorem aU.get{w0:World}{ρ:Ren}{a:List V}{b:List Value}(h:aU w0 ρ a b){i:Nat}{v:V}(hv:a[i]? =some v):∃ x,b[i]? =some x∧aC w0 ρ v x:=by
 obtain⟨hi,rfl⟩:=bn.1 hv;exact⟨b[i]'(h.1▸hi),bL _,h.2 i hi (h.1▸hi)⟩
theorem aU.dV{w0:World}{ρ:Ren}{b:List Value}(h:aU w0 ρ [] b):b=[]:=by
 have:=h.1;simp at this;exact jq this.symm
theorem aU.bx{w0:World}{ρ:Ren}{a:V}{as:List V}{b:List Value}(h:aU w0 ρ (a::as) b):∃ x xs,b=x::xs∧aC w0 ρ a x∧aU w0 ρ as xs:=by
 cases b with
 |nil=>have:=h.1;simp at this
 |cons x xs=>
  refine⟨x,xs,rfl,?_,?_,fun i h1 h2=> ?_⟩
  ·exact h.2 0 (by simp) (by simp)
  ·have:=h.1;simpa using this
  ·exact h.2 (i+1) (by simpa using h1) (by simpa using h2)
theorem aC.Aa{w0:World}{ρ:Ren}{a:List V}{b:List Value}(h:aU w0 ρ a b):aC w0 ρ (.agg a) (.agg b.toArray):=
 .agg (by simpa using h.1) fun i h1 h2=>by simpa using h.2 i h1 (by simpa using h2)
theorem aC.kM{w0:World}{ρ:Ren}{a:List V}{b:List Value}(h:aU w0 ρ a b):aC w0 ρ (.aX a) (.tuple b.toArray):=
 .aX (by simpa using h.1) fun i h1 h2=>by simpa using h.2 i h1 (by simpa using h2)
theorem aC.cells{w0:World}{ρ:Ren}{v:V}{x:Value}(h:aC w0 ρ v x):aU w0 ρ v.cells x.cells.toList:=by
 cases h with
 |agg ha va=>exact aU.of_array ha va
 |bool b=>exact aU.cons (.bool b) .nil
 |int k n=>exact aU.cons (.int k n) .nil
 |str h=>exact aU.cons (.str h) .nil
 |bA=>exact aU.cons .bA .nil
 |ptr h=>exact aU.cons (.ptr h) .nil
 |eu c hr hc hv=>exact aU.cons (.eu c hr hc hv) .nil
 |bu=>exact aU.cons .bu .nil
 |bK=>exact aU.cons .bK .nil
 |slice h h1 h2 h3 h4 h5=>exact aU.cons (.slice h h1 h2 h3 h4 h5) .nil
 |ag c hr hc hv h3 h4=>exact aU.cons (.ag c hr hc hv h3 h4) .nil
 |bO=>exact aU.cons .bO .nil
 |map h=>exact aU.cons (.map h) .nil
 |dy=>exact aU.cons .dy .nil
 |func ha hb va vb=>exact aU.cons (.func ha hb va vb) .nil
 |cU=>exact aU.cons .cU .nil
 |iface h=>exact aU.cons (.iface h) .nil
 |aX ha va=>exact aU.cons (.aX ha va) .nil
theorem aC.one{w0:World}{ρ:Ren}{v:V}{x:Value}(h:aC w0 ρ v x)(h1:v.one=true):(∀ c,x≠.agg c)∧(∀ c,x≠.tuple c):=by
 cases h<;>simp[V.one]at h1⊢
def iQ(w0:World)(ρ:Ren)(o lim:Nat):Option Ob→Option Obj→Prop
 |some (.row cs),x=>∃ c t fr,x=some (.cells c t fr)∧c.size=lim∧o+cs.length≤lim∧(∀ j,j≤lim→¬(fr.1≤j∧j<fr.2))∧
   ∀ i (h:i<cs.length),∃ v,c[o+i]? =some v∧aC w0 ρ cs[i] v
 |some (.uI cs),x=>∃ c t fr,x=some (.cells c t fr)∧c.size=lim∧o+cs.length≤lim∧(∀ j,j<lim→¬(fr.1≤j∧j<fr.2))∧
   ∀ i (h:i<cs.length),∃ v,c[o+i]? =some v∧aC w0 ρ cs[i] v
 |some (.map es clock),x=>∃ es',x=some (.map es' clock)∧es.length=es'.size∧
   ∀ i (h:i<es.length) (h' :i<es'.size),aC w0 ρ es[i].key es'[i].key∧aC w0 ρ es[i].val es'[i].val∧es[i].born=es'[i].born
 |some (.fZ m since seen stepped),x=>∃ m',x=some (.mapIter m' since seen.toArray stepped)∧
   (match m with|none=>m' =none|some n=>∃ r o lim,ρ n=some (r,o,lim)∧m' =some r)∧o=0
 |some .dead,_=>True
 |none,_=>True
def live:Option Ob→Prop
 |some .dead=>False
 |none=>False
 |_=>True
theorem iQ.mono{w0:World}{ρ ρ' :Ren}(hρ:ρ.le ρ'){o lim:Nat}{ob:Option Ob}{x:Option Obj}(h:iQ w0 ρ o lim ob x):iQ w0 ρ' o lim ob x:=by
 cases ob with
 |none=>trivial
 |some ob=>
  cases ob with
  |dead=>trivial
  |row cs=>
   obtain⟨c,t,fr,e1,e2,e3,e4,e5⟩:=h;exact⟨c,t,fr,e1,e2,e3,e4,fun i hi=>let⟨v,a,b⟩:=e5 i hi;⟨v,a,b.mono hρ⟩⟩
  |uI cs=>
   obtain⟨c,t,fr,e1,e2,e3,e4,e5⟩:=h;exact⟨c,t,fr,e1,e2,e3,e4,fun i hi=>let⟨v,a,b⟩:=e5 i hi;⟨v,a,b.mono hρ⟩⟩
  |map es clock=>
   obtain⟨es',e1,e2,e3⟩:=h;exact⟨es',e1,e2,fun i h1 h2=>⟨(e3 i h1 h2).1.mono hρ,(e3 i h1 h2).2.1.mono hρ,(e3 i h1 h2).2.2⟩⟩
  |fZ m since seen stepped=>
   obtain⟨m',e1,e2,e3⟩:=h;refine⟨m',e1,?_,e3⟩;cases m with
   |none=>exact e2
   |some n=>obtain⟨r,o,lim,a,b⟩:=e2;exact⟨r,o,lim,hρ _ _ a,b⟩
structure Rel(w0:World)(ρ:Ren)(s:St)(w:World):Prop where
 old:∀ r,r<w0.heap.size→w.heap[r]? =w0.heap[r]?
 size:w0.heap.size≤w.heap.size
 os:w.os=w0.os
 output:w.output=w0.output
 dom:∀ n r o lim,ρ n=some (r,o,lim)→n<s.next∧w0.heap.size≤r∧r<w.heap.size
 fresh:∀ n,s.next≤n→s.get n=none
 ob:∀ n r o lim,ρ n=some (r,o,lim)→iQ w0 ρ o lim (s.get n) w.heap[r]?
 inj:∀ n m r o lim o' lim',ρ n=some (r,o,lim)→ρ m=some (r,o',lim')→live (s.get n)→live (s.get m)→n=m
theorem iG{st:St}{b:Nat}{r:List V}(h:st.get b=some (.row r)):st.row b=some r:=by unfold St.row;rw[h]
theorem wN{st st' :St}{b:Nat}(h:st'.get b=st.get b):st'.row b=st.row b:=by unfold St.row;rw[h]
theorem Qp{st:St}{b:Nat}{r:List V}(h:st.row b=some r):∃ o,st.get b=some o:=by
 unfold St.row at h;cases hg:st.get b with
 |none=>rw[hg]at h;cases h
 |some o=>exact⟨o,rfl⟩
theorem rD{s:St}{b:Nat}{cs:List V}(h:s.vW b=some cs):s.get b=some (.row cs):=by
 unfold St.vW at h;split at h
 ·rename_i hg;simp at h;subst h;exact hg
 ·simp at h
theorem qC{s:St}{b:Nat}{cs:List V}(h:s.get b=some (.row cs)):s.vW b=some cs:=by
 unfold St.vW;rw[h]
theorem Rel.OF{w0:World}{ρ:Ren}{s:St}{w:World}(h:Rel w0 ρ s w){b r o lim:Nat}{cs:List V}(e:ρ b=some (r,o,lim))(hs:s.row b=some cs):
  ∃ c t fr,w.heap[r]? =some (.cells c t fr)∧c.size=lim∧o+cs.length≤lim∧(∀ j,j<lim→¬(fr.1≤j∧j<fr.2))∧∀ i (h:i<cs.length),∃ v,c[o+i]? =some v∧aC w0 ρ cs[i] v:=by
 have ho:=h.ob b r o lim e;unfold St.row at hs;split at hs
 ·rename_i cs' hg;simp only[ai]at hs;subst hs;rw[hg]at ho;obtain⟨c,t,fr,h1,h2,h3,h4,h5⟩:=ho;exact⟨c,t,fr,h1,h2,h3,fun j hj=>h4 j (Nat.le_of_lt hj),h5⟩
 ·rename_i cs' hg;simp only[ai]at hs;subst hs;rw[hg]at ho;exact ho
 ·cases hs
structure jQ(ρ:Ren)(s:St)(w:World)(ρ' :Ren)(s' :St)(w' :World):Prop where
 next:s.next≤s'.next
 X8:ρ.le ρ'
 new:∀ n x,ρ n=none→ρ' n=some x→s.next≤n
 Cv:w.heap.size≤w'.heap.size
 sk:∀ n,n<s.next→ρ n=none→s'.get n=s.get n
 wk:∀ r,r<w.heap.size→(∀ n x,ρ n=some x→x.1≠r)→w'.heap[r]? =w.heap[r]?∧∀ n x,ρ' n=some x→x.1≠r
theorem Ren.le_refl(ρ:Ren):ρ.le ρ:=fun _ _ h=>h
theorem Ren.le_trans{a b c:Ren}(h:a.le b)(h' :b.le c):a.le c:=fun n x e=>h' n x (h n x e)
theorem jQ.refl(ρ:Ren)(s:St)(w:World):jQ ρ s w ρ s w:=
 ⟨aq _,Ren.le_refl ρ,fun n x h h' =>by rw[h]at h';simp at h',aq _,fun _ _ _=>rfl,fun _ _ h=>⟨rfl,h⟩⟩
theorem jQ.trans{ρ ρ' ρ'' :Ren}{s s' s'' :St}{w w' w'' :World}(h:jQ ρ s w ρ' s' w')(h' :jQ ρ' s' w' ρ'' s'' w''):jQ ρ s w ρ'' s'' w'' where
 next:=Nat.le_trans h.next h'.next
 X8:=Ren.le_trans h.X8 h'.X8
 new n x e e' :=by
  cases hm:ρ' n with
  |none=>exact Nat.le_trans h.next (h'.new n x hm e')
  |some y=>exact h.new n y e hm
 Cv:=Nat.le_trans h.Cv h'.Cv
 sk n hn e:=by
  have hm:ρ' n=none:=by
   cases hm:ρ' n with
   |none=>rfl
   |some y=>have:=h.new n y e hm;omega
  rw[h'.sk n (mg hn h.next) hm,h.sk n hn e]
 wk r hr e:=by
  obtain⟨a,b⟩:=h.wk r hr e;obtain⟨c,d⟩:=h'.wk r (mg hr h.Cv) b;exact⟨c.trans a,d⟩
theorem Rel.same{w0:World}{ρ:Ren}{s:St}{w w' :World}(h:Rel w0 ρ s w)(hh:w'.heap=w.heap)(ho:w'.os=w.os)(hp:w'.output=w.output):Rel w0 ρ s w' where
 old r hr:=by rw[hh];exact h.old r hr
 size:=by rw[hh];exact h.size
 os:=ho.trans h.os
 output:=hp.trans h.output
 dom n r o lim e:=by rw[hh];exact h.dom n r o lim e
 fresh:=h.fresh
 ob n r o lim e:=by rw[hh];exact h.ob n r o lim e
 inj:=h.inj
theorem jQ.same{ρ:Ren}{s:St}{w w' :World}(hh:w'.heap=w.heap):jQ ρ s w ρ s w' :=
 ⟨aq _,Ren.le_refl ρ,fun n x h h' =>by rw[h]at h';simp at h',by rw[hh];exact aq _,fun _ _ _=>rfl,fun _ _ h=>⟨by rw[hh],h⟩⟩
theorem St.dU(s:St)(n:Nat)(o:Ob)(m:Nat):(s.put n o).get m=if m=n then some o else s.get m:=PT.iC _ _ _ _
theorem St.dJ(s:St)(o:Ob)(m:Nat):(s.alloc o).get m=if m=s.next then some o else s.get m:=PT.iC _ _ _ _
def Ren.add(ρ:Ren)(n:Nat)(x:Nat×Nat×Nat):Ren:=fun m=>if m=n then some x else ρ m
theorem Ren.AP{ρ:Ren}{n:Nat}(x:Nat×Nat×Nat)(h:ρ n=none):ρ.le (ρ.add n x):=fun m y e=>by
 unfold Ren.add;by_cases hm:m=n
 ·subst hm;rw[h]at e;simp at e
 ·rw[if_neg hm];exact e
theorem Ren.add_same(ρ:Ren)(n:Nat)(x:Nat×Nat×Nat):(ρ.add n x) n=some x:=by simp[Ren.add]
theorem Rel.realize{w0:World}{ρ:Ren}{s:St}{w:World}(h:Rel w0 ρ s w){n:Nat}{ob:Ob}{obj:Obj}{lim:Nat}(hn:n<s.next)(hρ:ρ n=none)(hs:s.get n=some ob)
  (ho:iQ w0 ρ 0 lim (some ob) (some obj)):Rel w0 (ρ.add n (w.heap.size,0,lim)) s (w.alloc obj):=by
 have hle:=Ren.AP (ρ:=ρ) (n:=n) (w.heap.size,0,lim) hρ;have hold:∀ r,r<w.heap.size→(w.alloc obj).heap[r]? =w.heap[r]? :=fun r hr=>by
  show(w.heap.push obj)[r]? =_;rw[Array.getElem?_push,if_neg (Nat.ne_of_lt hr)]
 have hnew:(w.alloc obj).heap[w.heap.size]? =some obj:=by
  show(w.heap.push obj)[w.heap.size]? =_;simp
 refine⟨fun r hr=> ?_,?_,h.os,h.output,fun m r o l e=> ?_,h.fresh,fun m r o l e=> ?_,fun m k r o l o' l' e e' lm lk=> ?_⟩
 ·rw[hold r (mg hr h.size)];exact h.old r hr
 ·have:=h.size;simp;omega
 ·unfold Ren.add at e;by_cases hm:m=n
  ·rw[if_pos hm]at e;simp at e;obtain⟨rfl,rfl,rfl⟩:=e;refine⟨by omega,h.size,by simp⟩
  ·rw[if_neg hm]at e;have:=h.dom m r o l e;simp;omega
 ·unfold Ren.add at e;by_cases hm:m=n
  ·rw[if_pos hm]at e;simp at e;obtain⟨rfl,rfl,rfl⟩:=e;subst hm;rw[hs,hnew];exact ho.mono hle
  ·rw[if_neg hm]at e;rw[hold r (h.dom m r o l e).2.2];exact(h.ob m r o l e).mono hle
 ·unfold Ren.add at e e';by_cases hm:m=n
  ·by_cases hk:k=n
   ·omega
   ·rw[if_pos hm]at e;rw[if_neg hk]at e';simp at e;have:=(h.dom k r o' l' e').2.2;omega
  ·by_cases hk:k=n
   ·rw[if_pos hk]at e';rw[if_neg hm]at e;simp at e';have:=(h.dom m r o l e).2.2;omega
   ·rw[if_neg hm]at e;rw[if_neg hk]at e';exact h.inj m k r o l o' l' e e' lm lk
theorem IA{ρ:Ren}{w:World}{n:Nat}{obj:Obj}{lim:Nat}:
  (∀ r,r<w.heap.size→(∀ n x,ρ n=some x→x.1≠r)→(w.alloc obj).heap[r]? =w.heap[r]?∧∀ m x,(ρ.add n (w.heap.size,0,lim)) m=some x→x.1≠r):=by
 intro r hr e;refine⟨?_,fun m x hm=> ?_⟩
 ·show(w.heap.push obj)[r]? =_;rw[Array.getElem?_push,if_neg (Nat.ne_of_lt hr)]
 ·unfold Ren.add at hm;by_cases h:m=n
  ·rw[if_pos h]at hm;simp at hm;subst hm;simp;omega
  ·rw[if_neg h]at hm;exact e m x hm
theorem Rel.nK{w0:World}{ρ:Ren}{s:St}{w:World}(h:Rel w0 ρ s w)(ob:Ob):Rel w0 ρ (s.alloc ob) w where
 old:=h.old
 size:=h.size
 os:=h.os
 output:=h.output
 dom n r o lim e:=by have:=h.dom n r o lim e;exact⟨Nat.lt_succ_of_lt this.1,this.2⟩
 fresh n hn:=by
  have hn' :s.next+1≤n:=hn
  rw[St.dJ,if_neg (by omega)];exact h.fresh n (by omega)
 ob n r o lim e:=by
  have:=h.dom n r o lim e;rw[St.dJ,if_neg (by omega)];exact h.ob n r o lim e
 inj n m r o lim o' lim' e e' ln lm:=by
  have h1:=h.dom n r o lim e;have h2:=h.dom m r o' lim' e';rw[St.dJ,if_neg (by omega)]at ln lm;exact h.inj n m r o lim o' lim' e e' ln lm
theorem Rel.unnamed{w0:World}{ρ:Ren}{s:St}{w:World}(h:Rel w0 ρ s w){n:Nat}(hn:s.next≤n):ρ n=none:=by
 cases e:ρ n with
 |none=>rfl
 |some x=>obtain⟨r,o,lim⟩:=x;have:=(h.dom n r o lim e).1;omega
theorem Rel.alloc{w0:World}{ρ:Ren}{s:St}{w:World}(h:Rel w0 ρ s w){ob:Ob}{obj:Obj}{lim:Nat}(ho:iQ w0 ρ 0 lim (some ob) (some obj)):
  Rel w0 (ρ.add s.next (w.heap.size,0,lim)) (s.alloc ob) (w.alloc obj)∧jQ ρ s w (ρ.add s.next (w.heap.size,0,lim)) (s.alloc ob) (w.alloc obj):=by
 have hρ:=h.unnamed (aq s.next);refine⟨(h.nK ob).realize (Nat.lt_succ_self _) hρ (by rw[St.dJ,if_pos rfl]) ho,Nat.le_succ _,Ren.AP _ hρ,fun n x e e' => ?_,by simp,fun n hn e=> ?_,IA⟩
 ·unfold Ren.add at e';by_cases hm:n=s.next
  ·omega
  ·rw[if_neg hm]at e';rw[e]at e';simp at e'
 ·rw[St.dJ,if_neg (by omega)]
theorem Rel.put{w0:World}{ρ:Ren}{s:St}{w:World}(h:Rel w0 ρ s w){n r o lim:Nat}(e:ρ n=some (r,o,lim))(hl:live (s.get n)){ob:Ob}{obj:Obj}
  (ho:iQ w0 ρ o lim (some ob) (some obj)):Rel w0 ρ (s.put n ob) {w with heap:=w.heap.setIfInBounds r obj}∧jQ ρ s w ρ (s.put n ob) {w with heap:=w.heap.setIfInBounds r obj}:=by
 have hd:=h.dom n r o lim e;refine⟨⟨fun k hk=> ?_,?_,h.os,h.output,fun m r' o' l' e' => ?_,fun m hm=> ?_,fun m r' o' l' e' => ?_,fun m k r' o' l' o'' l'' e' e'' lm lk=> ?_⟩,aq _,Ren.le_refl _,fun m x a b=>by rw[a]at b;simp at b,by simp,fun m hm e' => ?_,fun k hk hx=>⟨?_,hx⟩⟩
 ·show(w.heap.setIfInBounds r obj)[k]? =_;rw[Array.getElem?_setIfInBounds_ne (by omega)];exact h.old k hk
 ·simpa using h.size
 ·have:=h.dom m r' o' l' e';simpa[St.put]using this
 ·have hm' :s.next≤m:=hm
  rw[St.dU,if_neg (by omega)];exact h.fresh m hm'
 ·show iQ w0 ρ o' l' _ (w.heap.setIfInBounds r obj)[r']?;rw[St.dU];by_cases hm:m=n
  ·subst hm;rw[e]at e';simp at e';obtain⟨rfl,rfl,rfl⟩:=e';rw[if_pos rfl,Array.getElem?_setIfInBounds_self_of_lt hd.2.2];exact ho
  ·rw[if_neg hm];by_cases hr:r' =r
   ·subst hr;by_cases lm:live (s.get m)
    ·exact absurd (h.inj m n r' o' l' o lim e' e lm hl) hm
    ·cases hob:s.get m with
     |none=>trivial
     |some x=>cases x<;>first|trivial|(rw[hob]at lm;exact absurd trivial lm)
   ·rw[Array.getElem?_setIfInBounds_ne (fun x=>hr x.symm)];exact h.ob m r' o' l' e'
 ·have key:∀ x,live ((s.put n ob).get x)→x≠n→live (s.get x):=fun x hx hne=>by rw[St.dU,if_neg hne]at hx;exact hx
  by_cases hm:m=n
  ·by_cases hk:k=n
   ·omega
   ·subst hm;exact h.inj m k r' o' l' o'' l'' e' e'' hl (key k lk hk)
  ·by_cases hk:k=n
   ·subst hk;exact h.inj m k r' o' l' o'' l'' e' e'' (key m lm hm) hl
   ·exact h.inj m k r' o' l' o'' l'' e' e'' (key m lm hm) (key k lk hk)
 ·rw[St.dU,if_neg (fun x=>by subst x;rw[e]at e';simp at e')]
 ·show(w.heap.setIfInBounds r obj)[k]? =_;rw[Array.getElem?_setIfInBounds_ne (fun x=>hx n (r,o,lim) e x)]
theorem Rel.kill{w0:World}{ρ:Ren}{s:St}{w:World}(h:Rel w0 ρ s w){n r o lim:Nat}(e:ρ n=some (r,o,lim)):
  Rel w0 ρ (s.put n .dead) w∧jQ ρ s w ρ (s.put n .dead) w:=by
 have hd:=h.dom n r o lim e;have key:∀ x,live ((s.put n .dead).get x)→live (s.get x):=fun x hx=>by
  rw[St.dU]at hx;by_cases hne:x=n
  ·rw[if_pos hne]at hx;exact hx.elim
  ·rw[if_neg hne]at hx;exact hx
 refine⟨⟨h.old,h.size,h.os,h.output,h.dom,fun m hm=> ?_,fun m r' o' l' e' => ?_,fun m k r' o' l' o'' l'' e' e'' lm lk=>h.inj m k r' o' l' o'' l'' e' e'' (key m lm) (key k lk)⟩,aq _,Ren.le_refl _,fun m x a b=>by rw[a]at b;simp at b,aq _,fun m hm e' => ?_,fun k hk hx=>⟨rfl,hx⟩⟩
 ·have hm' :s.next≤m:=hm
  rw[St.dU,if_neg (by omega)];exact h.fresh m hm'
 ·rw[St.dU];by_cases hm:m=n
  ·rw[if_pos hm];trivial
  ·rw[if_neg hm];exact h.ob m r' o' l' e'
 ·rw[St.dU,if_neg (fun x=>by subst x;rw[e]at e';simp at e')]
theorem Rel.grow{w0:World}{ρ:Ren}{s:St}{w:World}(h:Rel w0 ρ s w){n r o lim:Nat}(e:ρ n=some (r,o,lim))(hl:live (s.get n)){ob:Ob}{obj:Obj}{o' :Nat}
  (ho:iQ w0 ρ o' lim (some ob) (some obj)):
  Rel w0 (ρ.add s.next (r,o',lim)) ((s.put n .dead).alloc ob) {w with heap:=w.heap.setIfInBounds r obj}∧
  jQ ρ s w (ρ.add s.next (r,o',lim)) ((s.put n .dead).alloc ob) {w with heap:=w.heap.setIfInBounds r obj}:=by
 have hd:=h.dom n r o lim e;have hρ:=h.unnamed (aq s.next);have hle:=Ren.AP (ρ:=ρ) (n:=s.next) (r,o',lim) hρ;have hget:∀ m,((s.put n .dead).alloc ob).get m=if m=s.next then some ob else if m=n then some .dead else s.get m:=fun m=>by
  rw[St.dJ,St.dU];rfl
 have hlv:∀ x,x≠s.next→live (((s.put n .dead).alloc ob).get x)→x≠n∧live (s.get x):=fun x hne hx=>by
  rw[hget,if_neg hne]at hx;by_cases hn:x=n
  ·rw[if_pos hn]at hx;exact hx.elim
  ·rw[if_neg hn]at hx;exact⟨hn,hx⟩
 have hsplit:∀ m x,(ρ.add s.next (r,o',lim)) m=some x→(m=s.next∧x=(r,o',lim))∨(m≠s.next∧ρ m=some x):=fun m x hx=>by
  unfold Ren.add at hx;by_cases hm:m=s.next
  ·rw[if_pos hm]at hx;simp at hx;exact .inl ⟨hm,hx.symm⟩
  ·rw[if_neg hm]at hx;exact .inr ⟨hm,hx⟩
 refine⟨⟨fun k hk=> ?_,?_,h.os,h.output,fun m r' o'' l' e' => ?_,fun m hm=> ?_,fun m r' o'' l' e' => ?_,fun m k r' p l' p' l'' e' e'' lm lk=> ?_⟩,Nat.le_succ _,hle,fun m x a b=> ?_,by simp,fun m hm e' => ?_,fun k hk hx=>⟨?_,fun m x hm=> ?_⟩⟩
 ·show(w.heap.setIfInBounds r obj)[k]? =_;rw[Array.getElem?_setIfInBounds_ne (by omega)];exact h.old k hk
 ·simpa using h.size
 ·show m<s.next+1∧_
  rcases hsplit m _ e' with⟨h1,h2⟩|⟨h1,h2⟩
  ·simp at h2;obtain⟨rfl,rfl,rfl⟩:=h2;simp;omega
  ·have:=h.dom m r' o'' l' h2;simp;omega
 ·have hm' :s.next+1≤m:=hm
  rw[hget,if_neg (by omega),if_neg (by omega)];exact h.fresh m (by omega)
 ·show iQ w0 _ o'' l' _ (w.heap.setIfInBounds r obj)[r']?;rcases hsplit m _ e' with⟨h1,h2⟩|⟨h1,h2⟩
  ·simp at h2;obtain⟨rfl,rfl,rfl⟩:=h2;rw[hget,if_pos h1,Array.getElem?_setIfInBounds_self_of_lt hd.2.2];exact ho.mono hle
  ·rw[hget,if_neg h1];by_cases hm:m=n
   ·rw[if_pos hm];trivial
   ·rw[if_neg hm];by_cases hr:r' =r
    ·subst hr;by_cases lm:live (s.get m)
     ·exact absurd (h.inj m n r' o'' l' o lim h2 e lm hl) hm
     ·cases hob:s.get m with
      |none=>trivial
      |some x=>cases x<;>first|trivial|(rw[hob]at lm;exact absurd trivial lm)
    ·rw[Array.getElem?_setIfInBounds_ne (fun x=>hr x.symm)];exact(h.ob m r' o'' l' h2).mono hle
 ·rcases hsplit m _ e' with⟨h1,h2⟩|⟨h1,h2⟩
  ·rcases hsplit k _ e'' with⟨h3,h4⟩|⟨h3,h4⟩
   ·omega
   ·simp at h2;obtain⟨rfl,rfl,rfl⟩:=h2;obtain⟨a,b⟩:=hlv k h3 lk;exact absurd (h.inj k n r' p' l'' o _ h4 e b hl) a
  ·rcases hsplit k _ e'' with⟨h3,h4⟩|⟨h3,h4⟩
   ·simp at h4;obtain⟨rfl,rfl,rfl⟩:=h4;obtain⟨a,b⟩:=hlv m h1 lm;exact absurd (h.inj m n r' p l' o _ h2 e b hl) a
   ·exact h.inj m k r' p l' p' l'' h2 h4 (hlv m h1 lm).2 (hlv k h3 lk).2
 ·rcases hsplit m _ b with⟨h1,h2⟩|⟨h1,h2⟩
  ·omega
  ·rw[a]at h2;simp at h2
 ·rw[hget,if_neg (by omega),if_neg (fun x=>by subst x;rw[e]at e';simp at e')]
 ·show(w.heap.setIfInBounds r obj)[k]? =_;rw[Array.getElem?_setIfInBounds_ne (fun x=>hx n (r,o,lim) e x)]
 ·rcases hsplit m _ hm with⟨h1,h2⟩|⟨h1,h2⟩
  ·subst h2;exact hx n (r,o,lim) e
  ·exact hx m x h2
end Go.RE
namespace Go.RE
def Nh:TypeDesc→Bool
 | .struct _=>true
 | .array _ _=>true
 |_=>false
theorem gY(r o n:Nat):(⟨r,o,none⟩:Addr).add n=⟨r,o+n,none⟩:=by
 unfold Addr.add;split<;>simp_all
section
variable{P:Program}{w0:World}{ρ:Ren}{s:St}{w:World}{env:PT V}{e:Operand→Value}
def js(w0:World)(ρ:Ren)(env:PT V)(e:Operand→Value)(x:Operand):Prop:=∀ o v,cI x=some o→o.ev env=some v→aC w0 ρ v (e x)
theorem pK{x:Value}{v:V}(h:qL x=some v):aC w0 ρ v x:=by
 unfold qL at h;split at h<;>simp at h<;>subst h
 ·exact .bool _
 ·exact .int _ _
 ·exact .str rfl
 ·exact .bA
 ·exact .bu
 ·exact .bO
 ·exact .dy
 ·exact .cU
theorem WZ{f:Value→Option V}(hf:∀ x v,f x=some v→aC w0 ρ v x):∀ {l:List Value} {vs:List V},ofL f l=some vs→aU w0 ρ vs l:=by
 intro l
 induction l with
 |nil=>intro vs h;simp[ofL]at h;subst h;exact .nil
 |cons x xs ih=>
  intro vs h;simp only[ofL]at h;cases hx:f x with
  |none=>simp[hx]at h
  |some v=>
   cases hxs:ofL f xs with
   |none=>simp[hx,hxs]at h
   |some us=>simp[hx,hxs]at h;subst h;exact .cons (hf _ _ hx) (ih hxs)
theorem qM{x:Value}{v:V}(h:ofValue x=some v):aC w0 ρ v x:=by
 unfold ofValue at h;split at h
 ·split at h
  ·rename_i cs l hl;simp at h;subst h;have:=WZ (w0:=w0) (ρ:=ρ) (fun _ _=>pK) hl;simpa using aC.Aa this
  ·simp at h
 ·split at h
  ·rename_i y hy;simp at h;subst h;exact .iface (pK hy)
  ·simp at h
 ·exact pK h
theorem Dw{v:Value}{o:bH}(h:cI (.const v)=some o):∃ x,o=.c x∧aC w0 ρ x v:=by
 simp only[cI]at h;split at h
 ·rename_i x hx;simp at h;exact⟨x,h.symm,qM hx⟩
 ·simp at h
theorem oH:∀ {l:List Operand} {os:List bH} {vs:List V},nj l=some os→I7 env os=some vs→(∀ x∈l,js w0 ρ env e x)→aU w0 ρ vs (l.map e):=by
 intro l
 induction l with
 |nil=>intro os vs h h' _;simp[nj]at h;subst h;simp[I7]at h';subst h';exact .nil
 |cons x xs ih=>
  intro os vs h h' H;simp only[nj]at h;cases hx:cI x with
  |none=>simp[hx]at h
  |some o=>
   cases hxs:nj xs with
   |none=>simp[hx,hxs]at h
   |some os' =>
    simp[hx,hxs]at h;subst h;simp only[I7]at h';cases hv:o.ev env with
    |none=>simp[hv]at h'
    |some v=>
     cases hvs:I7 env os' with
     |none=>simp[hv,hvs]at h'
     |some us=>
      simp[hv,hvs]at h';subst h';exact .cons (H x (by simp) o v hx hv) (ih hxs hvs fun y hy=>H y (by simp[hy]))
theorem cV{t:TypeId}{n:Nat}(h:gf P t=some n)(w:World):(sizeOf t).run P w=.ok n w:=by
 unfold gf at h;split at h
 ·rename_i i hi;simp at h;simp[sizeOf,typeInfo,hi,h]
 ·simp at h
theorem jk{t:TypeId}{z:V}(h:zeroOf P t=some z):∃ x,(∀ w:World,(zeroValue t).run P w=.ok x w)∧∀ w0 ρ,aC w0 ρ z x:=by
 unfold zeroOf at h;split at h
 ·rename_i i hi;split at h
  ·rename_i x hx;exact⟨x,fun w=>by simp[zeroValue,typeInfo,hi,hx],fun w0 ρ=>qM h⟩
  ·simp at h
 ·simp at h
theorem Ef{t:TypeId}{n:Nat}(h:gf P t=some n):∃ i,P.info? t=some i∧i.size=n:=by
 unfold gf at h;split at h
 ·rename_i i hi;simp at h;exact⟨i,hi,h⟩
 ·simp at h
def Cells(w0:World)(ρ:Ren)(w:World)(cs:List V)(r o:Nat):Prop:=∀ i v,cs[i]? =some v→∃ x,w.cell? ⟨r,o+i,none⟩=some x∧aC w0 ρ v x
theorem Rel.cells(h:Rel w0 ρ s w){b r o lim:Nat}{cs:List V}(e:ρ b=some (r,o,lim))(hs:s.row b=some cs):Cells w0 ρ w cs r o:=by
 obtain⟨c,t,fr,h1,h2,h3,h4,h5⟩:=h.OF e hs;intro i v hv;obtain⟨hi,rfl⟩:=bn.1 hv;obtain⟨x,hx,hr⟩:=h5 i hi;exact⟨x,by simp[World.cell?,h1,hx],hr⟩
theorem Rel.O6(h:Rel w0 ρ s w){row:List V}{r o:Nat}{c:Nat→Value}(hr:row≠[]→r<w0.heap.size)(hc:∀ i,i<row.length→w0.cell? ⟨r,o+i,none⟩=some (c i))
  (hv:∀ i (h:i<row.length),aC w0 ρ row[i] (c i)):Cells w0 ρ w row r o:=by
 intro i v he;obtain⟨hi,rfl⟩:=bn.1 he;refine⟨c i,?_,hv i hi⟩;have:=hc i hi;unfold World.cell? at this⊢;rw[h.old r (hr (fun e=>by subst e;simp at hi))];exact this
theorem Cells.list{cs:List V}{r o:Nat}(h:Cells w0 ρ w cs r o)(off n:Nat)(hn:off+n≤cs.length):
  ∃ xs:List Value,xs.length=n∧(∀ j x,xs[j]? =some x→w.cell? ⟨r,o+off+j,none⟩=some x)∧aU w0 ρ ((cs.drop off).take n) xs:=by
 have key:∀ i,i<n→∃ x,w.cell? ⟨r,o+off+i,none⟩=some x∧aC w0 ρ (cs[off+i]?.getD .bA) x:=fun i hi=>by
  obtain⟨x,a,b⟩:=h (off+i) (cs[off+i]'(by omega)) (bL _);refine⟨x,by rw[Nat.add_assoc];exact a,?_⟩;rw[bL (by omega)];exact b
 refine⟨(List.range n).map fun i=>(w.cell? ⟨r,o+off+i,none⟩).getD undef,by simp,fun j x hj=> ?_,?_,fun i h1 h2=> ?_⟩
 ·simp only[List.getElem?_map]at hj;by_cases hjn:j<n
  ·rw[List.getElem?_range hjn]at hj;obtain⟨y,hy,_⟩:=key j hjn;simp[hy]at hj;rw[hy,hj]
  ·rw[List.getElem?_eq_none (by simp;omega)]at hj;simp at hj
 ·simp;omega
 ·simp at h1 h2;obtain⟨x,hx,hr⟩:=key i h2;simp only[List.getElem_map,List.getElem_range,hx,Option.getD_some,List.getElem_take,List.getElem_drop];rw[bL (by omega)]at hr;exact hr
theorem wO{cs:List V}{r o:Nat}(h:Cells w0 ρ w cs r o)(off n:Nat)(hn:off+n≤cs.length):
  ∃ xs:List Value,(loadCells ⟨r,o+off,none⟩ n).run P w=.ok xs.toArray w∧aU w0 ρ ((cs.drop off).take n) xs:=by
 obtain⟨xs,hl,hc,hr⟩:=h.list off n hn;refine⟨xs,?_,hr⟩;have:=run_loadCells_list (P:=P) w ⟨r,o+off,none⟩ xs (fun j v hv=>by rw[gY];exact hc j v hv);rwa[hl]at this
theorem nw{cs:List V}{r o:Nat}(h:Cells w0 ρ w cs r o){t:TypeId}{n:Option Nat}(hn:spread P t=some n){off:Nat}{v:V}(hv:dW n cs off=some v):
  ∃ x,(loadVar t ⟨r,o+off,none⟩).run P w=.ok x w∧aC w0 ρ v x:=by
 unfold spread at hn;have agg:∀ {d:TypeDesc},P.underlying t=some d→Nh d=true→∀ m,gf P t=some m→n=some m→
   ∃ x,(loadVar t ⟨r,o+off,none⟩).run P w=.ok x w∧aC w0 ρ v x:=fun {d} hu hd m hm hnm=>by
  subst hnm;simp only[dW]at hv;cases hb:Nat.ble (off+m) cs.length with
  |false=>simp[hb]at hv
  |true=>
   simp[hb]at hv;subst hv;obtain⟨xs,hx,hr⟩:=wO (P:=P) h off m (gb hb);refine⟨.agg xs.toArray,?_,aC.Aa hr⟩;have hagg:(isAgg t).run P w=.ok true w:=by
    unfold isAgg;rw[Sem.run_bind,run_underlying hu w];cases d<;>simp_all [Nh]
   simp[loadVar,hagg,cV hm,hx]
 split at hn
 ·rename_i fs hu;split at hn
  ·rename_i m hm;simp at hn;exact agg hu rfl m hm hn.symm
  ·simp at hn
 ·rename_i k el hu;split at hn
  ·rename_i m hm;simp at hn;exact agg hu rfl m hm hn.symm
  ·simp at hn
 ·rename_i d h1 h2 hu;simp at hn;subst hn;simp only[dW]at hv;obtain⟨x,hx,hr⟩:=h off v hv;refine⟨x,?_,hr⟩;have hagg:(isAgg t).run P w=.ok false w:=by
   unfold isAgg;rw[Sem.run_bind,run_underlying hu w];cases d<;>simp_all [Nh]
  simp[loadVar,hagg,hx]
 ·simp at hn
theorem ox{v:V}{most n:Nat}(h:asNat v most=some n):∃ k m,v=.int k m∧0≤m∧m≤(most:Int)∧m.toNat=n:=by
 unfold asNat at h;split at h
 ·rename_i k m;split at h
  ·rename_i hh;simp at h;exact⟨k,m,rfl,hh.1,hh.2,h⟩
  ·simp at h
 ·simp at h
theorem aC.fE{k:IntKind}{n:Int}{x:Value}(h:aC w0 ρ (.int k n) x):x=.int k n:=by cases h;rfl
theorem run_sliceBound{v:V}{x:Value}{y n:Nat}(c:BoundsCode)(h:asNat v y=some n)(hx:aC w0 ρ v x)(w:World):
  (Instr.sliceBound x y c).run P w=.ok n w:=by
 obtain⟨k,m,rfl,h1,h2,h3⟩:=ox h;rw[hx.fE];simp[Instr.sliceBound,asIntOf,h1,h2,h3]
theorem Gq(k:IntKind)(n:Int)(h0:(if k.signed then -(2:Int)^(k.bits-1)else 0)≤n)(h1:n<(if k.signed then(2:Int)^(k.bits-1)else(2:Int)^k.bits)):k.wrap n=n:=by
 unfold IntKind.wrap;cases k<;>simp only[IntKind.signed,IntKind.bits,Bool.true_and,Bool.false_and,if_true,if_false,oS]at h0 h1⊢ <;>first
  |omega
  |(split
    ·rename_i hh;have hh' :=of_decide_eq_true hh;omega
    ·rename_i hh;have hh' :=of_decide_eq_false (Bool.eq_false_iff.2 hh);omega)
theorem rA(k:IntKind)(n:Int):aI k n=k.wrap n:=by
 unfold aI;cases n with
 |ofNat m=>
  simp only[];cases h:Nat.ble m (AN k)with
  |false=>rfl
  |true=>
   have:=gb h;simp only[cond_true];rw[Gq]
   ·cases k<;>simp only[IntKind.signed,IntKind.bits,if_true,if_false,oS]<;>show _≤(m:Int)<;>omega
   ·cases k<;>simp only[AN]at this<;>simp only[IntKind.signed,IntKind.bits,if_true,if_false,oS]<;>show(m:Int)<_<;>omega
 |negSucc m=>
  simp only[];cases h:k.signed&&Nat.ble m (AN k)with
  |false=>rfl
  |true=>
   rw[bC]at h;have:=gb h.2;have hs:=h.1;simp only[cond_true];rw[Gq]
   ·cases k<;>simp only[IntKind.signed,oS]at hs<;>simp only[AN]at this<;>simp only[IntKind.signed,IntKind.bits,if_true]<;>omega
   ·cases k<;>simp only[IntKind.signed,oS]at hs<;>simp only[IntKind.signed,IntKind.bits,if_true]<;>omega
theorem ck(b:ByteArray):b.toList=b.data.toList:=by
 have key:∀ (n i:Nat) (r:List UInt8),b.size - i=n→ByteArray.toList.loop b i r=r.reverse++b.data.toList.drop i:=by
  intro n
  induction n with
  |zero=>
   intro i r h;rw[ByteArray.toList.loop,if_neg (by omega),List.drop_eq_nil_of_le (by show b.data.toList.length≤i;simp;have:b.size=b.data.size:=rfl;omega)];simp
  |succ n ih=>
   intro i r h;have hi:i<b.size:=by omega
   have hi' :i<b.data.toList.length:=by simpa using hi
   rw[ByteArray.toList.loop,if_pos hi,ih (i+1) _ (by omega),XF hi'];have hg:b.get! i=b.data.toList[i]:=by
    show b.data[i]! =_;have h2:i<b.data.size:=hi;rw[getElem!_pos b.data i h2];simp
   simp[hg]
 have:=key b.size 0 [] (by omega);simpa[ByteArray.toList]using this
theorem Eg{op:BinOp}{k:IntKind}{a b:Int}{v:V}(t:TypeId)(h:jL op k a b=some v)(w:World):
  ∃ x,(Go.binOp op t (.int k a) (.int k b)).run P w=.ok x w∧aC w0 ρ v x:=by
 cases op<;>simp only[jL,rA]at h<;>try (simp at h;done)
 case quo=>
  split at h
  ·simp at h
  ·rename_i hb;simp at h;subst h;exact⟨_,by simp[Go.binOp,Op.intDiv,hb],.int _ _⟩
 case rem=>
  split at h
  ·simp at h
  ·rename_i hb;simp at h;subst h;exact⟨_,by simp[Go.binOp,Op.intDiv,hb],.int _ _⟩
 all_goals (simp only[ai]at h;subst h;refine⟨_,?_,by first|exact .int _ _|exact .bool _⟩;simp only[Go.binOp,ne_eq,not_true_eq_false,if_false];rfl)
theorem uL{op:BinOp}{k j:IntKind}{a b:Int}{v:V}(t:TypeId)(ho:op=.shl∨op=.shr)(h:wP op k a b=some v)(w:World):
  ∃ x,(Go.binOp op t (.int k a) (.int j b)).run P w=.ok x w∧aC w0 ρ v x:=by
 rcases ho with rfl|rfl<;>simp only[wP,rA]at h<;>split at h<;>simp only[reduceCtorEq,ai]at h<;>rename_i hb<;>subst h
 ·exact⟨_,by simp only[Go.binOp,Op.shift,hb,if_false,Sem.run_pure],.int _ _⟩
 ·exact⟨_,by simp only[Go.binOp,Op.shift,hb,if_false,Sem.run_pure],.int _ _⟩
theorem EJ{op:BinOp}{a b:List UInt8}{x y:ByteArray}{v:V}(hx:x.data.toList=a)(hy:y.data.toList=b)(h:kK op a b=some v)(w:World):
  ∃ z,(Op.stringOp op x y).run P w=.ok z w∧aC w0 ρ v z:=by
 have ex:x.toList=a:=(ck x).trans hx;have ey:y.toList=b:=(ck y).trans hy;have sx:x.size=a.length:=by rw[←hx];simp
 have sy:y.size=b.length:=by rw[←hy];simp
 cases op<;>simp only[kK]at h<;>try (simp at h;done)
 case add=>
  cases hb:Nat.ble (a.length+b.length) aZ with
  |false=>simp[hb]at h
  |true=>
   have hb' :=gb hb;simp only[hb,cond_true,ai]at h;subst h;refine⟨.string (x++y),?_,.str (by rw[←hx,←hy];simp)⟩;have:¬((x.size+y.size:Nat):Int)>IntKind.i64.max:=by
    rw[sx,sy];unfold aZ at hb';simp[IntKind.max,IntKind.bits];omega
   simp only[Op.stringOp];rw[if_neg this];rfl
 all_goals (simp only[ai]at h;subst h;refine⟨_,?_,.bool _⟩;simp only[Op.stringOp,ex,ey];rfl)
theorem aC.gw{b:Bool}{x:Value}(h:aC w0 ρ (.bool b) x):x=.bool b:=by cases h;rfl
theorem aC.gj{l:List UInt8}{x:Value}(h:aC w0 ρ (.str l) x):∃ s,x=.string s∧s.data.toList=l:=by cases h;exact⟨_,rfl,by assumption⟩
def qq(P:Program)(t:TypeId):gU→Prop
 | .bool=>P.underlying t=some .bool
 | .int=>∃ j,P.underlying t=some (.int j)
 | .str=>P.underlying t=some .string
 |_=>False
theorem nS{k:gU}{a b:V}{r:Bool}(h:jN k a b=some r):
  (∃ x y,k=.bool∧a=.bool x∧b=.bool y∧r=(x==y))∨(∃ j x y,k=.int∧a=.int j x∧b=.int j y∧r=(x==y))∨(∃ x y,k=.str∧a=.str x∧b=.str y∧r=(x==y)):=by
 unfold jN at h;split at h
 ·simp only[ai]at h;exact .inl ⟨_,_,rfl,rfl,rfl,h.symm⟩
 ·split at h
  ·rename_i hjk;simp only[ai]at h;subst hjk;exact .inr (.inl ⟨_,_,_,rfl,rfl,rfl,h.symm⟩)
  ·simp at h
 ·simp only[ai]at h;exact .inr (.inr ⟨_,_,rfl,rfl,rfl,h.symm⟩)
 ·simp at h
theorem CL{k:gU}{a b:V}{x y:Value}{r:Bool}(h:jN k a b=some r)(hx:aC w0 ρ a x)(hy:aC w0 ρ b y){t:TypeId}
  (ht:qq P t k) (d:Nat) (w:World):(Op.equalIn (d+1) t x y).run P w=.ok r w:=by
 rcases nS h with⟨p,q,rfl,rfl,rfl,rfl⟩|⟨j,p,q,rfl,rfl,rfl,rfl⟩|⟨p,q,rfl,rfl,rfl,rfl⟩
 ·rw[hx.gw,hy.gw];exact run_equalIn_bool' w d t _ _ ht
 ·rw[hx.fE,hy.fE];obtain⟨j',hj'⟩:=ht;exact run_equalIn_int w d t _ _ _ _ hj'
 ·obtain⟨p,rfl,hp⟩:=hx.gj;obtain⟨q,rfl,hq⟩:=hy.gj;rw[run_equalIn_string w d t _ _ ht,ck,ck,hp,hq]
theorem Jc{f:Field}{fs:List Field}{ks:List (Nat×gU)}(h:flatK P (f::fs)=some ks):
  ∃ k r,ks=(f.offset,k)::r∧flatK P fs=some r∧f.name≠ "_" ∧(∃ d,P.underlying f.type=some d∧Nh d=false)∧qq P f.type k:=by
 simp only[flatK]at h;cases hn:f.name== "_" with
 |true=>simp[hn]at h
 |false=>
  have hn' :f.name≠ "_" :=by simpa using hn
  simp only[hn,cond_false]at h;cases hr:flatK P fs with
  |none=>rw[hr]at h;split at h<;>simp_all
  |some r=>
   rw[hr]at h;split at h<;>simp only[ai,reduceCtorEq]at h
   ·rename_i hu he;cases he;exact⟨.bool,r,h.symm,rfl,hn',⟨_,hu,rfl⟩,hu⟩
   ·rename_i j hu he;cases he;exact⟨.int,r,h.symm,rfl,hn',⟨_,hu,rfl⟩,⟨_,hu⟩⟩
   ·rename_i hu he;cases he;exact⟨.str,r,h.symm,rfl,hn',⟨_,hu,rfl⟩,hu⟩
theorem uK{t:TypeId}{d:TypeDesc}(hu:P.underlying t=some d)(hd:Nh d=false){cs:Array Value}{off:Nat}{x:Value}
  (hx:cs[off]? =some x) (w:World):(part t cs off).run P w=.ok x w:=by
 have hagg:(isAgg t).run P w=.ok false w:=by
  unfold isAgg;rw[Sem.run_bind,run_underlying hu w];cases d<;>simp_all [Nh]
 simp[part,hagg,hx]
theorem Ea{xs' ys' :Array Value}{xs ys:List V}(hx:aU w0 ρ xs xs'.toList)(hy:aU w0 ρ ys ys'.toList)(d:Nat)(w:World):
  ∀ {fs:List Field} {ks:List (Nat×gU)} {r:Bool},flatK P fs=some ks→qB ks xs ys=some r→(Op.eqFields (d+1) xs' ys' fs).run P w=.ok r w:=by
 intro fs
 induction fs with
 |nil=>
  intro ks r h h';simp[flatK]at h;subst h;simp[qB]at h';subst h';simp[Op.eqFields]
 |cons f fs ih=>
  intro ks r h h';obtain⟨k,rest,rfl,hr,hn,⟨dd,hu,hdd⟩,hk⟩:=Jc h;simp only[qB]at h';cases ha:xs[f.offset]? with
  |none=>simp[ha]at h'
  |some a=>
   cases hb:ys[f.offset]? with
   |none=>simp[ha,hb]at h'
   |some b=>
    simp only[ha,hb]at h';obtain⟨x,hx1,hx2⟩:=hx.get ha;obtain⟨y,hy1,hy2⟩:=hy.get hb;have px:=uK (P:=P) hu hdd (cs:=xs') (off:=f.offset) (x:=x) (by simpa using hx1) w;have py:=uK (P:=P) hu hdd (cs:=ys') (off:=f.offset) (x:=y) (by simpa using hy1) w;cases he:jN k a b with
    |none=>simp[he]at h'
    |some q=>
     have hq:=CL he hx2 hy2 hk d w;simp only[Op.eqFields,if_pos hn,Sem.run_bind,px,py,hq,Result.andThen_ok];cases q with
     |true=>simp only[he]at h';simpa using ih hr h'
     |false=>simp[he]at h';subst h';simp
def Nf(P:Program)(t:TypeId)(x y:Operand):gU→Prop
 | .bool=>P.underlying t=some .bool
 | .int=>∃ j,P.underlying t=some (.int j)
 | .str=>P.underlying t=some .string
 | .bA=>∃ el,P.underlying t=some (.pointer el)
 | .bu=>∃ el,P.underlying t=some (.slice el)
 | .bO=>∃ a b,P.underlying t=some (.map a b)
 | .dy=>∃ a b c,P.underlying t=some (.func a b c)
 | .iface g=>(∃ ms,P.underlying t=some (.interface ms))∧g= !(dP x||dP y)
 | .flat ks=>∃ fs,P.underlying t=some (.struct fs)∧flatK P fs.toList=some ks∧P.stoodInHeld t=false∧P.eqGuardType P.depth t=false
 | .no=>True
theorem qaE(op:BinOp)(t:TypeId)(x y:Operand):Nf P t x y (Ox P op t x y):=by
 have key:Nf P t x y (Ox P .eql t x y):=by
  simp only[Ox];split
  ·assumption
  ·exact⟨_,by assumption⟩
  ·assumption
  ·exact⟨_,by assumption⟩
  ·exact⟨_,by assumption⟩
  ·exact⟨_,_,by assumption⟩
  ·exact⟨_,_,_,by assumption⟩
  ·exact⟨⟨_,by assumption⟩,rfl⟩
  ·rename_i fs hu;split
   ·rename_i ks hks;cases hs:P.stoodInHeld t with
    |true=>simp[Nf]
    |false=>
     cases hg:P.eqGuardType P.depth t with
     |true=>simp[Nf]
     |false=>exact⟨fs,hu,hks,hs,hg⟩
   ·trivial
  ·trivial
 cases op<;>first|exact key|trivial
theorem ug{t el:TypeId}(h:P.underlying t=some (.pointer el))(d:Nat)(w:World)(a:Addr):
  (Op.equalIn (d+1) t (.pointer none) (.pointer none)).run P w=.ok true w∧(Op.equalIn (d+1) t (.pointer none) (.pointer (some a))).run P w=.ok false w∧
  (Op.equalIn (d+1) t (.pointer (some a)) (.pointer none)).run P w=.ok false w:=by
 refine⟨?_,?_,?_⟩<;>(unfold Op.equalIn;rw[Sem.run_bind,run_underlying h];rfl)
theorem pe{t el:TypeId}(h:P.underlying t=some (.slice el))(d:Nat)(w:World)(a:Addr)(l c:Nat):
  (Op.equalIn (d+1) t (.slice none 0 0) (.slice none 0 0)).run P w=.ok true w∧(Op.equalIn (d+1) t (.slice none 0 0) (.slice (some a) l c)).run P w=.ok false w∧
  (Op.equalIn (d+1) t (.slice (some a) l c) (.slice none 0 0)).run P w=.ok false w:=by
 refine⟨?_,?_,?_⟩<;>(unfold Op.equalIn;rw[Sem.run_bind,run_underlying h];rfl)
theorem D6{t k el:TypeId}(h:P.underlying t=some (.map k el))(d:Nat)(w:World)(a:Nat):
  (Op.equalIn (d+1) t (.map none) (.map none)).run P w=.ok true w∧(Op.equalIn (d+1) t (.map none) (.map (some a))).run P w=.ok false w∧
  (Op.equalIn (d+1) t (.map (some a)) (.map none)).run P w=.ok false w:=by
 refine⟨?_,?_,?_⟩<;>(unfold Op.equalIn;rw[Sem.run_bind,run_underlying h];rfl)
theorem D4{t:TypeId}{p q:Array TypeId}{b:Bool}(h:P.underlying t=some (.func p q b))(d:Nat)(w:World)(f:Fn)(x y:Array Value):
  (Op.equalIn (d+1) t .nilFunc .nilFunc).run P w=.ok true w∧(Op.equalIn (d+1) t .nilFunc (.func f x y)).run P w=.ok false w∧
  (Op.equalIn (d+1) t (.func f x y) .nilFunc).run P w=.ok false w:=by
 refine⟨?_,?_,?_⟩<;>(unfold Op.equalIn;rw[Sem.run_bind,run_underlying h];rfl)
theorem D5{t:TypeId}{ms:Array (String×TypeId)}(h:P.underlying t=some (.interface ms))(d:Nat)(w:World)(u:TypeId)(x:Value):
  (Op.equalIn (d+1) t .nilIface .nilIface).run P w=.ok true w∧(Op.equalIn (d+1) t .nilIface (.iface u x)).run P w=.ok false w∧
  (Op.equalIn (d+1) t (.iface u x) .nilIface).run P w=.ok false w:=by
 refine⟨?_,?_,?_⟩<;>(unfold Op.equalIn;rw[Sem.run_bind,run_underlying h];rfl)
def wU:Value→Value→Bool
 | .nilIface,.nilIface=>false
 | .agg _,.agg _=>false
 |_,_=>true
theorem bl{op:BinOp}{t:TypeId}{x y:Operand}{u v:Value}(h:wU u v=true)(w:World):(eqGuard op t x y u v).run P w=.ok () w:=by
 cases op<;>first
  |rfl
  |(unfold eqGuard
    simp only[Bool.not_true,oS,if_false];split<;>first|(simp[wU]at h;done)|rfl)
theorem I4(d:Nat){op:BinOp}{ek:gU}{t:TypeId}{x y:Operand}{a b:V}{r:Bool}{u v:Value}(hk:Nf P t x y ek)(h:Gw ek a b=some r)(hu:aC w0 ρ a u)(hv:aC w0 ρ b v)(w:World):
  (Op.equalIn (d+2) t u v).run P w=.ok r w∧(eqGuard op t x y u v).run P w=.ok () w:=by
 unfold Gw at h;split at h
 ·simp only[ai]at h;subst h;rw[hu.gw,hv.gw];exact⟨run_equalIn_bool' w _ t _ _ hk,bl rfl w⟩
 ·simp only[ai]at h;subst h;obtain⟨el,hk⟩:=hk;cases hu;cases hv;exact⟨(ug hk _ w ⟨0,0,none⟩).1,bl rfl w⟩
 ·simp only[ai]at h;subst h;obtain⟨el,hk⟩:=hk;cases hu;cases hv;exact⟨(ug hk _ w _).2.1,bl rfl w⟩
 ·simp only[ai]at h;subst h;obtain⟨el,hk⟩:=hk;cases hu;cases hv;exact⟨(ug hk _ w _).2.1,bl rfl w⟩
 ·simp only[ai]at h;subst h;obtain⟨el,hk⟩:=hk;cases hu;cases hv;exact⟨(ug hk _ w _).2.2,bl rfl w⟩
 ·simp only[ai]at h;subst h;obtain⟨el,hk⟩:=hk;cases hu;cases hv;exact⟨(ug hk _ w _).2.2,bl rfl w⟩
 ·simp only[ai]at h;subst h;obtain⟨el,hk⟩:=hk;cases hu;cases hv;exact⟨(pe hk _ w ⟨0,0,none⟩ 0 0).1,bl rfl w⟩
 ·simp only[ai]at h;subst h;obtain⟨el,hk⟩:=hk;cases hu;cases hv;exact⟨(pe hk _ w _ _ _).2.1,bl rfl w⟩
 ·simp only[ai]at h;subst h;obtain⟨el,hk⟩:=hk;cases hu;cases hv;exact⟨(pe hk _ w _ _ _).2.1,bl rfl w⟩
 ·simp only[ai]at h;subst h;obtain⟨el,hk⟩:=hk;cases hu;cases hv;exact⟨(pe hk _ w _ _ _).2.1,bl rfl w⟩
 ·simp only[ai]at h;subst h;obtain⟨el,hk⟩:=hk;cases hu;cases hv;exact⟨(pe hk _ w _ _ _).2.2,bl rfl w⟩
 ·simp only[ai]at h;subst h;obtain⟨el,hk⟩:=hk;cases hu;cases hv;exact⟨(pe hk _ w _ _ _).2.2,bl rfl w⟩
 ·simp only[ai]at h;subst h;obtain⟨el,hk⟩:=hk;cases hu;cases hv;exact⟨(pe hk _ w _ _ _).2.2,bl rfl w⟩
 ·simp only[ai]at h;subst h;obtain⟨k,el,hk⟩:=hk;cases hu;cases hv;exact⟨(D6 hk _ w 0).1,bl rfl w⟩
 ·simp only[ai]at h;subst h;obtain⟨k,el,hk⟩:=hk;cases hu;cases hv;exact⟨(D6 hk _ w _).2.1,bl rfl w⟩
 ·simp only[ai]at h;subst h;obtain⟨k,el,hk⟩:=hk;cases hu;cases hv;exact⟨(D6 hk _ w _).2.2,bl rfl w⟩
 ·simp only[ai]at h;subst h;obtain⟨p,q,bb,hk⟩:=hk;cases hu;cases hv;exact⟨(D4 hk _ w (.func 0) #[] #[]).1,bl rfl w⟩
 ·simp only[ai]at h;subst h;obtain⟨p,q,bb,hk⟩:=hk;cases hu;cases hv;exact⟨(D4 hk _ w _ _ _).2.1,bl rfl w⟩
 ·simp only[ai]at h;subst h;obtain⟨p,q,bb,hk⟩:=hk;cases hu;cases hv;exact⟨(D4 hk _ w _ _ _).2.2,bl rfl w⟩
 ·obtain⟨⟨ms,hk⟩,hg⟩:=hk;simp only[ai]at h;subst h;cases hu;cases hv;refine⟨(D5 hk _ w 0 .nilFunc).1,?_⟩;have hg' :dP x=true∨dP y=true:=by
   cases hx:dP x
   ·rw[hx]at hg;right;simpa using hg.symm
   ·exact .inl rfl
  cases op<;>first
   |rfl
   |(unfold eqGuard
     simp only[Bool.not_true,oS,if_false];rw[if_pos]
     ·rfl
     ·rcases hg' with hg' |hg'
      ·cases x<;>simp[dP]at hg'⊢
      ·cases y<;>simp[dP]at hg'⊢)
 ·obtain⟨⟨ms,hk⟩,hg⟩:=hk;simp only[ai]at h;subst h;cases hu;cases hv;exact⟨(D5 hk _ w _ _).2.1,bl rfl w⟩
 ·obtain⟨⟨ms,hk⟩,hg⟩:=hk;simp only[ai]at h;subst h;cases hu;cases hv;exact⟨(D5 hk _ w _ _).2.2,bl rfl w⟩
 ·obtain⟨fs,hk,hks,hs,hg⟩:=hk;cases hu with
  |agg ha va=>
   cases hv with
   |agg hb vb=>
    refine⟨?_,run_eqGuard_agg w op t x y _ _ hg⟩;have hf:P.fieldsOf t=fs:=by simp[Program.fieldsOf,hk]
    rw[run_equalIn_struct (P:=P) w (d+1) t _ _ (by rw[hf];exact hk) hs,hf];exact Ea (aU.of_array ha va) (aU.of_array hb vb) d w hks h
 ·simp at h
theorem NC{op:BinOp}{ek:gU}{t:TypeId}{x y:Operand}{a b:V}{r:Bool}{u v:Value}(hk:Nf P t x y ek)(h:Gw ek a b=some r)(hu:aC w0 ρ a u)(hv:aC w0 ρ b v)(w:World):
  (Op.equal t u v).run P w=.ok r w∧(eqGuard op t x y u v).run P w=.ok () w:=I4 9998 hk h hu hv w
end
end Go.RE
namespace Go.RE
section
variable{P:Program}{w0:World}{ρ:Ren}{s:St}{w:World}{env:PT V}{e:Operand→Value}
def OC(P:Program)(w0:World)(ρ:Ren)(w:World)(e:Operand→Value)(o:Oper)(v:V):Prop:=∃ x,(execOp e o).run P w=.ok (.value x) w∧aC w0 ρ v x
theorem bM{o:Oper}{v:V}{S:Sem Value}(he:execOp e o=(do pure (.value (←S))))(h:∃ x,S.run P w=.ok x w∧aC w0 ρ v x):OC P w0 ρ w e o v:=by
 obtain⟨x,h1,h2⟩:=h;exact⟨x,by rw[he];simp[h1],h2⟩
theorem kF{x:Option Operand}{x' :Option bH}(h:ni x=some x'){d most n:Nat}(hn:ay env x' d most=some n)(H:∀ y,x=some y→js w0 ρ env e y):
  (x=none∧n=d)∨(∃ y v,x=some y∧asNat v most=some n∧aC w0 ρ v (e y)):=by
 cases x with
 |none=>simp[ni]at h;subst h;simp[ay]at hn;exact .inl ⟨rfl,hn.symm⟩
 |some y=>
  simp only[ni]at h;split at h
  ·rename_i o ho;simp at h;subst h;simp only[ay]at hn;split at hn
   ·rename_i v hv;exact .inr ⟨y,v,rfl,hn,H y rfl o v ho hv⟩
   ·simp at hn
  ·simp at h
theorem Ab{v:V}{most n:Nat}(h:asNat v most=some n):n≤most:=by
 obtain⟨k,m,rfl,h1,h2,h3⟩:=ox h;omega
theorem dX{isSlice:Bool}{len cap cap' :Nat}{lo hi mx:Option Operand}{lo' hi' mx' :Option bH}{l h m:Nat}(e1:ni lo=some lo')(e2:ni hi=some hi')(e3:ni mx=some mx')
  (hmx:mx.isSome=true→hi.isSome=true) (n3:ay env mx' cap cap=some m) (n2:ay env hi' len m=some h) (n1:ay env lo' 0 h=some l) (hcap:cap≤cap')
  (H1:∀ y,lo=some y→js w0 ρ env e y) (H2:∀ y,hi=some y→js w0 ρ env e y) (H3:∀ y,mx=some y→js w0 ρ env e y) (w:World):
  (Instr.sliceBounds isSlice len cap' (lo.map e) (hi.map e) (mx.map e)).run P w=.ok (l,h,if mx.isSome then m else cap') w:=by
 have up:∀ {v:V} {a b n:Nat},asNat v a=some n→a≤b→asNat v b=some n:=fun {v a b n} hh hab=>by
  obtain⟨k,q,rfl,h1,h2,h3⟩:=ox hh;simp only[asNat];rw[if_pos ⟨h1,by omega⟩,h3]
 unfold Instr.sliceBounds;rcases kF e3 n3 H3 with⟨rfl,rfl⟩|⟨y3,v3,rfl,a3,r3⟩
 ·rcases kF e2 n2 H2 with⟨rfl,rfl⟩|⟨y2,v2,rfl,a2,r2⟩
  ·rcases kF e1 n1 H1 with⟨rfl,rfl⟩|⟨y1,v1,rfl,a1,r1⟩
   ·simp
   ·simp[run_sliceBound _ a1 r1]
  ·rcases kF e1 n1 H1 with⟨rfl,rfl⟩|⟨y1,v1,rfl,a1,r1⟩
   ·simp[run_sliceBound _ (up a2 hcap) r2]
   ·simp[run_sliceBound _ (up a2 hcap) r2,run_sliceBound _ a1 r1]
 ·rcases kF e2 n2 H2 with⟨rfl,rfl⟩|⟨y2,v2,rfl,a2,r2⟩
  ·simp at hmx
  ·rcases kF e1 n1 H1 with⟨rfl,rfl⟩|⟨y1,v1,rfl,a1,r1⟩
   ·simp[run_sliceBound _ (up a3 hcap) r3,run_sliceBound _ a2 r2]
   ·simp[run_sliceBound _ (up a3 hcap) r3,run_sliceBound _ a2 r2,run_sliceBound _ a1 r1]
theorem dA{x:Option bH}{d most n:Nat}(hd:d≤most)(h:ay env x d most=some n):n≤most:=by
 cases x with
 |none=>simp[ay]at h;omega
 |some o=>
  simp only[ay]at h;split at h
  ·exact Ab h
  ·simp at h
theorem Jx{t:TypeId}{n:Option Nat}{x:Operand}{o:bH}{v:V}(hn:spread P t=some n)(ho:cI x=some o)(hv:cK env s (.load n o)=some v)(hR:Rel w0 ρ s w)(H:js w0 ρ env e x):
  ∃ y,(Instr.loadAt t (e x)).run P w=.ok y w∧aC w0 ρ v y:=by
 simp only[cK]at hv;split at hv
 ·rename_i b off ho';have hx:=H o _ ho ho';cases hs:s.row b with
  |none=>simp[hs]at hv
  |some cs=>
   simp only[hs]at hv;generalize e x=z at hx;cases hx with
   |ptr hρ=>
    obtain⟨y,h1,h2⟩:=nw (hR.cells hρ hs) hn hv;exact⟨y,by simp[Instr.loadAt,Instr.sureAddr,h1],h2⟩
 ·rename_i row off ho';have hx:=H o _ ho ho';generalize e x=z at hx;cases hx with
  |eu c hr hc hcv=>
   obtain⟨y,h1,h2⟩:=nw (P:=P) (hR.O6 hr hc hcv) hn hv;exact⟨y,by simp[Instr.loadAt,Instr.sureAddr,h1],h2⟩
 ·simp at hv
theorem qQ(cs:List V)(off:Nat)(vs:List V)(h:off+vs.length≤cs.length):(jR cs off vs).length=cs.length:=by
 simp[jR];omega
theorem aU.tF{a:List V}{b:List Value}(hl:a.length=b.length)(h:∀ (i:Nat) v,a[i]? =some v→∃ x,b[i]? =some x∧aC w0 ρ v x):aU w0 ρ a b:=
 ⟨hl,fun i h1 h2=>by
  obtain⟨x,hx,hr⟩:=h i a[i] (bL h1);rw[bL h2]at hx;simp at hx;rw[hx];exact hr⟩
theorem L6(cs:List V)(off:Nat)(vs:List V)(h:off+vs.length≤cs.length)(j:Nat):
  (jR cs off vs)[j]? =if j<off then cs[j]? else if j<off+vs.length then vs[j - off]? else cs[j]? :=by
 unfold jR;by_cases h1:j<off
 ·rw[if_pos h1,kN,cw (by simp;omega),jP,if_pos h1]
 ·rw[if_neg h1];by_cases h2:j<off+vs.length
  ·rw[if_pos h2,cw (by simp;omega),eZ (by simp;omega)];simp[show min off cs.length=off from by omega]
  ·rw[if_neg h2,eZ (by simp;omega),qd];congr 1;simp;omega
theorem NK(o:Nat):∀ (l:List Value) (k:Nat) (A:Array Value),∃ B:Array Value,(l.zipIdx k).foldl (fun cs (c,j)=>cs.setIfInBounds (o+j) c) A=B∧B.size=A.size∧
  ∀ j,B[j]? =if o+k≤j∧j<o+k+l.length∧j<A.size then l[j - (o+k)]? else A[j]? :=by
 intro l
 induction l with
 |nil=>intro k A;exact⟨A,rfl,rfl,fun j=>by rw[if_neg (by simp;omega)]⟩
 |cons c l ih=>
  intro k A;obtain⟨B,h1,h2,h3⟩:=ih (k+1) (A.setIfInBounds (o+k) c);refine⟨B,by simpa[List.zipIdx_cons]using h1,by simpa using h2,fun j=> ?_⟩;rw[h3,Gu];simp only[Array.size_setIfInBounds,List.length_cons];by_cases hj:o+(k+1)≤j∧j<o+(k+1)+l.length∧j<A.size
  ·rw[if_pos hj,if_pos (by omega),show j - (o+k)=(j - (o+(k+1)))+1 from by omega];simp
  ·rw[if_neg hj];by_cases hk:o+k=j
   ·subst hk;by_cases hs:o+k<A.size
    ·rw[if_pos rfl,if_pos hs,if_pos (by omega)];simp
    ·rw[if_pos rfl,if_neg hs,if_neg (by omega),CW (by omega)]
   ·rw[if_neg hk,if_neg (by omega)]
theorem tj{place:Nat→Option (Nat×Nat)}:∀ {parts:List (Nat×Operand)} {parts' :List (Nat×Nat×bH)} {cells:List V} {cells' :Array Value} {out:List V},kR place parts=some parts'→mN env cells parts' =some out→aU w0 ρ cells cells'.toList→(∀ p∈parts,js w0 ρ env e p.2)→
  ∃ out' :Array Value,Instr.fill place cells' (parts.map fun p=>(p.1,e p.2))=some out'∧aU w0 ρ out out'.toList:=by
 intro parts
 induction parts with
 |nil=>
  intro parts' cells cells' out h h' hr _;simp[kR]at h;subst h;simp[mN]at h';subst h';exact⟨cells',rfl,hr⟩
 |cons p parts ih=>
  intro parts' cells cells' out h h' hr H;obtain⟨i,x⟩:=p;simp only[kR]at h;cases hp:place i with
  |none=>simp[hp]at h
  |some on=>
   obtain⟨o,n⟩:=on;cases hx:cI x with
   |none=>simp[hp,hx]at h
   |some xo=>
    cases hq:kR place parts with
    |none=>simp[hp,hx,hq]at h
    |some rest=>
     simp[hp,hx,hq]at h;subst h;simp only[mN]at h';cases hv:xo.ev env with
     |none=>simp[hv]at h'
     |some v=>
      simp only[hv]at h';cases hb:(Nat.beq v.cells.length n&&Nat.ble (o+v.cells.length) cells.length)with
      |false=>simp[hb]at h'
      |true=>
       simp only[hb,cond_true]at h';simp only[bC]at hb;have b1:v.cells.length=n:=bR hb.1;have b2:=gb hb.2;have hvr:=(H (i,x) (by simp) xo v hx hv).cells;have e1:(e x).cells.size=n:=by rw[←b1,hvr.1];simp
       have e2:cells'.size=cells.length:=by have:=hr.1;simp at this;omega
       obtain⟨B,h1,h2,h3⟩:=NK o (e x).cells.toList 0 cells';have hB:(e x).cells.zipIdx.foldl (fun cs (c,j)=>cs.setIfInBounds (o+j) c) cells' =B:=by
        rw[←h1,←Array.foldl_toList];simp
       have hl:=hvr.1;simp only[Array.length_toList]at hl;have hnew:aU w0 ρ (jR cells o v.cells) B.toList:=aU.tF (by rw[qQ _ _ _ b2];simp[h2,e2]) fun j u hu=>by
        rw[L6 _ _ _ b2]at hu;rw[Array.getElem?_toList,h3];simp only[Nat.add_zero,Array.length_toList];by_cases c1:j<o
        ·rw[if_pos c1]at hu;rw[if_neg (by omega)];simpa using hr.get hu
        ·rw[if_neg c1]at hu;by_cases c2:j<o+v.cells.length
         ·rw[if_pos c2]at hu;rw[if_pos (by omega)];exact hvr.get hu
         ·rw[if_neg c2]at hu;rw[if_neg (by omega)];simpa using hr.get hu
       obtain⟨out',g1,g2⟩:=ih hq h' hnew fun p hp=>H p (by simp[hp]);refine⟨out',?_,g2⟩;simp only[List.map_cons,Instr.fill,hp];rw[if_neg]
       ·rw[hB];exact g1
       ·simp;omega
theorem JJ:∀ {fs:List Field} {ps:List (Nat×Nat)},places P fs=some ps→∀ w:World,(fs.mapM (m:=Sem) fun(f:Field)=>Prod.mk f.offset<$>sizeOf f.type).run P w=.ok ps w:=by
 intro fs
 induction fs with
 |nil=>intro ps h w;simp[places]at h;subst h;simp
 |cons f fs ih=>
  intro ps h w;simp only[places]at h;cases h1:gf P f.type with
  |none=>simp[h1]at h
  |some n=>
   cases h2:places P fs with
   |none=>simp[h1,h2]at h
   |some r=>simp[h1,h2]at h;subst h;simp[List.mapM_cons,cV h1,ih h2]
theorem GF{t:TypeId}{parts:List (Nat×Operand)}{fs:Array Field}{z:V}{ps:List (Nat×Nat)}{l:List (Nat×Nat×bH)}{out:List V}
  (hu:P.underlying t=some (.struct fs)) (hz:zeroOf P t=some z) (hp:places P fs.toList=some ps) (hl:kR (fun i=>ps[i]?) parts=some l) (hf:mN env z.cells l=some out)
  (H:∀ p∈parts,js w0 ρ env e p.2) (w:World):∃ x,(Instr.build t (parts.toArray.map fun p=>(p.1,e p.2))).run P w=.ok x w∧aC w0 ρ (.agg out) x:=by
 obtain⟨zx,hzr,hzv⟩:=jk hz;obtain⟨out',h1,h2⟩:=tj (cells' :=zx.cells) hl hf (hzv w0 ρ).cells H;refine⟨.agg out',?_,by simpa using aC.Aa h2⟩;have hm:(fs.mapM (m:=Sem) fun(f:Field)=>do pure (f.offset,←sizeOf f.type)).run P w=.ok ps.toArray w:=by
  rw[show(fun(f:Field)=>(do pure (f.offset,←sizeOf f.type):Sem (Nat×Nat)))=(fun(f:Field)=>Prod.mk f.offset<$>sizeOf f.type)from by funext f;simp,Array.mapM_eq_mapM_toList];simp[JJ hp w]
 unfold Instr.build;simp only[Sem.run_bind,hzr,Result.andThen_ok,run_underlying hu,hm];have hfill:Instr.fill (fun x=>ps.toArray[x]?) zx.cells (parts.toArray.map fun p=>(p.1,e p.2)).toList=some out' :=by
  simpa using h1
 simp only[hfill];rfl
theorem Nn{t el:TypeId}{n sz:Nat}{parts:List (Nat×Operand)}{z:V}{l:List (Nat×Nat×bH)}{out:List V}
  (hu:P.underlying t=some (.array n el)) (hz:zeroOf P t=some z) (hs:gf P el=some sz) (hl:kR (fun i=>some (i*sz,sz)) parts=some l) (hf:mN env z.cells l=some out)
  (H:∀ p∈parts,js w0 ρ env e p.2) (w:World):∃ x,(Instr.build t (parts.toArray.map fun p=>(p.1,e p.2))).run P w=.ok x w∧aC w0 ρ (.agg out) x:=by
 obtain⟨zx,hzr,hzv⟩:=jk hz;obtain⟨out',h1,h2⟩:=tj (cells' :=zx.cells) hl hf (hzv w0 ρ).cells H;refine⟨.agg out',?_,by simpa using aC.Aa h2⟩;unfold Instr.build;simp only[Sem.run_bind,hzr,Result.andThen_ok,run_underlying hu,cV hs];have hfill:Instr.fill (fun i=>some (i*sz,sz)) zx.cells (parts.toArray.map fun p=>(p.1,e p.2)).toList=some out' :=by
  simpa using h1
 simp only[hfill];rfl
theorem CD:∀ {cs:List V} {bs:List UInt8} {xs:List Value},bytesOf cs=some bs→aU w0 ρ cs xs→∃ ns:List Int,xs=ns.map (Value.int .u8)∧ns.map (fun n=>UInt8.ofNat n.toNat)=bs:=by
 intro cs
 induction cs with
 |nil=>intro bs xs h hr;simp[bytesOf]at h;subst h;exact⟨[],hr.dV,rfl⟩
 |cons c cs ih=>
  intro bs xs h hr;obtain⟨x,xs',rfl,hx,hxs⟩:=hr.bx;cases c with
  |int k n=>
   cases k<;>simp only[bytesOf,reduceCtorEq]at h;cases hb:bytesOf cs with
   |none=>simp[hb]at h
   |some r=>
    simp[hb]at h;subst h;obtain⟨ns,rfl,h2⟩:=ih hb hxs;exact⟨n::ns,by rw[hx.fE];rfl,by simp[h2]⟩
  |_=>simp[bytesOf]at h
theorem foldl_push(ns:List Int):∀ (b:ByteArray),(ns.foldl (fun r n=>r.push (UInt8.ofNat n.toNat)) b).data.toList=b.data.toList++ns.map (fun n=>UInt8.ofNat n.toNat):=by
 induction ns with
 |nil=>intro b;simp
 |cons n ns ih=>intro b;simp only[List.foldl_cons,ih,List.map_cons];simp[ByteArray.push]
theorem ga{wd:Nat}{v:V}{x:Value}{cs:List V}(hv:bG s wd v=some cs)(hR:Rel w0 ρ s w)(hx:aC w0 ρ v x):
  (x=.slice none 0 0∧cs=[])∨∃ a len cap xs,x=.slice (some a) len cap∧tv v=some len∧xs.length=len*wd∧(∀ j u,xs[j]? =some u→w.cell? (a.add j)=some u)∧aU w0 ρ cs xs:=by
 unfold bG at hv;split at hv
 ·simp at hv;subst hv;cases hx;exact .inl ⟨rfl,rfl⟩
 ·simp at hv;subst hv;cases hx;exact .inr ⟨_,0,0,[],rfl,rfl,by simp,fun j u hj=>by simp at hj,.nil⟩
 ·rename_i b off len cap sz ex;cases hs:s.row b with
  |none=>simp[hs]at hv
  |some row=>
   simp only[hs]at hv;cases hb:(Nat.beq sz wd&&Nat.ble (off+len*sz) row.length)with
   |false=>simp[hb]at hv
   |true=>
    simp only[hb,cond_true,ai]at hv;subst hv;simp only[bC]at hb;have b1:sz=wd:=bR hb.1;have b2:=gb hb.2;subst b1;cases hx with
    |slice hρ h1 h2 h3 h4 hcb=>
     obtain⟨xs,g1,g2,g3⟩:=(hR.cells hρ hs).list off (len*sz) b2;rename_i r o lim a cap';refine .inr ⟨a,len,cap',xs,rfl,rfl,g1,fun j u hj=> ?_,g3⟩;rcases h4 with h4|⟨rfl,_⟩
     ·have:len=0:=by omega
      subst this;have:xs=[]:=jq (by rw[g1];simp);subst this;simp at hj
     ·rw[gY];exact g2 j u hj
 ·rename_i row off len sz;cases hb:(Nat.beq sz wd&&Nat.ble (off+len*sz) row.length)with
  |false=>simp[hb]at hv
  |true=>
   simp only[hb,cond_true,ai]at hv;subst hv;simp only[bC]at hb;have b1:sz=wd:=bR hb.1;have b2:=gb hb.2;subst b1;cases hx with
   |ag c hr hc hcv h3 h4=>
    obtain⟨xs,g1,g2,g3⟩:=(hR.O6 hr hc hcv).list off (len*sz) b2;rename_i r o a cap';refine .inr ⟨a,len,cap',xs,rfl,rfl,g1,fun j u hj=> ?_,g3⟩;rcases h4 with h4|rfl
    ·have:len=0:=by omega
     subst this;have:xs=[]:=jq (by rw[g1];simp);subst this;simp at hj
    ·rw[gY];exact g2 j u hj
 ·simp at hv
theorem Ih{v:V}{x:Value}{cs:List V}{bs:List UInt8}(hv:bG s 1 v=some cs)(hb:bytesOf cs=some bs)(hR:Rel w0 ρ s w)(hx:aC w0 ρ v x):
  ∃ y,(Conv.bytesToString x).run P w=.ok (.string y) w∧y.data.toList=bs:=by
 rcases ga hv hR hx with⟨rfl,rfl⟩|⟨a,len,cap,xs,rfl,_,g1,g2,g3⟩
 ·simp[bytesOf]at hb;subst hb;exact⟨.empty,by simp[Conv.bytesToString],rfl⟩
 ·obtain⟨ns,rfl,h2⟩:=CD hb g3;have hl:(loadCells a len).run P w=.ok (ns.map (Value.int .u8)).toArray w:=by
   have:=run_loadCells_list (P:=P) w a (ns.map (Value.int .u8)) g2;rwa[g1,Nat.mul_one]at this
  exact⟨_,run_bytesToString w a len cap ns hl,by rw[foldl_push,h2];rfl⟩
theorem qz{kk:gU}{k:V}{y:Value}{t:TypeId}(hk:qq P t kk)(hy:aC w0 ρ k y):∀ {es:List ME} {es' :List MapEntry} {i:Nat} {r:Option (Nat×V)},mO kk k es i=some r→es.length=es'.length→(∀ j (h:j<es.length) (h' :j<es'.length),aC w0 ρ es[j].key es'[j].key∧aC w0 ρ es[j].val es'[j].val∧es[j].born=es'[j].born)→
  ∃ D r',P.underlying t=some D∧Instr.findNow D y es' i=some r'∧(match r,r' with|none,none=>True|some (j,v),some (j',v')=>j=j'∧aC w0 ρ v v'∧i≤j∧∃ h:j - i<es'.length,Instr.sameNow D y (es'[j - i]).key=some true|_,_=>False):=by
 have hD:∃ D,P.underlying t=some D∧∀ {a b:V} {x z:Value} {q:Bool},jN kk a b=some q→aC w0 ρ a x→aC w0 ρ b z→Instr.sameNow D x z=some q:=by
  cases kk<;>simp only[qq]at hk<;>try exact hk.elim
  ·refine⟨_,hk,fun {a b x z q} h hx hz=> ?_⟩;rcases nS h with⟨p,q,hh,rfl,rfl,rfl⟩|⟨j,p,q,hh,rfl,rfl,rfl⟩|⟨p,q,hh,rfl,rfl,rfl⟩<;>try cases hh
   rw[hx.gw,hz.gw];rfl
  ·obtain⟨j,hj⟩:=hk;refine⟨_,hj,fun {a b x z q} h hx hz=> ?_⟩;rcases nS h with⟨p,q,hh,rfl,rfl,rfl⟩|⟨j,p,q,hh,rfl,rfl,rfl⟩|⟨p,q,hh,rfl,rfl,rfl⟩<;>try cases hh
   rw[hx.fE,hz.fE];simp[Instr.sameNow]
  ·refine⟨_,hk,fun {a b x z q} h hx hz=> ?_⟩;rcases nS h with⟨p,q,hh,rfl,rfl,rfl⟩|⟨j,p,q,hh,rfl,rfl,rfl⟩|⟨p,q,hh,rfl,rfl,rfl⟩<;>try cases hh
   obtain⟨p',rfl,hp⟩:=hx.gj;obtain⟨q',rfl,hq⟩:=hz.gj;simp only[Instr.sameNow];rw[beq_toListBytes,ck,ck,hp,hq]
 obtain⟨D,hD1,hD2⟩:=hD;intro es
 induction es with
 |nil=>
  intro es' i r h hl _;have:es' =[]:=jq hl.symm;subst this;simp[mO]at h;subst h;exact⟨D,none,hD1,rfl,trivial⟩
 |cons m es ih=>
  intro es' i r h hl hes;cases es' with
  |nil=>simp at hl
  |cons m' es' =>
   have hm:=hes 0 (by simp) (by simp);simp only[List.getElem_cons_zero]at hm;simp only[mO]at h;cases hp:jN kk k m.key with
   |none=>simp[hp]at h
   |some q=>
    have hs:=hD2 hp hy hm.1;cases q with
    |true=>
     simp[hp]at h;subst h;exact⟨D,some (i,m'.val),hD1,by simp[Instr.findNow,hs],rfl,hm.2.1,aq _,by simp,by simpa using hs⟩
    |false=>
     simp only[hp]at h;obtain⟨D',r',e1,e2,e3⟩:=ih h (by simpa using hl) fun j h1 h2=>by
      have:=hes (j+1) (by simpa using h1) (by simpa using h2);simpa using this
     rw[hD1]at e1;cases e1;refine⟨D,r',hD1,by simp[Instr.findNow,hs,e2],?_⟩;cases r with
     |none=>cases r' <;>simp_all
     |some jv=>
      obtain⟨j,v⟩:=jv;cases r' with
      |none=>simp at e3
      |some jv' =>
       obtain⟨j',v'⟩:=jv';obtain⟨a1,a2,a3,a4,a5⟩:=e3;refine⟨a1,a2,by omega,by simp;omega,?_⟩;have:j - i=(j - (i+1))+1:=by omega
       simp only[this,List.getElem_cons_succ];exact a5
theorem h9{kk:gU}{k:V}{y:Value}{t:TypeId}(hk:qq P t kk)(hp:plainKey kk k=true)(hy:aC w0 ρ k y)(b:Bool)(n:Nat)(w:World):(Instr.checkKey b (n+1) t y).run P w=.ok () w:=by
 cases kk<;>simp only[qq]at hk<;>try exact hk.elim
 ·cases k<;>simp[plainKey]at hp;rw[hy.gw];simp[Instr.checkKey,run_underlying hk]
 ·obtain⟨j,hj⟩:=hk;cases k<;>simp[plainKey]at hp;rw[hy.fE];simp[Instr.checkKey,run_underlying hj]
 ·cases k<;>simp[plainKey]at hp;obtain⟨p,rfl,_⟩:=hy.gj;simp[Instr.checkKey,run_underlying hk]
theorem qu{t:TypeId}{kk:gU}(h:kT P t=some kk):qq P t kk:=by
 unfold kT at h;split at h<;>simp at h<;>subst h
 ·assumption
 ·exact⟨_,by assumption⟩
 ·assumption
theorem Rel.Jy(hR:Rel w0 ρ s w){m r o lim:Nat}{es:List ME}{clock:Nat}(hρ:ρ m=some (r,o,lim))(hs:s.get m=some (.map es clock)):
  ∃ es',w.heap[r]? =some (.map es' clock)∧es.length=es'.size∧∀ i (h:i<es.length) (h' :i<es'.size),aC w0 ρ es[i].key es'[i].key∧aC w0 ρ es[i].val es'[i].val∧es[i].born=es'[i].born:=by
 have:=hR.ob m r o lim hρ;rw[hs]at this;exact this
theorem run_getObj_map{r:Nat}{es' :Array MapEntry}{clock:Nat}(h:w.heap[r]? =some (.map es' clock)):(getObj r).run P w=.ok (.map es' clock) w:=by
 simp[getObj,Sem.run,h]
theorem Ek{t kt et:TypeId}{kk:gU}{z:V}{ok:Bool}{m k:V}{x y:Value}{v:V}(hu:P.underlying t=some (.map kt et))(hz:zeroOf P et=some z)(hkk:kT P kt=some kk)
  (hR:Rel w0 ρ s w) (hm:aC w0 ρ m x) (hk:aC w0 ρ k y) (hv:pI s kk z ok m k=some v):
  ∃ u,(Instr.lookup t x y ok).run P w=.ok u w∧aC w0 ρ v u:=by
 have hK:=qu hkk;obtain⟨zx,hzr,hzv⟩:=jk hz;simp only[pI]at hv;have fin:∀ {a:V} {a' :Value} (b:Bool),aC w0 ρ a a'→aC w0 ρ (if ok then .aX [a,.bool b]else a) (if ok then .tuple #[a',.bool b]else a'):=fun {a a'} b ha=>by
  cases ok
  ·simpa using ha
  ·simpa using aC.kM (aU.cons ha (aU.cons (.bool b) .nil))
 split at hv
 ·cases hp:plainKey kk k with
  |false=>simp[hp]at hv
  |true=>
   simp[hp]at hv;cases hm;refine⟨if ok then .tuple #[zx,.bool false]else zx,?_,by rw[←hv];exact fin false (hzv w0 ρ)⟩;have hc:=h9 (P:=P) hK hp hk true 9999 w;have hf:(Instr.findKey kt y []).run P w=.ok none w:=by
    obtain⟨D,r',e1,e2,e3⟩:=qz (P:=P) (es:=[]) (es' :=[]) (i:=0) hK hk rfl rfl (fun j h=>by simp at h);simp[Instr.findKey,run_underlying e1,Instr.findNow]
   simp[Instr.lookup,run_underlying hu,hc,hf,hzr]
 ·rename_i mm;cases hs:s.get mm with
  |none=>simp[hs]at hv
  |some ob=>
   cases ob<;>simp only[hs,reduceCtorEq]at hv;rename_i es clock;cases hp:plainKey kk k with
   |false=>simp[hp]at hv
   |true=>
    simp only[hp,cond_true]at hv;cases hm with
    |map hρ=>
     rename_i r o lim;obtain⟨es',g1,g2,g3⟩:=hR.Jy hρ hs;have hc:=h9 (P:=P) hK hp hk es'.isEmpty 9999 w;cases hf:mO kk k es 0 with
     |none=>simp[hf]at hv
     |some res=>
      obtain⟨D,r',e1,e2,e3⟩:=qz (P:=P) (es:=es) (es' :=es'.toList) (i:=0) hK hk hf (by simpa using g2) (fun j h h' =>by simpa using g3 j h (by simpa using h'));have hfk:(Instr.findKey kt y es'.toList).run P w=.ok r' w:=by simp[Instr.findKey,run_underlying e1,e2]
      simp only[hf]at hv;cases res with
      |none=>
       cases r' with
       |some _=>simp at e3
       |none=>
        simp only[ai]at hv;refine⟨if ok then .tuple #[zx,.bool false]else zx,?_,by rw[←hv];exact fin false (hzv w0 ρ)⟩;simp[Instr.lookup,run_underlying hu,run_getObj_map g1,hc,hfk,hzr]
      |some jv=>
       obtain⟨j,u⟩:=jv;cases r' with
       |none=>simp at e3
       |some jv' =>
        obtain⟨j',u'⟩:=jv';simp only[ai]at hv;refine⟨if ok then .tuple #[u',.bool true]else u',?_,by rw[←hv];exact fin true e3.2.1⟩;simp[Instr.lookup,run_underlying hu,run_getObj_map g1,hc,hfk]
 ·simp at hv
end
end Go.RE
