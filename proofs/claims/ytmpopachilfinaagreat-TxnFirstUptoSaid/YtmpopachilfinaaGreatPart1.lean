/- A deterministic evaluator (in continuation form) for the code of a program: values, heap, compiled code. No theorem here speaks of the model yet. -/
import GoSem.Step
import Derived.Calls
import Derived.Orders
import Derived.Laws.World
import Derived.Laws.Cells
set_option linter.unusedVariables false
set_option linter.unusedSimpArgs false
namespace Go.RE
abbrev ai:= @Option.some.injEq
abbrev aJ:= @Prod.mk.injEq
abbrev bn:= @List.getElem?_eq_some_iff
abbrev bR:= @Nat.eq_of_beq_eq_true
abbrev aq:= @Nat.le_refl
abbrev bP:= @List.getElem?_eq_getElem
abbrev bC:= @Bool.and_eq_true
abbrev cR:= @Nat.testBit_eq_decide_div_mod_eq
abbrev fh:= @List.getElem?_append_right
abbrev cz:= @List.getElem?_append_left
abbrev gu:= @Nat.le_of_ble_eq_true
abbrev gB:= @List.mem_cons_of_mem
abbrev eN:= @List.getElem?_set
abbrev jT:= @List.eq_nil_of_length_eq_zero
abbrev eU:= @List.mem_cons_self
abbrev jU:= @List.take_of_length_le
abbrev oS:= @Bool.false_eq_true
abbrev oT:= @Nat.ble_eq_true_of_le
abbrev lY:= @Nat.mul_le_mul_right
abbrev lZ:= @List.length_append
abbrev kO:= @List.append_assoc
abbrev mb:= @Nat.lt_of_lt_of_le
abbrev jN:= @List.getElem?_take
abbrev CW:= @Array.getElem?_eq_none
abbrev CX:= @Nat.add_sub_cancel_left
abbrev Gz:= @List.drop_of_length_le
abbrev XD:= @List.drop_eq_getElem_cons
abbrev sV:= @Array.getElem?_eq_getElem
abbrev oU:= @Nat.le_max_left
abbrev eS:= @List.mem_map
abbrev gD:= @List.mem_append
abbrev dS:= @List.mem_cons
abbrev rI:= @Array.getD_eq_getD_getElem?
abbrev GA:= @Array.getElem?_setIfInBounds
abbrev gv:= @Nat.ble_eq
abbrev dW:= @Nat.zero_le
abbrev qd:= @List.getElem?_drop
abbrev jC:= @Nat.beq_refl
abbrev qcC:= @List.mem_of_find?_eq_some
abbrev jD:= @List.all_eq_true
inductive PT(α:Type) where
 |e
 |n (v:Option α) (l r:PT α)
deriving Inhabited
namespace PT
variable{α:Type}
def get:PT α→Nat→Option α
 | .e,_=>none
 | .n v l r,k=>match k with
  |0=>v
  |j+1=>bif Nat.beq (j % 2) 0 then l.get (j / 2)else r.get (j / 2)
def yD:Nat→PT α→Nat→Option α→PT α
 |0,t,_,_=>t
 |f+1,t,k,x=>match t with
  | .e=>(match k with
   |0=> .n x .e .e
   |j+1=>bif Nat.beq (j % 2) 0 then .n none (yD f .e (j / 2) x) .e else .n none .e (yD f .e (j / 2) x))
  | .n v l r=>(match k with
   |0=> .n x l r
   |j+1=>bif Nat.beq (j % 2) 0 then .n v (yD f l (j / 2) x) r else .n v l (yD f r (j / 2) x))
def set(t:PT α)(k:Nat)(x:α):PT α:=yD (k+1) t k (some x)
theorem PR(f:Nat):∀ (t:PT α) (k:Nat) (x:Option α) (j:Nat),k<f→(yD f t k x).get j=if j=k then x else t.get j:=by
 induction f with
 |zero=>intro t k x j h;omega
 |succ f ih=>
  intro t k x j h;cases t with
  |e=>
   cases k with
   |zero=>
    cases j with
    |zero=>simp[yD,get]
    |succ j=>simp only[yD,get];cases Nat.beq (j % 2) 0<;>simp[get]
   |succ k=>
    simp only[yD];have hk:k / 2<f:=by omega
    cases hb:Nat.beq (k % 2) 0 with
    |true=>
     simp only[cond_true];cases j with
     |zero=>simp[get]
     |succ j=>
      simp only[get];cases hc:Nat.beq (j % 2) 0 with
      |true=>
       simp only[cond_true];rw[ih _ _ _ _ hk];have h1:k % 2=0:=bR hb;have h2:j % 2=0:=bR hc;by_cases hj:j=k
       ·subst hj;simp
       ·rw[if_neg (by omega),if_neg (by omega)];simp[get]
      |false=>
       have h1:k % 2=0:=bR hb;have h2:¬j % 2=0:=by intro h;rw[h]at hc;simp at hc
       rw[if_neg (by intro h;apply h2;have:j=k:=(by omega);rw[this];exact h1)];simp[get]
    |false=>
     simp only[cond_false];cases j with
     |zero=>simp[get]
     |succ j=>
      simp only[get];cases hc:Nat.beq (j % 2) 0 with
      |false=>
       simp only[cond_false];rw[ih _ _ _ _ hk];have h1:¬k % 2=0:=by intro h;rw[h]at hb;simp at hb
       have h2:¬j % 2=0:=by intro h;rw[h]at hc;simp at hc
       by_cases hj:j=k
       ·subst hj;simp
       ·rw[if_neg (by omega),if_neg (by omega)];simp[get]
      |true=>
       have h1:¬k % 2=0:=by intro h;rw[h]at hb;simp at hb
       have h2:j % 2=0:=bR hc;rw[if_neg (by intro h;apply h1;have:j=k:=(by omega);rw[←this];exact h2)];simp[get]
  |n v l r=>
   cases k with
   |zero=>
    cases j with
    |zero=>simp[yD,get]
    |succ j=>simp[yD,get]
   |succ k=>
    simp only[yD];have hk:k / 2<f:=by omega
    cases hb:Nat.beq (k % 2) 0 with
    |true=>
     simp only[cond_true];cases j with
     |zero=>simp[get]
     |succ j=>
      simp only[get];cases hc:Nat.beq (j % 2) 0 with
      |true=>
       simp only[cond_true];rw[ih _ _ _ _ hk];have h1:k % 2=0:=bR hb;have h2:j % 2=0:=bR hc;by_cases hj:j=k
       ·subst hj;simp
       ·rw[if_neg (by omega),if_neg (by omega)]
      |false=>
       have h1:k % 2=0:=bR hb;have h2:¬j % 2=0:=by intro h;rw[h]at hc;simp at hc
       rw[if_neg (by intro h;apply h2;have:j=k:=(by omega);rw[this];exact h1)];simp
    |false=>
     simp only[cond_false];cases j with
     |zero=>simp[get]
     |succ j=>
      simp only[get];cases hc:Nat.beq (j % 2) 0 with
      |false=>
       simp only[cond_false];rw[ih _ _ _ _ hk];have h1:¬k % 2=0:=by intro h;rw[h]at hb;simp at hb
       have h2:¬j % 2=0:=by intro h;rw[h]at hc;simp at hc
       by_cases hj:j=k
       ·subst hj;simp
       ·rw[if_neg (by omega),if_neg (by omega)]
      |true=>
       have h1:¬k % 2=0:=by intro h;rw[h]at hb;simp at hb
       have h2:j % 2=0:=bR hc;rw[if_neg (by intro h;apply h1;have:j=k:=(by omega);rw[←this];exact h2)];simp
theorem iz(t:PT α)(k:Nat)(x:α)(j:Nat):(t.set k x).get j=if j=k then some x else t.get j:=
 PR (k+1) t k (some x) j (Nat.lt_succ_self k)
@[simp] theorem XR(k:Nat):(PT.e:PT α).get k=none:=by cases k<;>rfl
end PT
inductive V where
 |bool (b:Bool)
 |int (k:IntKind) (n:Int)
 |str (s:List UInt8)
 |bA
 |ptr (b off:Nat)
 |eD (row:List V) (off:Nat)
 |bu
 |bM
 |slice (b off len cap sz:Nat) (exact:Bool)
 |ag (row:List V) (off len sz:Nat)
 |bQ
 |map (b:Nat)
 |di
 |func (f:Nat) (first captured:List V)
 |cO
 |iface (t:Nat) (v:V)
 |agg (cs:List V)
 |aV (vs:List V)
deriving Inhabited
def V.one:V→Bool
 | .agg _=>false
 | .aV _=>false
 |_=>true
def V.cells:V→List V
 | .agg cs=>cs
 |v=>[v]
mutual
def V.beq:V→V→Bool
 | .bool a,.bool b=>a==b
 | .int j a,.int k b=>decide (j=k)&&decide (a=b)
 | .str a,.str b=>a==b
 | .bA,.bA=>true
 | .ptr a b,.ptr c d=>Nat.beq a c&&Nat.beq b d
 | .eD a b,.eD c d=>V.z8 a c&&Nat.beq b d
 | .bu,.bu=>true
 | .bM,.bM=>true
 | .slice a b c d e f,.slice a' b' c' d' e' f' =>Nat.beq a a' &&Nat.beq b b' &&Nat.beq c c' &&Nat.beq d d' &&Nat.beq e e' &&(f==f')
 | .ag a b c d,.ag a' b' c' d' =>V.z8 a a' &&Nat.beq b b' &&Nat.beq c c' &&Nat.beq d d'
 | .bQ,.bQ=>true
 | .map a,.map b=>Nat.beq a b
 | .di,.di=>true
 | .func f a b,.func g c d=>Nat.beq f g&&V.z8 a c&&V.z8 b d
 | .cO,.cO=>true
 | .iface t v,.iface u w=>Nat.beq t u&&V.beq v w
 | .agg a,.agg b=>V.z8 a b
 | .aV a,.aV b=>V.z8 a b
 |_,_=>false
def V.z8:List V→List V→Bool
 |[],[]=>true
 |a::as,b::bs=>V.beq a b&&V.z8 as bs
 |_,_=>false
end
mutual
theorem V.eq_of_beq:∀ {a b:V},V.beq a b=true→a=b
 | .bool a,b,h=>by cases b<;>simp_all [V.beq]
 | .int j a,b,h=>by cases b<;>simp_all [V.beq]
 | .str a,b,h=>by cases b<;>simp_all [V.beq]
 | .bA,b,h=>by cases b<;>simp_all [V.beq]
 | .ptr a c,b,h=>by cases b<;>simp_all [V.beq]
 | .eD a c,b,h=>by
  cases b<;>simp[V.beq]at h;obtain⟨h1,h2⟩:=h;rw[V.ja h1,h2]
 | .bu,b,h=>by cases b<;>simp_all [V.beq]
 | .bM,b,h=>by cases b<;>simp_all [V.beq]
 | .slice a1 a2 a3 a4 a5 a6,b,h=>by cases b<;>simp_all [V.beq]
 | .ag a c d e,b,h=>by
  cases b<;>simp[V.beq]at h;obtain⟨⟨⟨h1,h2⟩,h3⟩,h4⟩:=h;rw[V.ja h1,h2,h3,h4]
 | .bQ,b,h=>by cases b<;>simp_all [V.beq]
 | .map a,b,h=>by cases b<;>simp_all [V.beq]
 | .di,b,h=>by cases b<;>simp_all [V.beq]
 | .func f a c,b,h=>by
  cases b<;>simp[V.beq]at h;obtain⟨⟨h1,h2⟩,h3⟩:=h;rw[V.ja h2,V.ja h3,h1]
 | .cO,b,h=>by cases b<;>simp_all [V.beq]
 | .iface t v,b,h=>by
  cases b<;>simp[V.beq]at h;obtain⟨h1,h2⟩:=h;rw[V.eq_of_beq h2,h1]
 | .agg a,b,h=>by
  cases b<;>simp[V.beq]at h;rw[V.ja h]
 | .aV a,b,h=>by
  cases b<;>simp[V.beq]at h;rw[V.ja h]
theorem V.ja:∀ {a b:List V},V.z8 a b=true→a=b
 |[],[],_=>rfl
 |[],_::_,h=>by simp[V.z8]at h
 |_::_,[],h=>by simp[V.z8]at h
 |a::as,b::bs,h=>by
  simp[V.z8]at h;rw[V.eq_of_beq h.1,V.ja h.2]
end
structure ME where
 key:V
 val:V
 born:Nat
deriving Inhabited
inductive Ob where
 |row (cs:List V)
 |uK (cs:List V)
 |map (es:List ME) (clock:Nat)
 |ga (m:Option Nat) (since:Nat) (seen:List Nat) (stepped:Nat)
 |dead
deriving Inhabited
structure St where
 h:PT Ob
 next:Nat
deriving Inhabited
def St.get(s:St)(n:Nat):Option Ob:=s.h.get n
def St.put(s:St)(n:Nat)(o:Ob):St:={s with h:=s.h.set n o}
def St.alloc(s:St)(o:Ob):St:={h:=s.h.set s.next o,next:=s.next+1}
def St.row(s:St)(n:Nat):Option (List V):=
 match s.get n with
 |some (.row cs)=>some cs
 |some (.uK cs)=>some cs
 |_=>none
def St.vT(s:St)(n:Nat):Option (List V):=
 match s.get n with
 |some (.row cs)=>some cs
 |_=>none
class iw(R:Type) where
 fail:R
 all:Nat→(Nat→R)→R
 chk:V→V→R→R
instance:iw Prop where
 fail:=False
 all n f:=∀ i,i<n→f i
 chk a b r:=a=b∧r
instance:iw Bool where
 fail:=false
 all n f:=(List.range n).all f
 chk a b r:=bif V.beq a b then r else false
inductive bJ where
 |t (n:Nat)
 |c (v:V)
deriving Inhabited
inductive gR where
 |bool|int|str
 |bA|bu|bQ|di -- compared with nil (or both nil)
 |iface (guard:Bool) -- guard:two bu are not told
 |flat (ks:List (Nat×gR)) -- a struct,cell by cell,of bool,int,str
 |no
deriving Inhabited
inductive fS where
 |bt (x:bJ)
 |pick (c a b:bJ)
 |load (n:Option Nat) (x:bJ)
 |nilCheck (x:bJ)
 |bin (op:BinOp) (ek:gR) (x y:bJ)
 |un (op:UnOp) (x:bJ)
 |eO (k:IntKind) (x:bJ)
 |th (x:bJ)
 |toStr (x:bJ)
 |nM (t:Nat) (x:bJ)
 |jf (f:Nat) (first captured:List bJ)
 |build (zero:List V) (parts:List (Nat×Nat×bJ))
 |nq (x:bJ) (lo hi:Option bJ)
 |slice (sz:Nat) (x:bJ) (lo hi mx:Option bJ)
 |iP (n sz:Nat) (x:bJ) (lo hi:Option bJ)
 |fieldAddr (off:Nat) (x:bJ)
 |field (off:Nat) (n:Option Nat) (x:bJ)
 |indexAddr (sz:Nat) (x i:bJ)
 |mL (len sz:Nat) (x i:bJ)
 |index (x i:bJ)
 |CB (len:Nat) (x i:bJ) -- of an array
 |lookup (kk:gR) (zero:V) (ok:Bool) (x i:bJ)
 |extract (i:Nat) (x:bJ)
 |len (k:Nat) (x:bJ) -- 0:of a string,1:of a slice,2:of a map
 |cap (x:bJ)
 |max (xs:List bJ)
 |min (xs:List bJ)
 |mB (t:Nat) (zero:V) (x:bJ) -- x.(T),v,ok;T concrete
 |entry (x:bJ) -- a map iterator's entry
deriving Inhabited
inductive GB where
 |alloc (zero:List V)
 |box (x:bJ)
 |buildSlice (sz len:Nat) (zero:List V) (parts:List (Nat×Nat×bJ))
 |makeMap
 |makeSlice (sz bytes:Nat) (zero:List V) (len cap:bJ)
 |lV (x:bJ)
deriving Inhabited
inductive xT where
 |store (n:Nat) (a x:bJ)
 |mapUpdate (kk:gR) (m k x:bJ)
 |delete (kk:gR) (m k:bJ)
 |append (sz bytes:Nat) (str:Bool) (s x:bJ) -- str:a string's bytes come
 |copy (sz:Nat) (str:Bool) (d s:bJ)
 |clear (sz:Nat) (zero:List V) (x:bJ)
 |range (x:bJ)
deriving Inhabited
inductive jE where
 |s (o:fS)
 |m (o:GB)
 |h (o:xT)
 |call (f:bJ) (args:List bJ)
 |invoke (name:String) (x:bJ) (args:List bJ)
 |next (x:bJ)
 |bad
deriving Inhabited
structure aD where
 dst:Option Nat
 op:jE
 guard:Option (Nat×Bool) -- a temporary,and what it must hold
 aO:Nat -- all that must run before,as bits
deriving Inhabited
inductive aj where
 |skip
 |region (ops:List aD)
 |draw (ops:List aD)
 |seq (a b:aj)
 |cond (c:bJ) (a b:aj)
 |block (id:Nat) (b:aj)
 |loop (b:aj)
 |exit (id:Nat)
 |ret
 |bad
 |uG (n:Nat) (p:List V→St→Option (V×St)) -- what a call comes to,by a contract
deriving Inhabited
inductive tZ where
 |t (n:Nat)
 |cell (a:Nat) (n:Option Nat)
deriving Inhabited
structure ck where
 ntmps:Nat
 results:List tZ
 body:aj
deriving Inhabited
inductive Ex where
 |normal
 |exit (id:Nat)
 |ret
deriving Inhabited
end Go.RE
namespace Go.RE
def bJ.ev(env:PT V):bJ→Option V
 | .t n=>env.get n
 | .c v=>some v
def Jr(env:PT V):List bJ→Option (List V)
 |[]=>some []
 |x::xs=>match x.ev env with
  |some v=>(match Jr env xs with|some vs=>some (v::vs)|none=>none)
  |none=>none
def AK:IntKind→Nat
 | .i8=>127| .i16=>32767| .i32=>2147483647| .i64=>9223372036854775807
 | .u8=>255| .u16=>65535| .u32=>4294967295| .u64=>18446744073709551615
def aI(k:IntKind)(n:Int):Int:=
 match n with
 | .ofNat m=>bif Nat.ble m (AK k)then .ofNat m else k.wrap (.ofNat m)
 | .negSucc m=>bif k.signed&&Nat.ble m (AK k)then .negSucc m else k.wrap (.negSucc m)
def jL(op:BinOp)(k:IntKind)(a b:Int):Option V:=
 match op with
 | .add=>some (.int k (aI k (a+b)))
 | .sub=>some (.int k (aI k (a - b)))
 | .mul=>some (.int k (aI k (a*b)))
 | .quo=>if b=0 then none else some (.int k (aI k (a.tdiv b)))
 | .rem=>if b=0 then none else some (.int k (a.tmod b))
 | .and=>some (.int k (aI k (BitVec.ofInt k.bits a&&&BitVec.ofInt k.bits b).toNat))
 | .or=>some (.int k (aI k (BitVec.ofInt k.bits a|||BitVec.ofInt k.bits b).toNat))
 | .xor=>some (.int k (aI k (BitVec.ofInt k.bits a ^^^ BitVec.ofInt k.bits b).toNat))
 | .andNot=>some (.int k (aI k (BitVec.ofInt k.bits a&&& ~~~BitVec.ofInt k.bits b).toNat))
 | .eql=>some (.bool (a==b))
 | .neq=>some (.bool (a !=b))
 | .lss=>some (.bool (decide (a<b)))
 | .leq=>some (.bool (decide (a≤b)))
 | .gtr=>some (.bool (decide (a>b)))
 | .geq=>some (.bool (decide (a≥b)))
 |_=>none
def wN(op:BinOp)(k:IntKind)(a b:Int):Option V:=
 if b<0 then none else
 match op with
 | .shl=>some (.int k (aI k (a*2 ^ (min b.toNat k.bits))))
 | .shr=>some (.int k (a.fdiv (2 ^ (min b.toNat k.bits))))
 |_=>none
def bp:Nat:=1099511627776
def kL(op:BinOp)(a b:List UInt8):Option V:=
 match op with
 | .add=>bif Nat.ble (a.length+b.length) bp then some (.str (a++b))else none
 | .eql=>some (.bool (a==b))
 | .neq=>some (.bool (!(a==b)))
 | .lss=>some (.bool (Op.bytesLess a b))
 | .leq=>some (.bool (Op.bytesLess a b||a==b))
 | .gtr=>some (.bool (!(Op.bytesLess a b||a==b)))
 | .geq=>some (.bool (!Op.bytesLess a b))
 |_=>none
def jM:gR→V→V→Option Bool
 | .bool,.bool a,.bool b=>some (a==b)
 | .int,.int j a,.int k b=>if j=k then some (a==b)else none
 | .str,.str a,.str b=>some (a==b)
 |_,_,_=>none
def qE:List (Nat×gR)→List V→List V→Option Bool
 |[],_,_=>some true
 |(o,k)::r,xs,ys=>match xs[o]?,ys[o]? with
  |some a,some b=>(match jM k a b with
   |some true=>qE r xs ys
   |some false=>some false
   |none=>none)
  |_,_=>none
def GC(ek:gR)(a b:V):Option Bool:=
 match ek,a,b with
 | .bool,.bool x,.bool y=>some (x==y)
 | .bA,.bA,.bA=>some true
 | .bA,.bA,.ptr _ _=>some false
 | .bA,.bA,.eD _ _=>some false
 | .bA,.ptr _ _,.bA=>some false
 | .bA,.eD _ _,.bA=>some false
 | .bu,.bu,.bu=>some true
 | .bu,.bu,.slice .. =>some false
 | .bu,.bu,.ag .. =>some false
 | .bu,.bu,.bM=>some false
 | .bu,.bM,.bu=>some false
 | .bu,.slice ..,.bu=>some false
 | .bu,.ag ..,.bu=>some false
 | .bQ,.bQ,.bQ=>some true
 | .bQ,.bQ,.map _=>some false
 | .bQ,.map _,.bQ=>some false
 | .di,.di,.di=>some true
 | .di,.di,.func .. =>some false
 | .di,.func ..,.di=>some false
 | .iface false,.cO,.cO=>some true
 | .iface _,.cO,.iface _ _=>some false
 | .iface _,.iface _ _,.cO=>some false
 | .flat ks,.agg xs,.agg ys=>qE ks xs ys
 |_,_,_=>none
def jF(op:BinOp)(ek:gR)(a b:V):Option V:=
 match op,a,b with
 | .shl,.int k x,.int _ y=>wN .shl k x y
 | .shr,.int k x,.int _ y=>wN .shr k x y
 |op,.int k x,.int j y=>if k=j then jL op k x y else none
 |op,.str x,.str y=>kL op x y
 | .eql,a,b=>(match GC ek a b with|some r=>some (.bool r)|none=>none)
 | .neq,a,b=>(match GC ek a b with|some r=>some (.bool (!r))|none=>none)
 |_,_,_=>none
def unV(op:UnOp)(a:V):Option V:=
 match op,a with
 | .neg,.int k n=>some (.int k (aI k (0 - n)))
 | .not,.bool b=>some (.bool (!b))
 | .xor,.int k n=>jL .xor k (if k.signed then -1 else k.max) n
 |_,_=>none
def dZ(n:Option Nat)(cs:List V)(off:Nat):Option V:=
 match n with
 |none=>cs[off]?
 |some n=>bif Nat.ble (off+n) cs.length then some (.agg ((cs.drop off).take n))else none
def jQ(cs:List V)(off:Nat)(vs:List V):List V:=cs.take off++vs++cs.drop (off+vs.length)
def mH(env:PT V)(cells:List V):List (Nat×Nat×bJ)→Option (List V)
 |[]=>some cells
 |(off,size,x)::rest=>match x.ev env with
  |some v=>bif Nat.beq v.cells.length size&&Nat.ble (off+v.cells.length) cells.length then mH env (jQ cells off v.cells) rest else none
  |none=>none
def asNat(v:V)(most:Nat):Option Nat:=
 match v with
 | .int _ n=>if 0≤n∧n≤(most:Int)then some n.toNat else none
 |_=>none
def au(env:PT V)(x:Option bJ)(dflt most:Nat):Option Nat:=
 match x with
 |none=>some dflt
 |some x=>match x.ev env with
  |some v=>asNat v most
  |none=>none
def gW(b:UInt8):V:=.int .u8 b.toNat
def bytesOf:List V→Option (List UInt8)
 |[]=>some []
 | .int .u8 n::r=>(match bytesOf r with|some bs=>some (UInt8.ofNat n.toNat::bs)|none=>none)
 |_::_=>none
def bH(s:St)(w:Nat):V→Option (List V)
 | .bu=>some []
 | .bM=>some []
 | .slice b off len _ sz _=>match s.row b with
  |some cs=>bif Nat.beq sz w&&Nat.ble (off+len*sz) cs.length then some ((cs.drop off).take (len*sz))else none
  |none=>none
 | .ag row off len sz=>bif Nat.beq sz w&&Nat.ble (off+len*sz) row.length then some ((row.drop off).take (len*sz))else none
 |_=>none
def iu(s:St)(w:Nat)(str:Bool)(x:V):Option (List V):=
 match str,x with
 |true,.str b=>bif Nat.beq w 1 then some (b.map gW)else none
 |false,x=>bH s w x
 |_,_=>none
def tw:V→Option Nat
 | .bu=>some 0
 | .bM=>some 0
 | .slice _ _ len _ _ _=>some len
 | .ag _ _ len _=>some len
 | .str b=>some b.length
 |_=>none
def lG(s:St)(k:Nat):V→Option Nat
 | .str b=>bif Nat.beq k 0 then some b.length else none
 | .bu=>bif Nat.beq k 1 then some 0 else none
 | .bM=>bif Nat.beq k 1 then some 0 else none
 | .slice _ _ len _ _ _=>bif Nat.beq k 1 then some len else none
 | .ag _ _ len _=>bif Nat.beq k 1 then some len else none
 | .bQ=>bif Nat.beq k 2 then some 0 else none
 | .map m=>bif Nat.beq k 2 then(match s.get m with
  |some (.map es _)=>some es.length
  |_=>none)else none
 |_=>none
def mI(kk:gR)(k:V):List ME→Nat→Option (Option (Nat×V))
 |[],_=>some none
 |e::es,i=>match jM kk k e.key with
  |some true=>some (some (i,e.val))
  |some false=>mI kk k es (i+1)
  |none=>none
def plainKey:gR→V→Bool
 | .bool,.bool _=>true
 | .int,.int _ _=>true
 | .str,.str _=>true
 |_,_=>false
def yf:V→V→Option V
 | .int k x,.int j y=>if k=j then some (.int k (if y>x then y else x))else none
 | .str x,.str y=>some (.str (if Op.bytesLess x y then y else x))
 |_,_=>none
def AY:V→V→Option V
 | .int k x,.int j y=>if k=j then some (.int k (if y<x then y else x))else none
 | .str x,.str y=>some (.str (if Op.bytesLess x y||x==y then x else y))
 |_,_=>none
def yb(f:V→V→Option V):V→List V→Option V
 |a,[]=>some a
 |a,b::r=>match f a b with
  |some c=>yb f c r
  |none=>none
def pJ(s:St)(kk:gR)(zero:V)(ok:Bool)(m k:V):Option V:=
 match m with
 | .bQ=>bif plainKey kk k then some (if ok then .aV [zero,.bool false]else zero)else none
 | .map m=>(match s.get m with
  |some (.map es _)=>bif plainKey kk k then(match mI kk k es 0 with
   |some (some (_,v))=>some (if ok then .aV [v,.bool true]else v)
   |some none=>some (if ok then .aV [zero,.bool false]else zero)
   |none=>none)else none
  |_=>none)
 |_=>none
def Aq(s:St)(b:Nat):Option V:=
 match s.get b with
 |some (.ga (some m) _ seen last)=>(match s.get m,seen.getLast? with
  |some (.map es clock),some n=>bif Nat.beq clock last then(match es.find? (fun e=>Nat.beq e.born n)with
   |some e=>some (.aV [e.key,e.val])
   |none=>none)else none
  |_,_=>none)
 |_=>none
def cD(env:PT V)(s:St):fS→Option V
 | .entry x=>match x.ev env with
  |some (.ptr b 0)=>Aq s b
  |_=>none
 | .bt x=>x.ev env
 | .pick c a b=>match c.ev env with
  |some (.bool true)=>a.ev env
  |some (.bool false)=>b.ev env
  |_=>none
 | .load n x=>match x.ev env with
  |some (.ptr b off)=>(match s.row b with|some cs=>dZ n cs off|none=>none)
  |some (.eD row off)=>dZ n row off
  |_=>none
 | .nilCheck x=>match x.ev env with
  |some .bA=>none
  |some .cO=>none
  |some .di=>none
  |v=>v
 | .bin op ek x y=>match x.ev env,y.ev env with
  |some a,some b=>jF op ek a b
  |_,_=>none
 | .un op x=>match x.ev env with
  |some a=>unV op a
  |none=>none
 | .eO k x=>match x.ev env with
  |some (.int _ n)=>some (.int k (aI k n))
  |_=>none
 | .th x=>match x.ev env with
  |some (.str b)=>some (.str b)
  |_=>none
 | .toStr x=>match x.ev env with
  |some v=>(match bH s 1 v with
   |some cs=>(match bytesOf cs with|some bs=>some (.str bs)|none=>none)
   |none=>none)
  |none=>none
 | .nM t x=>match x.ev env with
  |some v=>some (.iface t v)
  |none=>none
 | .jf f first captured=>match Jr env first,Jr env captured with
  |some a,some b=>some (.func f a b)
  |_,_=>none
 | .build zero parts=>match mH env zero parts with
  |some cs=>some (.agg cs)
  |none=>none
 | .nq x lo hi=>match x.ev env with
  |some (.str b)=>(match au env hi b.length b.length with
   |some h=>(match au env lo 0 h with
    |some l=>some (.str ((b.take h).drop l))
    |none=>none)
   |none=>none)
  |_=>none
 | .slice w x lo hi mx=>match x.ev env with
  |some .bu=>(match au env mx 0 0 with
   |some m=>(match au env hi 0 m with
    |some h=>(match au env lo 0 h with
     |some _=>some .bu
     |none=>none)
    |none=>none)
   |none=>none)
  |some (.slice b off len cap sz ex)=>(match au env mx cap cap with
   |some m=>(match au env hi len m with
    |some h=>(match au env lo 0 h with
     |some l=>bif Nat.beq w sz then(bif mx.isSome&&Nat.beq m 0 then some .bM else some (.slice b (off+l*sz) (h - l) (m - l) sz (ex||mx.isSome)))else none
     |none=>none)
    |none=>none)
   |none=>none)
  |some .bM=>(match au env mx 0 0 with
   |some m=>(match au env hi 0 m with
    |some h=>(match au env lo 0 h with
     |some _=>some .bM
     |none=>none)
    |none=>none)
   |none=>none)
  |some (.ag row off len sz)=>(match au env mx len len with
   |some m=>(match au env hi len m with
    |some h=>(match au env lo 0 h with
     |some l=>bif Nat.beq w sz then(bif mx.isSome&&Nat.beq m 0 then some .bM else some (.ag row (off+l*sz) (h - l) sz))else none
     |none=>none)
    |none=>none)
   |none=>none)
  |_=>none
 | .iP n sz x lo hi=>match x.ev env with
  |some (.ptr b off)=>(match au env hi n n with
   |some h=>(match au env lo 0 h with
    |some l=>(match s.row b with
     |some cs=>bif Nat.ble (off+n*sz) cs.length then some (.slice b (off+l*sz) (h - l) (n - l) sz true)else none
     |none=>none)
    |none=>none)
   |none=>none)
  |_=>none
 | .fieldAddr off x=>match x.ev env with
  |some (.ptr b o)=>some (.ptr b (o+off))
  |some (.eD row o)=>some (.eD row (o+off))
  |_=>none
 | .field off n x=>match x.ev env with
  |some (.agg cs)=>dZ n cs off
  |_=>none
 | .indexAddr sz x i=>match x.ev env,i.ev env with
  |some (.slice b off len _ z _),some (.int _ n)=>if 0≤n∧n<(len:Int)then(bif Nat.beq z sz then some (.ptr b (off+n.toNat*sz))else none)else none
  |some (.ag row off len z),some (.int _ n)=>if 0≤n∧n<(len:Int)then(bif Nat.beq z sz then some (.eD row (off+n.toNat*sz))else none)else none
  |_,_=>none
 | .mL len sz x i=>match x.ev env,i.ev env with
  |some (.ptr b off),some (.int _ n)=>if 0≤n∧n<(len:Int)then some (.ptr b (off+n.toNat*sz))else none
  |some (.eD row off),some (.int _ n)=>if 0≤n∧n<(len:Int)then some (.eD row (off+n.toNat*sz))else none
  |_,_=>none
 | .index x i=>match x.ev env,i.ev env with
  |some (.str b),some (.int _ n)=>if 0≤n then(match b[n.toNat]? with|some c=>some (.int .u8 c.toNat)|none=>none)else none
  |_,_=>none
 | .CB len x i=>match x.ev env,i.ev env with
  |some (.agg cs),some (.int _ n)=>if 0≤n∧n<(len:Int)then cs[n.toNat]? else none
  |_,_=>none
 | .lookup kk zero ok x i=>match x.ev env,i.ev env with
  |some m,some k=>pJ s kk zero ok m k
  |_,_=>none
 | .extract i x=>match x.ev env with
  |some (.aV vs)=>vs[i]?
  |_=>none
 | .len k x=>match x.ev env with
  |some v=>(match lG s k v with|some n=>some (.int .i64 n)|none=>none)
  |none=>none
 | .cap x=>match x.ev env with
  |some .bu=>some (.int .i64 0)
  |some .bM=>some (.int .i64 0)
  |some (.slice _ _ _ cap _ true)=>some (.int .i64 cap)
  |_=>none
 | .max xs=>match Jr env xs with
  |some (v::vs)=>yb yf v vs
  |_=>none
 | .min xs=>match Jr env xs with
  |some (v::vs)=>yb AY v vs
  |_=>none
 | .mB t zero x=>match x.ev env with
  |some .cO=>some (.aV [zero,.bool false])
  |some (.iface u v)=>some (if u=t then .aV [v,.bool true]else .aV [zero,.bool false])
  |_=>none
def St.write(s:St)(b off:Nat)(vs:List V):Option St:=
 match s.vT b with
 |some cs=>bif Nat.ble (off+vs.length) cs.length&&vs.all V.one then some (s.put b (.row (jQ cs off vs)))else none
 |none=>none
def k9(i:Nat)(f:ME→ME):List ME→List ME
 |[]=>[]
 |e::es=>match i with
  |0=>f e::es
  |j+1=>e::k9 j f es
def gN(i:Nat):List ME→List ME
 |[]=>[]
 |e::es=>match i with
  |0=>es
  |j+1=>e::gN j es
def eF(zero:List V):Nat→List V
 |0=>[]
 |n+1=>zero++eF zero n
def oZ(s:St)(sz bytes:Nat)(str:Bool)(a x:V):Option (V×St):=
 match iu s sz str x,tw x with
 |some new,some k=>
  bif new.all V.one then
  (match a with
  | .bu=>
   bif Nat.beq k 0 then some (.bu,s)else
   bif Nat.ble (k*bytes) bp&&Nat.ble k bp then some (.slice s.next 0 k k sz false,s.alloc (.row new))else none
  | .bM=>
   bif Nat.beq k 0 then some (.bM,s)else
   bif Nat.ble (k*bytes) bp&&Nat.ble k bp then some (.slice s.next 0 k k sz false,s.alloc (.row new))else none
  | .ag row off len z=>bif Nat.beq k 0 then some (.ag row off len z,s)else none
  | .slice b off len cap z ex=>
   bif Nat.beq z sz&&Nat.ble ((len+k)*bytes) bp&&Nat.ble (len+k) bp then
    (bif Nat.ble (len+k) cap then
     (bif Nat.beq k 0 then some (.slice b off len cap z ex,s)else
     (match s.write b (off+len*sz) new with
     |some s' =>some (.slice b off (len+k) cap z ex,s')
     |none=>none))
    else
     (match s.vT b,bH s sz (.slice b off len cap z ex)with
     |some _,some old=>
      let s0:=bif ex then s else s.put b .dead
      some (.slice s.next 0 (len+k) (len+k) sz false,s0.alloc (.row (old++new)))
     |_,_=>none))
   else none
  |_=>none)
  else none
 |_,_=>none
def copyV(s:St)(sz:Nat)(str:Bool)(d x:V):Option (V×St):=
 match iu s sz str x,tw x with
 |some cs,some k=>
  (match d with
  | .bu=>some (.int .i64 0,s)
  | .bM=>some (.int .i64 0,s)
  | .slice b off len _ z _=>bif Nat.beq z sz then
    (match s.write b off (cs.take ((min k len)*sz))with
    |some s' =>some (.int .i64 (min k len:Nat),s')
    |none=>none)
   else none
  |_=>none)
 |_,_=>none
def Ax(env:PT V):GB→Option (Ob×(Nat→V))
 | .alloc zero=>some (.row zero,fun n=> .ptr n 0)
 | .box x=>match x.ev env with
  |some v=>some (.row v.cells,fun n=> .ptr n 0)
  |none=>none
 | .buildSlice sz len zero parts=>match mH env (eF zero len) parts with
  |some cs=>some (.row cs,fun n=> .slice n 0 len len sz true)
  |none=>none
 | .makeMap=>some (.map [] 0,fun n=> .map n)
 | .makeSlice sz bytes zero len cap=>match len.ev env,cap.ev env with
  |some l,some c=>(match asNat c bp with
   |some c=>(match asNat l c with
    |some l=>bif Nat.ble (c*bytes) bp then some (.row (eF zero c),fun n=> .slice n 0 l c sz true)else none
    |none=>none)
   |none=>none)
  |_,_=>none
 | .lV x=>match x.ev env with
  |some (.str b)=>bif Nat.ble b.length bp then some (.uK (b.map gW),fun n=> .slice n 0 b.length b.length 1 false)else none
  |_=>none
def x8(env:PT V)(s:St):xT→Option (V×St)
 | .store n a x=>match a.ev env,x.ev env with
  |some (.ptr b off),some v=>bif Nat.beq v.cells.length n then(match s.write b off v.cells with|some s' =>some (.aV [],s')|none=>none)else none
  |_,_=>none
 | .mapUpdate kk m k x=>match m.ev env,k.ev env,x.ev env with
  |some (.map m),some k,some v=>(match s.get m with
   |some (.map es clock)=>bif plainKey kk k then(match mI kk k es 0 with
    |some (some (i,_))=>some (.aV [],s.put m (.map (k9 i (fun e=>{e with key:=k,val:=v}) es) clock))
    |some none=>some (.aV [],s.put m (.map (es++[{key:=k,val:=v,born:=clock}]) (clock+1)))
    |none=>none)else none
   |_=>none)
  |_,_,_=>none
 | .delete kk m k=>match m.ev env,k.ev env with
  |some .bQ,some k=>bif plainKey kk k then some (.aV [],s)else none
  |some (.map m),some k=>(match s.get m with
   |some (.map es clock)=>bif plainKey kk k then(match mI kk k es 0 with
    |some (some (i,_))=>some (.aV [],s.put m (.map (gN i es) clock))
    |some none=>some (.aV [],s)
    |none=>none)else none
   |_=>none)
  |_,_=>none
 | .append sz bytes str a x=>match a.ev env,x.ev env with
  |some a,some x=>oZ s sz bytes str a x
  |_,_=>none
 | .copy sz str d x=>match d.ev env,x.ev env with
  |some d,some x=>copyV s sz str d x
  |_,_=>none
 | .clear _ _ _=>none
 | .range x=>match x.ev env with
  |some .bQ=>some (.ptr s.next 0,s.alloc (.ga none 0 [] 0))
  |some (.map m)=>(match s.get m with
   |some (.map _ clock)=>some (.ptr s.next 0,s.alloc (.ga (some m) clock [] clock))
   |_=>none)
  |_=>none
section
variable{R:Type}[iw R]
def dV(es:List ME)(since:Nat)(seen:List Nat):List (Option ME):=
 let left:=es.filter fun e=> !seen.contains e.born;let old:=left.filter fun e=>Nat.blt e.born since;let new:=left.filter fun e=>Nat.ble since e.born
 (bif old.isEmpty then[none]else[])++(old++new).map some
def pq(s:St)(b:Nat)(k:V→St→R):R:=
 match s.get b with
 |some (.ga none _ _ _)=>k (.aV [.bool false]) s
 |some (.ga (some m) since seen last)=>(match s.get m with
  |some (.map es clock)=>
   bif !seen.isEmpty&& !es.isEmpty&&es.all (fun e=>Nat.ble last e.born)then iw.fail else
   iw.all (dV es since seen).length fun i=>match(dV es since seen)[i]? with
    |some (some e)=>k (.aV [.bool true,e.key,e.val]) (s.put b (.ga (some m) since (seen++[e.born]) clock))
    |some none=>k (.aV [.bool false]) s
    |none=>iw.fail
  |_=>iw.fail)
 |_=>iw.fail
def dH(M:Nat→String→Option Nat)(F:Nat→List V→St→(V→St→R)→R)(env:PT V)(s:St)(o:jE)(k:V→St→R):R:=
 match o with
 | .s o=>(match cD env s o with|some v=>k v s|none=>iw.fail)
 | .m o=>(match Ax env o with|some (ob,f)=>k (f s.next) (s.alloc ob)|none=>iw.fail)
 | .h o=>(match x8 env s o with|some (v,s')=>k v s' |none=>iw.fail)
 | .call f args=>(match f.ev env,Jr env args with
  |some (.func f first captured),some vs=>F f (first++vs++captured) s k
  |_,_=>iw.fail)
 | .invoke name x args=>(match x.ev env,Jr env args with
  |some (.iface t v),some vs=>(match M t name with
   |some f=>F f (v::vs) s k
   |none=>iw.fail)
  |_,_=>iw.fail)
 | .next x=>(match x.ev env with
  |some (.ptr b 0)=>pq s b k
  |_=>iw.fail)
 | .bad=>iw.fail
def bU(g:Option (Nat×Bool))(env:PT V):Option Bool:=
 match g with
 |none=>some true
 |some (t,want)=>match env.get t with
  |some (.bool b)=>some (b==want)
  |some _=>some false
  |none=>none
def fq(dst:Option Nat)(v:V)(env:PT V):PT V:=
 match dst with
 |some d=>env.set d v
 |none=>env
def eV(M:Nat→String→Option Nat)(F:Nat→List V→St→(V→St→R)→R):List aD→PT V→St→(PT V→St→R)→R
 |[],env,s,k=>k env s
 |o::r,env,s,k=>match bU o.guard env with
  |some true=>dH M F env s o.op fun v s' =>eV M F r (fq o.dst v env) s' k
  |some false=>eV M F r (fq o.dst (.aV []) env) s k
  |none=>iw.fail
def aD.small(o:aD):Bool:=match o.op with| .s _=>true| .m _=>true|_=>false
def within(a b:Nat):Bool:=Nat.beq (Nat.land a b) a
abbrev fE:=List (Nat×fS×PT V×V)
def iV:List (Nat×aD)→Nat→PT V→St→List (Nat×aD)→fE→Option (List (Nat×aD)×Nat×PT V×St×fE)
 |[],done,env,s,left,ah=>some (left.reverse,done,env,s,ah)
 |(i,o)::r,done,env,s,left,ah=>
  bif o.small&&within o.aO done then
   (match bU o.guard env with
   |some true=>(match o.op with
    | .s op=>(match cD env s op with
     |some v=>iV r (Nat.lor done (2 ^ i)) (fq o.dst v env) s left ((i,op,env,v)::ah)
     |none=>none)
    | .m op=>(match Ax env op with
     |some (ob,f)=>iV r (Nat.lor done (2 ^ i)) (fq o.dst (f s.next) env) (s.alloc ob) left ah
     |none=>none)
    |_=>none)
   |some false=>iV r (Nat.lor done (2 ^ i)) (fq o.dst (.aV []) env) s left ah
   |none=>none)
  else iV r done env s ((i,o)::left) ah
def eM:List (Nat×aD)→List (Nat×aD)→Option (Nat×aD×List (Nat×aD))
 |_,[]=>none
 |pre,(i,o)::r=>bif o.small then eM ((i,o)::pre) r else some (i,o,pre.reverse++r)
def recheck(s:St)(aO:Nat):fE→R→R
 |[],r=>r
 |(i,op,env,v)::rest,r=>
  bif Nat.testBit aO i then recheck s aO rest r
  else match cD env s op with
   |some u=>iw.chk u v (recheck s aO rest r)
   |none=>iw.fail
def dM(aO:Nat)(l:fE):fE:=l.filter fun x=> !Nat.testBit aO x.1
def eT(M:Nat→String→Option Nat)(F:Nat→List V→St→(V→St→R)→R):Nat→List (Nat×aD)→Nat→PT V→St→fE→(PT V→St→R)→R
 |0,_,_,_,_,_,_=>iw.fail
 |n+1,todo,done,env,s,ah,k=>
  match iV todo done env s [] ah with
  |none=>iw.fail
  |some (todo,done,env,s,ah)=>
   match eM [] todo with
   |none=>(match todo with|[]=>k env s|_=>iw.fail)
   |some (i,o,rest)=>
    bif within o.aO done&&rest.all (fun x=>x.2.small||Nat.testBit x.2.aO i)then
     (match bU o.guard env with
     |some true=>dH M F env s o.op fun v s' =>recheck s' o.aO ah
       (eT M F n rest (Nat.lor done (2 ^ i)) (fq o.dst v env) s' (dM o.aO ah) k)
     |some false=>eT M F n rest (Nat.lor done (2 ^ i)) (fq o.dst (.aV []) env) s ah k
     |none=>iw.fail)
    else iw.fail
def bq:List aD→Nat→List (Nat×aD)
 |[],_=>[]
 |o::r,i=>(i,o)::bq r (i+1)
def firsts(env:PT V):Nat→List V→Option (List V)
 |0,acc=>some acc
 |n+1,acc=>match env.get n with
  |some v=>firsts env n (v::acc)
  |none=>none
def cu:List V→Nat→PT V→PT V
 |[],_,env=>env
 |v::vs,i,env=>cu vs (i+1) (env.set i v)
def CN(env:PT V)(s:St):tZ→Option V
 | .t n=>env.get n
 | .cell a n=>match env.get a with
  |some (.ptr b off)=>(match s.row b with|some cs=>dZ n cs off|none=>none)
  |_=>none
def tI(env:PT V)(s:St):List tZ→Option (List V)
 |[]=>some []
 |r::rs=>match CN env s r with
  |some v=>(match tI env s rs with|some vs=>some (v::vs)|none=>none)
  |none=>none
def ct(env:PT V)(s:St)(rs:List tZ):Option V:=
 match tI env s rs with
 |some [v]=>some v
 |some vs=>some (.aV vs)
 |none=>none
def fZ(C:Nat→Option ck)(M:Nat→String→Option Nat):Nat→aj→PT V→St→(Ex→PT V→St→R)→R
 |0,_,_,_,_=>iw.fail
 |n+1,c,env,s,k=>
  let F:Nat→List V→St→(V→St→R)→R:=fun f args s k=>match C f with
   |none=>iw.fail
   |some fn=>
    bif Nat.ble args.length fn.ntmps then
     fZ C M n fn.body (cu args 0 .e) s fun e env s=>match e with
      | .exit _=>iw.fail
      |_=>(match ct env s fn.results with|some v=>k v s|none=>iw.fail)
    else iw.fail
  match c with
  | .skip=>k .normal env s
  | .region ops=>eV M F ops env s fun env s=>k .normal env s
  | .draw ops=>eT M F (ops.length+1) (bq ops 0) 0 env s [] fun env s=>k .normal env s
  | .seq a b=>fZ C M n a env s fun e env s=>match e with
   | .normal=>fZ C M n b env s k
   | .exit i=>k (.exit i) env s
   | .ret=>k .ret env s
  | .cond x a b=>(match x.ev env with
   |some (.bool true)=>fZ C M n a env s k
   |some (.bool false)=>fZ C M n b env s k
   |_=>iw.fail)
  | .block id b=>fZ C M n b env s fun e env s=>match e with
   | .normal=>k .normal env s
   | .exit i=>bif Nat.beq i id then k .normal env s else k (.exit i) env s
   | .ret=>k .ret env s
  | .loop b=>fZ C M n b env s fun e env s=>match e with
   | .normal=>fZ C M n (.loop b) env s k
   | .exit i=>k (.exit i) env s
   | .ret=>k .ret env s
  | .exit i=>k (.exit i) env s
  | .ret=>k .ret env s
  | .bad=>iw.fail
  | .uG m p=>(match firsts env m []with
   |some vs=>(match p vs s with
    |some (v,s)=>k .ret (env.set 0 v) s
    |none=>iw.fail)
   |none=>iw.fail)
def Ww(C:Nat→Option ck)(M:Nat→String→Option Nat)(n f:Nat)(args:List V)(s:St)(k:V→St→R):R:=
 match C f with
 |none=>iw.fail
 |some fn=>
  bif Nat.ble args.length fn.ntmps then
   fZ C M n fn.body (cu args 0 .e) s fun e env s=>match e with
    | .exit _=>iw.fail
    |_=>(match ct env s fn.results with|some v=>k v s|none=>iw.fail)
  else iw.fail
end
end Go.RE
namespace Go.RE
def qQ:Value→Option V
 | .bool b=>some (.bool b)
 | .int k n=>some (.int k n)
 | .string s=>some (.str s.data.toList)
 | .pointer none=>some .bA
 | .slice none 0 0=>some .bu
 | .map none=>some .bQ
 | .nilFunc=>some .di
 | .nilIface=>some .cO
 |_=>none
def ofL(f:Value→Option V):List Value→Option (List V)
 |[]=>some []
 |x::xs=>match f x with
  |some v=>(match ofL f xs with|some vs=>some (v::vs)|none=>none)
  |none=>none
def ofValue:Value→Option V
 | .agg cs=>(match ofL qQ cs.toList with|some l=>some (.agg l)|none=>none)
 | .iface t v=>(match qQ v with|some x=>some (.iface t x)|none=>none)
 |v=>qQ v
def cB:Operand→Option bJ
 | .tmp t=>some (.t t)
 | .const v=>(match ofValue v with|some x=>some (.c x)|none=>none)
 | .func f=>some (.c (.func f [] []))
 | .global _=>none
def mY:List Operand→Option (List bJ)
 |[]=>some []
 |x::xs=>match cB x with
  |some v=>(match mY xs with|some vs=>some (v::vs)|none=>none)
  |none=>none
def mX:Option Operand→Option (Option bJ)
 |none=>some none
 |some x=>match cB x with
  |some v=>some (some v)
  |none=>none
section
variable(P:Program)
def zeroOf(t:TypeId):Option V:=match P.info? t with
 |some i=>(match i.zero with|some v=>ofValue v|none=>none)
 |none=>none
def gd(t:TypeId):Option Nat:=match P.info? t with
 |some i=>some i.size
 |none=>none
def we(t:TypeId):Option Nat:=match P.info? t with
 |some i=>some i.bytes
 |none=>none
def spread(t:TypeId):Option (Option Nat):=match P.underlying t with
 |some (.struct _)=>(match gd P t with|some n=>some (some n)|none=>none)
 |some (.array _ _)=>(match gd P t with|some n=>some (some n)|none=>none)
 |some _=>some none
 |none=>none
def dU:Operand→Bool
 | .const _=>true
 |_=>false
def flatK:List Field→Option (List (Nat×gR))
 |[]=>some []
 |f::fs=>bif f.name== "_" then none else
  match P.underlying f.type,flatK fs with
  |some .bool,some r=>some ((f.offset,.bool)::r)
  |some (.int _),some r=>some ((f.offset,.int)::r)
  |some .string,some r=>some ((f.offset,.str)::r)
  |_,_=>none
def OW(op:BinOp)(t:TypeId)(x y:Operand):gR:=
 match op with
 | .eql| .neq=>
  (match P.underlying t with
  |some .bool=> .bool
  |some (.int _)=> .int
  |some .string=> .str
  |some (.pointer _)=> .bA
  |some (.slice _)=> .bu
  |some (.map _ _)=> .bQ
  |some (.func _ _ _)=> .di
  |some (.interface _)=> .iface (!(dU x||dU y))
  |some (.struct fs)=>(match flatK P fs.toList with
   |some ks=>bif P.stoodInHeld t||P.eqGuardType P.depth t then .no else .flat ks
   |none=> .no)
  |_=> .no)
 |_=> .no
def places:List Field→Option (List (Nat×Nat))
 |[]=>some []
 |f::fs=>match gd P f.type,places fs with
  |some n,some r=>some ((f.offset,n)::r)
  |_,_=>none
def kS(place:Nat→Option (Nat×Nat)):List (Nat×Operand)→Option (List (Nat×Nat×bJ))
 |[]=>some []
 |(i,x)::r=>match place i,cB x,kS place r with
  |some (o,n),some x,some r=>some ((o,n,x)::r)
  |_,_,_=>none
def kT(t:TypeId):Option gR:=match P.underlying t with
 |some .bool=>some .bool
 |some (.int _)=>some .int
 |some .string=>some .str
 |_=>none
def Hs(t:TypeId):Bool:=match P.underlying t with
 |some (.int .u8)=>true
 |_=>false
def nP(t:TypeId):Option TypeId:=match P.underlying t with
 |some (.slice e)=>some e
 |_=>none
def jH(b:Builtin)(argTypes:List TypeId)(args:List bJ):jE:=
 match b,argTypes,args with
 | .len,t::_,x::_=>(match P.underlying t with
  |some .string=> .s (.len 0 x)
  |some (.slice _)=> .s (.len 1 x)
  |some (.map _ _)=> .s (.len 2 x)
  |_=> .bad)
 | .cap,t::_,x::_=>(match P.underlying t with
  |some (.slice _)=> .s (.cap x)
  |_=> .bad)
 | .max,_,xs=> .s (.max xs)
 | .min,_,xs=> .s (.min xs)
 | .append,[t,u],[a,x]=>(match nP P t,P.underlying u with
  |some e,some ud=>(match ud,gd P e,we P e,zeroOf P e with
   | .slice _,some sz,some bs,some z=>bif Nat.beq z.cells.length sz then .h (.append sz bs false a x)else .bad
   | .string,some sz,some bs,some z=>bif Nat.beq z.cells.length sz then .h (.append sz bs true a x)else .bad
   |_,_,_,_=> .bad)
  |_,_=> .bad)
 | .copy,[t,u],[d,x]=>(match nP P t,P.underlying u with
  |some e,some ud=>(match ud,gd P e with
   | .slice _,some sz=> .h (.copy sz false d x)
   | .string,some sz=> .h (.copy sz true d x)
   |_,_=> .bad)
  |_,_=> .bad)
 | .delete,t::_,[m,k]=>(match P.underlying t with
  |some (.map kt _)=>(match kT P kt with|some kk=> .h (.delete kk m k)|none=> .bad)
  |_=> .bad)
 |_,_,_=> .bad
def cop(o:Op):jE:=
 match o with
 | .move x| .assign x=>(match cB x with|some x=> .s (.bt x)|none=> .bad)
 | .pick c a b=>(match cB c,cB a,cB b with|some c,some a,some b=> .s (.pick c a b)|_,_,_=> .bad)
 | .alloc e=>(match zeroOf P e with|some z=> .m (.alloc z.cells)|none=> .bad)
 | .box _ x=>(match cB x with|some x=> .m (.box x)|none=> .bad)
 | .build t parts=>(match P.underlying t with
  |some (.struct fs)=>(match zeroOf P t,places P fs.toList with
   |some z,some ps=>(match kS (fun i=>ps[i]?) parts.toList with
    |some l=> .s (.build z.cells l)
    |none=> .bad)
   |_,_=> .bad)
  |some (.array _ e)=>(match zeroOf P t,gd P e with
   |some z,some sz=>(match kS (fun i=>some (i*sz,sz)) parts.toList with
    |some l=> .s (.build z.cells l)
    |none=> .bad)
   |_,_=> .bad)
  |_=> .bad)
 | .buildSlice t len parts=>(match nP P t with
  |some e=>(match gd P e,zeroOf P e with
   |some sz,some z=>bif Nat.ble (len*sz) 16777216&&Nat.beq z.cells.length sz&&Nat.ble 1 sz then
     (match kS (fun i=>some (i*sz,sz)) parts.toList with
     |some l=> .m (.buildSlice sz len z.cells l)
     |none=> .bad)
    else .bad
   |_,_=> .bad)
  |none=> .bad)
 | .load t a=>(match spread P t,cB a with|some n,some a=> .s (.load n a)|_,_=> .bad)
 | .store t a x=>(match gd P t,cB a,cB x with|some n,some a,some x=> .h (.store n a x)|_,_,_=> .bad)
 | .nilCheck x=>(match cB x with|some x=> .s (.nilCheck x)|none=> .bad)
 | .binOp op t x y _=>(match cB x,cB y with|some a,some b=> .s (.bin op (OW P op t x y) a b)|_,_=> .bad)
 | .unOp op _ x=>(match cB x with|some x=> .s (.un op x)|none=> .bad)
 | .convert src dst x=>(match P.underlying src,P.underlying dst,cB x with
  |some _,some (.int k),some x=> .s (.eO k x)
  |some .string,some .string,some x=> .s (.th x)
  |some (.slice e),some .string,some x=>bif Hs P e then .s (.toStr x)else .bad
  |some .string,some (.slice e),some x=>bif Hs P e then .m (.lV x)else .bad
  |_,_,_=> .bad)
 | .makeInterface t x=>(match P.underlying t,cB x with
  |some (.interface _),_=> .bad
  |some _,some x=> .s (.nM t x)
  |_,_=> .bad)
 | .makeFunc (.func f) first captured=>(match mY first.toList,mY captured.toList with
  |some a,some b=> .s (.jf f a b)
  |_,_=> .bad)
 | .makeMap t r=>(match P.underlying t,r with
  |some (.map _ _),none=> .m .makeMap
  |some (.map _ _),some (.const (.int _ _))=> .m .makeMap
  |_,_=> .bad)
 | .makeSlice t l c=>(match nP P t with
  |some e=>(match gd P e,we P e,zeroOf P e,cB l,cB c with
   |some sz,some bs,some z,some l,some c=>bif Nat.beq z.cells.length sz&&Nat.ble 1 sz then .m (.makeSlice sz bs z.cells l c)else .bad
   |_,_,_,_,_=> .bad)
  |none=> .bad)
 | .slice t x lo hi mx=>(match P.underlying t,cB x,mX lo,mX hi,mX mx with
  |some .string,some x,some lo,some hi,some none=> .s (.nq x lo hi)
  |some (.slice e),some x,some lo,some hi,some mx=>(match gd P e with
   |some sz=>bif mx.isSome&& !hi.isSome then .bad else .s (.slice sz x lo hi mx)
   |none=> .bad)
  |some (.array n e),some x,some lo,some hi,some none=>(match gd P e with
   |some sz=>bif Nat.ble n 16777216 then .s (.iP n sz x lo hi)else .bad
   |none=> .bad)
  |_,_,_,_,_=> .bad)
 | .fieldAddr t x f=>(match P.underlying t,cB x with
  |some (.struct fs),some x=>(match fs[f]? with
   |some f=>(match gd P f.type with
    |some (_+1)=> .s (.fieldAddr f.offset x)
    |_=> .bad)
   |none=> .bad)
  |_,_=> .bad)
 | .field t x f=>(match P.underlying t,cB x with
  |some (.struct fs),some x=>(match fs[f]? with
   |some f=>(match spread P f.type with
    |some n=> .s (.field f.offset n x)
    |none=> .bad)
   |none=> .bad)
  |_,_=> .bad)
 | .indexAddr t x i=>(match P.underlying t,cB x,cB i with
  |some (.slice e),some x,some i=>(match gd P e with|some sz=> .s (.indexAddr sz x i)|none=> .bad)
  |some (.array n e),some x,some i=>(match gd P e with|some sz=> .s (.mL n sz x i)|none=> .bad)
  |_,_,_=> .bad)
 | .index t x i=>(match P.underlying t,cB x,cB i with
  |some .string,some x,some i=> .s (.index x i)
  |some (.array n e),some x,some i=>(match gd P e,spread P e with
   |some 1,some none=> .s (.CB n x i)
   |_,_=> .bad)
  |_,_,_=> .bad)
 | .lookup t x i ok=>(match P.underlying t,cB x,cB i with
  |some (.map k e),some x,some i=>(match zeroOf P e,kT P k with
   |some z,some kk=> .s (.lookup kk z ok x i)
   |_,_=> .bad)
  |_,_,_=> .bad)
 | .mapUpdate t m k x| .insert t m k x=>(match P.underlying t,cB m,cB k,cB x with
  |some (.map kt _),some m,some k,some x=>(match kT P kt with|some kk=> .h (.mapUpdate kk m k x)|none=> .bad)
  |_,_,_,_=> .bad)
 | .extract x i=>(match cB x with|some x=> .s (.extract i x)|none=> .bad)
 | .typeAssert x _ t true=>(match P.underlying t,cB x,zeroOf P t with
  |some (.interface _),_,_=> .bad
  |some _,some x,some z=> .s (.mB t z x)
  |_,_,_=> .bad)
 | .range t x=>(match P.underlying t,cB x with
  |some (.map _ _),some x=> .h (.range x)
  |_,_=> .bad)
 | .entry x=>(match cB x with|some x=> .s (.entry x)|none=> .bad)
 | .next x false=>(match cB x with|some x=> .next x|none=> .bad)
 | .call c=>(match c.callee,mY c.args.toList with
  | .value f,some args=>(match cB f with|some f=> .call f args|none=> .bad)
  | .builtin b,some args=>jH P b c.argTypes.toList args
  | .invoke r m,some args=>(match cB r with|some r=> .invoke m r args|none=> .bad)
  |_,none=> .bad)
 |_=> .bad
def nR(acc:List Nat)(o:Oper):Nat:=
 o.after.toList.foldl (fun s e=>bif Region.binds .any e then Nat.lor (Nat.lor s (2 ^ e.on)) (acc.getD e.on 0)else s) 0
def guardOf(ops:List Oper)(o:Oper):Option (Option (Nat×Bool)):=
 match o.guard with
 |none=>some none
 |some (j,want)=>match ops[j]? with
  |some p=>(match p.dst with|some d=>some (some (d,want))|none=>none)
  |none=>none
def yC(n:Nat)(all:List Oper):List Oper→List Nat→Option (List aD)
 |[],_=>some []
 |o::r,acc=>
  match guardOf all o,yC n all r (acc++[nR acc o])with
  |some g,some l=>
   bif(match o.dst with|some d=>Nat.blt d n|none=>true)then some ({dst:=o.dst,op:=cop P o.op,guard:=g,aO:=nR acc o}::l)else none
  |_,_=>none
def nt(o:Oper)(all:List Oper):List Nat:=
 (o.op.operands.toList.filterMap fun| .tmp t=>some t|_=>none)++
 (match o.guard with
  |some (g,_)=>((all[g]?).bind (·.dst)).toList
  |none=>[])
def Ap(all:List Oper)(cs:List aD):Bool:=
 (List.range all.length).all fun i=>
  (match all[i]?,cs[i]? with
  |some o,some _=>
   o.after.toList.all (fun e=> !Region.binds .any e||Nat.blt e.on i)&&
   (List.range all.length).all (fun j=>Nat.beq i j||
    (match all[j]?,cs[j]? with
    |some p,some d=>
     (match p.dst with
     |none=>true
     |some t=>
      (match o.dst with|some u=> !Nat.beq t u|none=>true)&&
      (!(nt o all).elem t||Nat.testBit ((cs.getD i default).aO) j||Nat.testBit d.aO i))
    |_,_=>true))
  |_,_=>false)
def gX(n:Nat):Code→aj
 | .skip=> .skip
 | .region _ ops draw=>(match yC P n ops.toList ops.toList []with
  |some l=>bif draw then(bif Ap ops.toList l then .draw l else .bad)else .region l
  |none=> .bad)
 | .seq a b=> .seq (gX n a) (gX n b)
 | .cond c a b=>(match cB c with|some c=> .cond c (gX n a) (gX n b)|none=> .bad)
 | .block id b=> .block id (gX n b)
 | .loop b=> .loop (gX n b)
 | .exit id=> .exit id
 | .ret=> .ret
 | .scope b=> .seq (gX n b) .skip
 | .label _=> .skip
 |_=> .bad
def qz:List ResultVar→Option (List tZ)
 |[]=>some []
 | .tmp t::r=>(match qz r with|some l=>some (.t t::l)|none=>none)
 | .cell a t::r=>(match spread P t,qz r with|some n,some l=>some (.cell a n::l)|_,_=>none)
def qd7(f:Nat):Option ck:=
 match P.funcs[f]? with
 |none=>none
 |some fn=>match fn.body with
  |none=>none
  |some b=>bif fn.name== "runtime.NumGoroutine" then none else
   match qz P fn.results.toList with
   |some rs=>some {ntmps:=fn.ntmps,results:=rs,body:=gX P fn.ntmps b}
   |none=>none
def methodOf(t:Nat)(name:String):Option Nat:=
 match P.info? t with
 |none=>none
 |some i=>match i.methods.find? (·.name==name)with
  |none=>none
  |some m=>bif m.path.isEmpty then(match m.func,P.underlying t with
   |some (f,true),some (.pointer _)=>some f
   |some (_,false),some (.pointer _)=>none
   |some (f,false),some _=>some f
   |_,_=>none)else none
end
end Go.RE
namespace Go.RE
abbrev Ren:=Nat→Option (Nat×Nat×Nat)
def Ren.le(ρ ρ' :Ren):Prop:=∀ n x,ρ n=some x→ρ' n=some x
inductive az(w0:World)(ρ:Ren):V→Value→Prop
 |bool (b:Bool):az w0 ρ (.bool b) (.bool b)
 |int (k:IntKind) (n:Int):az w0 ρ (.int k n) (.int k n)
 |str {l:List UInt8} {s:ByteArray} (h:s.data.toList=l):az w0 ρ (.str l) (.string s)
 |bA:az w0 ρ .bA (.pointer none)
 |ptr {b off r o lim:Nat} (h:ρ b=some (r,o,lim)):az w0 ρ (.ptr b off) (.pointer (some ⟨r,o+off,none⟩))
 |eD {row:List V} {off r o:Nat} (c:Nat→Value) (hr:row≠[]→r<w0.heap.size) (hc:∀ i,i<row.length→w0.cell? ⟨r,o+i,none⟩=some (c i))
   (hv:∀ i (h:i<row.length),az w0 ρ row[i] (c i)):az w0 ρ (.eD row off) (.pointer (some ⟨r,o+off,none⟩))
 |bu:az w0 ρ .bu (.slice none 0 0)
 |bM {a:Addr}:az w0 ρ .bM (.slice (some a) 0 0)
 |slice {b off len cap sz:Nat} {ex:Bool} {r o lim:Nat} {a:Addr} {cap' :Nat} (h:ρ b=some (r,o,lim)) (h1:cap≤cap') (h2:ex=true→cap' =cap)
   (h3:len≤cap) (h4:cap' =0∨(a=⟨r,o+off,none⟩∧o+off+cap'*sz≤lim)) (h5:cap'≤9223372036854775807):az w0 ρ (.slice b off len cap sz ex) (.slice (some a) len cap')
 |ag {row:List V} {off len sz r o:Nat} {a:Addr} {cap' :Nat} (c:Nat→Value) (hr:row≠[]→r<w0.heap.size) (hc:∀ i,i<row.length→w0.cell? ⟨r,o+i,none⟩=some (c i))
   (hv:∀ i (h:i<row.length),az w0 ρ row[i] (c i)) (h3:len≤cap') (h4:cap' =0∨a=⟨r,o+off,none⟩):az w0 ρ (.ag row off len sz) (.slice (some a) len cap')
 |bQ:az w0 ρ .bQ (.map none)
 |map {b r o lim:Nat} (h:ρ b=some (r,o,lim)):az w0 ρ (.map b) (.map (some r))
 |di:az w0 ρ .di .nilFunc
 |func {f:Nat} {a b:List V} {a' b' :Array Value} (ha:a.length=a'.size) (hb:b.length=b'.size)
   (va:∀ i (h:i<a.length) (h' :i<a'.size),az w0 ρ a[i] a'[i]) (vb:∀ i (h:i<b.length) (h' :i<b'.size),az w0 ρ b[i] b'[i]):az w0 ρ (.func f a b) (.func (.func f) a' b')
 |cO:az w0 ρ .cO .nilIface
 |iface {t:Nat} {v:V} {v' :Value} (h:az w0 ρ v v'):az w0 ρ (.iface t v) (.iface t v')
 |agg {a:List V} {a' :Array Value} (ha:a.length=a'.size) (va:∀ i (h:i<a.length) (h' :i<a'.size),az w0 ρ a[i] a'[i]):az w0 ρ (.agg a) (.agg a')
 |aV {a:List V} {a' :Array Value} (ha:a.length=a'.size) (va:∀ i (h:i<a.length) (h' :i<a'.size),az w0 ρ a[i] a'[i]):az w0 ρ (.aV a) (.tuple a')
theorem az.mono{w0:World}{ρ ρ' :Ren}(hρ:ρ.le ρ'){v:V}{x:Value}(h:az w0 ρ v x):az w0 ρ' v x:=by
 induction h with
 |bool b=>exact .bool b
 |int k n=>exact .int k n
 |str h=>exact .str h
 |bA=>exact .bA
 |ptr h=>exact .ptr (hρ _ _ h)
 |eD c hr hc _ ih=>exact .eD c hr hc ih
 |bu=>exact .bu
 |bM=>exact .bM
 |slice h h1 h2 h3 h4 h5=>exact .slice (hρ _ _ h) h1 h2 h3 h4 h5
 |ag c hr hc _ h3 h4 ih=>exact .ag c hr hc ih h3 h4
 |bQ=>exact .bQ
 |map h=>exact .map (hρ _ _ h)
 |di=>exact .di
 |func ha hb _ _ iha ihb=>exact .func ha hb iha ihb
 |cO=>exact .cO
 |iface _ ih=>exact .iface ih
 |agg ha _ ih=>exact .agg ha ih
 |aV ha _ ih=>exact .aV ha ih
def aR(w0:World)(ρ:Ren)(a:List V)(b:List Value):Prop:=a.length=b.length∧∀ i (h:i<a.length) (h' :i<b.length),az w0 ρ a[i] b[i]
theorem aR.nil{w0:World}{ρ:Ren}:aR w0 ρ [] []:=⟨rfl,fun i h=>by simp at h⟩
theorem aR.cons{w0:World}{ρ:Ren}{a:V}{b:Value}{as:List V}{bs:List Value}(h:az w0 ρ a b)(hs:aR w0 ρ as bs):aR w0 ρ (a::as) (b::bs):=
 ⟨by simp[hs.1],fun i h1 h2=>by
  cases i with
  |zero=>simpa using h
  |succ i=>simpa using hs.2 i (by simpa using h1) (by simpa using h2)⟩
theorem aR.append{w0:World}{ρ:Ren}{a c:List V}{b d:List Value}(h:aR w0 ρ a b)(hs:aR w0 ρ c d):aR w0 ρ (a++c) (b++d):=
 ⟨by simp[h.1,hs.1],fun i h1 h2=>by
  have e:=h.1;by_cases hi:i<a.length
  ·rw[List.getElem_append_left hi,List.getElem_append_left (by omega)];exact h.2 i hi (by omega)
  ·simp only[lZ]at h1 h2;rw[List.getElem_append_right (by omega),List.getElem_append_right (by omega)];have:=hs.2 (i - a.length) (by omega) (by omega);simpa[e]using this⟩
theorem aR.take{w0:World}{ρ:Ren}{a:List V}{b:List Value}(n:Nat)(h:aR w0 ρ a b):aR w0 ρ (a.take n) (b.take n):=
 ⟨by simp[h.1],fun i h1 h2=>by
  simp only[List.length_take]at h1 h2;simpa using h.2 i (by omega) (by omega)⟩
theorem aR.drop{w0:World}{ρ:Ren}{a:List V}{b:List Value}(n:Nat)(h:aR w0 ρ a b):aR w0 ρ (a.drop n) (b.drop n):=
 ⟨by simp[h.1],fun i h1 h2=>by
  simp only[List.length_drop]at h1 h2;simpa using h.2 (n+i) (by omega) (by omega)⟩
theorem aR.of_array{w0:World}{ρ:Ren}{a:List V}{b:Array Value}(h:a.length=b.size)(hv:∀ i (h:i<a.length) (h' :i<b.size),az w0 ρ a[i] b[i]):aR w0 ρ a b.toList:=
 ⟨by simpa using h,fun i h1 h2=>by simpa using hv i h1 (by simpa using h2)⟩
theorem aR.get{w0:World}{ρ:Ren}{a:List V}{b:List Value}(h:aR w0 ρ a b){i:Nat}{v:V}(hv:a[i]? =some v):∃ x,b[i]? =some x∧az w0 ρ v x:=by
 obtain⟨hi,rfl⟩:=bn.1 hv;exact⟨b[i]'(h.1▸hi),bP _,h.2 i hi (h.1▸hi)⟩
theorem aR.dY{w0:World}{ρ:Ren}{b:List Value}(h:aR w0 ρ [] b):b=[]:=by
 have:=h.1;simp at this;exact jT this.symm
theorem aR.bx{w0:World}{ρ:Ren}{a:V}{as:List V}{b:List Value}(h:aR w0 ρ (a::as) b):∃ x xs,b=x::xs∧az w0 ρ a x∧aR w0 ρ as xs:=by
 cases b with
 |nil=>have:=h.1;simp at this
 |cons x xs=>
  refine⟨x,xs,rfl,?_,?_,fun i h1 h2=> ?_⟩
  ·exact h.2 0 (by simp) (by simp)
  ·have:=h.1;simpa using this
  ·exact h.2 (i+1) (by simpa using h1) (by simpa using h2)
theorem az.zX{w0:World}{ρ:Ren}{a:List V}{b:List Value}(h:aR w0 ρ a b):az w0 ρ (.agg a) (.agg b.toArray):=
 .agg (by simpa using h.1) fun i h1 h2=>by simpa using h.2 i h1 (by simpa using h2)
theorem az.kN{w0:World}{ρ:Ren}{a:List V}{b:List Value}(h:aR w0 ρ a b):az w0 ρ (.aV a) (.tuple b.toArray):=
 .aV (by simpa using h.1) fun i h1 h2=>by simpa using h.2 i h1 (by simpa using h2)
theorem az.cells{w0:World}{ρ:Ren}{v:V}{x:Value}(h:az w0 ρ v x):aR w0 ρ v.cells x.cells.toList:=by
 cases h with
 |agg ha va=>exact aR.of_array ha va
 |bool b=>exact aR.cons (.bool b) .nil
 |int k n=>exact aR.cons (.int k n) .nil
 |str h=>exact aR.cons (.str h) .nil
 |bA=>exact aR.cons .bA .nil
 |ptr h=>exact aR.cons (.ptr h) .nil
 |eD c hr hc hv=>exact aR.cons (.eD c hr hc hv) .nil
 |bu=>exact aR.cons .bu .nil
 |bM=>exact aR.cons .bM .nil
 |slice h h1 h2 h3 h4 h5=>exact aR.cons (.slice h h1 h2 h3 h4 h5) .nil
 |ag c hr hc hv h3 h4=>exact aR.cons (.ag c hr hc hv h3 h4) .nil
 |bQ=>exact aR.cons .bQ .nil
 |map h=>exact aR.cons (.map h) .nil
 |di=>exact aR.cons .di .nil
 |func ha hb va vb=>exact aR.cons (.func ha hb va vb) .nil
 |cO=>exact aR.cons .cO .nil
 |iface h=>exact aR.cons (.iface h) .nil
 |aV ha va=>exact aR.cons (.aV ha va) .nil
theorem az.one{w0:World}{ρ:Ren}{v:V}{x:Value}(h:az w0 ρ v x)(h1:v.one=true):(∀ c,x≠.agg c)∧(∀ c,x≠.tuple c):=by
 cases h<;>simp[V.one]at h1⊢
def iK(w0:World)(ρ:Ren)(o lim:Nat):Option Ob→Option Obj→Prop
 |some (.row cs),x=>∃ c t fr,x=some (.cells c t fr)∧c.size=lim∧o+cs.length≤lim∧(∀ j,j≤lim→¬(fr.1≤j∧j<fr.2))∧
   ∀ i (h:i<cs.length),∃ v,c[o+i]? =some v∧az w0 ρ cs[i] v
 |some (.uK cs),x=>∃ c t fr,x=some (.cells c t fr)∧c.size=lim∧o+cs.length≤lim∧(∀ j,j<lim→¬(fr.1≤j∧j<fr.2))∧
   ∀ i (h:i<cs.length),∃ v,c[o+i]? =some v∧az w0 ρ cs[i] v
 |some (.map es clock),x=>∃ es',x=some (.map es' clock)∧es.length=es'.size∧
   ∀ i (h:i<es.length) (h' :i<es'.size),az w0 ρ es[i].key es'[i].key∧az w0 ρ es[i].val es'[i].val∧es[i].born=es'[i].born
 |some (.ga m since seen stepped),x=>∃ m',x=some (.mapIter m' since seen.toArray stepped)∧
   (match m with|none=>m' =none|some n=>∃ r o lim,ρ n=some (r,o,lim)∧m' =some r)∧o=0
 |some .dead,_=>True
 |none,_=>True
def live:Option Ob→Prop
 |some .dead=>False
 |none=>False
 |_=>True
theorem iK.mono{w0:World}{ρ ρ' :Ren}(hρ:ρ.le ρ'){o lim:Nat}{ob:Option Ob}{x:Option Obj}(h:iK w0 ρ o lim ob x):iK w0 ρ' o lim ob x:=by
 cases ob with
 |none=>trivial
 |some ob=>
  cases ob with
  |dead=>trivial
  |row cs=>
   obtain⟨c,t,fr,e1,e2,e3,e4,e5⟩:=h;exact⟨c,t,fr,e1,e2,e3,e4,fun i hi=>let⟨v,a,b⟩:=e5 i hi;⟨v,a,b.mono hρ⟩⟩
  |uK cs=>
   obtain⟨c,t,fr,e1,e2,e3,e4,e5⟩:=h;exact⟨c,t,fr,e1,e2,e3,e4,fun i hi=>let⟨v,a,b⟩:=e5 i hi;⟨v,a,b.mono hρ⟩⟩
  |map es clock=>
   obtain⟨es',e1,e2,e3⟩:=h;exact⟨es',e1,e2,fun i h1 h2=>⟨(e3 i h1 h2).1.mono hρ,(e3 i h1 h2).2.1.mono hρ,(e3 i h1 h2).2.2⟩⟩
  |ga m since seen stepped=>
   obtain⟨m',e1,e2,e3⟩:=h;refine⟨m',e1,?_,e3⟩;cases m with
   |none=>exact e2
   |some n=>obtain⟨r,o,lim,a,b⟩:=e2;exact⟨r,o,lim,hρ _ _ a,b⟩
structure Rel(w0:World)(ρ:Ren)(s:St)(w:World):Prop where
 old:∀ r,r<w0.heap.size→w.heap[r]? =w0.heap[r]?
 size:w0.heap.size≤w.heap.size
 os:w.os=w0.os
 output:w.output=w0.output
 dom:∀ n r o lim,ρ n=some (r,o,lim)→n<s.next∧w0.heap.size≤r∧r<w.heap.size
 fresh:∀ n,s.next≤n→s.get n=none
 ob:∀ n r o lim,ρ n=some (r,o,lim)→iK w0 ρ o lim (s.get n) w.heap[r]?
 inj:∀ n m r o lim o' lim',ρ n=some (r,o,lim)→ρ m=some (r,o',lim')→live (s.get n)→live (s.get m)→n=m
theorem iT{st:St}{b:Nat}{r:List V}(h:st.get b=some (.row r)):st.row b=some r:=by unfold St.row;rw[h]
theorem wL{st st' :St}{b:Nat}(h:st'.get b=st.get b):st'.row b=st.row b:=by unfold St.row;rw[h]
theorem QJ{st:St}{b:Nat}{r:List V}(h:st.row b=some r):∃ o,st.get b=some o:=by
 unfold St.row at h;cases hg:st.get b with
 |none=>rw[hg]at h;cases h
 |some o=>exact⟨o,rfl⟩
theorem rH{s:St}{b:Nat}{cs:List V}(h:s.vT b=some cs):s.get b=some (.row cs):=by
 unfold St.vT at h;split at h
 ·rename_i hg;simp at h;subst h;exact hg
 ·simp at h
theorem qF{s:St}{b:Nat}{cs:List V}(h:s.get b=some (.row cs)):s.vT b=some cs:=by
 unfold St.vT;rw[h]
theorem Rel.O1{w0:World}{ρ:Ren}{s:St}{w:World}(h:Rel w0 ρ s w){b r o lim:Nat}{cs:List V}(e:ρ b=some (r,o,lim))(hs:s.row b=some cs):
  ∃ c t fr,w.heap[r]? =some (.cells c t fr)∧c.size=lim∧o+cs.length≤lim∧(∀ j,j<lim→¬(fr.1≤j∧j<fr.2))∧∀ i (h:i<cs.length),∃ v,c[o+i]? =some v∧az w0 ρ cs[i] v:=by
 have ho:=h.ob b r o lim e;unfold St.row at hs;split at hs
 ·rename_i cs' hg;simp only[ai]at hs;subst hs;rw[hg]at ho;obtain⟨c,t,fr,h1,h2,h3,h4,h5⟩:=ho;exact⟨c,t,fr,h1,h2,h3,fun j hj=>h4 j (Nat.le_of_lt hj),h5⟩
 ·rename_i cs' hg;simp only[ai]at hs;subst hs;rw[hg]at ho;exact ho
 ·cases hs
structure jO(ρ:Ren)(s:St)(w:World)(ρ' :Ren)(s' :St)(w' :World):Prop where
 next:s.next≤s'.next
 X9:ρ.le ρ'
 new:∀ n x,ρ n=none→ρ' n=some x→s.next≤n
 Cv:w.heap.size≤w'.heap.size
 sk:∀ n,n<s.next→ρ n=none→s'.get n=s.get n
 wk:∀ r,r<w.heap.size→(∀ n x,ρ n=some x→x.1≠r)→w'.heap[r]? =w.heap[r]?∧∀ n x,ρ' n=some x→x.1≠r
theorem Ren.le_refl(ρ:Ren):ρ.le ρ:=fun _ _ h=>h
theorem Ren.le_trans{a b c:Ren}(h:a.le b)(h' :b.le c):a.le c:=fun n x e=>h' n x (h n x e)
theorem jO.refl(ρ:Ren)(s:St)(w:World):jO ρ s w ρ s w:=
 ⟨aq _,Ren.le_refl ρ,fun n x h h' =>by rw[h]at h';simp at h',aq _,fun _ _ _=>rfl,fun _ _ h=>⟨rfl,h⟩⟩
theorem jO.trans{ρ ρ' ρ'' :Ren}{s s' s'' :St}{w w' w'' :World}(h:jO ρ s w ρ' s' w')(h' :jO ρ' s' w' ρ'' s'' w''):jO ρ s w ρ'' s'' w'' where
 next:=Nat.le_trans h.next h'.next
 X9:=Ren.le_trans h.X9 h'.X9
 new n x e e' :=by
  cases hm:ρ' n with
  |none=>exact Nat.le_trans h.next (h'.new n x hm e')
  |some y=>exact h.new n y e hm
 Cv:=Nat.le_trans h.Cv h'.Cv
 sk n hn e:=by
  have hm:ρ' n=none:=by
   cases hm:ρ' n with
   |none=>rfl
   |some y=>have:=h.new n y e hm;omega
  rw[h'.sk n (mb hn h.next) hm,h.sk n hn e]
 wk r hr e:=by
  obtain⟨a,b⟩:=h.wk r hr e;obtain⟨c,d⟩:=h'.wk r (mb hr h.Cv) b;exact⟨c.trans a,d⟩
theorem Rel.same{w0:World}{ρ:Ren}{s:St}{w w' :World}(h:Rel w0 ρ s w)(hh:w'.heap=w.heap)(ho:w'.os=w.os)(hp:w'.output=w.output):Rel w0 ρ s w' where
 old r hr:=by rw[hh];exact h.old r hr
 size:=by rw[hh];exact h.size
 os:=ho.trans h.os
 output:=hp.trans h.output
 dom n r o lim e:=by rw[hh];exact h.dom n r o lim e
 fresh:=h.fresh
 ob n r o lim e:=by rw[hh];exact h.ob n r o lim e
 inj:=h.inj
theorem jO.same{ρ:Ren}{s:St}{w w' :World}(hh:w'.heap=w.heap):jO ρ s w ρ s w' :=
 ⟨aq _,Ren.le_refl ρ,fun n x h h' =>by rw[h]at h';simp at h',by rw[hh];exact aq _,fun _ _ _=>rfl,fun _ _ h=>⟨by rw[hh],h⟩⟩
theorem St.dX(s:St)(n:Nat)(o:Ob)(m:Nat):(s.put n o).get m=if m=n then some o else s.get m:=PT.iz _ _ _ _
theorem St.dL(s:St)(o:Ob)(m:Nat):(s.alloc o).get m=if m=s.next then some o else s.get m:=PT.iz _ _ _ _
def Ren.add(ρ:Ren)(n:Nat)(x:Nat×Nat×Nat):Ren:=fun m=>if m=n then some x else ρ m
theorem Ren.AN{ρ:Ren}{n:Nat}(x:Nat×Nat×Nat)(h:ρ n=none):ρ.le (ρ.add n x):=fun m y e=>by
 unfold Ren.add;by_cases hm:m=n
 ·subst hm;rw[h]at e;simp at e
 ·rw[if_neg hm];exact e
theorem Ren.add_same(ρ:Ren)(n:Nat)(x:Nat×Nat×Nat):(ρ.add n x) n=some x:=by simp[Ren.add]
theorem Rel.realize{w0:World}{ρ:Ren}{s:St}{w:World}(h:Rel w0 ρ s w){n:Nat}{ob:Ob}{obj:Obj}{lim:Nat}(hn:n<s.next)(hρ:ρ n=none)(hs:s.get n=some ob)
  (ho:iK w0 ρ 0 lim (some ob) (some obj)):Rel w0 (ρ.add n (w.heap.size,0,lim)) s (w.alloc obj):=by
 have hle:=Ren.AN (ρ:=ρ) (n:=n) (w.heap.size,0,lim) hρ;have hold:∀ r,r<w.heap.size→(w.alloc obj).heap[r]? =w.heap[r]? :=fun r hr=>by
  show(w.heap.push obj)[r]? =_;rw[Array.getElem?_push,if_neg (Nat.ne_of_lt hr)]
 have hnew:(w.alloc obj).heap[w.heap.size]? =some obj:=by
  show(w.heap.push obj)[w.heap.size]? =_;simp
 refine⟨fun r hr=> ?_,?_,h.os,h.output,fun m r o l e=> ?_,h.fresh,fun m r o l e=> ?_,fun m k r o l o' l' e e' lm lk=> ?_⟩
 ·rw[hold r (mb hr h.size)];exact h.old r hr
 ·have:=h.size;simp;omega
 ·unfold Ren.add at e;by_cases hm:m=n
  ·rw[if_pos hm]at e;simp at e;obtain⟨rfl,rfl,rfl⟩:=e;refine⟨by omega,h.size,by simp⟩
  ·rw[if_neg hm]at e;have:=h.dom m r o l e;simp;omega
 ·unfold Ren.add at e;by_cases hm:m=n
  ·rw[if_pos hm]at e;simp at e;obtain⟨rfl,rfl,rfl⟩:=e;subst hm;rw[hs,hnew];exact ho.mono hle
  ·rw[if_neg hm]at e;rw[hold r (h.dom m r o l e).2.2];exact(h.ob m r o l e).mono hle
 ·unfold Ren.add at e e';by_cases hm:m=n
  ·by_cases hk:k=n
   ·omega
   ·rw[if_pos hm]at e;rw[if_neg hk]at e';simp at e;have:=(h.dom k r o' l' e').2.2;omega
  ·by_cases hk:k=n
   ·rw[if_pos hk]at e';rw[if_neg hm]at e;simp at e';have:=(h.dom m r o l e).2.2;omega
   ·rw[if_neg hm]at e;rw[if_neg hk]at e';exact h.inj m k r o l o' l' e e' lm lk
theorem IX{ρ:Ren}{w:World}{n:Nat}{obj:Obj}{lim:Nat}:
  (∀ r,r<w.heap.size→(∀ n x,ρ n=some x→x.1≠r)→(w.alloc obj).heap[r]? =w.heap[r]?∧∀ m x,(ρ.add n (w.heap.size,0,lim)) m=some x→x.1≠r):=by
 intro r hr e;refine⟨?_,fun m x hm=> ?_⟩
 ·show(w.heap.push obj)[r]? =_;rw[Array.getElem?_push,if_neg (Nat.ne_of_lt hr)]
 ·unfold Ren.add at hm;by_cases h:m=n
  ·rw[if_pos h]at hm;simp at hm;subst hm;simp;omega
  ·rw[if_neg h]at hm;exact e m x hm
theorem Rel.nI{w0:World}{ρ:Ren}{s:St}{w:World}(h:Rel w0 ρ s w)(ob:Ob):Rel w0 ρ (s.alloc ob) w where
 old:=h.old
 size:=h.size
 os:=h.os
 output:=h.output
 dom n r o lim e:=by have:=h.dom n r o lim e;exact⟨Nat.lt_succ_of_lt this.1,this.2⟩
 fresh n hn:=by
  have hn' :s.next+1≤n:=hn
  rw[St.dL,if_neg (by omega)];exact h.fresh n (by omega)
 ob n r o lim e:=by
  have:=h.dom n r o lim e;rw[St.dL,if_neg (by omega)];exact h.ob n r o lim e
 inj n m r o lim o' lim' e e' ln lm:=by
  have h1:=h.dom n r o lim e;have h2:=h.dom m r o' lim' e';rw[St.dL,if_neg (by omega)]at ln lm;exact h.inj n m r o lim o' lim' e e' ln lm
theorem Rel.unnamed{w0:World}{ρ:Ren}{s:St}{w:World}(h:Rel w0 ρ s w){n:Nat}(hn:s.next≤n):ρ n=none:=by
 cases e:ρ n with
 |none=>rfl
 |some x=>obtain⟨r,o,lim⟩:=x;have:=(h.dom n r o lim e).1;omega
theorem Rel.alloc{w0:World}{ρ:Ren}{s:St}{w:World}(h:Rel w0 ρ s w){ob:Ob}{obj:Obj}{lim:Nat}(ho:iK w0 ρ 0 lim (some ob) (some obj)):
  Rel w0 (ρ.add s.next (w.heap.size,0,lim)) (s.alloc ob) (w.alloc obj)∧jO ρ s w (ρ.add s.next (w.heap.size,0,lim)) (s.alloc ob) (w.alloc obj):=by
 have hρ:=h.unnamed (aq s.next);refine⟨(h.nI ob).realize (Nat.lt_succ_self _) hρ (by rw[St.dL,if_pos rfl]) ho,Nat.le_succ _,Ren.AN _ hρ,fun n x e e' => ?_,by simp,fun n hn e=> ?_,IX⟩
 ·unfold Ren.add at e';by_cases hm:n=s.next
  ·omega
  ·rw[if_neg hm]at e';rw[e]at e';simp at e'
 ·rw[St.dL,if_neg (by omega)]
theorem Rel.put{w0:World}{ρ:Ren}{s:St}{w:World}(h:Rel w0 ρ s w){n r o lim:Nat}(e:ρ n=some (r,o,lim))(hl:live (s.get n)){ob:Ob}{obj:Obj}
  (ho:iK w0 ρ o lim (some ob) (some obj)):Rel w0 ρ (s.put n ob) {w with heap:=w.heap.setIfInBounds r obj}∧jO ρ s w ρ (s.put n ob) {w with heap:=w.heap.setIfInBounds r obj}:=by
 have hd:=h.dom n r o lim e;refine⟨⟨fun k hk=> ?_,?_,h.os,h.output,fun m r' o' l' e' => ?_,fun m hm=> ?_,fun m r' o' l' e' => ?_,fun m k r' o' l' o'' l'' e' e'' lm lk=> ?_⟩,aq _,Ren.le_refl _,fun m x a b=>by rw[a]at b;simp at b,by simp,fun m hm e' => ?_,fun k hk hx=>⟨?_,hx⟩⟩
 ·show(w.heap.setIfInBounds r obj)[k]? =_;rw[Array.getElem?_setIfInBounds_ne (by omega)];exact h.old k hk
 ·simpa using h.size
 ·have:=h.dom m r' o' l' e';simpa[St.put]using this
 ·have hm' :s.next≤m:=hm
  rw[St.dX,if_neg (by omega)];exact h.fresh m hm'
 ·show iK w0 ρ o' l' _ (w.heap.setIfInBounds r obj)[r']?;rw[St.dX];by_cases hm:m=n
  ·subst hm;rw[e]at e';simp at e';obtain⟨rfl,rfl,rfl⟩:=e';rw[if_pos rfl,Array.getElem?_setIfInBounds_self_of_lt hd.2.2];exact ho
  ·rw[if_neg hm];by_cases hr:r' =r
   ·subst hr;by_cases lm:live (s.get m)
    ·exact absurd (h.inj m n r' o' l' o lim e' e lm hl) hm
    ·cases hob:s.get m with
     |none=>trivial
     |some x=>cases x<;>first|trivial|(rw[hob]at lm;exact absurd trivial lm)
   ·rw[Array.getElem?_setIfInBounds_ne (fun x=>hr x.symm)];exact h.ob m r' o' l' e'
 ·have key:∀ x,live ((s.put n ob).get x)→x≠n→live (s.get x):=fun x hx hne=>by rw[St.dX,if_neg hne]at hx;exact hx
  by_cases hm:m=n
  ·by_cases hk:k=n
   ·omega
   ·subst hm;exact h.inj m k r' o' l' o'' l'' e' e'' hl (key k lk hk)
  ·by_cases hk:k=n
   ·subst hk;exact h.inj m k r' o' l' o'' l'' e' e'' (key m lm hm) hl
   ·exact h.inj m k r' o' l' o'' l'' e' e'' (key m lm hm) (key k lk hk)
 ·rw[St.dX,if_neg (fun x=>by subst x;rw[e]at e';simp at e')]
 ·show(w.heap.setIfInBounds r obj)[k]? =_;rw[Array.getElem?_setIfInBounds_ne (fun x=>hx n (r,o,lim) e x)]
theorem Rel.kill{w0:World}{ρ:Ren}{s:St}{w:World}(h:Rel w0 ρ s w){n r o lim:Nat}(e:ρ n=some (r,o,lim)):
  Rel w0 ρ (s.put n .dead) w∧jO ρ s w ρ (s.put n .dead) w:=by
 have hd:=h.dom n r o lim e;have key:∀ x,live ((s.put n .dead).get x)→live (s.get x):=fun x hx=>by
  rw[St.dX]at hx;by_cases hne:x=n
  ·rw[if_pos hne]at hx;exact hx.elim
  ·rw[if_neg hne]at hx;exact hx
 refine⟨⟨h.old,h.size,h.os,h.output,h.dom,fun m hm=> ?_,fun m r' o' l' e' => ?_,fun m k r' o' l' o'' l'' e' e'' lm lk=>h.inj m k r' o' l' o'' l'' e' e'' (key m lm) (key k lk)⟩,aq _,Ren.le_refl _,fun m x a b=>by rw[a]at b;simp at b,aq _,fun m hm e' => ?_,fun k hk hx=>⟨rfl,hx⟩⟩
 ·have hm' :s.next≤m:=hm
  rw[St.dX,if_neg (by omega)];exact h.fresh m hm'
 ·rw[St.dX];by_cases hm:m=n
  ·rw[if_pos hm];trivial
  ·rw[if_neg hm];exact h.ob m r' o' l' e'
 ·rw[St.dX,if_neg (fun x=>by subst x;rw[e]at e';simp at e')]
theorem Rel.grow{w0:World}{ρ:Ren}{s:St}{w:World}(h:Rel w0 ρ s w){n r o lim:Nat}(e:ρ n=some (r,o,lim))(hl:live (s.get n)){ob:Ob}{obj:Obj}{o' :Nat}
  (ho:iK w0 ρ o' lim (some ob) (some obj)):
  Rel w0 (ρ.add s.next (r,o',lim)) ((s.put n .dead).alloc ob) {w with heap:=w.heap.setIfInBounds r obj}∧
  jO ρ s w (ρ.add s.next (r,o',lim)) ((s.put n .dead).alloc ob) {w with heap:=w.heap.setIfInBounds r obj}:=by
 have hd:=h.dom n r o lim e;have hρ:=h.unnamed (aq s.next);have hle:=Ren.AN (ρ:=ρ) (n:=s.next) (r,o',lim) hρ;have hget:∀ m,((s.put n .dead).alloc ob).get m=if m=s.next then some ob else if m=n then some .dead else s.get m:=fun m=>by
  rw[St.dL,St.dX];rfl
 have hlv:∀ x,x≠s.next→live (((s.put n .dead).alloc ob).get x)→x≠n∧live (s.get x):=fun x hne hx=>by
  rw[hget,if_neg hne]at hx;by_cases hn:x=n
  ·rw[if_pos hn]at hx;exact hx.elim
  ·rw[if_neg hn]at hx;exact⟨hn,hx⟩
 have hsplit:∀ m x,(ρ.add s.next (r,o',lim)) m=some x→(m=s.next∧x=(r,o',lim))∨(m≠s.next∧ρ m=some x):=fun m x hx=>by
  unfold Ren.add at hx;by_cases hm:m=s.next
  ·rw[if_pos hm]at hx;simp at hx;exact .inl ⟨hm,hx.symm⟩
  ·rw[if_neg hm]at hx;exact .inr ⟨hm,hx⟩
 refine⟨⟨fun k hk=> ?_,?_,h.os,h.output,fun m r' o'' l' e' => ?_,fun m hm=> ?_,fun m r' o'' l' e' => ?_,fun m k r' p l' p' l'' e' e'' lm lk=> ?_⟩,Nat.le_succ _,hle,fun m x a b=> ?_,by simp,fun m hm e' => ?_,fun k hk hx=>⟨?_,fun m x hm=> ?_⟩⟩
 ·show(w.heap.setIfInBounds r obj)[k]? =_;rw[Array.getElem?_setIfInBounds_ne (by omega)];exact h.old k hk
 ·simpa using h.size
 ·show m<s.next+1∧_
  rcases hsplit m _ e' with⟨h1,h2⟩|⟨h1,h2⟩
  ·simp at h2;obtain⟨rfl,rfl,rfl⟩:=h2;simp;omega
  ·have:=h.dom m r' o'' l' h2;simp;omega
 ·have hm' :s.next+1≤m:=hm
  rw[hget,if_neg (by omega),if_neg (by omega)];exact h.fresh m (by omega)
 ·show iK w0 _ o'' l' _ (w.heap.setIfInBounds r obj)[r']?;rcases hsplit m _ e' with⟨h1,h2⟩|⟨h1,h2⟩
  ·simp at h2;obtain⟨rfl,rfl,rfl⟩:=h2;rw[hget,if_pos h1,Array.getElem?_setIfInBounds_self_of_lt hd.2.2];exact ho.mono hle
  ·rw[hget,if_neg h1];by_cases hm:m=n
   ·rw[if_pos hm];trivial
   ·rw[if_neg hm];by_cases hr:r' =r
    ·subst hr;by_cases lm:live (s.get m)
     ·exact absurd (h.inj m n r' o'' l' o lim h2 e lm hl) hm
     ·cases hob:s.get m with
      |none=>trivial
      |some x=>cases x<;>first|trivial|(rw[hob]at lm;exact absurd trivial lm)
    ·rw[Array.getElem?_setIfInBounds_ne (fun x=>hr x.symm)];exact(h.ob m r' o'' l' h2).mono hle
 ·rcases hsplit m _ e' with⟨h1,h2⟩|⟨h1,h2⟩
  ·rcases hsplit k _ e'' with⟨h3,h4⟩|⟨h3,h4⟩
   ·omega
   ·simp at h2;obtain⟨rfl,rfl,rfl⟩:=h2;obtain⟨a,b⟩:=hlv k h3 lk;exact absurd (h.inj k n r' p' l'' o _ h4 e b hl) a
  ·rcases hsplit k _ e'' with⟨h3,h4⟩|⟨h3,h4⟩
   ·simp at h4;obtain⟨rfl,rfl,rfl⟩:=h4;obtain⟨a,b⟩:=hlv m h1 lm;exact absurd (h.inj m n r' p l' o _ h2 e b hl) a
   ·exact h.inj m k r' p l' p' l'' h2 h4 (hlv m h1 lm).2 (hlv k h3 lk).2
 ·rcases hsplit m _ b with⟨h1,h2⟩|⟨h1,h2⟩
  ·omega
  ·rw[a]at h2;simp at h2
 ·rw[hget,if_neg (by omega),if_neg (fun x=>by subst x;rw[e]at e';simp at e')]
 ·show(w.heap.setIfInBounds r obj)[k]? =_;rw[Array.getElem?_setIfInBounds_ne (fun x=>hx n (r,o,lim) e x)]
 ·rcases hsplit m _ hm with⟨h1,h2⟩|⟨h1,h2⟩
  ·subst h2;exact hx n (r,o,lim) e
  ·exact hx m x h2
end Go.RE
