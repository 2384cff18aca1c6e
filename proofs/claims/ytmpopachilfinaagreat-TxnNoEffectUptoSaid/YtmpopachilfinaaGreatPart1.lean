/- A part of a proof. -/
import GoSem.Step
import Derived.Calls
import Derived.Orders
import Derived.Laws.World
import Derived.Laws.Cells
import Derived.Deep.AppendSrc
import Derived.Laws.BytesString
import Derived.Laws.StructEq
set_option linter.unusedVariables false
set_option linter.unusedSimpArgs false
namespace Go.RE
abbrev ag:= @Option.some.injEq
abbrev ay:= @Prod.mk.injEq
abbrev aH:= @List.getElem?_eq_some_iff
abbrev aU:= @Nat.eq_of_beq_eq_true
abbrev ak:= @Nat.le_refl
abbrev aQ:= @List.getElem?_eq_getElem
abbrev aI:= @Bool.and_eq_true
abbrev bF:= @Nat.testBit_eq_decide_div_mod_eq
abbrev dh:= @List.getElem?_append_right
abbrev bG:= @List.getElem?_append_left
abbrev dY:= @Nat.le_of_ble_eq_true
abbrev eu:= @List.mem_cons_of_mem
abbrev b9:= @List.getElem?_set
abbrev fT:= @List.eq_nil_of_length_eq_zero
abbrev cB:= @List.mem_cons_self
abbrev gu:= @List.take_of_length_le
abbrev jV:= @Bool.false_eq_true
abbrev jA:= @Nat.ble_eq_true_of_le
abbrev iB:= @Nat.mul_le_mul_right
abbrev gX:= @List.length_append
abbrev gD:= @List.append_assoc
abbrev iC:= @Nat.lt_of_lt_of_le
abbrev fU:= @List.getElem?_take
abbrev uL:= @Array.getElem?_eq_none
abbrev uM:= @Nat.add_sub_cancel_left
abbrev xN:= @List.drop_of_length_le
abbrev Pz:= @List.drop_eq_getElem_cons
abbrev mQ:= @Array.getElem?_eq_getElem
abbrev jW:= @Nat.le_max_left
abbrev cD:= @List.mem_map
abbrev eH:= @List.mem_append
abbrev bT:= @List.mem_cons
abbrev mu:= @Array.getD_eq_getD_getElem?
abbrev xO:= @Array.getElem?_setIfInBounds
abbrev ez:= @Nat.ble_eq
abbrev bU:= @Nat.zero_le
abbrev jX:= @List.getElem?_drop
abbrev fq:= @Nat.beq_refl
abbrev qc0:= @List.mem_of_find?_eq_some
abbrev fF:= @List.all_eq_true
abbrev Yg:= @Nat.lt_succ_self
abbrev z8:= @List.getElem?_eq_none
abbrev Fu:= @List.getElem_map
abbrev PA:= @Nat.mul_one
abbrev Fv:= @Array.ext'
abbrev iD:= @List.length_take
abbrev Fw:= @Nat.min_eq_left
abbrev PB:= @Array.toArray_toList
abbrev PC:= @List.map_toArray
abbrev ct:= @List.map_cons
abbrev jY:= @List.map_nil
abbrev s4:= @Array.getElem?_toList
abbrev Kt:= @Array.getElem?_setIfInBounds_self_of_lt
abbrev Aa:= @Array.getElem?_setIfInBounds_ne
abbrev rB:= @Option.getD_some
abbrev PD:= @List.getElem_cons_zero
abbrev mw:= @List.filter_cons
abbrev Yh:= @Array.toList_filter
abbrev DP:= @Bool.eq_iff_iff
abbrev PE:= @List.isEmpty_iff_length_eq_zero
abbrev qc1:= @Array.isEmpty_iff_size_eq_zero
abbrev PF:= @Array.length_toList
abbrev gE:= @List.getElem?_map
abbrev jZ:= @List.nil_append
abbrev Ku:= @List.singleton_append
abbrev DQ:= @List.getElem?_cons_succ
abbrev Kv:= @Array.getElem?_append_left
abbrev DR:= @Array.ext_getElem?
abbrev s6:= @List.mem_iff_getElem
abbrev xP:= @List.getElem_mem
abbrev Kw:= @Nat.mod_lt
abbrev fV:= @List.length_cons
abbrev ox:= @List.length_nil
abbrev Yi:= @List.mapM_cons
abbrev qc2:= @Array.mapM_eq_mapM_toList
abbrev kF:= @Nat.zero_add
abbrev PG:= @Nat.sub_zero
abbrev Yj:= @List.take_add_one
abbrev mz:= @List.foldl_cons
abbrev Yk:= @Nat.testBit_or
abbrev uN:= @Bool.or_eq_true
abbrev Ab:= @List.mem_range
abbrev Fx:= @Bool.false_or
abbrev xQ:= @Nat.le_succ
abbrev PI:= @List.pairwise_cons
abbrev PJ:= @Bool.true_and
abbrev qg:= @List.mem_filter
abbrev qc3:= @Array.getElem?_eq_some_iff
abbrev qh:= @Option.some.inj
abbrev PK:= @List.reverse_nil
abbrev PL:= @List.sublist_cons_self
abbrev j0:= @Nat.le_trans
abbrev rC:= @List.length_filter_le
abbrev DS:= @List.cons_append
abbrev Ac:= @List.drop_take
abbrev Ad:= @List.drop_drop
abbrev Yl:= @List.take_take
abbrev Ym:= @List.drop_left
abbrev oy:= @Nat.succ_mul
abbrev uO:= @List.length_drop
abbrev s7:= @Int.toNat_natCast
abbrev iE:= @List.flatten_cons
abbrev PM:= @Nat.zero_mul
abbrev s8:= @List.drop_zero
abbrev Fy:= @List.take_append_of_le_length
abbrev s9:= @List.take_append_drop
abbrev Fz:= @List.getElem?_range
abbrev gI:= @Nat.add_assoc
abbrev qi:= @Nat.le_max_right
abbrev oS:= @List.length_map
abbrev PN:= @List.getElem_append_left
abbrev PO:= @List.getElem_append_right
abbrev Kx:= @Array.getElem?_push
abbrev PR:= @List.getElem_drop
abbrev Yn:= @Bool.false_and
abbrev xR:= @Bool.not_true
abbrev PS:= @Array.size_setIfInBounds
abbrev kO:= @List.find?_cons
abbrev FA:= @Option.map_none
abbrev Ky:= @Option.isSome_none
abbrev qj:= @Nat.add_mul
abbrev kP:= @Option.map_some
abbrev Yo:= @Array.getElem?_modify
abbrev uP:= @Nat.lt_or_ge
abbrev PU:= @List.length_eq_zero_iff
abbrev Kz:= @Nat.add_sub_cancel
abbrev fu:= @List.not_mem_nil
abbrev iF:= @List.mem_of_mem_drop
abbrev mR:= @List.map_append
abbrev Ae:= @Bool.not_eq_true'
abbrev DT:= @Bool.or_eq_false_iff
abbrev FB:= @Bool.not_eq_false'
abbrev jh:= @Bool.and_self
abbrev PV:= @List.all_map
abbrev uQ:= @Int.natCast_nonneg
abbrev Yp:= @List.eq_nil_or_concat
abbrev Yq:= @List.concat_eq_append
abbrev KA:= @List.map_drop
abbrev Af:= @Int.natCast_add
abbrev oT:= @List.mem_of_getElem?
abbrev DU:= @List.append_nil
abbrev PW:= @UInt8.not_lt
abbrev KB:= @List.foldl_nil
abbrev DV:= @List.nodup_append
abbrev KC:= @List.find?_eq_none
abbrev PX:= @List.set_getElem_self
abbrev qk:= @List.Nodup.sublist
abbrev FC:= @List.nodup_nil
abbrev qc4:= @Classical.byContradiction
abbrev ql:= @List.nodup_cons
abbrev eX:= @List.getElem?_set_self
abbrev dP:= @List.getElem?_set_ne
abbrev oU:= @List.length_set
abbrev cc:= @Ne.symm
abbrev PY:= @List.map_set
abbrev qm:= @Int.eq_ofNat_of_zero_le
abbrev ta:= @List.mem_of_mem_take
abbrev mA:= @List.set_append_left
abbrev KD:= @List.set_set
abbrev PZ:= @List.ext_getElem?
abbrev oz:= @List.map_map
abbrev KE:= @List.map_congr_left
abbrev KF:= @List.flatMap_cons
abbrev rD:= @List.mem_flatMap
abbrev qc5:= @List.sublist_append_right
abbrev Yr:= @List.mem_append_right
abbrev FD:= @Array.getElem!_eq_getD
abbrev kG:= @List.all_cons
abbrev KG:= @List.flatten_append
abbrev qc6:= @Array.eq_empty_of_size_eq_zero
abbrev Ys:= @List.drop_append_of_le_length
abbrev qc7:= @List.set_eq_take_append_cons_drop
abbrev FE:= @List.take_append
abbrev qc8:= @List.mem_or_eq_of_mem_set
abbrev KH:= @Bool.not_false
abbrev P0:= @Nat.max_eq_left
inductive PT(α:Type) where
 |e
 |n (v:Option α) (l r:PT α)
deriving Inhabited
namespace PT
variable{α:Type}
def get:PT α→Nat→Option α
 | .e,_=>none
 | .n v l r,k=>match k with
  |0=>v
  |j+1=>bif Nat.beq (j % 2) 0 then l.get (j / 2)else r.get (j / 2)
def Ai:Nat→PT α→Nat→Option α→PT α
 |0,t,_,_=>t
 |f+1,t,k,x=>match t with
  | .e=>(match k with
   |0=> .n x .e .e
   |j+1=>bif Nat.beq (j % 2) 0 then .n none (Ai f .e (j / 2) x) .e else .n none .e (Ai f .e (j / 2) x))
  | .n v l r=>(match k with
   |0=> .n x l r
   |j+1=>bif Nat.beq (j % 2) 0 then .n v (Ai f l (j / 2) x) r else .n v l (Ai f r (j / 2) x))
def set(t:PT α)(k:Nat)(x:α):PT α:=Ai (k+1) t k (some x)
theorem Sw(f:Nat):∀ (t:PT α) (k:Nat) (x:Option α) (j:Nat),k<f→(Ai f t k x).get j=if j=k then x else t.get j:=by
 induction f with
 |zero=>intro t k x j h;omega
 |succ f ih=>
  intro t k x j h;cases t with
  |e=>
   cases k with
   |zero=>
    cases j with
    |zero=>simp[Ai,get]
    |succ j=>simp only[Ai,get];cases Nat.beq (j % 2) 0<;>simp[get]
   |succ k=>
    simp only[Ai];have hk:k / 2<f:=by omega
    cases hb:Nat.beq (k % 2) 0 with
    |true=>
     simp only[cond_true];cases j with
     |zero=>simp[get]
     |succ j=>
      simp only[get];cases hc:Nat.beq (j % 2) 0 with
      |true=>
       simp only[cond_true];rw[ih _ _ _ _ hk];have h1:k % 2=0:=aU hb;have h2:j % 2=0:=aU hc;by_cases hj:j=k
       ·subst hj;simp
       ·rw[if_neg (by omega),if_neg (by omega)];simp[get]
      |false=>
       have h1:k % 2=0:=aU hb;have h2:¬j % 2=0:=by intro h;rw[h]at hc;simp at hc
       rw[if_neg (by intro h;apply h2;have:j=k:=(by omega);rw[this];exact h1)];simp[get]
    |false=>
     simp only[cond_false];cases j with
     |zero=>simp[get]
     |succ j=>
      simp only[get];cases hc:Nat.beq (j % 2) 0 with
      |false=>
       simp only[cond_false];rw[ih _ _ _ _ hk];have h1:¬k % 2=0:=by intro h;rw[h]at hb;simp at hb
       have h2:¬j % 2=0:=by intro h;rw[h]at hc;simp at hc
       by_cases hj:j=k
       ·subst hj;simp
       ·rw[if_neg (by omega),if_neg (by omega)];simp[get]
      |true=>
       have h1:¬k % 2=0:=by intro h;rw[h]at hb;simp at hb
       have h2:j % 2=0:=aU hc;rw[if_neg (by intro h;apply h1;have:j=k:=(by omega);rw[←this];exact h2)];simp[get]
  |n v l r=>
   cases k with
   |zero=>
    cases j with
    |zero=>simp[Ai,get]
    |succ j=>simp[Ai,get]
   |succ k=>
    simp only[Ai];have hk:k / 2<f:=by omega
    cases hb:Nat.beq (k % 2) 0 with
    |true=>
     simp only[cond_true];cases j with
     |zero=>simp[get]
     |succ j=>
      simp only[get];cases hc:Nat.beq (j % 2) 0 with
      |true=>
       simp only[cond_true];rw[ih _ _ _ _ hk];have h1:k % 2=0:=aU hb;have h2:j % 2=0:=aU hc;by_cases hj:j=k
       ·subst hj;simp
       ·rw[if_neg (by omega),if_neg (by omega)]
      |false=>
       have h1:k % 2=0:=aU hb;have h2:¬j % 2=0:=by intro h;rw[h]at hc;simp at hc
       rw[if_neg (by intro h;apply h2;have:j=k:=(by omega);rw[this];exact h1)];simp
    |false=>
     simp only[cond_false];cases j with
     |zero=>simp[get]
     |succ j=>
      simp only[get];cases hc:Nat.beq (j % 2) 0 with
      |false=>
       simp only[cond_false];rw[ih _ _ _ _ hk];have h1:¬k % 2=0:=by intro h;rw[h]at hb;simp at hb
       have h2:¬j % 2=0:=by intro h;rw[h]at hc;simp at hc
       by_cases hj:j=k
       ·subst hj;simp
       ·rw[if_neg (by omega),if_neg (by omega)]
      |true=>
       have h1:¬k % 2=0:=by intro h;rw[h]at hb;simp at hb
       have h2:j % 2=0:=aU hc;rw[if_neg (by intro h;apply h1;have:j=k:=(by omega);rw[←this];exact h2)];simp
theorem iX(t:PT α)(k:Nat)(x:α)(j:Nat):(t.set k x).get j=if j=k then some x else t.get j:=
 Sw (k+1) t k (some x) j (Yg k)
@[simp] theorem qaM(k:Nat):(PT.e:PT α).get k=none:=by cases k<;>rfl
end PT
inductive V where
 |bool (b:Bool)
 |int (k:IntKind) (n:Int)
 |str (s:List UInt8)
 |br
 |ptr (b off:Nat)
 |eR (row:List V) (off:Nat)
 |bB
 |bQ
 |slice (b off len cap sz:Nat) (exact:Bool)
 |ah (row:List V) (off len sz:Nat)
 |bS
 |map (b:Nat)
 |dJ
 |func (f:Nat) (first captured:List V)
 |di
 |iface (t:Nat) (v:V)
 |agg (cs:List V)
 |aZ (vs:List V)
deriving Inhabited
def V.one:V→Bool
 | .agg _=>false
 | .aZ _=>false
 |_=>true
def V.cells:V→List V
 | .agg cs=>cs
 |v=>[v]
mutual
def V.beq:V→V→Bool
 | .bool a,.bool b=>a==b
 | .int j a,.int k b=>decide (j=k)&&decide (a=b)
 | .str a,.str b=>a==b
 | .br,.br=>true
 | .ptr a b,.ptr c d=>Nat.beq a c&&Nat.beq b d
 | .eR a b,.eR c d=>V.Bv a c&&Nat.beq b d
 | .bB,.bB=>true
 | .bQ,.bQ=>true
 | .slice a b c d e f,.slice a' b' c' d' e' f' =>Nat.beq a a' &&Nat.beq b b' &&Nat.beq c c' &&Nat.beq d d' &&Nat.beq e e' &&(f==f')
 | .ah a b c d,.ah a' b' c' d' =>V.Bv a a' &&Nat.beq b b' &&Nat.beq c c' &&Nat.beq d d'
 | .bS,.bS=>true
 | .map a,.map b=>Nat.beq a b
 | .dJ,.dJ=>true
 | .func f a b,.func g c d=>Nat.beq f g&&V.Bv a c&&V.Bv b d
 | .di,.di=>true
 | .iface t v,.iface u w=>Nat.beq t u&&V.beq v w
 | .agg a,.agg b=>V.Bv a b
 | .aZ a,.aZ b=>V.Bv a b
 |_,_=>false
def V.Bv:List V→List V→Bool
 |[],[]=>true
 |a::as,b::bs=>V.beq a b&&V.Bv as bs
 |_,_=>false
end
mutual
theorem V.eq_of_beq:∀ {a b:V},V.beq a b=true→a=b
 | .bool a,b,h=>by cases b<;>simp_all [V.beq]
 | .int j a,b,h=>by cases b<;>simp_all [V.beq]
 | .str a,b,h=>by cases b<;>simp_all [V.beq]
 | .br,b,h=>by cases b<;>simp_all [V.beq]
 | .ptr a c,b,h=>by cases b<;>simp_all [V.beq]
 | .eR a c,b,h=>by
  cases b<;>simp[V.beq]at h;obtain⟨h1,h2⟩:=h;rw[V.jG h1,h2]
 | .bB,b,h=>by cases b<;>simp_all [V.beq]
 | .bQ,b,h=>by cases b<;>simp_all [V.beq]
 | .slice a1 a2 a3 a4 a5 a6,b,h=>by cases b<;>simp_all [V.beq]
 | .ah a c d e,b,h=>by
  cases b<;>simp[V.beq]at h;obtain⟨⟨⟨h1,h2⟩,h3⟩,h4⟩:=h;rw[V.jG h1,h2,h3,h4]
 | .bS,b,h=>by cases b<;>simp_all [V.beq]
 | .map a,b,h=>by cases b<;>simp_all [V.beq]
 | .dJ,b,h=>by cases b<;>simp_all [V.beq]
 | .func f a c,b,h=>by
  cases b<;>simp[V.beq]at h;obtain⟨⟨h1,h2⟩,h3⟩:=h;rw[V.jG h2,V.jG h3,h1]
 | .di,b,h=>by cases b<;>simp_all [V.beq]
 | .iface t v,b,h=>by
  cases b<;>simp[V.beq]at h;obtain⟨h1,h2⟩:=h;rw[V.eq_of_beq h2,h1]
 | .agg a,b,h=>by
  cases b<;>simp[V.beq]at h;rw[V.jG h]
 | .aZ a,b,h=>by
  cases b<;>simp[V.beq]at h;rw[V.jG h]
theorem V.jG:∀ {a b:List V},V.Bv a b=true→a=b
 |[],[],_=>rfl
 |[],_::_,h=>by simp[V.Bv]at h
 |_::_,[],h=>by simp[V.Bv]at h
 |a::as,b::bs,h=>by
  simp[V.Bv]at h;rw[V.eq_of_beq h.1,V.jG h.2]
end
structure ME where
 key:V
 val:V
 born:Nat
deriving Inhabited
inductive Ob where
 |row (cs:List V)
 |wG (cs:List V)
 |map (es:List ME) (clock:Nat)
 |gA (m:Option Nat) (since:Nat) (seen:List Nat) (stepped:Nat)
 |dead
deriving Inhabited
structure St where
 h:PT Ob
 next:Nat
deriving Inhabited
def St.get(s:St)(n:Nat):Option Ob:=s.h.get n
def St.put(s:St)(n:Nat)(o:Ob):St:={s with h:=s.h.set n o}
def St.alloc(s:St)(o:Ob):St:={h:=s.h.set s.next o,next:=s.next+1}
def St.row(s:St)(n:Nat):Option (List V):=
 match s.get n with
 |some (.row cs)=>some cs
 |some (.wG cs)=>some cs
 |_=>none
def St.xM(s:St)(n:Nat):Option (List V):=
 match s.get n with
 |some (.row cs)=>some cs
 |_=>none
class iW(R:Type) where
 fail:R
 all:Nat→(Nat→R)→R
 chk:V→V→R→R
instance:iW Prop where
 fail:=False
 all n f:=∀ i,i<n→f i
 chk a b r:=a=b∧r
instance:iW Bool where
 fail:=false
 all n f:=(List.range n).all f
 chk a b r:=bif V.beq a b then r else false
inductive bO where
 |t (n:Nat)
 |c (v:V)
deriving Inhabited
inductive iG where
 |bool|int|str
 |br|bB|bS|dJ -- compared with nil (or both nil)
 |iface (guard:Bool) -- guard:two bB are not told
 |flat (ks:List (Nat×iG)) -- a struct,cell by cell,of bool,int,str
 |no
deriving Inhabited
inductive gv where
 |bn (x:bO)
 |pick (c a b:bO)
 |load (n:Option Nat) (x:bO)
 |nilCheck (x:bO)
 |bin (op:BinOp) (ek:iG) (x y:bO)
 |un (op:UnOp) (x:bO)
 |eP (k:IntKind) (x:bO)
 |uV (x:bO)
 |toStr (x:bO)
 |oJ (t:Nat) (x:bO)
 |jK (f:Nat) (first captured:List bO)
 |build (zero:List V) (parts:List (Nat×Nat×bO))
 |oh (x:bO) (lo hi:Option bO)
 |slice (sz:Nat) (x:bO) (lo hi mx:Option bO)
 |jw (n sz:Nat) (x:bO) (lo hi:Option bO)
 |fieldAddr (off:Nat) (x:bO)
 |field (off:Nat) (n:Option Nat) (x:bO)
 |indexAddr (sz:Nat) (x i:bO)
 |nI (len sz:Nat) (x i:bO)
 |index (x i:bO)
 |D0 (len:Nat) (x i:bO) -- of an array
 |lookup (kk:iG) (zero:V) (ok:Bool) (x i:bO)
 |extract (i:Nat) (x:bO)
 |len (k:Nat) (x:bO) -- 0:of a string,1:of a slice,2:of a map
 |cap (x:bO)
 |max (xs:List bO)
 |min (xs:List bO)
 |nv (t:Nat) (zero:V) (x:bO) -- x.(T),v,ok;T concrete
 |entry (x:bO) -- a map iterator's entry
deriving Inhabited
inductive Io where
 |alloc (zero:List V)
 |box (x:bO)
 |buildSlice (sz len:Nat) (zero:List V) (parts:List (Nat×Nat×bO))
 |makeMap
 |makeSlice (sz bytes:Nat) (zero:List V) (len cap:bO)
 |mV (x:bO)
deriving Inhabited
inductive zv where
 |store (n:Nat) (a x:bO)
 |mapUpdate (kk:iG) (m k x:bO)
 |delete (kk:iG) (m k:bO)
 |append (sz bytes:Nat) (str:Bool) (s x:bO) -- str:a string's bytes come
 |copy (sz:Nat) (str:Bool) (d s:bO)
 |clear (sz:Nat) (zero:List V) (x:bO)
 |range (x:bO)
deriving Inhabited
inductive j7 where
 |s (o:gv)
 |m (o:Io)
 |h (o:zv)
 |call (f:bO) (args:List bO)
 |invoke (name:String) (x:bO) (args:List bO)
 |next (x:bO)
 |bad
deriving Inhabited
structure aG where
 dst:Option Nat
 op:j7
 guard:Option (Nat×Bool) -- a temporary,and what it must hold
 aT:Nat -- all that must run before,as bits
deriving Inhabited
inductive aq where
 |skip
 |region (ops:List aG)
 |draw (ops:List aG)
 |seq (a b:aq)
 |cond (c:bO) (a b:aq)
 |block (id:Nat) (b:aq)
 |loop (b:aq)
 |exit (id:Nat)
 |ret
 |bad
 |wB (n:Nat) (p:List V→St→Option (V×St)) -- what a call comes to,by a contract
deriving Inhabited
inductive vN where
 |t (n:Nat)
 |cell (a:Nat) (n:Option Nat)
deriving Inhabited
structure cq where
 ntmps:Nat
 results:List vN
 body:aq
deriving Inhabited
inductive Ex where
 |normal
 |exit (id:Nat)
 |ret
deriving Inhabited
end Go.RE
namespace Go.RE
def bO.ev(env:PT V):bO→Option V
 | .t n=>env.get n
 | .c v=>some v
def La(env:PT V):List bO→Option (List V)
 |[]=>some []
 |x::xs=>match x.ev env with
  |some v=>(match La env xs with|some vs=>some (v::vs)|none=>none)
  |none=>none
def B5:IntKind→Nat
 | .i8=>127| .i16=>32767| .i32=>2147483647| .i64=>9223372036854775807
 | .u8=>255| .u16=>65535| .u32=>4294967295| .u64=>18446744073709551615
def aK(k:IntKind)(n:Int):Int:=
 match n with
 | .ofNat m=>bif Nat.ble m (B5 k)then .ofNat m else k.wrap (.ofNat m)
 | .negSucc m=>bif k.signed&&Nat.ble m (B5 k)then .negSucc m else k.wrap (.negSucc m)
def kj(op:BinOp)(k:IntKind)(a b:Int):Option V:=
 match op with
 | .add=>some (.int k (aK k (a+b)))
 | .sub=>some (.int k (aK k (a - b)))
 | .mul=>some (.int k (aK k (a*b)))
 | .quo=>if b=0 then none else some (.int k (aK k (a.tdiv b)))
 | .rem=>if b=0 then none else some (.int k (a.tmod b))
 | .and=>some (.int k (aK k (BitVec.ofInt k.bits a&&&BitVec.ofInt k.bits b).toNat))
 | .or=>some (.int k (aK k (BitVec.ofInt k.bits a|||BitVec.ofInt k.bits b).toNat))
 | .xor=>some (.int k (aK k (BitVec.ofInt k.bits a ^^^ BitVec.ofInt k.bits b).toNat))
 | .andNot=>some (.int k (aK k (BitVec.ofInt k.bits a&&& ~~~BitVec.ofInt k.bits b).toNat))
 | .eql=>some (.bool (a==b))
 | .neq=>some (.bool (a !=b))
 | .lss=>some (.bool (decide (a<b)))
 | .leq=>some (.bool (decide (a≤b)))
 | .gtr=>some (.bool (decide (a>b)))
 | .geq=>some (.bool (decide (a≥b)))
 |_=>none
def yz(op:BinOp)(k:IntKind)(a b:Int):Option V:=
 if b<0 then none else
 match op with
 | .shl=>some (.int k (aK k (a*2 ^ (min b.toNat k.bits))))
 | .shr=>some (.int k (a.fdiv (2 ^ (min b.toNat k.bits))))
 |_=>none
def bl:Nat:=1099511627776
def lF(op:BinOp)(a b:List UInt8):Option V:=
 match op with
 | .add=>bif Nat.ble (a.length+b.length) bl then some (.str (a++b))else none
 | .eql=>some (.bool (a==b))
 | .neq=>some (.bool (!(a==b)))
 | .lss=>some (.bool (Op.bytesLess a b))
 | .leq=>some (.bool (Op.bytesLess a b||a==b))
 | .gtr=>some (.bool (!(Op.bytesLess a b||a==b)))
 | .geq=>some (.bool (!Op.bytesLess a b))
 |_=>none
def kr:iG→V→V→Option Bool
 | .bool,.bool a,.bool b=>some (a==b)
 | .int,.int j a,.int k b=>if j=k then some (a==b)else none
 | .str,.str a,.str b=>some (a==b)
 |_,_,_=>none
def rU:List (Nat×iG)→List V→List V→Option Bool
 |[],_,_=>some true
 |(o,k)::r,xs,ys=>match xs[o]?,ys[o]? with
  |some a,some b=>(match kr k a b with
   |some true=>rU r xs ys
   |some false=>some false
   |none=>none)
  |_,_=>none
def Ip(ek:iG)(a b:V):Option Bool:=
 match ek,a,b with
 | .bool,.bool x,.bool y=>some (x==y)
 | .br,.br,.br=>some true
 | .br,.br,.ptr _ _=>some false
 | .br,.br,.eR _ _=>some false
 | .br,.ptr _ _,.br=>some false
 | .br,.eR _ _,.br=>some false
 | .bB,.bB,.bB=>some true
 | .bB,.bB,.slice .. =>some false
 | .bB,.bB,.ah .. =>some false
 | .bB,.bB,.bQ=>some false
 | .bB,.bQ,.bB=>some false
 | .bB,.slice ..,.bB=>some false
 | .bB,.ah ..,.bB=>some false
 | .bS,.bS,.bS=>some true
 | .bS,.bS,.map _=>some false
 | .bS,.map _,.bS=>some false
 | .dJ,.dJ,.dJ=>some true
 | .dJ,.dJ,.func .. =>some false
 | .dJ,.func ..,.dJ=>some false
 | .iface false,.di,.di=>some true
 | .iface _,.di,.iface _ _=>some false
 | .iface _,.iface _ _,.di=>some false
 | .flat ks,.agg xs,.agg ys=>rU ks xs ys
 |_,_,_=>none
def j8(op:BinOp)(ek:iG)(a b:V):Option V:=
 match op,a,b with
 | .shl,.int k x,.int _ y=>yz .shl k x y
 | .shr,.int k x,.int _ y=>yz .shr k x y
 |op,.int k x,.int j y=>if k=j then kj op k x y else none
 |op,.str x,.str y=>lF op x y
 | .eql,a,b=>(match Ip ek a b with|some r=>some (.bool r)|none=>none)
 | .neq,a,b=>(match Ip ek a b with|some r=>some (.bool (!r))|none=>none)
 |_,_,_=>none
def unV(op:UnOp)(a:V):Option V:=
 match op,a with
 | .neg,.int k n=>some (.int k (aK k (0 - n)))
 | .not,.bool b=>some (.bool (!b))
 | .xor,.int k n=>kj .xor k (if k.signed then -1 else k.max) n
 |_,_=>none
def eG(n:Option Nat)(cs:List V)(off:Nat):Option V:=
 match n with
 |none=>cs[off]?
 |some n=>bif Nat.ble (off+n) cs.length then some (.agg ((cs.drop off).take n))else none
def kI(cs:List V)(off:Nat)(vs:List V):List V:=cs.take off++vs++cs.drop (off+vs.length)
def nE(env:PT V)(cells:List V):List (Nat×Nat×bO)→Option (List V)
 |[]=>some cells
 |(off,size,x)::rest=>match x.ev env with
  |some v=>bif Nat.beq v.cells.length size&&Nat.ble (off+v.cells.length) cells.length then nE env (kI cells off v.cells) rest else none
  |none=>none
def asNat(v:V)(most:Nat):Option Nat:=
 match v with
 | .int _ n=>if 0≤n∧n≤(most:Int)then some n.toNat else none
 |_=>none
def aD(env:PT V)(x:Option bO)(dflt most:Nat):Option Nat:=
 match x with
 |none=>some dflt
 |some x=>match x.ev env with
  |some v=>asNat v most
  |none=>none
def iK(b:UInt8):V:=.int .u8 b.toNat
def bytesOf:List V→Option (List UInt8)
 |[]=>some []
 | .int .u8 n::r=>(match bytesOf r with|some bs=>some (UInt8.ofNat n.toNat::bs)|none=>none)
 |_::_=>none
def bN(s:St)(w:Nat):V→Option (List V)
 | .bB=>some []
 | .bQ=>some []
 | .slice b off len _ sz _=>match s.row b with
  |some cs=>bif Nat.beq sz w&&Nat.ble (off+len*sz) cs.length then some ((cs.drop off).take (len*sz))else none
  |none=>none
 | .ah row off len sz=>bif Nat.beq sz w&&Nat.ble (off+len*sz) row.length then some ((row.drop off).take (len*sz))else none
 |_=>none
def iU(s:St)(w:Nat)(str:Bool)(x:V):Option (List V):=
 match str,x with
 |true,.str b=>bif Nat.beq w 1 then some (b.map iK)else none
 |false,x=>bN s w x
 |_,_=>none
def u7:V→Option Nat
 | .bB=>some 0
 | .bQ=>some 0
 | .slice _ _ len _ _ _=>some len
 | .ah _ _ len _=>some len
 | .str b=>some b.length
 |_=>none
def mE(s:St)(k:Nat):V→Option Nat
 | .str b=>bif Nat.beq k 0 then some b.length else none
 | .bB=>bif Nat.beq k 1 then some 0 else none
 | .bQ=>bif Nat.beq k 1 then some 0 else none
 | .slice _ _ len _ _ _=>bif Nat.beq k 1 then some len else none
 | .ah _ _ len _=>bif Nat.beq k 1 then some len else none
 | .bS=>bif Nat.beq k 2 then some 0 else none
 | .map m=>bif Nat.beq k 2 then(match s.get m with
  |some (.map es _)=>some es.length
  |_=>none)else none
 |_=>none
def nF(kk:iG)(k:V):List ME→Nat→Option (Option (Nat×V))
 |[],_=>some none
 |e::es,i=>match kr kk k e.key with
  |some true=>some (some (i,e.val))
  |some false=>nF kk k es (i+1)
  |none=>none
def plainKey:iG→V→Bool
 | .bool,.bool _=>true
 | .int,.int _ _=>true
 | .str,.str _=>true
 |_,_=>false
def zN:V→V→Option V
 | .int k x,.int j y=>if k=j then some (.int k (if y>x then y else x))else none
 | .str x,.str y=>some (.str (if Op.bytesLess x y then y else x))
 |_,_=>none
def Ch:V→V→Option V
 | .int k x,.int j y=>if k=j then some (.int k (if y<x then y else x))else none
 | .str x,.str y=>some (.str (if Op.bytesLess x y||x==y then x else y))
 |_,_=>none
def zJ(f:V→V→Option V):V→List V→Option V
 |a,[]=>some a
 |a,b::r=>match f a b with
  |some c=>zJ f c r
  |none=>none
def qB(s:St)(kk:iG)(zero:V)(ok:Bool)(m k:V):Option V:=
 match m with
 | .bS=>bif plainKey kk k then some (if ok then .aZ [zero,.bool false]else zero)else none
 | .map m=>(match s.get m with
  |some (.map es _)=>bif plainKey kk k then(match nF kk k es 0 with
   |some (some (_,v))=>some (if ok then .aZ [v,.bool true]else v)
   |some none=>some (if ok then .aZ [zero,.bool false]else zero)
   |none=>none)else none
  |_=>none)
 |_=>none
def BJ(s:St)(b:Nat):Option V:=
 match s.get b with
 |some (.gA (some m) _ seen last)=>(match s.get m,seen.getLast? with
  |some (.map es clock),some n=>bif Nat.beq clock last then(match es.find? (fun e=>Nat.beq e.born n)with
   |some e=>some (.aZ [e.key,e.val])
   |none=>none)else none
  |_,_=>none)
 |_=>none
def cZ(env:PT V)(s:St):gv→Option V
 | .entry x=>match x.ev env with
  |some (.ptr b 0)=>BJ s b
  |_=>none
 | .bn x=>x.ev env
 | .pick c a b=>match c.ev env with
  |some (.bool true)=>a.ev env
  |some (.bool false)=>b.ev env
  |_=>none
 | .load n x=>match x.ev env with
  |some (.ptr b off)=>(match s.row b with|some cs=>eG n cs off|none=>none)
  |some (.eR row off)=>eG n row off
  |_=>none
 | .nilCheck x=>match x.ev env with
  |some .br=>none
  |some .di=>none
  |some .dJ=>none
  |v=>v
 | .bin op ek x y=>match x.ev env,y.ev env with
  |some a,some b=>j8 op ek a b
  |_,_=>none
 | .un op x=>match x.ev env with
  |some a=>unV op a
  |none=>none
 | .eP k x=>match x.ev env with
  |some (.int _ n)=>some (.int k (aK k n))
  |_=>none
 | .uV x=>match x.ev env with
  |some (.str b)=>some (.str b)
  |_=>none
 | .toStr x=>match x.ev env with
  |some v=>(match bN s 1 v with
   |some cs=>(match bytesOf cs with|some bs=>some (.str bs)|none=>none)
   |none=>none)
  |none=>none
 | .oJ t x=>match x.ev env with
  |some v=>some (.iface t v)
  |none=>none
 | .jK f first captured=>match La env first,La env captured with
  |some a,some b=>some (.func f a b)
  |_,_=>none
 | .build zero parts=>match nE env zero parts with
  |some cs=>some (.agg cs)
  |none=>none
 | .oh x lo hi=>match x.ev env with
  |some (.str b)=>(match aD env hi b.length b.length with
   |some h=>(match aD env lo 0 h with
    |some l=>some (.str ((b.take h).drop l))
    |none=>none)
   |none=>none)
  |_=>none
 | .slice w x lo hi mx=>match x.ev env with
  |some .bB=>(match aD env mx 0 0 with
   |some m=>(match aD env hi 0 m with
    |some h=>(match aD env lo 0 h with
     |some _=>some .bB
     |none=>none)
    |none=>none)
   |none=>none)
  |some (.slice b off len cap sz ex)=>(match aD env mx cap cap with
   |some m=>(match aD env hi len m with
    |some h=>(match aD env lo 0 h with
     |some l=>bif Nat.beq w sz then(bif mx.isSome&&Nat.beq m 0 then some .bQ else some (.slice b (off+l*sz) (h - l) (m - l) sz (ex||mx.isSome)))else none
     |none=>none)
    |none=>none)
   |none=>none)
  |some .bQ=>(match aD env mx 0 0 with
   |some m=>(match aD env hi 0 m with
    |some h=>(match aD env lo 0 h with
     |some _=>some .bQ
     |none=>none)
    |none=>none)
   |none=>none)
  |some (.ah row off len sz)=>(match aD env mx len len with
   |some m=>(match aD env hi len m with
    |some h=>(match aD env lo 0 h with
     |some l=>bif Nat.beq w sz then(bif mx.isSome&&Nat.beq m 0 then some .bQ else some (.ah row (off+l*sz) (h - l) sz))else none
     |none=>none)
    |none=>none)
   |none=>none)
  |_=>none
 | .jw n sz x lo hi=>match x.ev env with
  |some (.ptr b off)=>(match aD env hi n n with
   |some h=>(match aD env lo 0 h with
    |some l=>(match s.row b with
     |some cs=>bif Nat.ble (off+n*sz) cs.length then some (.slice b (off+l*sz) (h - l) (n - l) sz true)else none
     |none=>none)
    |none=>none)
   |none=>none)
  |_=>none
 | .fieldAddr off x=>match x.ev env with
  |some (.ptr b o)=>some (.ptr b (o+off))
  |some (.eR row o)=>some (.eR row (o+off))
  |_=>none
 | .field off n x=>match x.ev env with
  |some (.agg cs)=>eG n cs off
  |_=>none
 | .indexAddr sz x i=>match x.ev env,i.ev env with
  |some (.slice b off len _ z _),some (.int _ n)=>if 0≤n∧n<(len:Int)then(bif Nat.beq z sz then some (.ptr b (off+n.toNat*sz))else none)else none
  |some (.ah row off len z),some (.int _ n)=>if 0≤n∧n<(len:Int)then(bif Nat.beq z sz then some (.eR row (off+n.toNat*sz))else none)else none
  |_,_=>none
 | .nI len sz x i=>match x.ev env,i.ev env with
  |some (.ptr b off),some (.int _ n)=>if 0≤n∧n<(len:Int)then some (.ptr b (off+n.toNat*sz))else none
  |some (.eR row off),some (.int _ n)=>if 0≤n∧n<(len:Int)then some (.eR row (off+n.toNat*sz))else none
  |_,_=>none
 | .index x i=>match x.ev env,i.ev env with
  |some (.str b),some (.int _ n)=>if 0≤n then(match b[n.toNat]? with|some c=>some (.int .u8 c.toNat)|none=>none)else none
  |_,_=>none
 | .D0 len x i=>match x.ev env,i.ev env with
  |some (.agg cs),some (.int _ n)=>if 0≤n∧n<(len:Int)then cs[n.toNat]? else none
  |_,_=>none
 | .lookup kk zero ok x i=>match x.ev env,i.ev env with
  |some m,some k=>qB s kk zero ok m k
  |_,_=>none
 | .extract i x=>match x.ev env with
  |some (.aZ vs)=>vs[i]?
  |_=>none
 | .len k x=>match x.ev env with
  |some v=>(match mE s k v with|some n=>some (.int .i64 n)|none=>none)
  |none=>none
 | .cap x=>match x.ev env with
  |some .bB=>some (.int .i64 0)
  |some .bQ=>some (.int .i64 0)
  |some (.slice _ _ _ cap _ true)=>some (.int .i64 cap)
  |_=>none
 | .max xs=>match La env xs with
  |some (v::vs)=>zJ zN v vs
  |_=>none
 | .min xs=>match La env xs with
  |some (v::vs)=>zJ Ch v vs
  |_=>none
 | .nv t zero x=>match x.ev env with
  |some .di=>some (.aZ [zero,.bool false])
  |some (.iface u v)=>some (if u=t then .aZ [v,.bool true]else .aZ [zero,.bool false])
  |_=>none
def St.write(s:St)(b off:Nat)(vs:List V):Option St:=
 match s.xM b with
 |some cs=>bif Nat.ble (off+vs.length) cs.length&&vs.all V.one then some (s.put b (.row (kI cs off vs)))else none
 |none=>none
def lY(i:Nat)(f:ME→ME):List ME→List ME
 |[]=>[]
 |e::es=>match i with
  |0=>f e::es
  |j+1=>e::lY j f es
def iu(i:Nat):List ME→List ME
 |[]=>[]
 |e::es=>match i with
  |0=>es
  |j+1=>e::iu j es
def eT(zero:List V):Nat→List V
 |0=>[]
 |n+1=>zero++eT zero n
def qo(s:St)(sz bytes:Nat)(str:Bool)(a x:V):Option (V×St):=
 match iU s sz str x,u7 x with
 |some new,some k=>
  bif new.all V.one then
  (match a with
  | .bB=>
   bif Nat.beq k 0 then some (.bB,s)else
   bif Nat.ble (k*bytes) bl&&Nat.ble k bl then some (.slice s.next 0 k k sz false,s.alloc (.row new))else none
  | .bQ=>
   bif Nat.beq k 0 then some (.bQ,s)else
   bif Nat.ble (k*bytes) bl&&Nat.ble k bl then some (.slice s.next 0 k k sz false,s.alloc (.row new))else none
  | .ah row off len z=>bif Nat.beq k 0 then some (.ah row off len z,s)else none
  | .slice b off len cap z ex=>
   bif Nat.beq z sz&&Nat.ble ((len+k)*bytes) bl&&Nat.ble (len+k) bl then
    (bif Nat.ble (len+k) cap then
     (bif Nat.beq k 0 then some (.slice b off len cap z ex,s)else
     (match s.write b (off+len*sz) new with
     |some s' =>some (.slice b off (len+k) cap z ex,s')
     |none=>none))
    else
     (match s.xM b,bN s sz (.slice b off len cap z ex)with
     |some _,some old=>
      let s0:=bif ex then s else s.put b .dead
      some (.slice s.next 0 (len+k) (len+k) sz false,s0.alloc (.row (old++new)))
     |_,_=>none))
   else none
  |_=>none)
  else none
 |_,_=>none
def copyV(s:St)(sz:Nat)(str:Bool)(d x:V):Option (V×St):=
 match iU s sz str x,u7 x with
 |some cs,some k=>
  (match d with
  | .bB=>some (.int .i64 0,s)
  | .bQ=>some (.int .i64 0,s)
  | .slice b off len _ z _=>bif Nat.beq z sz then
    (match s.write b off (cs.take ((min k len)*sz))with
    |some s' =>some (.int .i64 (min k len:Nat),s')
    |none=>none)
   else none
  |_=>none)
 |_,_=>none
def BP(env:PT V):Io→Option (Ob×(Nat→V))
 | .alloc zero=>some (.row zero,fun n=> .ptr n 0)
 | .box x=>match x.ev env with
  |some v=>some (.row v.cells,fun n=> .ptr n 0)
  |none=>none
 | .buildSlice sz len zero parts=>match nE env (eT zero len) parts with
  |some cs=>some (.row cs,fun n=> .slice n 0 len len sz true)
  |none=>none
 | .makeMap=>some (.map [] 0,fun n=> .map n)
 | .makeSlice sz bytes zero len cap=>match len.ev env,cap.ev env with
  |some l,some c=>(match asNat c bl with
   |some c=>(match asNat l c with
    |some l=>bif Nat.ble (c*bytes) bl then some (.row (eT zero c),fun n=> .slice n 0 l c sz true)else none
    |none=>none)
   |none=>none)
  |_,_=>none
 | .mV x=>match x.ev env with
  |some (.str b)=>bif Nat.ble b.length bl then some (.wG (b.map iK),fun n=> .slice n 0 b.length b.length 1 false)else none
  |_=>none
def zH(env:PT V)(s:St):zv→Option (V×St)
 | .store n a x=>match a.ev env,x.ev env with
  |some (.ptr b off),some v=>bif Nat.beq v.cells.length n then(match s.write b off v.cells with|some s' =>some (.aZ [],s')|none=>none)else none
  |_,_=>none
 | .mapUpdate kk m k x=>match m.ev env,k.ev env,x.ev env with
  |some (.map m),some k,some v=>(match s.get m with
   |some (.map es clock)=>bif plainKey kk k then(match nF kk k es 0 with
    |some (some (i,_))=>some (.aZ [],s.put m (.map (lY i (fun e=>{e with key:=k,val:=v}) es) clock))
    |some none=>some (.aZ [],s.put m (.map (es++[{key:=k,val:=v,born:=clock}]) (clock+1)))
    |none=>none)else none
   |_=>none)
  |_,_,_=>none
 | .delete kk m k=>match m.ev env,k.ev env with
  |some .bS,some k=>bif plainKey kk k then some (.aZ [],s)else none
  |some (.map m),some k=>(match s.get m with
   |some (.map es clock)=>bif plainKey kk k then(match nF kk k es 0 with
    |some (some (i,_))=>some (.aZ [],s.put m (.map (iu i es) clock))
    |some none=>some (.aZ [],s)
    |none=>none)else none
   |_=>none)
  |_,_=>none
 | .append sz bytes str a x=>match a.ev env,x.ev env with
  |some a,some x=>qo s sz bytes str a x
  |_,_=>none
 | .copy sz str d x=>match d.ev env,x.ev env with
  |some d,some x=>copyV s sz str d x
  |_,_=>none
 | .clear _ _ _=>none
 | .range x=>match x.ev env with
  |some .bS=>some (.ptr s.next 0,s.alloc (.gA none 0 [] 0))
  |some (.map m)=>(match s.get m with
   |some (.map _ clock)=>some (.ptr s.next 0,s.alloc (.gA (some m) clock [] clock))
   |_=>none)
  |_=>none
section
variable{R:Type}[iW R]
def ep(es:List ME)(since:Nat)(seen:List Nat):List (Option ME):=
 let left:=es.filter fun e=> !seen.contains e.born;let old:=left.filter fun e=>Nat.blt e.born since;let new:=left.filter fun e=>Nat.ble since e.born
 (bif old.isEmpty then[none]else[])++(old++new).map some
def qw(s:St)(b:Nat)(k:V→St→R):R:=
 match s.get b with
 |some (.gA none _ _ _)=>k (.aZ [.bool false]) s
 |some (.gA (some m) since seen last)=>(match s.get m with
  |some (.map es clock)=>
   bif !seen.isEmpty&& !es.isEmpty&&es.all (fun e=>Nat.ble last e.born)then iW.fail else
   iW.all (ep es since seen).length fun i=>match(ep es since seen)[i]? with
    |some (some e)=>k (.aZ [.bool true,e.key,e.val]) (s.put b (.gA (some m) since (seen++[e.born]) clock))
    |some none=>k (.aZ [.bool false]) s
    |none=>iW.fail
  |_=>iW.fail)
 |_=>iW.fail
def dN(M:Nat→String→Option Nat)(F:Nat→List V→St→(V→St→R)→R)(env:PT V)(s:St)(o:j7)(k:V→St→R):R:=
 match o with
 | .s o=>(match cZ env s o with|some v=>k v s|none=>iW.fail)
 | .m o=>(match BP env o with|some (ob,f)=>k (f s.next) (s.alloc ob)|none=>iW.fail)
 | .h o=>(match zH env s o with|some (v,s')=>k v s' |none=>iW.fail)
 | .call f args=>(match f.ev env,La env args with
  |some (.func f first captured),some vs=>F f (first++vs++captured) s k
  |_,_=>iW.fail)
 | .invoke name x args=>(match x.ev env,La env args with
  |some (.iface t v),some vs=>(match M t name with
   |some f=>F f (v::vs) s k
   |none=>iW.fail)
  |_,_=>iW.fail)
 | .next x=>(match x.ev env with
  |some (.ptr b 0)=>qw s b k
  |_=>iW.fail)
 | .bad=>iW.fail
def bW(g:Option (Nat×Bool))(env:PT V):Option Bool:=
 match g with
 |none=>some true
 |some (t,want)=>match env.get t with
  |some (.bool b)=>some (b==want)
  |some _=>some false
  |none=>none
def fI(dst:Option Nat)(v:V)(env:PT V):PT V:=
 match dst with
 |some d=>env.set d v
 |none=>env
def fm(M:Nat→String→Option Nat)(F:Nat→List V→St→(V→St→R)→R):List aG→PT V→St→(PT V→St→R)→R
 |[],env,s,k=>k env s
 |o::r,env,s,k=>match bW o.guard env with
  |some true=>dN M F env s o.op fun v s' =>fm M F r (fI o.dst v env) s' k
  |some false=>fm M F r (fI o.dst (.aZ []) env) s k
  |none=>iW.fail
def aG.small(o:aG):Bool:=match o.op with| .s _=>true| .m _=>true|_=>false
def within(a b:Nat):Bool:=Nat.beq (Nat.land a b) a
abbrev fN:=List (Nat×gv×PT V×V)
def jD:List (Nat×aG)→Nat→PT V→St→List (Nat×aG)→fN→Option (List (Nat×aG)×Nat×PT V×St×fN)
 |[],done,env,s,left,aj=>some (left.reverse,done,env,s,aj)
 |(i,o)::r,done,env,s,left,aj=>
  bif o.small&&within o.aT done then
   (match bW o.guard env with
   |some true=>(match o.op with
    | .s op=>(match cZ env s op with
     |some v=>jD r (Nat.lor done (2 ^ i)) (fI o.dst v env) s left ((i,op,env,v)::aj)
     |none=>none)
    | .m op=>(match BP env op with
     |some (ob,f)=>jD r (Nat.lor done (2 ^ i)) (fI o.dst (f s.next) env) (s.alloc ob) left aj
     |none=>none)
    |_=>none)
   |some false=>jD r (Nat.lor done (2 ^ i)) (fI o.dst (.aZ []) env) s left aj
   |none=>none)
  else jD r done env s ((i,o)::left) aj
def eW:List (Nat×aG)→List (Nat×aG)→Option (Nat×aG×List (Nat×aG))
 |_,[]=>none
 |pre,(i,o)::r=>bif o.small then eW ((i,o)::pre) r else some (i,o,pre.reverse++r)
def recheck(s:St)(aT:Nat):fN→R→R
 |[],r=>r
 |(i,op,env,v)::rest,r=>
  bif Nat.testBit aT i then recheck s aT rest r
  else match cZ env s op with
   |some u=>iW.chk u v (recheck s aT rest r)
   |none=>iW.fail
def dV(aT:Nat)(l:fN):fN:=l.filter fun x=> !Nat.testBit aT x.1
def fk(M:Nat→String→Option Nat)(F:Nat→List V→St→(V→St→R)→R):Nat→List (Nat×aG)→Nat→PT V→St→fN→(PT V→St→R)→R
 |0,_,_,_,_,_,_=>iW.fail
 |n+1,todo,done,env,s,aj,k=>
  match jD todo done env s [] aj with
  |none=>iW.fail
  |some (todo,done,env,s,aj)=>
   match eW [] todo with
   |none=>(match todo with|[]=>k env s|_=>iW.fail)
   |some (i,o,rest)=>
    bif within o.aT done&&rest.all (fun x=>x.2.small||Nat.testBit x.2.aT i)then
     (match bW o.guard env with
     |some true=>dN M F env s o.op fun v s' =>recheck s' o.aT aj
       (fk M F n rest (Nat.lor done (2 ^ i)) (fI o.dst v env) s' (dV o.aT aj) k)
     |some false=>fk M F n rest (Nat.lor done (2 ^ i)) (fI o.dst (.aZ []) env) s aj k
     |none=>iW.fail)
    else iW.fail
def bx:List aG→Nat→List (Nat×aG)
 |[],_=>[]
 |o::r,i=>(i,o)::bx r (i+1)
def firsts(env:PT V):Nat→List V→Option (List V)
 |0,acc=>some acc
 |n+1,acc=>match env.get n with
  |some v=>firsts env n (v::acc)
  |none=>none
def cK:List V→Nat→PT V→PT V
 |[],_,env=>env
 |v::vs,i,env=>cK vs (i+1) (env.set i v)
def Eg(env:PT V)(s:St):vN→Option V
 | .t n=>env.get n
 | .cell a n=>match env.get a with
  |some (.ptr b off)=>(match s.row b with|some cs=>eG n cs off|none=>none)
  |_=>none
def vw(env:PT V)(s:St):List vN→Option (List V)
 |[]=>some []
 |r::rs=>match Eg env s r with
  |some v=>(match vw env s rs with|some vs=>some (v::vs)|none=>none)
  |none=>none
def cI(env:PT V)(s:St)(rs:List vN):Option V:=
 match vw env s rs with
 |some [v]=>some v
 |some vs=>some (.aZ vs)
 |none=>none
def gz(C:Nat→Option cq)(M:Nat→String→Option Nat):Nat→aq→PT V→St→(Ex→PT V→St→R)→R
 |0,_,_,_,_=>iW.fail
 |n+1,c,env,s,k=>
  let F:Nat→List V→St→(V→St→R)→R:=fun f args s k=>match C f with
   |none=>iW.fail
   |some fn=>
    bif Nat.ble args.length fn.ntmps then
     gz C M n fn.body (cK args 0 .e) s fun e env s=>match e with
      | .exit _=>iW.fail
      |_=>(match cI env s fn.results with|some v=>k v s|none=>iW.fail)
    else iW.fail
  match c with
  | .skip=>k .normal env s
  | .region ops=>fm M F ops env s fun env s=>k .normal env s
  | .draw ops=>fk M F (ops.length+1) (bx ops 0) 0 env s [] fun env s=>k .normal env s
  | .seq a b=>gz C M n a env s fun e env s=>match e with
   | .normal=>gz C M n b env s k
   | .exit i=>k (.exit i) env s
   | .ret=>k .ret env s
  | .cond x a b=>(match x.ev env with
   |some (.bool true)=>gz C M n a env s k
   |some (.bool false)=>gz C M n b env s k
   |_=>iW.fail)
  | .block id b=>gz C M n b env s fun e env s=>match e with
   | .normal=>k .normal env s
   | .exit i=>bif Nat.beq i id then k .normal env s else k (.exit i) env s
   | .ret=>k .ret env s
  | .loop b=>gz C M n b env s fun e env s=>match e with
   | .normal=>gz C M n (.loop b) env s k
   | .exit i=>k (.exit i) env s
   | .ret=>k .ret env s
  | .exit i=>k (.exit i) env s
  | .ret=>k .ret env s
  | .bad=>iW.fail
  | .wB m p=>(match firsts env m []with
   |some vs=>(match p vs s with
    |some (v,s)=>k .ret (env.set 0 v) s
    |none=>iW.fail)
   |none=>iW.fail)
def Zp(C:Nat→Option cq)(M:Nat→String→Option Nat)(n f:Nat)(args:List V)(s:St)(k:V→St→R):R:=
 match C f with
 |none=>iW.fail
 |some fn=>
  bif Nat.ble args.length fn.ntmps then
   gz C M n fn.body (cK args 0 .e) s fun e env s=>match e with
    | .exit _=>iW.fail
    |_=>(match cI env s fn.results with|some v=>k v s|none=>iW.fail)
  else iW.fail
end
end Go.RE
namespace Go.RE
def sn:Value→Option V
 | .bool b=>some (.bool b)
 | .int k n=>some (.int k n)
 | .string s=>some (.str s.data.toList)
 | .pointer none=>some .br
 | .slice none 0 0=>some .bB
 | .map none=>some .bS
 | .nilFunc=>some .dJ
 | .nilIface=>some .di
 |_=>none
def ofL(f:Value→Option V):List Value→Option (List V)
 |[]=>some []
 |x::xs=>match f x with
  |some v=>(match ofL f xs with|some vs=>some (v::vs)|none=>none)
  |none=>none
def ofValue:Value→Option V
 | .agg cs=>(match ofL sn cs.toList with|some l=>some (.agg l)|none=>none)
 | .iface t v=>(match sn v with|some x=>some (.iface t x)|none=>none)
 |v=>sn v
def cW:Operand→Option bO
 | .tmp t=>some (.t t)
 | .const v=>(match ofValue v with|some x=>some (.c x)|none=>none)
 | .func f=>some (.c (.func f [] []))
 | .global _=>none
def nW:List Operand→Option (List bO)
 |[]=>some []
 |x::xs=>match cW x with
  |some v=>(match nW xs with|some vs=>some (v::vs)|none=>none)
  |none=>none
def nV:Option Operand→Option (Option bO)
 |none=>some none
 |some x=>match cW x with
  |some v=>some (some v)
  |none=>none
section
variable(P:Program)
def zeroOf(t:TypeId):Option V:=match P.info? t with
 |some i=>(match i.zero with|some v=>ofValue v|none=>none)
 |none=>none
def gH(t:TypeId):Option Nat:=match P.info? t with
 |some i=>some i.size
 |none=>none
def xY(t:TypeId):Option Nat:=match P.info? t with
 |some i=>some i.bytes
 |none=>none
def spread(t:TypeId):Option (Option Nat):=match P.underlying t with
 |some (.struct _)=>(match gH P t with|some n=>some (some n)|none=>none)
 |some (.array _ _)=>(match gH P t with|some n=>some (some n)|none=>none)
 |some _=>some none
 |none=>none
def eo:Operand→Bool
 | .const _=>true
 |_=>false
def flatK:List Field→Option (List (Nat×iG))
 |[]=>some []
 |f::fs=>bif f.name== "_" then none else
  match P.underlying f.type,flatK fs with
  |some .bool,some r=>some ((f.offset,.bool)::r)
  |some (.int _),some r=>some ((f.offset,.int)::r)
  |some .string,some r=>some ((f.offset,.str)::r)
  |_,_=>none
def Rp(op:BinOp)(t:TypeId)(x y:Operand):iG:=
 match op with
 | .eql| .neq=>
  (match P.underlying t with
  |some .bool=> .bool
  |some (.int _)=> .int
  |some .string=> .str
  |some (.pointer _)=> .br
  |some (.slice _)=> .bB
  |some (.map _ _)=> .bS
  |some (.func _ _ _)=> .dJ
  |some (.interface _)=> .iface (!(eo x||eo y))
  |some (.struct fs)=>(match flatK P fs.toList with
   |some ks=>bif P.stoodInHeld t||P.eqGuardType P.depth t then .no else .flat ks
   |none=> .no)
  |_=> .no)
 |_=> .no
def places:List Field→Option (List (Nat×Nat))
 |[]=>some []
 |f::fs=>match gH P f.type,places fs with
  |some n,some r=>some ((f.offset,n)::r)
  |_,_=>none
def lP(place:Nat→Option (Nat×Nat)):List (Nat×Operand)→Option (List (Nat×Nat×bO))
 |[]=>some []
 |(i,x)::r=>match place i,cW x,lP place r with
  |some (o,n),some x,some r=>some ((o,n,x)::r)
  |_,_,_=>none
def lR(t:TypeId):Option iG:=match P.underlying t with
 |some .bool=>some .bool
 |some (.int _)=>some .int
 |some .string=>some .str
 |_=>none
def Ja(t:TypeId):Bool:=match P.underlying t with
 |some (.int .u8)=>true
 |_=>false
def oL(t:TypeId):Option TypeId:=match P.underlying t with
 |some (.slice e)=>some e
 |_=>none
def kg(b:Builtin)(argTypes:List TypeId)(args:List bO):j7:=
 match b,argTypes,args with
 | .len,t::_,x::_=>(match P.underlying t with
  |some .string=> .s (.len 0 x)
  |some (.slice _)=> .s (.len 1 x)
  |some (.map _ _)=> .s (.len 2 x)
  |_=> .bad)
 | .cap,t::_,x::_=>(match P.underlying t with
  |some (.slice _)=> .s (.cap x)
  |_=> .bad)
 | .max,_,xs=> .s (.max xs)
 | .min,_,xs=> .s (.min xs)
 | .append,[t,u],[a,x]=>(match oL P t,P.underlying u with
  |some e,some ud=>(match ud,gH P e,xY P e,zeroOf P e with
   | .slice _,some sz,some bs,some z=>bif Nat.beq z.cells.length sz then .h (.append sz bs false a x)else .bad
   | .string,some sz,some bs,some z=>bif Nat.beq z.cells.length sz then .h (.append sz bs true a x)else .bad
   |_,_,_,_=> .bad)
  |_,_=> .bad)
 | .copy,[t,u],[d,x]=>(match oL P t,P.underlying u with
  |some e,some ud=>(match ud,gH P e with
   | .slice _,some sz=> .h (.copy sz false d x)
   | .string,some sz=> .h (.copy sz true d x)
   |_,_=> .bad)
  |_,_=> .bad)
 | .delete,t::_,[m,k]=>(match P.underlying t with
  |some (.map kt _)=>(match lR P kt with|some kk=> .h (.delete kk m k)|none=> .bad)
  |_=> .bad)
 |_,_,_=> .bad
def cop(o:Op):j7:=
 match o with
 | .move x| .assign x=>(match cW x with|some x=> .s (.bn x)|none=> .bad)
 | .pick c a b=>(match cW c,cW a,cW b with|some c,some a,some b=> .s (.pick c a b)|_,_,_=> .bad)
 | .alloc e=>(match zeroOf P e with|some z=> .m (.alloc z.cells)|none=> .bad)
 | .box _ x=>(match cW x with|some x=> .m (.box x)|none=> .bad)
 | .build t parts=>(match P.underlying t with
  |some (.struct fs)=>(match zeroOf P t,places P fs.toList with
   |some z,some ps=>(match lP (fun i=>ps[i]?) parts.toList with
    |some l=> .s (.build z.cells l)
    |none=> .bad)
   |_,_=> .bad)
  |some (.array _ e)=>(match zeroOf P t,gH P e with
   |some z,some sz=>(match lP (fun i=>some (i*sz,sz)) parts.toList with
    |some l=> .s (.build z.cells l)
    |none=> .bad)
   |_,_=> .bad)
  |_=> .bad)
 | .buildSlice t len parts=>(match oL P t with
  |some e=>(match gH P e,zeroOf P e with
   |some sz,some z=>bif Nat.ble (len*sz) 16777216&&Nat.beq z.cells.length sz&&Nat.ble 1 sz then
     (match lP (fun i=>some (i*sz,sz)) parts.toList with
     |some l=> .m (.buildSlice sz len z.cells l)
     |none=> .bad)
    else .bad
   |_,_=> .bad)
  |none=> .bad)
 | .load t a=>(match spread P t,cW a with|some n,some a=> .s (.load n a)|_,_=> .bad)
 | .store t a x=>(match gH P t,cW a,cW x with|some n,some a,some x=> .h (.store n a x)|_,_,_=> .bad)
 | .nilCheck x=>(match cW x with|some x=> .s (.nilCheck x)|none=> .bad)
 | .binOp op t x y _=>(match cW x,cW y with|some a,some b=> .s (.bin op (Rp P op t x y) a b)|_,_=> .bad)
 | .unOp op _ x=>(match cW x with|some x=> .s (.un op x)|none=> .bad)
 | .convert src dst x=>(match P.underlying src,P.underlying dst,cW x with
  |some _,some (.int k),some x=> .s (.eP k x)
  |some .string,some .string,some x=> .s (.uV x)
  |some (.slice e),some .string,some x=>bif Ja P e then .s (.toStr x)else .bad
  |some .string,some (.slice e),some x=>bif Ja P e then .m (.mV x)else .bad
  |_,_,_=> .bad)
 | .makeInterface t x=>(match P.underlying t,cW x with
  |some (.interface _),_=> .bad
  |some _,some x=> .s (.oJ t x)
  |_,_=> .bad)
 | .makeFunc (.func f) first captured=>(match nW first.toList,nW captured.toList with
  |some a,some b=> .s (.jK f a b)
  |_,_=> .bad)
 | .makeMap t r=>(match P.underlying t,r with
  |some (.map _ _),none=> .m .makeMap
  |some (.map _ _),some (.const (.int _ _))=> .m .makeMap
  |_,_=> .bad)
 | .makeSlice t l c=>(match oL P t with
  |some e=>(match gH P e,xY P e,zeroOf P e,cW l,cW c with
   |some sz,some bs,some z,some l,some c=>bif Nat.beq z.cells.length sz&&Nat.ble 1 sz then .m (.makeSlice sz bs z.cells l c)else .bad
   |_,_,_,_,_=> .bad)
  |none=> .bad)
 | .slice t x lo hi mx=>(match P.underlying t,cW x,nV lo,nV hi,nV mx with
  |some .string,some x,some lo,some hi,some none=> .s (.oh x lo hi)
  |some (.slice e),some x,some lo,some hi,some mx=>(match gH P e with
   |some sz=>bif mx.isSome&& !hi.isSome then .bad else .s (.slice sz x lo hi mx)
   |none=> .bad)
  |some (.array n e),some x,some lo,some hi,some none=>(match gH P e with
   |some sz=>bif Nat.ble n 16777216 then .s (.jw n sz x lo hi)else .bad
   |none=> .bad)
  |_,_,_,_,_=> .bad)
 | .fieldAddr t x f=>(match P.underlying t,cW x with
  |some (.struct fs),some x=>(match fs[f]? with
   |some f=>(match gH P f.type with
    |some (_+1)=> .s (.fieldAddr f.offset x)
    |_=> .bad)
   |none=> .bad)
  |_,_=> .bad)
 | .field t x f=>(match P.underlying t,cW x with
  |some (.struct fs),some x=>(match fs[f]? with
   |some f=>(match spread P f.type with
    |some n=> .s (.field f.offset n x)
    |none=> .bad)
   |none=> .bad)
  |_,_=> .bad)
 | .indexAddr t x i=>(match P.underlying t,cW x,cW i with
  |some (.slice e),some x,some i=>(match gH P e with|some sz=> .s (.indexAddr sz x i)|none=> .bad)
  |some (.array n e),some x,some i=>(match gH P e with|some sz=> .s (.nI n sz x i)|none=> .bad)
  |_,_,_=> .bad)
 | .index t x i=>(match P.underlying t,cW x,cW i with
  |some .string,some x,some i=> .s (.index x i)
  |some (.array n e),some x,some i=>(match gH P e,spread P e with
   |some 1,some none=> .s (.D0 n x i)
   |_,_=> .bad)
  |_,_,_=> .bad)
 | .lookup t x i ok=>(match P.underlying t,cW x,cW i with
  |some (.map k e),some x,some i=>(match zeroOf P e,lR P k with
   |some z,some kk=> .s (.lookup kk z ok x i)
   |_,_=> .bad)
  |_,_,_=> .bad)
 | .mapUpdate t m k x| .insert t m k x=>(match P.underlying t,cW m,cW k,cW x with
  |some (.map kt _),some m,some k,some x=>(match lR P kt with|some kk=> .h (.mapUpdate kk m k x)|none=> .bad)
  |_,_,_,_=> .bad)
 | .extract x i=>(match cW x with|some x=> .s (.extract i x)|none=> .bad)
 | .typeAssert x _ t true=>(match P.underlying t,cW x,zeroOf P t with
  |some (.interface _),_,_=> .bad
  |some _,some x,some z=> .s (.nv t z x)
  |_,_,_=> .bad)
 | .range t x=>(match P.underlying t,cW x with
  |some (.map _ _),some x=> .h (.range x)
  |_,_=> .bad)
 | .entry x=>(match cW x with|some x=> .s (.entry x)|none=> .bad)
 | .next x false=>(match cW x with|some x=> .next x|none=> .bad)
 | .call c=>(match c.callee,nW c.args.toList with
  | .value f,some args=>(match cW f with|some f=> .call f args|none=> .bad)
  | .builtin b,some args=>kg P b c.argTypes.toList args
  | .invoke r m,some args=>(match cW r with|some r=> .invoke m r args|none=> .bad)
  |_,none=> .bad)
 |_=> .bad
def oN(acc:List Nat)(o:Oper):Nat:=
 o.after.toList.foldl (fun s e=>bif Region.binds .any e then Nat.lor (Nat.lor s (2 ^ e.on)) (acc.getD e.on 0)else s) 0
def guardOf(ops:List Oper)(o:Oper):Option (Option (Nat×Bool)):=
 match o.guard with
 |none=>some none
 |some (j,want)=>match ops[j]? with
  |some p=>(match p.dst with|some d=>some (some (d,want))|none=>none)
  |none=>none
def Ah(n:Nat)(all:List Oper):List Oper→List Nat→Option (List aG)
 |[],_=>some []
 |o::r,acc=>
  match guardOf all o,Ah n all r (acc++[oN acc o])with
  |some g,some l=>
   bif(match o.dst with|some d=>Nat.blt d n|none=>true)then some ({dst:=o.dst,op:=cop P o.op,guard:=g,aT:=oN acc o}::l)else none
  |_,_=>none
def ot(o:Oper)(all:List Oper):List Nat:=
 (o.op.operands.toList.filterMap fun| .tmp t=>some t|_=>none)++
 (match o.guard with
  |some (g,_)=>((all[g]?).bind (·.dst)).toList
  |none=>[])
def BH(all:List Oper)(cs:List aG):Bool:=
 (List.range all.length).all fun i=>
  (match all[i]?,cs[i]? with
  |some o,some _=>
   o.after.toList.all (fun e=> !Region.binds .any e||Nat.blt e.on i)&&
   (List.range all.length).all (fun j=>Nat.beq i j||
    (match all[j]?,cs[j]? with
    |some p,some d=>
     (match p.dst with
     |none=>true
     |some t=>
      (match o.dst with|some u=> !Nat.beq t u|none=>true)&&
      (!(ot o all).elem t||Nat.testBit ((cs.getD i default).aT) j||Nat.testBit d.aT i))
    |_,_=>true))
  |_,_=>false)
def iL(n:Nat):Code→aq
 | .skip=> .skip
 | .region _ ops draw=>(match Ah P n ops.toList ops.toList []with
  |some l=>bif draw then(bif BH ops.toList l then .draw l else .bad)else .region l
  |none=> .bad)
 | .seq a b=> .seq (iL n a) (iL n b)
 | .cond c a b=>(match cW c with|some c=> .cond c (iL n a) (iL n b)|none=> .bad)
 | .block id b=> .block id (iL n b)
 | .loop b=> .loop (iL n b)
 | .exit id=> .exit id
 | .ret=> .ret
 | .scope b=> .seq (iL n b) .skip
 | .label _=> .skip
 |_=> .bad
def rQ:List ResultVar→Option (List vN)
 |[]=>some []
 | .tmp t::r=>(match rQ r with|some l=>some (.t t::l)|none=>none)
 | .cell a t::r=>(match spread P t,rQ r with|some n,some l=>some (.cell a n::l)|_,_=>none)
def qg8(f:Nat):Option cq:=
 match P.funcs[f]? with
 |none=>none
 |some fn=>match fn.body with
  |none=>none
  |some b=>bif fn.name== "runtime.NumGoroutine" then none else
   match rQ P fn.results.toList with
   |some rs=>some {ntmps:=fn.ntmps,results:=rs,body:=iL P fn.ntmps b}
   |none=>none
def methodOf(t:Nat)(name:String):Option Nat:=
 match P.info? t with
 |none=>none
 |some i=>match i.methods.find? (·.name==name)with
  |none=>none
  |some m=>bif m.path.isEmpty then(match m.func,P.underlying t with
   |some (f,true),some (.pointer _)=>some f
   |some (_,false),some (.pointer _)=>none
   |some (f,false),some _=>some f
   |_,_=>none)else none
end
end Go.RE
namespace Go.RE
abbrev Ren:=Nat→Option (Nat×Nat×Nat)
def Ren.le(ρ ρ' :Ren):Prop:=∀ n x,ρ n=some x→ρ' n=some x
inductive aF(w0:World)(ρ:Ren):V→Value→Prop
 |bool (b:Bool):aF w0 ρ (.bool b) (.bool b)
 |int (k:IntKind) (n:Int):aF w0 ρ (.int k n) (.int k n)
 |str {l:List UInt8} {s:ByteArray} (h:s.data.toList=l):aF w0 ρ (.str l) (.string s)
 |br:aF w0 ρ .br (.pointer none)
 |ptr {b off r o lim:Nat} (h:ρ b=some (r,o,lim)):aF w0 ρ (.ptr b off) (.pointer (some ⟨r,o+off,none⟩))
 |eR {row:List V} {off r o:Nat} (c:Nat→Value) (hr:row≠[]→r<w0.heap.size) (hc:∀ i,i<row.length→w0.cell? ⟨r,o+i,none⟩=some (c i))
   (hv:∀ i (h:i<row.length),aF w0 ρ row[i] (c i)):aF w0 ρ (.eR row off) (.pointer (some ⟨r,o+off,none⟩))
 |bB:aF w0 ρ .bB (.slice none 0 0)
 |bQ {a:Addr}:aF w0 ρ .bQ (.slice (some a) 0 0)
 |slice {b off len cap sz:Nat} {ex:Bool} {r o lim:Nat} {a:Addr} {cap' :Nat} (h:ρ b=some (r,o,lim)) (h1:cap≤cap') (h2:ex=true→cap' =cap)
   (h3:len≤cap) (h4:cap' =0∨(a=⟨r,o+off,none⟩∧o+off+cap'*sz≤lim)) (h5:cap'≤9223372036854775807):aF w0 ρ (.slice b off len cap sz ex) (.slice (some a) len cap')
 |ah {row:List V} {off len sz r o:Nat} {a:Addr} {cap' :Nat} (c:Nat→Value) (hr:row≠[]→r<w0.heap.size) (hc:∀ i,i<row.length→w0.cell? ⟨r,o+i,none⟩=some (c i))
   (hv:∀ i (h:i<row.length),aF w0 ρ row[i] (c i)) (h3:len≤cap') (h4:cap' =0∨a=⟨r,o+off,none⟩):aF w0 ρ (.ah row off len sz) (.slice (some a) len cap')
 |bS:aF w0 ρ .bS (.map none)
 |map {b r o lim:Nat} (h:ρ b=some (r,o,lim)):aF w0 ρ (.map b) (.map (some r))
 |dJ:aF w0 ρ .dJ .nilFunc
 |func {f:Nat} {a b:List V} {a' b' :Array Value} (ha:a.length=a'.size) (hb:b.length=b'.size)
   (va:∀ i (h:i<a.length) (h' :i<a'.size),aF w0 ρ a[i] a'[i]) (vb:∀ i (h:i<b.length) (h' :i<b'.size),aF w0 ρ b[i] b'[i]):aF w0 ρ (.func f a b) (.func (.func f) a' b')
 |di:aF w0 ρ .di .nilIface
 |iface {t:Nat} {v:V} {v' :Value} (h:aF w0 ρ v v'):aF w0 ρ (.iface t v) (.iface t v')
 |agg {a:List V} {a' :Array Value} (ha:a.length=a'.size) (va:∀ i (h:i<a.length) (h' :i<a'.size),aF w0 ρ a[i] a'[i]):aF w0 ρ (.agg a) (.agg a')
 |aZ {a:List V} {a' :Array Value} (ha:a.length=a'.size) (va:∀ i (h:i<a.length) (h' :i<a'.size),aF w0 ρ a[i] a'[i]):aF w0 ρ (.aZ a) (.tuple a')
theorem aF.mono{w0:World}{ρ ρ' :Ren}(hρ:ρ.le ρ'){v:V}{x:Value}(h:aF w0 ρ v x):aF w0 ρ' v x:=by
 induction h with
 |bool b=>exact .bool b
 |int k n=>exact .int k n
 |str h=>exact .str h
 |br=>exact .br
 |ptr h=>exact .ptr (hρ _ _ h)
 |eR c hr hc _ ih=>exact .eR c hr hc ih
 |bB=>exact .bB
 |bQ=>exact .bQ
 |slice h h1 h2 h3 h4 h5=>exact .slice (hρ _ _ h) h1 h2 h3 h4 h5
 |ah c hr hc _ h3 h4 ih=>exact .ah c hr hc ih h3 h4
 |bS=>exact .bS
 |map h=>exact .map (hρ _ _ h)
 |dJ=>exact .dJ
 |func ha hb _ _ iha ihb=>exact .func ha hb iha ihb
 |di=>exact .di
 |iface _ ih=>exact .iface ih
 |agg ha _ ih=>exact .agg ha ih
 |aZ ha _ ih=>exact .aZ ha ih
def aV(w0:World)(ρ:Ren)(a:List V)(b:List Value):Prop:=a.length=b.length∧∀ i (h:i<a.length) (h' :i<b.length),aF w0 ρ a[i] b[i]
theorem aV.nil{w0:World}{ρ:Ren}:aV w0 ρ [] []:=⟨rfl,fun i h=>by simp at h⟩
theorem aV.cons{w0:World}{ρ:Ren}{a:V}{b:Value}{as:List V}{bs:List Value}(h:aF w0 ρ a b)(hs:aV w0 ρ as bs):aV w0 ρ (a::as) (b::bs):=
 ⟨by simp[hs.1],fun i h1 h2=>by
  cases i with
  |zero=>simpa using h
  |succ i=>simpa using hs.2 i (by simpa using h1) (by simpa using h2)⟩
theorem aV.append{w0:World}{ρ:Ren}{a c:List V}{b d:List Value}(h:aV w0 ρ a b)(hs:aV w0 ρ c d):aV w0 ρ (a++c) (b++d):=
 ⟨by simp[h.1,hs.1],fun i h1 h2=>by
  have e:=h.1;by_cases hi:i<a.length
  ·rw[PN hi,PN (by omega)];exact h.2 i hi (by omega)
  ·simp only[gX]at h1 h2;rw[PO (by omega),PO (by omega)];have:=hs.2 (i - a.length) (by omega) (by omega);simpa[e]using this⟩
theorem aV.take{w0:World}{ρ:Ren}{a:List V}{b:List Value}(n:Nat)(h:aV w0 ρ a b):aV w0 ρ (a.take n) (b.take n):=
 ⟨by simp[h.1],fun i h1 h2=>by
  simp only[iD]at h1 h2;simpa using h.2 i (by omega) (by omega)⟩
theorem aV.drop{w0:World}{ρ:Ren}{a:List V}{b:List Value}(n:Nat)(h:aV w0 ρ a b):aV w0 ρ (a.drop n) (b.drop n):=
 ⟨by simp[h.1],fun i h1 h2=>by
  simp only[uO]at h1 h2;simpa using h.2 (n+i) (by omega) (by omega)⟩
theorem aV.of_array{w0:World}{ρ:Ren}{a:List V}{b:Array Value}(h:a.length=b.size)(hv:∀ i (h:i<a.length) (h' :i<b.size),aF w0 ρ a[i] b[i]):aV w0 ρ a b.toList:=
 ⟨by simpa using h,fun i h1 h2=>by simpa using hv i h1 (by simpa using h2)⟩
theorem aV.get{w0:World}{ρ:Ren}{a:List V}{b:List Value}(h:aV w0 ρ a b){i:Nat}{v:V}(hv:a[i]? =some v):∃ x,b[i]? =some x∧aF w0 ρ v x:=by
 obtain⟨hi,rfl⟩:=aH.1 hv;exact⟨b[i]'(h.1▸hi),aQ _,h.2 i hi (h.1▸hi)⟩
theorem aV.eF{w0:World}{ρ:Ren}{b:List Value}(h:aV w0 ρ [] b):b=[]:=by
 have:=h.1;simp at this;exact fT this.symm
theorem aV.bD{w0:World}{ρ:Ren}{a:V}{as:List V}{b:List Value}(h:aV w0 ρ (a::as) b):∃ x xs,b=x::xs∧aF w0 ρ a x∧aV w0 ρ as xs:=by
 cases b with
 |nil=>have:=h.1;simp at this
 |cons x xs=>
  refine⟨x,xs,rfl,?_,?_,fun i h1 h2=> ?_⟩
  ·exact h.2 0 (by simp) (by simp)
  ·have:=h.1;simpa using this
  ·exact h.2 (i+1) (by simpa using h1) (by simpa using h2)
theorem aF.Br{w0:World}{ρ:Ren}{a:List V}{b:List Value}(h:aV w0 ρ a b):aF w0 ρ (.agg a) (.agg b.toArray):=
 .agg (by simpa using h.1) fun i h1 h2=>by simpa using h.2 i h1 (by simpa using h2)
theorem aF.lH{w0:World}{ρ:Ren}{a:List V}{b:List Value}(h:aV w0 ρ a b):aF w0 ρ (.aZ a) (.tuple b.toArray):=
 .aZ (by simpa using h.1) fun i h1 h2=>by simpa using h.2 i h1 (by simpa using h2)
theorem aF.cells{w0:World}{ρ:Ren}{v:V}{x:Value}(h:aF w0 ρ v x):aV w0 ρ v.cells x.cells.toList:=by
 cases h with
 |agg ha va=>exact aV.of_array ha va
 |bool b=>exact aV.cons (.bool b) .nil
 |int k n=>exact aV.cons (.int k n) .nil
 |str h=>exact aV.cons (.str h) .nil
 |br=>exact aV.cons .br .nil
 |ptr h=>exact aV.cons (.ptr h) .nil
 |eR c hr hc hv=>exact aV.cons (.eR c hr hc hv) .nil
 |bB=>exact aV.cons .bB .nil
 |bQ=>exact aV.cons .bQ .nil
 |slice h h1 h2 h3 h4 h5=>exact aV.cons (.slice h h1 h2 h3 h4 h5) .nil
 |ah c hr hc hv h3 h4=>exact aV.cons (.ah c hr hc hv h3 h4) .nil
 |bS=>exact aV.cons .bS .nil
 |map h=>exact aV.cons (.map h) .nil
 |dJ=>exact aV.cons .dJ .nil
 |func ha hb va vb=>exact aV.cons (.func ha hb va vb) .nil
 |di=>exact aV.cons .di .nil
 |iface h=>exact aV.cons (.iface h) .nil
 |aZ ha va=>exact aV.cons (.aZ ha va) .nil
theorem aF.one{w0:World}{ρ:Ren}{v:V}{x:Value}(h:aF w0 ρ v x)(h1:v.one=true):(∀ c,x≠.agg c)∧(∀ c,x≠.tuple c):=by
 cases h<;>simp[V.one]at h1⊢
def jm(w0:World)(ρ:Ren)(o lim:Nat):Option Ob→Option Obj→Prop
 |some (.row cs),x=>∃ c t fr,x=some (.cells c t fr)∧c.size=lim∧o+cs.length≤lim∧(∀ j,j≤lim→¬(fr.1≤j∧j<fr.2))∧
   ∀ i (h:i<cs.length),∃ v,c[o+i]? =some v∧aF w0 ρ cs[i] v
 |some (.wG cs),x=>∃ c t fr,x=some (.cells c t fr)∧c.size=lim∧o+cs.length≤lim∧(∀ j,j<lim→¬(fr.1≤j∧j<fr.2))∧
   ∀ i (h:i<cs.length),∃ v,c[o+i]? =some v∧aF w0 ρ cs[i] v
 |some (.map es clock),x=>∃ es',x=some (.map es' clock)∧es.length=es'.size∧
   ∀ i (h:i<es.length) (h' :i<es'.size),aF w0 ρ es[i].key es'[i].key∧aF w0 ρ es[i].val es'[i].val∧es[i].born=es'[i].born
 |some (.gA m since seen stepped),x=>∃ m',x=some (.mapIter m' since seen.toArray stepped)∧
   (match m with|none=>m' =none|some n=>∃ r o lim,ρ n=some (r,o,lim)∧m' =some r)∧o=0
 |some .dead,_=>True
 |none,_=>True
def live:Option Ob→Prop
 |some .dead=>False
 |none=>False
 |_=>True
theorem jm.mono{w0:World}{ρ ρ' :Ren}(hρ:ρ.le ρ'){o lim:Nat}{ob:Option Ob}{x:Option Obj}(h:jm w0 ρ o lim ob x):jm w0 ρ' o lim ob x:=by
 cases ob with
 |none=>trivial
 |some ob=>
  cases ob with
  |dead=>trivial
  |row cs=>
   obtain⟨c,t,fr,e1,e2,e3,e4,e5⟩:=h;exact⟨c,t,fr,e1,e2,e3,e4,fun i hi=>let⟨v,a,b⟩:=e5 i hi;⟨v,a,b.mono hρ⟩⟩
  |wG cs=>
   obtain⟨c,t,fr,e1,e2,e3,e4,e5⟩:=h;exact⟨c,t,fr,e1,e2,e3,e4,fun i hi=>let⟨v,a,b⟩:=e5 i hi;⟨v,a,b.mono hρ⟩⟩
  |map es clock=>
   obtain⟨es',e1,e2,e3⟩:=h;exact⟨es',e1,e2,fun i h1 h2=>⟨(e3 i h1 h2).1.mono hρ,(e3 i h1 h2).2.1.mono hρ,(e3 i h1 h2).2.2⟩⟩
  |gA m since seen stepped=>
   obtain⟨m',e1,e2,e3⟩:=h;refine⟨m',e1,?_,e3⟩;cases m with
   |none=>exact e2
   |some n=>obtain⟨r,o,lim,a,b⟩:=e2;exact⟨r,o,lim,hρ _ _ a,b⟩
structure Rel(w0:World)(ρ:Ren)(s:St)(w:World):Prop where
 old:∀ r,r<w0.heap.size→w.heap[r]? =w0.heap[r]?
 size:w0.heap.size≤w.heap.size
 os:w.os=w0.os
 output:w.output=w0.output
 dom:∀ n r o lim,ρ n=some (r,o,lim)→n<s.next∧w0.heap.size≤r∧r<w.heap.size
 fresh:∀ n,s.next≤n→s.get n=none
 ob:∀ n r o lim,ρ n=some (r,o,lim)→jm w0 ρ o lim (s.get n) w.heap[r]?
 inj:∀ n m r o lim o' lim',ρ n=some (r,o,lim)→ρ m=some (r,o',lim')→live (s.get n)→live (s.get m)→n=m
theorem iZ{st:St}{b:Nat}{r:List V}(h:st.get b=some (.row r)):st.row b=some r:=by unfold St.row;rw[h]
theorem yw{st st' :St}{b:Nat}(h:st'.get b=st.get b):st'.row b=st.row b:=by unfold St.row;rw[h]
theorem Tm{st:St}{b:Nat}{r:List V}(h:st.row b=some r):∃ o,st.get b=some o:=by
 unfold St.row at h;cases hg:st.get b with
 |none=>rw[hg]at h;cases h
 |some o=>exact⟨o,rfl⟩
theorem sZ{s:St}{b:Nat}{cs:List V}(h:s.xM b=some cs):s.get b=some (.row cs):=by
 unfold St.xM at h;split at h
 ·rename_i hg;simp at h;subst h;exact hg
 ·simp at h
theorem rV{s:St}{b:Nat}{cs:List V}(h:s.get b=some (.row cs)):s.xM b=some cs:=by
 unfold St.xM;rw[h]
theorem Rel.Ry{w0:World}{ρ:Ren}{s:St}{w:World}(h:Rel w0 ρ s w){b r o lim:Nat}{cs:List V}(e:ρ b=some (r,o,lim))(hs:s.row b=some cs):
  ∃ c t fr,w.heap[r]? =some (.cells c t fr)∧c.size=lim∧o+cs.length≤lim∧(∀ j,j<lim→¬(fr.1≤j∧j<fr.2))∧∀ i (h:i<cs.length),∃ v,c[o+i]? =some v∧aF w0 ρ cs[i] v:=by
 have ho:=h.ob b r o lim e;unfold St.row at hs;split at hs
 ·rename_i cs' hg;simp only[ag]at hs;subst hs;rw[hg]at ho;obtain⟨c,t,fr,h1,h2,h3,h4,h5⟩:=ho;exact⟨c,t,fr,h1,h2,h3,fun j hj=>h4 j (Nat.le_of_lt hj),h5⟩
 ·rename_i cs' hg;simp only[ag]at hs;subst hs;rw[hg]at ho;exact ho
 ·cases hs
structure kH(ρ:Ren)(s:St)(w:World)(ρ' :Ren)(s' :St)(w' :World):Prop where
 next:s.next≤s'.next
 ren:ρ.le ρ'
 new:∀ n x,ρ n=none→ρ' n=some x→s.next≤n
 DN:w.heap.size≤w'.heap.size
 sk:∀ n,n<s.next→ρ n=none→s'.get n=s.get n
 wk:∀ r,r<w.heap.size→(∀ n x,ρ n=some x→x.1≠r)→w'.heap[r]? =w.heap[r]?∧∀ n x,ρ' n=some x→x.1≠r
theorem Ren.le_refl(ρ:Ren):ρ.le ρ:=fun _ _ h=>h
theorem Ren.le_trans{a b c:Ren}(h:a.le b)(h' :b.le c):a.le c:=fun n x e=>h' n x (h n x e)
theorem kH.refl(ρ:Ren)(s:St)(w:World):kH ρ s w ρ s w:=
 ⟨ak _,Ren.le_refl ρ,fun n x h h' =>by rw[h]at h';simp at h',ak _,fun _ _ _=>rfl,fun _ _ h=>⟨rfl,h⟩⟩
theorem kH.trans{ρ ρ' ρ'' :Ren}{s s' s'' :St}{w w' w'' :World}(h:kH ρ s w ρ' s' w')(h' :kH ρ' s' w' ρ'' s'' w''):kH ρ s w ρ'' s'' w'' where
 next:=j0 h.next h'.next
 ren:=Ren.le_trans h.ren h'.ren
 new n x e e' :=by
  cases hm:ρ' n with
  |none=>exact j0 h.next (h'.new n x hm e')
  |some y=>exact h.new n y e hm
 DN:=j0 h.DN h'.DN
 sk n hn e:=by
  have hm:ρ' n=none:=by
   cases hm:ρ' n with
   |none=>rfl
   |some y=>have:=h.new n y e hm;omega
  rw[h'.sk n (iC hn h.next) hm,h.sk n hn e]
 wk r hr e:=by
  obtain⟨a,b⟩:=h.wk r hr e;obtain⟨c,d⟩:=h'.wk r (iC hr h.DN) b;exact⟨c.trans a,d⟩
theorem Rel.same{w0:World}{ρ:Ren}{s:St}{w w' :World}(h:Rel w0 ρ s w)(hh:w'.heap=w.heap)(ho:w'.os=w.os)(hp:w'.output=w.output):Rel w0 ρ s w' where
 old r hr:=by rw[hh];exact h.old r hr
 size:=by rw[hh];exact h.size
 os:=ho.trans h.os
 output:=hp.trans h.output
 dom n r o lim e:=by rw[hh];exact h.dom n r o lim e
 fresh:=h.fresh
 ob n r o lim e:=by rw[hh];exact h.ob n r o lim e
 inj:=h.inj
theorem kH.same{ρ:Ren}{s:St}{w w' :World}(hh:w'.heap=w.heap):kH ρ s w ρ s w' :=
 ⟨ak _,Ren.le_refl ρ,fun n x h h' =>by rw[h]at h';simp at h',by rw[hh];exact ak _,fun _ _ _=>rfl,fun _ _ h=>⟨by rw[hh],h⟩⟩
theorem St.eE(s:St)(n:Nat)(o:Ob)(m:Nat):(s.put n o).get m=if m=n then some o else s.get m:=PT.iX _ _ _ _
theorem St.dU(s:St)(o:Ob)(m:Nat):(s.alloc o).get m=if m=s.next then some o else s.get m:=PT.iX _ _ _ _
def Ren.add(ρ:Ren)(n:Nat)(x:Nat×Nat×Nat):Ren:=fun m=>if m=n then some x else ρ m
theorem Ren.B7{ρ:Ren}{n:Nat}(x:Nat×Nat×Nat)(h:ρ n=none):ρ.le (ρ.add n x):=fun m y e=>by
 unfold Ren.add;by_cases hm:m=n
 ·subst hm;rw[h]at e;simp at e
 ·rw[if_neg hm];exact e
theorem Ren.add_same(ρ:Ren)(n:Nat)(x:Nat×Nat×Nat):(ρ.add n x) n=some x:=by simp[Ren.add]
theorem Rel.realize{w0:World}{ρ:Ren}{s:St}{w:World}(h:Rel w0 ρ s w){n:Nat}{ob:Ob}{obj:Obj}{lim:Nat}(hn:n<s.next)(hρ:ρ n=none)(hs:s.get n=some ob)
  (ho:jm w0 ρ 0 lim (some ob) (some obj)):Rel w0 (ρ.add n (w.heap.size,0,lim)) s (w.alloc obj):=by
 have hle:=Ren.B7 (ρ:=ρ) (n:=n) (w.heap.size,0,lim) hρ;have hold:∀ r,r<w.heap.size→(w.alloc obj).heap[r]? =w.heap[r]? :=fun r hr=>by
  show(w.heap.push obj)[r]? =_;rw[Kx,if_neg (Nat.ne_of_lt hr)]
 have hnew:(w.alloc obj).heap[w.heap.size]? =some obj:=by
  show(w.heap.push obj)[w.heap.size]? =_;simp
 refine⟨fun r hr=> ?_,?_,h.os,h.output,fun m r o l e=> ?_,h.fresh,fun m r o l e=> ?_,fun m k r o l o' l' e e' lm lk=> ?_⟩
 ·rw[hold r (iC hr h.size)];exact h.old r hr
 ·have:=h.size;simp;omega
 ·unfold Ren.add at e;by_cases hm:m=n
  ·rw[if_pos hm]at e;simp at e;obtain⟨rfl,rfl,rfl⟩:=e;refine⟨by omega,h.size,by simp⟩
  ·rw[if_neg hm]at e;have:=h.dom m r o l e;simp;omega
 ·unfold Ren.add at e;by_cases hm:m=n
  ·rw[if_pos hm]at e;simp at e;obtain⟨rfl,rfl,rfl⟩:=e;subst hm;rw[hs,hnew];exact ho.mono hle
  ·rw[if_neg hm]at e;rw[hold r (h.dom m r o l e).2.2];exact(h.ob m r o l e).mono hle
 ·unfold Ren.add at e e';by_cases hm:m=n
  ·by_cases hk:k=n
   ·omega
   ·rw[if_pos hm]at e;rw[if_neg hk]at e';simp at e;have:=(h.dom k r o' l' e').2.2;omega
  ·by_cases hk:k=n
   ·rw[if_pos hk]at e';rw[if_neg hm]at e;simp at e';have:=(h.dom m r o l e).2.2;omega
   ·rw[if_neg hm]at e;rw[if_neg hk]at e';exact h.inj m k r o l o' l' e e' lm lk
theorem Ks{ρ:Ren}{w:World}{n:Nat}{obj:Obj}{lim:Nat}:
  (∀ r,r<w.heap.size→(∀ n x,ρ n=some x→x.1≠r)→(w.alloc obj).heap[r]? =w.heap[r]?∧∀ m x,(ρ.add n (w.heap.size,0,lim)) m=some x→x.1≠r):=by
 intro r hr e;refine⟨?_,fun m x hm=> ?_⟩
 ·show(w.heap.push obj)[r]? =_;rw[Kx,if_neg (Nat.ne_of_lt hr)]
 ·unfold Ren.add at hm;by_cases h:m=n
  ·rw[if_pos h]at hm;simp at hm;subst hm;simp;omega
  ·rw[if_neg h]at hm;exact e m x hm
theorem Rel.oE{w0:World}{ρ:Ren}{s:St}{w:World}(h:Rel w0 ρ s w)(ob:Ob):Rel w0 ρ (s.alloc ob) w where
 old:=h.old
 size:=h.size
 os:=h.os
 output:=h.output
 dom n r o lim e:=by have:=h.dom n r o lim e;exact⟨Nat.lt_succ_of_lt this.1,this.2⟩
 fresh n hn:=by
  have hn' :s.next+1≤n:=hn
  rw[St.dU,if_neg (by omega)];exact h.fresh n (by omega)
 ob n r o lim e:=by
  have:=h.dom n r o lim e;rw[St.dU,if_neg (by omega)];exact h.ob n r o lim e
 inj n m r o lim o' lim' e e' ln lm:=by
  have h1:=h.dom n r o lim e;have h2:=h.dom m r o' lim' e';rw[St.dU,if_neg (by omega)]at ln lm;exact h.inj n m r o lim o' lim' e e' ln lm
theorem Rel.unnamed{w0:World}{ρ:Ren}{s:St}{w:World}(h:Rel w0 ρ s w){n:Nat}(hn:s.next≤n):ρ n=none:=by
 cases e:ρ n with
 |none=>rfl
 |some x=>obtain⟨r,o,lim⟩:=x;have:=(h.dom n r o lim e).1;omega
theorem Rel.alloc{w0:World}{ρ:Ren}{s:St}{w:World}(h:Rel w0 ρ s w){ob:Ob}{obj:Obj}{lim:Nat}(ho:jm w0 ρ 0 lim (some ob) (some obj)):
  Rel w0 (ρ.add s.next (w.heap.size,0,lim)) (s.alloc ob) (w.alloc obj)∧kH ρ s w (ρ.add s.next (w.heap.size,0,lim)) (s.alloc ob) (w.alloc obj):=by
 have hρ:=h.unnamed (ak s.next);refine⟨(h.oE ob).realize (Yg _) hρ (by rw[St.dU,if_pos rfl]) ho,xQ _,Ren.B7 _ hρ,fun n x e e' => ?_,by simp,fun n hn e=> ?_,Ks⟩
 ·unfold Ren.add at e';by_cases hm:n=s.next
  ·omega
  ·rw[if_neg hm]at e';rw[e]at e';simp at e'
 ·rw[St.dU,if_neg (by omega)]
theorem Rel.put{w0:World}{ρ:Ren}{s:St}{w:World}(h:Rel w0 ρ s w){n r o lim:Nat}(e:ρ n=some (r,o,lim))(hl:live (s.get n)){ob:Ob}{obj:Obj}
  (ho:jm w0 ρ o lim (some ob) (some obj)):Rel w0 ρ (s.put n ob) {w with heap:=w.heap.setIfInBounds r obj}∧kH ρ s w ρ (s.put n ob) {w with heap:=w.heap.setIfInBounds r obj}:=by
 have hd:=h.dom n r o lim e;refine⟨⟨fun k hk=> ?_,?_,h.os,h.output,fun m r' o' l' e' => ?_,fun m hm=> ?_,fun m r' o' l' e' => ?_,fun m k r' o' l' o'' l'' e' e'' lm lk=> ?_⟩,ak _,Ren.le_refl _,fun m x a b=>by rw[a]at b;simp at b,by simp,fun m hm e' => ?_,fun k hk hx=>⟨?_,hx⟩⟩
 ·show(w.heap.setIfInBounds r obj)[k]? =_;rw[Aa (by omega)];exact h.old k hk
 ·simpa using h.size
 ·have:=h.dom m r' o' l' e';simpa[St.put]using this
 ·have hm' :s.next≤m:=hm
  rw[St.eE,if_neg (by omega)];exact h.fresh m hm'
 ·show jm w0 ρ o' l' _ (w.heap.setIfInBounds r obj)[r']?;rw[St.eE];by_cases hm:m=n
  ·subst hm;rw[e]at e';simp at e';obtain⟨rfl,rfl,rfl⟩:=e';rw[if_pos rfl,Kt hd.2.2];exact ho
  ·rw[if_neg hm];by_cases hr:r' =r
   ·subst hr;by_cases lm:live (s.get m)
    ·exact absurd (h.inj m n r' o' l' o lim e' e lm hl) hm
    ·cases hob:s.get m with
     |none=>trivial
     |some x=>cases x<;>first|trivial|(rw[hob]at lm;exact absurd trivial lm)
   ·rw[Aa (fun x=>hr x.symm)];exact h.ob m r' o' l' e'
 ·have key:∀ x,live ((s.put n ob).get x)→x≠n→live (s.get x):=fun x hx hne=>by rw[St.eE,if_neg hne]at hx;exact hx
  by_cases hm:m=n
  ·by_cases hk:k=n
   ·omega
   ·subst hm;exact h.inj m k r' o' l' o'' l'' e' e'' hl (key k lk hk)
  ·by_cases hk:k=n
   ·subst hk;exact h.inj m k r' o' l' o'' l'' e' e'' (key m lm hm) hl
   ·exact h.inj m k r' o' l' o'' l'' e' e'' (key m lm hm) (key k lk hk)
 ·rw[St.eE,if_neg (fun x=>by subst x;rw[e]at e';simp at e')]
 ·show(w.heap.setIfInBounds r obj)[k]? =_;rw[Aa (fun x=>hx n (r,o,lim) e x)]
theorem Rel.kill{w0:World}{ρ:Ren}{s:St}{w:World}(h:Rel w0 ρ s w){n r o lim:Nat}(e:ρ n=some (r,o,lim)):
  Rel w0 ρ (s.put n .dead) w∧kH ρ s w ρ (s.put n .dead) w:=by
 have hd:=h.dom n r o lim e;have key:∀ x,live ((s.put n .dead).get x)→live (s.get x):=fun x hx=>by
  rw[St.eE]at hx;by_cases hne:x=n
  ·rw[if_pos hne]at hx;exact hx.elim
  ·rw[if_neg hne]at hx;exact hx
 refine⟨⟨h.old,h.size,h.os,h.output,h.dom,fun m hm=> ?_,fun m r' o' l' e' => ?_,fun m k r' o' l' o'' l'' e' e'' lm lk=>h.inj m k r' o' l' o'' l'' e' e'' (key m lm) (key k lk)⟩,ak _,Ren.le_refl _,fun m x a b=>by rw[a]at b;simp at b,ak _,fun m hm e' => ?_,fun k hk hx=>⟨rfl,hx⟩⟩
 ·have hm' :s.next≤m:=hm
  rw[St.eE,if_neg (by omega)];exact h.fresh m hm'
 ·rw[St.eE];by_cases hm:m=n
  ·rw[if_pos hm];trivial
  ·rw[if_neg hm];exact h.ob m r' o' l' e'
 ·rw[St.eE,if_neg (fun x=>by subst x;rw[e]at e';simp at e')]
theorem Rel.grow{w0:World}{ρ:Ren}{s:St}{w:World}(h:Rel w0 ρ s w){n r o lim:Nat}(e:ρ n=some (r,o,lim))(hl:live (s.get n)){ob:Ob}{obj:Obj}{o' :Nat}
  (ho:jm w0 ρ o' lim (some ob) (some obj)):
  Rel w0 (ρ.add s.next (r,o',lim)) ((s.put n .dead).alloc ob) {w with heap:=w.heap.setIfInBounds r obj}∧
  kH ρ s w (ρ.add s.next (r,o',lim)) ((s.put n .dead).alloc ob) {w with heap:=w.heap.setIfInBounds r obj}:=by
 have hd:=h.dom n r o lim e;have hρ:=h.unnamed (ak s.next);have hle:=Ren.B7 (ρ:=ρ) (n:=s.next) (r,o',lim) hρ;have hget:∀ m,((s.put n .dead).alloc ob).get m=if m=s.next then some ob else if m=n then some .dead else s.get m:=fun m=>by
  rw[St.dU,St.eE];rfl
 have hlv:∀ x,x≠s.next→live (((s.put n .dead).alloc ob).get x)→x≠n∧live (s.get x):=fun x hne hx=>by
  rw[hget,if_neg hne]at hx;by_cases hn:x=n
  ·rw[if_pos hn]at hx;exact hx.elim
  ·rw[if_neg hn]at hx;exact⟨hn,hx⟩
 have hsplit:∀ m x,(ρ.add s.next (r,o',lim)) m=some x→(m=s.next∧x=(r,o',lim))∨(m≠s.next∧ρ m=some x):=fun m x hx=>by
  unfold Ren.add at hx;by_cases hm:m=s.next
  ·rw[if_pos hm]at hx;simp at hx;exact .inl ⟨hm,hx.symm⟩
  ·rw[if_neg hm]at hx;exact .inr ⟨hm,hx⟩
 refine⟨⟨fun k hk=> ?_,?_,h.os,h.output,fun m r' o'' l' e' => ?_,fun m hm=> ?_,fun m r' o'' l' e' => ?_,fun m k r' p l' p' l'' e' e'' lm lk=> ?_⟩,xQ _,hle,fun m x a b=> ?_,by simp,fun m hm e' => ?_,fun k hk hx=>⟨?_,fun m x hm=> ?_⟩⟩
 ·show(w.heap.setIfInBounds r obj)[k]? =_;rw[Aa (by omega)];exact h.old k hk
 ·simpa using h.size
 ·show m<s.next+1∧_
  rcases hsplit m _ e' with⟨h1,h2⟩|⟨h1,h2⟩
  ·simp at h2;obtain⟨rfl,rfl,rfl⟩:=h2;simp;omega
  ·have:=h.dom m r' o'' l' h2;simp;omega
 ·have hm' :s.next+1≤m:=hm
  rw[hget,if_neg (by omega),if_neg (by omega)];exact h.fresh m (by omega)
 ·show jm w0 _ o'' l' _ (w.heap.setIfInBounds r obj)[r']?;rcases hsplit m _ e' with⟨h1,h2⟩|⟨h1,h2⟩
  ·simp at h2;obtain⟨rfl,rfl,rfl⟩:=h2;rw[hget,if_pos h1,Kt hd.2.2];exact ho.mono hle
  ·rw[hget,if_neg h1];by_cases hm:m=n
   ·rw[if_pos hm];trivial
   ·rw[if_neg hm];by_cases hr:r' =r
    ·subst hr;by_cases lm:live (s.get m)
     ·exact absurd (h.inj m n r' o'' l' o lim h2 e lm hl) hm
     ·cases hob:s.get m with
      |none=>trivial
      |some x=>cases x<;>first|trivial|(rw[hob]at lm;exact absurd trivial lm)
    ·rw[Aa (fun x=>hr x.symm)];exact(h.ob m r' o'' l' h2).mono hle
 ·rcases hsplit m _ e' with⟨h1,h2⟩|⟨h1,h2⟩
  ·rcases hsplit k _ e'' with⟨h3,h4⟩|⟨h3,h4⟩
   ·omega
   ·simp at h2;obtain⟨rfl,rfl,rfl⟩:=h2;obtain⟨a,b⟩:=hlv k h3 lk;exact absurd (h.inj k n r' p' l'' o _ h4 e b hl) a
  ·rcases hsplit k _ e'' with⟨h3,h4⟩|⟨h3,h4⟩
   ·simp at h4;obtain⟨rfl,rfl,rfl⟩:=h4;obtain⟨a,b⟩:=hlv m h1 lm;exact absurd (h.inj m n r' p l' o _ h2 e b hl) a
   ·exact h.inj m k r' p l' p' l'' h2 h4 (hlv m h1 lm).2 (hlv k h3 lk).2
 ·rcases hsplit m _ b with⟨h1,h2⟩|⟨h1,h2⟩
  ·omega
  ·rw[a]at h2;simp at h2
 ·rw[hget,if_neg (by omega),if_neg (fun x=>by subst x;rw[e]at e';simp at e')]
 ·show(w.heap.setIfInBounds r obj)[k]? =_;rw[Aa (fun x=>hx n (r,o,lim) e x)]
 ·rcases hsplit m _ hm with⟨h1,h2⟩|⟨h1,h2⟩
  ·subst h2;exact hx n (r,o,lim) e
  ·exact hx m x h2
end Go.RE
namespace Go.RE
def P5:TypeDesc→Bool
 | .struct _=>true
 | .array _ _=>true
 |_=>false
theorem iJ(r o n:Nat):(⟨r,o,none⟩:Addr).add n=⟨r,o+n,none⟩:=by
 unfold Addr.add;split<;>simp_all
section
variable{P:Program}{w0:World}{ρ:Ren}{s:St}{w:World}{env:PT V}{e:Operand→Value}
def jP(w0:World)(ρ:Ren)(env:PT V)(e:Operand→Value)(x:Operand):Prop:=∀ o v,cW x=some o→o.ev env=some v→aF w0 ρ v (e x)
theorem qD{x:Value}{v:V}(h:sn x=some v):aF w0 ρ v x:=by
 unfold sn at h;split at h<;>simp at h<;>subst h
 ·exact .bool _
 ·exact .int _ _
 ·exact .str rfl
 ·exact .br
 ·exact .bB
 ·exact .bS
 ·exact .dJ
 ·exact .di
theorem ZU{f:Value→Option V}(hf:∀ x v,f x=some v→aF w0 ρ v x):∀ {l:List Value} {vs:List V},ofL f l=some vs→aV w0 ρ vs l:=by
 intro l
 induction l with
 |nil=>intro vs h;simp[ofL]at h;subst h;exact .nil
 |cons x xs ih=>
  intro vs h;simp only[ofL]at h;cases hx:f x with
  |none=>simp[hx]at h
  |some v=>
   cases hxs:ofL f xs with
   |none=>simp[hx,hxs]at h
   |some us=>simp[hx,hxs]at h;subst h;exact .cons (hf _ _ hx) (ih hxs)
theorem sr{x:Value}{v:V}(h:ofValue x=some v):aF w0 ρ v x:=by
 unfold ofValue at h;split at h
 ·split at h
  ·rename_i cs l hl;simp at h;subst h;have:=ZU (w0:=w0) (ρ:=ρ) (fun _ _=>qD) hl;simpa using aF.Br this
  ·simp at h
 ·split at h
  ·rename_i y hy;simp at h;subst h;exact .iface (qD hy)
  ·simp at h
 ·exact qD h
theorem EZ{v:Value}{o:bO}(h:cW (.const v)=some o):∃ x,o=.c x∧aF w0 ρ x v:=by
 simp only[cW]at h;split at h
 ·rename_i x hx;simp at h;exact⟨x,h.symm,sr hx⟩
 ·simp at h
theorem pV:∀ {l:List Operand} {os:List bO} {vs:List V},nW l=some os→La env os=some vs→(∀ x∈l,jP w0 ρ env e x)→aV w0 ρ vs (l.map e):=by
 intro l
 induction l with
 |nil=>intro os vs h h' _;simp[nW]at h;subst h;simp[La]at h';subst h';exact .nil
 |cons x xs ih=>
  intro os vs h h' H;simp only[nW]at h;cases hx:cW x with
  |none=>simp[hx]at h
  |some o=>
   cases hxs:nW xs with
   |none=>simp[hx,hxs]at h
   |some os' =>
    simp[hx,hxs]at h;subst h;simp only[La]at h';cases hv:o.ev env with
    |none=>simp[hv]at h'
    |some v=>
     cases hvs:La env os' with
     |none=>simp[hv,hvs]at h'
     |some us=>
      simp[hv,hvs]at h';subst h';exact .cons (H x (by simp) o v hx hv) (ih hxs hvs fun y hy=>H y (by simp[hy]))
theorem dw{t:TypeId}{n:Nat}(h:gH P t=some n)(w:World):(sizeOf t).run P w=.ok n w:=by
 unfold gH at h;split at h
 ·rename_i i hi;simp at h;simp[sizeOf,typeInfo,hi,h]
 ·simp at h
theorem jM{t:TypeId}{z:V}(h:zeroOf P t=some z):∃ x,(∀ w:World,(zeroValue t).run P w=.ok x w)∧∀ w0 ρ,aF w0 ρ z x:=by
 unfold zeroOf at h;split at h
 ·rename_i i hi;split at h
  ·rename_i x hx;exact⟨x,fun w=>by simp[zeroValue,typeInfo,hi,hx],fun w0 ρ=>sr h⟩
  ·simp at h
 ·simp at h
theorem Ga{t:TypeId}{n:Nat}(h:gH P t=some n):∃ i,P.info? t=some i∧i.size=n:=by
 unfold gH at h;split at h
 ·rename_i i hi;simp at h;exact⟨i,hi,h⟩
 ·simp at h
def Cells(w0:World)(ρ:Ren)(w:World)(cs:List V)(r o:Nat):Prop:=∀ i v,cs[i]? =some v→∃ x,w.cell? ⟨r,o+i,none⟩=some x∧aF w0 ρ v x
theorem Rel.cells(h:Rel w0 ρ s w){b r o lim:Nat}{cs:List V}(e:ρ b=some (r,o,lim))(hs:s.row b=some cs):Cells w0 ρ w cs r o:=by
 obtain⟨c,t,fr,h1,h2,h3,h4,h5⟩:=h.Ry e hs;intro i v hv;obtain⟨hi,rfl⟩:=aH.1 hv;obtain⟨x,hx,hr⟩:=h5 i hi;exact⟨x,by simp[World.cell?,h1,hx],hr⟩
theorem Rel.R3(h:Rel w0 ρ s w){row:List V}{r o:Nat}{c:Nat→Value}(hr:row≠[]→r<w0.heap.size)(hc:∀ i,i<row.length→w0.cell? ⟨r,o+i,none⟩=some (c i))
  (hv:∀ i (h:i<row.length),aF w0 ρ row[i] (c i)):Cells w0 ρ w row r o:=by
 intro i v he;obtain⟨hi,rfl⟩:=aH.1 he;refine⟨c i,?_,hv i hi⟩;have:=hc i hi;unfold World.cell? at this⊢;rw[h.old r (hr (fun e=>by subst e;simp at hi))];exact this
theorem Cells.list{cs:List V}{r o:Nat}(h:Cells w0 ρ w cs r o)(off n:Nat)(hn:off+n≤cs.length):
  ∃ xs:List Value,xs.length=n∧(∀ j x,xs[j]? =some x→w.cell? ⟨r,o+off+j,none⟩=some x)∧aV w0 ρ ((cs.drop off).take n) xs:=by
 have key:∀ i,i<n→∃ x,w.cell? ⟨r,o+off+i,none⟩=some x∧aF w0 ρ (cs[off+i]?.getD .br) x:=fun i hi=>by
  obtain⟨x,a,b⟩:=h (off+i) (cs[off+i]'(by omega)) (aQ _);refine⟨x,by rw[gI];exact a,?_⟩;rw[aQ (by omega)];exact b
 refine⟨(List.range n).map fun i=>(w.cell? ⟨r,o+off+i,none⟩).getD undef,by simp,fun j x hj=> ?_,?_,fun i h1 h2=> ?_⟩
 ·simp only[gE]at hj;by_cases hjn:j<n
  ·rw[Fz hjn]at hj;obtain⟨y,hy,_⟩:=key j hjn;simp[hy]at hj;rw[hy,hj]
  ·rw[z8 (by simp;omega)]at hj;simp at hj
 ·simp;omega
 ·simp at h1 h2;obtain⟨x,hx,hr⟩:=key i h2;simp only[Fu,List.getElem_range,hx,rB,List.getElem_take,PR];rw[aQ (by omega)]at hr;exact hr
theorem yy{cs:List V}{r o:Nat}(h:Cells w0 ρ w cs r o)(off n:Nat)(hn:off+n≤cs.length):
  ∃ xs:List Value,(loadCells ⟨r,o+off,none⟩ n).run P w=.ok xs.toArray w∧aV w0 ρ ((cs.drop off).take n) xs:=by
 obtain⟨xs,hl,hc,hr⟩:=h.list off n hn;refine⟨xs,?_,hr⟩;have:=run_loadCells_list (P:=P) w ⟨r,o+off,none⟩ xs (fun j v hv=>by rw[iJ];exact hc j v hv);rwa[hl]at this
theorem oe{cs:List V}{r o:Nat}(h:Cells w0 ρ w cs r o){t:TypeId}{n:Option Nat}(hn:spread P t=some n){off:Nat}{v:V}(hv:eG n cs off=some v):
  ∃ x,(loadVar t ⟨r,o+off,none⟩).run P w=.ok x w∧aF w0 ρ v x:=by
 unfold spread at hn;have agg:∀ {d:TypeDesc},P.underlying t=some d→P5 d=true→∀ m,gH P t=some m→n=some m→
   ∃ x,(loadVar t ⟨r,o+off,none⟩).run P w=.ok x w∧aF w0 ρ v x:=fun {d} hu hd m hm hnm=>by
  subst hnm;simp only[eG]at hv;cases hb:Nat.ble (off+m) cs.length with
  |false=>simp[hb]at hv
  |true=>
   simp[hb]at hv;subst hv;obtain⟨xs,hx,hr⟩:=yy (P:=P) h off m (dY hb);refine⟨.agg xs.toArray,?_,aF.Br hr⟩;have hagg:(isAgg t).run P w=.ok true w:=by
    unfold isAgg;rw[Sem.run_bind,run_underlying hu w];cases d<;>simp_all [P5]
   simp[loadVar,hagg,dw hm,hx]
 split at hn
 ·rename_i fs hu;split at hn
  ·rename_i m hm;simp at hn;exact agg hu rfl m hm hn.symm
  ·simp at hn
 ·rename_i k el hu;split at hn
  ·rename_i m hm;simp at hn;exact agg hu rfl m hm hn.symm
  ·simp at hn
 ·rename_i d h1 h2 hu;simp at hn;subst hn;simp only[eG]at hv;obtain⟨x,hx,hr⟩:=h off v hv;refine⟨x,?_,hr⟩;have hagg:(isAgg t).run P w=.ok false w:=by
   unfold isAgg;rw[Sem.run_bind,run_underlying hu w];cases d<;>simp_all [P5]
  simp[loadVar,hagg,hx]
 ·simp at hn
theorem pJ{v:V}{most n:Nat}(h:asNat v most=some n):∃ k m,v=.int k m∧0≤m∧m≤(most:Int)∧m.toNat=n:=by
 unfold asNat at h;split at h
 ·rename_i k m;split at h
  ·rename_i hh;simp at h;exact⟨k,m,rfl,hh.1,hh.2,h⟩
  ·simp at h
 ·simp at h
theorem aF.fP{k:IntKind}{n:Int}{x:Value}(h:aF w0 ρ (.int k n) x):x=.int k n:=by cases h;rfl
theorem run_sliceBound{v:V}{x:Value}{y n:Nat}(c:BoundsCode)(h:asNat v y=some n)(hx:aF w0 ρ v x)(w:World):
  (Instr.sliceBound x y c).run P w=.ok n w:=by
 obtain⟨k,m,rfl,h1,h2,h3⟩:=pJ h;rw[hx.fP];simp[Instr.sliceBound,asIntOf,h1,h2,h3]
theorem Il(k:IntKind)(n:Int)(h0:(if k.signed then -(2:Int)^(k.bits-1)else 0)≤n)(h1:n<(if k.signed then(2:Int)^(k.bits-1)else(2:Int)^k.bits)):k.wrap n=n:=by
 unfold IntKind.wrap;cases k<;>simp only[IntKind.signed,IntKind.bits,PJ,Yn,if_true,if_false,jV]at h0 h1⊢ <;>first
  |omega
  |(split
    ·rename_i hh;have hh' :=of_decide_eq_true hh;omega
    ·rename_i hh;have hh' :=of_decide_eq_false (Bool.eq_false_iff.2 hh);omega)
theorem sW(k:IntKind)(n:Int):aK k n=k.wrap n:=by
 unfold aK;cases n with
 |ofNat m=>
  simp only[];cases h:Nat.ble m (B5 k)with
  |false=>rfl
  |true=>
   have:=dY h;simp only[cond_true];rw[Il]
   ·cases k<;>simp only[IntKind.signed,IntKind.bits,if_true,if_false,jV]<;>show _≤(m:Int)<;>omega
   ·cases k<;>simp only[B5]at this<;>simp only[IntKind.signed,IntKind.bits,if_true,if_false,jV]<;>show(m:Int)<_<;>omega
 |negSucc m=>
  simp only[];cases h:k.signed&&Nat.ble m (B5 k)with
  |false=>rfl
  |true=>
   rw[aI]at h;have:=dY h.2;have hs:=h.1;simp only[cond_true];rw[Il]
   ·cases k<;>simp only[IntKind.signed,jV]at hs<;>simp only[B5]at this<;>simp only[IntKind.signed,IntKind.bits,if_true]<;>omega
   ·cases k<;>simp only[IntKind.signed,jV]at hs<;>simp only[IntKind.signed,IntKind.bits,if_true]<;>omega
theorem cz(b:ByteArray):b.toList=b.data.toList:=by
 have key:∀ (n i:Nat) (r:List UInt8),b.size - i=n→ByteArray.toList.loop b i r=r.reverse++b.data.toList.drop i:=by
  intro n
  induction n with
  |zero=>
   intro i r h;rw[ByteArray.toList.loop,if_neg (by omega),List.drop_eq_nil_of_le (by show b.data.toList.length≤i;simp;have:b.size=b.data.size:=rfl;omega)];simp
  |succ n ih=>
   intro i r h;have hi:i<b.size:=by omega
   have hi' :i<b.data.toList.length:=by simpa using hi
   rw[ByteArray.toList.loop,if_pos hi,ih (i+1) _ (by omega),Pz hi'];have hg:b.get! i=b.data.toList[i]:=by
    show b.data[i]! =_;have h2:i<b.data.size:=hi;rw[getElem!_pos b.data i h2];simp
   simp[hg]
 have:=key b.size 0 [] (by omega);simpa[ByteArray.toList]using this
theorem Gb{op:BinOp}{k:IntKind}{a b:Int}{v:V}(t:TypeId)(h:kj op k a b=some v)(w:World):
  ∃ x,(Go.binOp op t (.int k a) (.int k b)).run P w=.ok x w∧aF w0 ρ v x:=by
 cases op<;>simp only[kj,sW]at h<;>try (simp at h;done)
 case quo=>
  split at h
  ·simp at h
  ·rename_i hb;simp at h;subst h;exact⟨_,by simp[Go.binOp,Op.intDiv,hb],.int _ _⟩
 case rem=>
  split at h
  ·simp at h
  ·rename_i hb;simp at h;subst h;exact⟨_,by simp[Go.binOp,Op.intDiv,hb],.int _ _⟩
 all_goals (simp only[ag]at h;subst h;refine⟨_,?_,by first|exact .int _ _|exact .bool _⟩;simp only[Go.binOp,ne_eq,not_true_eq_false,if_false];rfl)
theorem wJ{op:BinOp}{k j:IntKind}{a b:Int}{v:V}(t:TypeId)(ho:op=.shl∨op=.shr)(h:yz op k a b=some v)(w:World):
  ∃ x,(Go.binOp op t (.int k a) (.int j b)).run P w=.ok x w∧aF w0 ρ v x:=by
 rcases ho with rfl|rfl<;>simp only[yz,sW]at h<;>split at h<;>simp only[reduceCtorEq,ag]at h<;>rename_i hb<;>subst h
 ·exact⟨_,by simp only[Go.binOp,Op.shift,hb,if_false,Sem.run_pure],.int _ _⟩
 ·exact⟨_,by simp only[Go.binOp,Op.shift,hb,if_false,Sem.run_pure],.int _ _⟩
theorem GD{op:BinOp}{a b:List UInt8}{x y:ByteArray}{v:V}(hx:x.data.toList=a)(hy:y.data.toList=b)(h:lF op a b=some v)(w:World):
  ∃ z,(Op.stringOp op x y).run P w=.ok z w∧aF w0 ρ v z:=by
 have ex:x.toList=a:=(cz x).trans hx;have ey:y.toList=b:=(cz y).trans hy;have sx:x.size=a.length:=by rw[←hx];simp
 have sy:y.size=b.length:=by rw[←hy];simp
 cases op<;>simp only[lF]at h<;>try (simp at h;done)
 case add=>
  cases hb:Nat.ble (a.length+b.length) bl with
  |false=>simp[hb]at h
  |true=>
   have hb' :=dY hb;simp only[hb,cond_true,ag]at h;subst h;refine⟨.string (x++y),?_,.str (by rw[←hx,←hy];simp)⟩;have:¬((x.size+y.size:Nat):Int)>IntKind.i64.max:=by
    rw[sx,sy];unfold bl at hb';simp[IntKind.max,IntKind.bits];omega
   simp only[Op.stringOp];rw[if_neg this];rfl
 all_goals (simp only[ag]at h;subst h;refine⟨_,?_,.bool _⟩;simp only[Op.stringOp,ex,ey];rfl)
theorem aF.gR{b:Bool}{x:Value}(h:aF w0 ρ (.bool b) x):x=.bool b:=by cases h;rfl
theorem aF.gM{l:List UInt8}{x:Value}(h:aF w0 ρ (.str l) x):∃ s,x=.string s∧s.data.toList=l:=by cases h;exact⟨_,rfl,by assumption⟩
def rJ(P:Program)(t:TypeId):iG→Prop
 | .bool=>P.underlying t=some .bool
 | .int=>∃ j,P.underlying t=some (.int j)
 | .str=>P.underlying t=some .string
 |_=>False
theorem oM{k:iG}{a b:V}{r:Bool}(h:kr k a b=some r):
  (∃ x y,k=.bool∧a=.bool x∧b=.bool y∧r=(x==y))∨(∃ j x y,k=.int∧a=.int j x∧b=.int j y∧r=(x==y))∨(∃ x y,k=.str∧a=.str x∧b=.str y∧r=(x==y)):=by
 unfold kr at h;split at h
 ·simp only[ag]at h;exact .inl ⟨_,_,rfl,rfl,rfl,h.symm⟩
 ·split at h
  ·rename_i hjk;simp only[ag]at h;subst hjk;exact .inr (.inl ⟨_,_,_,rfl,rfl,rfl,h.symm⟩)
  ·simp at h
 ·simp only[ag]at h;exact .inr (.inr ⟨_,_,rfl,rfl,rfl,h.symm⟩)
 ·simp at h
theorem Ef{k:iG}{a b:V}{x y:Value}{r:Bool}(h:kr k a b=some r)(hx:aF w0 ρ a x)(hy:aF w0 ρ b y){t:TypeId}
  (ht:rJ P t k) (d:Nat) (w:World):(Op.equalIn (d+1) t x y).run P w=.ok r w:=by
 rcases oM h with⟨p,q,rfl,rfl,rfl,rfl⟩|⟨j,p,q,rfl,rfl,rfl,rfl⟩|⟨p,q,rfl,rfl,rfl,rfl⟩
 ·rw[hx.gR,hy.gR];exact run_equalIn_bool' w d t _ _ ht
 ·rw[hx.fP,hy.fP];obtain⟨j',hj'⟩:=ht;exact run_equalIn_int w d t _ _ _ _ hj'
 ·obtain⟨p,rfl,hp⟩:=hx.gM;obtain⟨q,rfl,hq⟩:=hy.gM;rw[run_equalIn_string w d t _ _ ht,cz,cz,hp,hq]
theorem Lf{f:Field}{fs:List Field}{ks:List (Nat×iG)}(h:flatK P (f::fs)=some ks):
  ∃ k r,ks=(f.offset,k)::r∧flatK P fs=some r∧f.name≠ "_" ∧(∃ d,P.underlying f.type=some d∧P5 d=false)∧rJ P f.type k:=by
 simp only[flatK]at h;cases hn:f.name== "_" with
 |true=>simp[hn]at h
 |false=>
  have hn' :f.name≠ "_" :=by simpa using hn
  simp only[hn,cond_false]at h;cases hr:flatK P fs with
  |none=>rw[hr]at h;split at h<;>simp_all
  |some r=>
   rw[hr]at h;split at h<;>simp only[ag,reduceCtorEq]at h
   ·rename_i hu he;cases he;exact⟨.bool,r,h.symm,rfl,hn',⟨_,hu,rfl⟩,hu⟩
   ·rename_i j hu he;cases he;exact⟨.int,r,h.symm,rfl,hn',⟨_,hu,rfl⟩,⟨_,hu⟩⟩
   ·rename_i hu he;cases he;exact⟨.str,r,h.symm,rfl,hn',⟨_,hu,rfl⟩,hu⟩
theorem wI{t:TypeId}{d:TypeDesc}(hu:P.underlying t=some d)(hd:P5 d=false){cs:Array Value}{off:Nat}{x:Value}
  (hx:cs[off]? =some x) (w:World):(part t cs off).run P w=.ok x w:=by
 have hagg:(isAgg t).run P w=.ok false w:=by
  unfold isAgg;rw[Sem.run_bind,run_underlying hu w];cases d<;>simp_all [P5]
 simp[part,hagg,hx]
theorem FX{xs' ys' :Array Value}{xs ys:List V}(hx:aV w0 ρ xs xs'.toList)(hy:aV w0 ρ ys ys'.toList)(d:Nat)(w:World):
  ∀ {fs:List Field} {ks:List (Nat×iG)} {r:Bool},flatK P fs=some ks→rU ks xs ys=some r→(Op.eqFields (d+1) xs' ys' fs).run P w=.ok r w:=by
 intro fs
 induction fs with
 |nil=>
  intro ks r h h';simp[flatK]at h;subst h;simp[rU]at h';subst h';simp[Op.eqFields]
 |cons f fs ih=>
  intro ks r h h';obtain⟨k,rest,rfl,hr,hn,⟨dd,hu,hdd⟩,hk⟩:=Lf h;simp only[rU]at h';cases ha:xs[f.offset]? with
  |none=>simp[ha]at h'
  |some a=>
   cases hb:ys[f.offset]? with
   |none=>simp[ha,hb]at h'
   |some b=>
    simp only[ha,hb]at h';obtain⟨x,hx1,hx2⟩:=hx.get ha;obtain⟨y,hy1,hy2⟩:=hy.get hb;have px:=wI (P:=P) hu hdd (cs:=xs') (off:=f.offset) (x:=x) (by simpa using hx1) w;have py:=wI (P:=P) hu hdd (cs:=ys') (off:=f.offset) (x:=y) (by simpa using hy1) w;cases he:kr k a b with
    |none=>simp[he]at h'
    |some q=>
     have hq:=Ef he hx2 hy2 hk d w;simp only[Op.eqFields,if_pos hn,Sem.run_bind,px,py,hq,Result.andThen_ok];cases q with
     |true=>simp only[he]at h';simpa using ih hr h'
     |false=>simp[he]at h';subst h';simp
def P3(P:Program)(t:TypeId)(x y:Operand):iG→Prop
 | .bool=>P.underlying t=some .bool
 | .int=>∃ j,P.underlying t=some (.int j)
 | .str=>P.underlying t=some .string
 | .br=>∃ el,P.underlying t=some (.pointer el)
 | .bB=>∃ el,P.underlying t=some (.slice el)
 | .bS=>∃ a b,P.underlying t=some (.map a b)
 | .dJ=>∃ a b c,P.underlying t=some (.func a b c)
 | .iface g=>(∃ ms,P.underlying t=some (.interface ms))∧g= !(eo x||eo y)
 | .flat ks=>∃ fs,P.underlying t=some (.struct fs)∧flatK P fs.toList=some ks∧P.stoodInHeld t=false∧P.eqGuardType P.depth t=false
 | .no=>True
theorem qdz(op:BinOp)(t:TypeId)(x y:Operand):P3 P t x y (Rp P op t x y):=by
 have key:P3 P t x y (Rp P .eql t x y):=by
  simp only[Rp];split
  ·assumption
  ·exact⟨_,by assumption⟩
  ·assumption
  ·exact⟨_,by assumption⟩
  ·exact⟨_,by assumption⟩
  ·exact⟨_,_,by assumption⟩
  ·exact⟨_,_,_,by assumption⟩
  ·exact⟨⟨_,by assumption⟩,rfl⟩
  ·rename_i fs hu;split
   ·rename_i ks hks;cases hs:P.stoodInHeld t with
    |true=>simp[P3]
    |false=>
     cases hg:P.eqGuardType P.depth t with
     |true=>simp[P3]
     |false=>exact⟨fs,hu,hks,hs,hg⟩
   ·trivial
  ·trivial
 cases op<;>first|exact key|trivial
theorem vU{t el:TypeId}(h:P.underlying t=some (.pointer el))(d:Nat)(w:World)(a:Addr):
  (Op.equalIn (d+1) t (.pointer none) (.pointer none)).run P w=.ok true w∧(Op.equalIn (d+1) t (.pointer none) (.pointer (some a))).run P w=.ok false w∧
  (Op.equalIn (d+1) t (.pointer (some a)) (.pointer none)).run P w=.ok false w:=by
 refine⟨?_,?_,?_⟩<;>(unfold Op.equalIn;rw[Sem.run_bind,run_underlying h];rfl)
theorem qu{t el:TypeId}(h:P.underlying t=some (.slice el))(d:Nat)(w:World)(a:Addr)(l c:Nat):
  (Op.equalIn (d+1) t (.slice none 0 0) (.slice none 0 0)).run P w=.ok true w∧(Op.equalIn (d+1) t (.slice none 0 0) (.slice (some a) l c)).run P w=.ok false w∧
  (Op.equalIn (d+1) t (.slice (some a) l c) (.slice none 0 0)).run P w=.ok false w:=by
 refine⟨?_,?_,?_⟩<;>(unfold Op.equalIn;rw[Sem.run_bind,run_underlying h];rfl)
theorem FR{t k el:TypeId}(h:P.underlying t=some (.map k el))(d:Nat)(w:World)(a:Nat):
  (Op.equalIn (d+1) t (.map none) (.map none)).run P w=.ok true w∧(Op.equalIn (d+1) t (.map none) (.map (some a))).run P w=.ok false w∧
  (Op.equalIn (d+1) t (.map (some a)) (.map none)).run P w=.ok false w:=by
 refine⟨?_,?_,?_⟩<;>(unfold Op.equalIn;rw[Sem.run_bind,run_underlying h];rfl)
theorem FP{t:TypeId}{p q:Array TypeId}{b:Bool}(h:P.underlying t=some (.func p q b))(d:Nat)(w:World)(f:Fn)(x y:Array Value):
  (Op.equalIn (d+1) t .nilFunc .nilFunc).run P w=.ok true w∧(Op.equalIn (d+1) t .nilFunc (.func f x y)).run P w=.ok false w∧
  (Op.equalIn (d+1) t (.func f x y) .nilFunc).run P w=.ok false w:=by
 refine⟨?_,?_,?_⟩<;>(unfold Op.equalIn;rw[Sem.run_bind,run_underlying h];rfl)
theorem FQ{t:TypeId}{ms:Array (String×TypeId)}(h:P.underlying t=some (.interface ms))(d:Nat)(w:World)(u:TypeId)(x:Value):
  (Op.equalIn (d+1) t .nilIface .nilIface).run P w=.ok true w∧(Op.equalIn (d+1) t .nilIface (.iface u x)).run P w=.ok false w∧
  (Op.equalIn (d+1) t (.iface u x) .nilIface).run P w=.ok false w:=by
 refine⟨?_,?_,?_⟩<;>(unfold Op.equalIn;rw[Sem.run_bind,run_underlying h];rfl)
def yD:Value→Value→Bool
 | .nilIface,.nilIface=>false
 | .agg _,.agg _=>false
 |_,_=>true
theorem bp{op:BinOp}{t:TypeId}{x y:Operand}{u v:Value}(h:yD u v=true)(w:World):(eqGuard op t x y u v).run P w=.ok () w:=by
 cases op<;>first
  |rfl
  |(unfold eqGuard
    simp only[xR,jV,if_false];split<;>first|(simp[yD]at h;done)|rfl)
theorem K7(d:Nat){op:BinOp}{ek:iG}{t:TypeId}{x y:Operand}{a b:V}{r:Bool}{u v:Value}(hk:P3 P t x y ek)(h:Ip ek a b=some r)(hu:aF w0 ρ a u)(hv:aF w0 ρ b v)(w:World):
  (Op.equalIn (d+2) t u v).run P w=.ok r w∧(eqGuard op t x y u v).run P w=.ok () w:=by
 unfold Ip at h;split at h
 ·simp only[ag]at h;subst h;rw[hu.gR,hv.gR];exact⟨run_equalIn_bool' w _ t _ _ hk,bp rfl w⟩
 ·simp only[ag]at h;subst h;obtain⟨el,hk⟩:=hk;cases hu;cases hv;exact⟨(vU hk _ w ⟨0,0,none⟩).1,bp rfl w⟩
 ·simp only[ag]at h;subst h;obtain⟨el,hk⟩:=hk;cases hu;cases hv;exact⟨(vU hk _ w _).2.1,bp rfl w⟩
 ·simp only[ag]at h;subst h;obtain⟨el,hk⟩:=hk;cases hu;cases hv;exact⟨(vU hk _ w _).2.1,bp rfl w⟩
 ·simp only[ag]at h;subst h;obtain⟨el,hk⟩:=hk;cases hu;cases hv;exact⟨(vU hk _ w _).2.2,bp rfl w⟩
 ·simp only[ag]at h;subst h;obtain⟨el,hk⟩:=hk;cases hu;cases hv;exact⟨(vU hk _ w _).2.2,bp rfl w⟩
 ·simp only[ag]at h;subst h;obtain⟨el,hk⟩:=hk;cases hu;cases hv;exact⟨(qu hk _ w ⟨0,0,none⟩ 0 0).1,bp rfl w⟩
 ·simp only[ag]at h;subst h;obtain⟨el,hk⟩:=hk;cases hu;cases hv;exact⟨(qu hk _ w _ _ _).2.1,bp rfl w⟩
 ·simp only[ag]at h;subst h;obtain⟨el,hk⟩:=hk;cases hu;cases hv;exact⟨(qu hk _ w _ _ _).2.1,bp rfl w⟩
 ·simp only[ag]at h;subst h;obtain⟨el,hk⟩:=hk;cases hu;cases hv;exact⟨(qu hk _ w _ _ _).2.1,bp rfl w⟩
 ·simp only[ag]at h;subst h;obtain⟨el,hk⟩:=hk;cases hu;cases hv;exact⟨(qu hk _ w _ _ _).2.2,bp rfl w⟩
 ·simp only[ag]at h;subst h;obtain⟨el,hk⟩:=hk;cases hu;cases hv;exact⟨(qu hk _ w _ _ _).2.2,bp rfl w⟩
 ·simp only[ag]at h;subst h;obtain⟨el,hk⟩:=hk;cases hu;cases hv;exact⟨(qu hk _ w _ _ _).2.2,bp rfl w⟩
 ·simp only[ag]at h;subst h;obtain⟨k,el,hk⟩:=hk;cases hu;cases hv;exact⟨(FR hk _ w 0).1,bp rfl w⟩
 ·simp only[ag]at h;subst h;obtain⟨k,el,hk⟩:=hk;cases hu;cases hv;exact⟨(FR hk _ w _).2.1,bp rfl w⟩
 ·simp only[ag]at h;subst h;obtain⟨k,el,hk⟩:=hk;cases hu;cases hv;exact⟨(FR hk _ w _).2.2,bp rfl w⟩
 ·simp only[ag]at h;subst h;obtain⟨p,q,bb,hk⟩:=hk;cases hu;cases hv;exact⟨(FP hk _ w (.func 0) #[] #[]).1,bp rfl w⟩
 ·simp only[ag]at h;subst h;obtain⟨p,q,bb,hk⟩:=hk;cases hu;cases hv;exact⟨(FP hk _ w _ _ _).2.1,bp rfl w⟩
 ·simp only[ag]at h;subst h;obtain⟨p,q,bb,hk⟩:=hk;cases hu;cases hv;exact⟨(FP hk _ w _ _ _).2.2,bp rfl w⟩
 ·obtain⟨⟨ms,hk⟩,hg⟩:=hk;simp only[ag]at h;subst h;cases hu;cases hv;refine⟨(FQ hk _ w 0 .nilFunc).1,?_⟩;have hg' :eo x=true∨eo y=true:=by
   cases hx:eo x
   ·rw[hx]at hg;right;simpa using hg.symm
   ·exact .inl rfl
  cases op<;>first
   |rfl
   |(unfold eqGuard
     simp only[xR,jV,if_false];rw[if_pos]
     ·rfl
     ·rcases hg' with hg' |hg'
      ·cases x<;>simp[eo]at hg'⊢
      ·cases y<;>simp[eo]at hg'⊢)
 ·obtain⟨⟨ms,hk⟩,hg⟩:=hk;simp only[ag]at h;subst h;cases hu;cases hv;exact⟨(FQ hk _ w _ _).2.1,bp rfl w⟩
 ·obtain⟨⟨ms,hk⟩,hg⟩:=hk;simp only[ag]at h;subst h;cases hu;cases hv;exact⟨(FQ hk _ w _ _).2.2,bp rfl w⟩
 ·obtain⟨fs,hk,hks,hs,hg⟩:=hk;cases hu with
  |agg ha va=>
   cases hv with
   |agg hb vb=>
    refine⟨?_,run_eqGuard_agg w op t x y _ _ hg⟩;have hf:P.fieldsOf t=fs:=by simp[Program.fieldsOf,hk]
    rw[run_equalIn_struct (P:=P) w (d+1) t _ _ (by rw[hf];exact hk) hs,hf];exact FX (aV.of_array ha va) (aV.of_array hb vb) d w hks h
 ·simp at h
theorem Qp{op:BinOp}{ek:iG}{t:TypeId}{x y:Operand}{a b:V}{r:Bool}{u v:Value}(hk:P3 P t x y ek)(h:Ip ek a b=some r)(hu:aF w0 ρ a u)(hv:aF w0 ρ b v)(w:World):
  (Op.equal t u v).run P w=.ok r w∧(eqGuard op t x y u v).run P w=.ok () w:=K7 9998 hk h hu hv w
end
end Go.RE
namespace Go.RE
section
variable{P:Program}{w0:World}{ρ:Ren}{s:St}{w:World}{env:PT V}{e:Operand→Value}
def Rt(P:Program)(w0:World)(ρ:Ren)(w:World)(e:Operand→Value)(o:Oper)(v:V):Prop:=∃ x,(execOp e o).run P w=.ok (.value x) w∧aF w0 ρ v x
theorem bR{o:Oper}{v:V}{S:Sem Value}(he:execOp e o=(do pure (.value (←S))))(h:∃ x,S.run P w=.ok x w∧aF w0 ρ v x):Rt P w0 ρ w e o v:=by
 obtain⟨x,h1,h2⟩:=h;exact⟨x,by rw[he];simp[h1],h2⟩
theorem lz{x:Option Operand}{x' :Option bO}(h:nV x=some x'){d most n:Nat}(hn:aD env x' d most=some n)(H:∀ y,x=some y→jP w0 ρ env e y):
  (x=none∧n=d)∨(∃ y v,x=some y∧asNat v most=some n∧aF w0 ρ v (e y)):=by
 cases x with
 |none=>simp[nV]at h;subst h;simp[aD]at hn;exact .inl ⟨rfl,hn.symm⟩
 |some y=>
  simp only[nV]at h;split at h
  ·rename_i o ho;simp at h;subst h;simp only[aD]at hn;split at hn
   ·rename_i v hv;exact .inr ⟨y,v,rfl,hn,H y rfl o v ho hv⟩
   ·simp at hn
  ·simp at h
theorem Bt{v:V}{most n:Nat}(h:asNat v most=some n):n≤most:=by
 obtain⟨k,m,rfl,h1,h2,h3⟩:=pJ h;omega
theorem eM{isSlice:Bool}{len cap cap' :Nat}{lo hi mx:Option Operand}{lo' hi' mx' :Option bO}{l h m:Nat}(e1:nV lo=some lo')(e2:nV hi=some hi')(e3:nV mx=some mx')
  (hmx:mx.isSome=true→hi.isSome=true) (n3:aD env mx' cap cap=some m) (n2:aD env hi' len m=some h) (n1:aD env lo' 0 h=some l) (hcap:cap≤cap')
  (H1:∀ y,lo=some y→jP w0 ρ env e y) (H2:∀ y,hi=some y→jP w0 ρ env e y) (H3:∀ y,mx=some y→jP w0 ρ env e y) (w:World):
  (Instr.sliceBounds isSlice len cap' (lo.map e) (hi.map e) (mx.map e)).run P w=.ok (l,h,if mx.isSome then m else cap') w:=by
 have up:∀ {v:V} {a b n:Nat},asNat v a=some n→a≤b→asNat v b=some n:=fun {v a b n} hh hab=>by
  obtain⟨k,q,rfl,h1,h2,h3⟩:=pJ hh;simp only[asNat];rw[if_pos ⟨h1,by omega⟩,h3]
 unfold Instr.sliceBounds;rcases lz e3 n3 H3 with⟨rfl,rfl⟩|⟨y3,v3,rfl,a3,r3⟩
 ·rcases lz e2 n2 H2 with⟨rfl,rfl⟩|⟨y2,v2,rfl,a2,r2⟩
  ·rcases lz e1 n1 H1 with⟨rfl,rfl⟩|⟨y1,v1,rfl,a1,r1⟩
   ·simp
   ·simp[run_sliceBound _ a1 r1]
  ·rcases lz e1 n1 H1 with⟨rfl,rfl⟩|⟨y1,v1,rfl,a1,r1⟩
   ·simp[run_sliceBound _ (up a2 hcap) r2]
   ·simp[run_sliceBound _ (up a2 hcap) r2,run_sliceBound _ a1 r1]
 ·rcases lz e2 n2 H2 with⟨rfl,rfl⟩|⟨y2,v2,rfl,a2,r2⟩
  ·simp at hmx
  ·rcases lz e1 n1 H1 with⟨rfl,rfl⟩|⟨y1,v1,rfl,a1,r1⟩
   ·simp[run_sliceBound _ (up a3 hcap) r3,run_sliceBound _ a2 r2]
   ·simp[run_sliceBound _ (up a3 hcap) r3,run_sliceBound _ a2 r2,run_sliceBound _ a1 r1]
theorem dK{x:Option bO}{d most n:Nat}(hd:d≤most)(h:aD env x d most=some n):n≤most:=by
 cases x with
 |none=>simp[aD]at h;omega
 |some o=>
  simp only[aD]at h;split at h
  ·exact Bt h
  ·simp at h
theorem LD{t:TypeId}{n:Option Nat}{x:Operand}{o:bO}{v:V}(hn:spread P t=some n)(ho:cW x=some o)(hv:cZ env s (.load n o)=some v)(hR:Rel w0 ρ s w)(H:jP w0 ρ env e x):
  ∃ y,(Instr.loadAt t (e x)).run P w=.ok y w∧aF w0 ρ v y:=by
 simp only[cZ]at hv;split at hv
 ·rename_i b off ho';have hx:=H o _ ho ho';cases hs:s.row b with
  |none=>simp[hs]at hv
  |some cs=>
   simp only[hs]at hv;generalize e x=z at hx;cases hx with
   |ptr hρ=>
    obtain⟨y,h1,h2⟩:=oe (hR.cells hρ hs) hn hv;exact⟨y,by simp[Instr.loadAt,Instr.sureAddr,h1],h2⟩
 ·rename_i row off ho';have hx:=H o _ ho ho';generalize e x=z at hx;cases hx with
  |eR c hr hc hcv=>
   obtain⟨y,h1,h2⟩:=oe (P:=P) (hR.R3 hr hc hcv) hn hv;exact⟨y,by simp[Instr.loadAt,Instr.sureAddr,h1],h2⟩
 ·simp at hv
theorem sD(cs:List V)(off:Nat)(vs:List V)(h:off+vs.length≤cs.length):(kI cs off vs).length=cs.length:=by
 simp[kI];omega
theorem aV.vj{a:List V}{b:List Value}(hl:a.length=b.length)(h:∀ (i:Nat) v,a[i]? =some v→∃ x,b[i]? =some x∧aF w0 ρ v x):aV w0 ρ a b:=
 ⟨hl,fun i h1 h2=>by
  obtain⟨x,hx,hr⟩:=h i a[i] (aQ h1);rw[aQ h2]at hx;simp at hx;rw[hx];exact hr⟩
theorem Oe(cs:List V)(off:Nat)(vs:List V)(h:off+vs.length≤cs.length)(j:Nat):
  (kI cs off vs)[j]? =if j<off then cs[j]? else if j<off+vs.length then vs[j - off]? else cs[j]? :=by
 unfold kI;by_cases h1:j<off
 ·rw[if_pos h1,gD,bG (by simp;omega),fU,if_pos h1]
 ·rw[if_neg h1];by_cases h2:j<off+vs.length
  ·rw[if_pos h2,bG (by simp;omega),dh (by simp;omega)];simp[show min off cs.length=off from by omega]
  ·rw[if_neg h2,dh (by simp;omega),jX];congr 1;simp;omega
theorem Qz(o:Nat):∀ (l:List Value) (k:Nat) (A:Array Value),∃ B:Array Value,(l.zipIdx k).foldl (fun cs (c,j)=>cs.setIfInBounds (o+j) c) A=B∧B.size=A.size∧
  ∀ j,B[j]? =if o+k≤j∧j<o+k+l.length∧j<A.size then l[j - (o+k)]? else A[j]? :=by
 intro l
 induction l with
 |nil=>intro k A;exact⟨A,rfl,rfl,fun j=>by rw[if_neg (by simp;omega)]⟩
 |cons c l ih=>
  intro k A;obtain⟨B,h1,h2,h3⟩:=ih (k+1) (A.setIfInBounds (o+k) c);refine⟨B,by simpa[List.zipIdx_cons]using h1,by simpa using h2,fun j=> ?_⟩;rw[h3,xO];simp only[PS,fV];by_cases hj:o+(k+1)≤j∧j<o+(k+1)+l.length∧j<A.size
  ·rw[if_pos hj,if_pos (by omega),show j - (o+k)=(j - (o+(k+1)))+1 from by omega];simp
  ·rw[if_neg hj];by_cases hk:o+k=j
   ·subst hk;by_cases hs:o+k<A.size
    ·rw[if_pos rfl,if_pos hs,if_pos (by omega)];simp
    ·rw[if_pos rfl,if_neg hs,if_neg (by omega),uL (by omega)]
   ·rw[if_neg hk,if_neg (by omega)]
theorem uX{place:Nat→Option (Nat×Nat)}:∀ {parts:List (Nat×Operand)} {parts' :List (Nat×Nat×bO)} {cells:List V} {cells' :Array Value} {out:List V},lP place parts=some parts'→nE env cells parts' =some out→aV w0 ρ cells cells'.toList→(∀ p∈parts,jP w0 ρ env e p.2)→
  ∃ out' :Array Value,Instr.fill place cells' (parts.map fun p=>(p.1,e p.2))=some out'∧aV w0 ρ out out'.toList:=by
 intro parts
 induction parts with
 |nil=>
  intro parts' cells cells' out h h' hr _;simp[lP]at h;subst h;simp[nE]at h';subst h';exact⟨cells',rfl,hr⟩
 |cons p parts ih=>
  intro parts' cells cells' out h h' hr H;obtain⟨i,x⟩:=p;simp only[lP]at h;cases hp:place i with
  |none=>simp[hp]at h
  |some on=>
   obtain⟨o,n⟩:=on;cases hx:cW x with
   |none=>simp[hp,hx]at h
   |some xo=>
    cases hq:lP place parts with
    |none=>simp[hp,hx,hq]at h
    |some rest=>
     simp[hp,hx,hq]at h;subst h;simp only[nE]at h';cases hv:xo.ev env with
     |none=>simp[hv]at h'
     |some v=>
      simp only[hv]at h';cases hb:(Nat.beq v.cells.length n&&Nat.ble (o+v.cells.length) cells.length)with
      |false=>simp[hb]at h'
      |true=>
       simp only[hb,cond_true]at h';simp only[aI]at hb;have b1:v.cells.length=n:=aU hb.1;have b2:=dY hb.2;have hvr:=(H (i,x) (by simp) xo v hx hv).cells;have e1:(e x).cells.size=n:=by rw[←b1,hvr.1];simp
       have e2:cells'.size=cells.length:=by have:=hr.1;simp at this;omega
       obtain⟨B,h1,h2,h3⟩:=Qz o (e x).cells.toList 0 cells';have hB:(e x).cells.zipIdx.foldl (fun cs (c,j)=>cs.setIfInBounds (o+j) c) cells' =B:=by
        rw[←h1,←Array.foldl_toList];simp
       have hl:=hvr.1;simp only[PF]at hl;have hnew:aV w0 ρ (kI cells o v.cells) B.toList:=aV.vj (by rw[sD _ _ _ b2];simp[h2,e2]) fun j u hu=>by
        rw[Oe _ _ _ b2]at hu;rw[s4,h3];simp only[Nat.add_zero,PF];by_cases c1:j<o
        ·rw[if_pos c1]at hu;rw[if_neg (by omega)];simpa using hr.get hu
        ·rw[if_neg c1]at hu;by_cases c2:j<o+v.cells.length
         ·rw[if_pos c2]at hu;rw[if_pos (by omega)];exact hvr.get hu
         ·rw[if_neg c2]at hu;rw[if_neg (by omega)];simpa using hr.get hu
       obtain⟨out',g1,g2⟩:=ih hq h' hnew fun p hp=>H p (by simp[hp]);refine⟨out',?_,g2⟩;simp only[ct,Instr.fill,hp];rw[if_neg]
       ·rw[hB];exact g1
       ·simp;omega
theorem LR:∀ {fs:List Field} {ps:List (Nat×Nat)},places P fs=some ps→∀ w:World,(fs.mapM (m:=Sem) fun(f:Field)=>Prod.mk f.offset<$>sizeOf f.type).run P w=.ok ps w:=by
 intro fs
 induction fs with
 |nil=>intro ps h w;simp[places]at h;subst h;simp
 |cons f fs ih=>
  intro ps h w;simp only[places]at h;cases h1:gH P f.type with
  |none=>simp[h1]at h
  |some n=>
   cases h2:places P fs with
   |none=>simp[h1,h2]at h
   |some r=>simp[h1,h2]at h;subst h;simp[Yi,dw h1,ih h2]
theorem Iw{t:TypeId}{parts:List (Nat×Operand)}{fs:Array Field}{z:V}{ps:List (Nat×Nat)}{l:List (Nat×Nat×bO)}{out:List V}
  (hu:P.underlying t=some (.struct fs)) (hz:zeroOf P t=some z) (hp:places P fs.toList=some ps) (hl:lP (fun i=>ps[i]?) parts=some l) (hf:nE env z.cells l=some out)
  (H:∀ p∈parts,jP w0 ρ env e p.2) (w:World):∃ x,(Instr.build t (parts.toArray.map fun p=>(p.1,e p.2))).run P w=.ok x w∧aF w0 ρ (.agg out) x:=by
 obtain⟨zx,hzr,hzv⟩:=jM hz;obtain⟨out',h1,h2⟩:=uX (cells' :=zx.cells) hl hf (hzv w0 ρ).cells H;refine⟨.agg out',?_,by simpa using aF.Br h2⟩;have hm:(fs.mapM (m:=Sem) fun(f:Field)=>do pure (f.offset,←sizeOf f.type)).run P w=.ok ps.toArray w:=by
  rw[show(fun(f:Field)=>(do pure (f.offset,←sizeOf f.type):Sem (Nat×Nat)))=(fun(f:Field)=>Prod.mk f.offset<$>sizeOf f.type)from by funext f;simp,qc2];simp[LR hp w]
 unfold Instr.build;simp only[Sem.run_bind,hzr,Result.andThen_ok,run_underlying hu,hm];have hfill:Instr.fill (fun x=>ps.toArray[x]?) zx.cells (parts.toArray.map fun p=>(p.1,e p.2)).toList=some out' :=by
  simpa using h1
 simp only[hfill];rfl
theorem Qa{t el:TypeId}{n sz:Nat}{parts:List (Nat×Operand)}{z:V}{l:List (Nat×Nat×bO)}{out:List V}
  (hu:P.underlying t=some (.array n el)) (hz:zeroOf P t=some z) (hs:gH P el=some sz) (hl:lP (fun i=>some (i*sz,sz)) parts=some l) (hf:nE env z.cells l=some out)
  (H:∀ p∈parts,jP w0 ρ env e p.2) (w:World):∃ x,(Instr.build t (parts.toArray.map fun p=>(p.1,e p.2))).run P w=.ok x w∧aF w0 ρ (.agg out) x:=by
 obtain⟨zx,hzr,hzv⟩:=jM hz;obtain⟨out',h1,h2⟩:=uX (cells' :=zx.cells) hl hf (hzv w0 ρ).cells H;refine⟨.agg out',?_,by simpa using aF.Br h2⟩;unfold Instr.build;simp only[Sem.run_bind,hzr,Result.andThen_ok,run_underlying hu,dw hs];have hfill:Instr.fill (fun i=>some (i*sz,sz)) zx.cells (parts.toArray.map fun p=>(p.1,e p.2)).toList=some out' :=by
  simpa using h1
 simp only[hfill];rfl
theorem D3:∀ {cs:List V} {bs:List UInt8} {xs:List Value},bytesOf cs=some bs→aV w0 ρ cs xs→∃ ns:List Int,xs=ns.map (Value.int .u8)∧ns.map (fun n=>UInt8.ofNat n.toNat)=bs:=by
 intro cs
 induction cs with
 |nil=>intro bs xs h hr;simp[bytesOf]at h;subst h;exact⟨[],hr.eF,rfl⟩
 |cons c cs ih=>
  intro bs xs h hr;obtain⟨x,xs',rfl,hx,hxs⟩:=hr.bD;cases c with
  |int k n=>
   cases k<;>simp only[bytesOf,reduceCtorEq]at h;cases hb:bytesOf cs with
   |none=>simp[hb]at h
   |some r=>
    simp[hb]at h;subst h;obtain⟨ns,rfl,h2⟩:=ih hb hxs;exact⟨n::ns,by rw[hx.fP];rfl,by simp[h2]⟩
  |_=>simp[bytesOf]at h
theorem foldl_push(ns:List Int):∀ (b:ByteArray),(ns.foldl (fun r n=>r.push (UInt8.ofNat n.toNat)) b).data.toList=b.data.toList++ns.map (fun n=>UInt8.ofNat n.toNat):=by
 induction ns with
 |nil=>intro b;simp
 |cons n ns ih=>intro b;simp only[mz,ih,ct];simp[ByteArray.push]
theorem gB{wd:Nat}{v:V}{x:Value}{cs:List V}(hv:bN s wd v=some cs)(hR:Rel w0 ρ s w)(hx:aF w0 ρ v x):
  (x=.slice none 0 0∧cs=[])∨∃ a len cap xs,x=.slice (some a) len cap∧u7 v=some len∧xs.length=len*wd∧(∀ j u,xs[j]? =some u→w.cell? (a.add j)=some u)∧aV w0 ρ cs xs:=by
 unfold bN at hv;split at hv
 ·simp at hv;subst hv;cases hx;exact .inl ⟨rfl,rfl⟩
 ·simp at hv;subst hv;cases hx;exact .inr ⟨_,0,0,[],rfl,rfl,by simp,fun j u hj=>by simp at hj,.nil⟩
 ·rename_i b off len cap sz ex;cases hs:s.row b with
  |none=>simp[hs]at hv
  |some row=>
   simp only[hs]at hv;cases hb:(Nat.beq sz wd&&Nat.ble (off+len*sz) row.length)with
   |false=>simp[hb]at hv
   |true=>
    simp only[hb,cond_true,ag]at hv;subst hv;simp only[aI]at hb;have b1:sz=wd:=aU hb.1;have b2:=dY hb.2;subst b1;cases hx with
    |slice hρ h1 h2 h3 h4 hcb=>
     obtain⟨xs,g1,g2,g3⟩:=(hR.cells hρ hs).list off (len*sz) b2;rename_i r o lim a cap';refine .inr ⟨a,len,cap',xs,rfl,rfl,g1,fun j u hj=> ?_,g3⟩;rcases h4 with h4|⟨rfl,_⟩
     ·have:len=0:=by omega
      subst this;have:xs=[]:=fT (by rw[g1];simp);subst this;simp at hj
     ·rw[iJ];exact g2 j u hj
 ·rename_i row off len sz;cases hb:(Nat.beq sz wd&&Nat.ble (off+len*sz) row.length)with
  |false=>simp[hb]at hv
  |true=>
   simp only[hb,cond_true,ag]at hv;subst hv;simp only[aI]at hb;have b1:sz=wd:=aU hb.1;have b2:=dY hb.2;subst b1;cases hx with
   |ah c hr hc hcv h3 h4=>
    obtain⟨xs,g1,g2,g3⟩:=(hR.R3 hr hc hcv).list off (len*sz) b2;rename_i r o a cap';refine .inr ⟨a,len,cap',xs,rfl,rfl,g1,fun j u hj=> ?_,g3⟩;rcases h4 with h4|rfl
    ·have:len=0:=by omega
     subst this;have:xs=[]:=fT (by rw[g1];simp);subst this;simp at hj
    ·rw[iJ];exact g2 j u hj
 ·simp at hv
theorem J4{v:V}{x:Value}{cs:List V}{bs:List UInt8}(hv:bN s 1 v=some cs)(hb:bytesOf cs=some bs)(hR:Rel w0 ρ s w)(hx:aF w0 ρ v x):
  ∃ y,(Conv.bytesToString x).run P w=.ok (.string y) w∧y.data.toList=bs:=by
 rcases gB hv hR hx with⟨rfl,rfl⟩|⟨a,len,cap,xs,rfl,_,g1,g2,g3⟩
 ·simp[bytesOf]at hb;subst hb;exact⟨.empty,by simp[Conv.bytesToString],rfl⟩
 ·obtain⟨ns,rfl,h2⟩:=D3 hb g3;have hl:(loadCells a len).run P w=.ok (ns.map (Value.int .u8)).toArray w:=by
   have:=run_loadCells_list (P:=P) w a (ns.map (Value.int .u8)) g2;rwa[g1,PA]at this
  exact⟨_,run_bytesToString w a len cap ns hl,by rw[foldl_push,h2];rfl⟩
theorem rR{kk:iG}{k:V}{y:Value}{t:TypeId}(hk:rJ P t kk)(hy:aF w0 ρ k y):∀ {es:List ME} {es' :List MapEntry} {i:Nat} {r:Option (Nat×V)},nF kk k es i=some r→es.length=es'.length→(∀ j (h:j<es.length) (h' :j<es'.length),aF w0 ρ es[j].key es'[j].key∧aF w0 ρ es[j].val es'[j].val∧es[j].born=es'[j].born)→
  ∃ D r',P.underlying t=some D∧Instr.findNow D y es' i=some r'∧(match r,r' with|none,none=>True|some (j,v),some (j',v')=>j=j'∧aF w0 ρ v v'∧i≤j∧∃ h:j - i<es'.length,Instr.sameNow D y (es'[j - i]).key=some true|_,_=>False):=by
 have hD:∃ D,P.underlying t=some D∧∀ {a b:V} {x z:Value} {q:Bool},kr kk a b=some q→aF w0 ρ a x→aF w0 ρ b z→Instr.sameNow D x z=some q:=by
  cases kk<;>simp only[rJ]at hk<;>try exact hk.elim
  ·refine⟨_,hk,fun {a b x z q} h hx hz=> ?_⟩;rcases oM h with⟨p,q,hh,rfl,rfl,rfl⟩|⟨j,p,q,hh,rfl,rfl,rfl⟩|⟨p,q,hh,rfl,rfl,rfl⟩<;>try cases hh
   rw[hx.gR,hz.gR];rfl
  ·obtain⟨j,hj⟩:=hk;refine⟨_,hj,fun {a b x z q} h hx hz=> ?_⟩;rcases oM h with⟨p,q,hh,rfl,rfl,rfl⟩|⟨j,p,q,hh,rfl,rfl,rfl⟩|⟨p,q,hh,rfl,rfl,rfl⟩<;>try cases hh
   rw[hx.fP,hz.fP];simp[Instr.sameNow]
  ·refine⟨_,hk,fun {a b x z q} h hx hz=> ?_⟩;rcases oM h with⟨p,q,hh,rfl,rfl,rfl⟩|⟨j,p,q,hh,rfl,rfl,rfl⟩|⟨p,q,hh,rfl,rfl,rfl⟩<;>try cases hh
   obtain⟨p',rfl,hp⟩:=hx.gM;obtain⟨q',rfl,hq⟩:=hz.gM;simp only[Instr.sameNow];rw[beq_toListBytes,cz,cz,hp,hq]
 obtain⟨D,hD1,hD2⟩:=hD;intro es
 induction es with
 |nil=>
  intro es' i r h hl _;have:es' =[]:=fT hl.symm;subst this;simp[nF]at h;subst h;exact⟨D,none,hD1,rfl,trivial⟩
 |cons m es ih=>
  intro es' i r h hl hes;cases es' with
  |nil=>simp at hl
  |cons m' es' =>
   have hm:=hes 0 (by simp) (by simp);simp only[PD]at hm;simp only[nF]at h;cases hp:kr kk k m.key with
   |none=>simp[hp]at h
   |some q=>
    have hs:=hD2 hp hy hm.1;cases q with
    |true=>
     simp[hp]at h;subst h;exact⟨D,some (i,m'.val),hD1,by simp[Instr.findNow,hs],rfl,hm.2.1,ak _,by simp,by simpa using hs⟩
    |false=>
     simp only[hp]at h;obtain⟨D',r',e1,e2,e3⟩:=ih h (by simpa using hl) fun j h1 h2=>by
      have:=hes (j+1) (by simpa using h1) (by simpa using h2);simpa using this
     rw[hD1]at e1;cases e1;refine⟨D,r',hD1,by simp[Instr.findNow,hs,e2],?_⟩;cases r with
     |none=>cases r' <;>simp_all
     |some jv=>
      obtain⟨j,v⟩:=jv;cases r' with
      |none=>simp at e3
      |some jv' =>
       obtain⟨j',v'⟩:=jv';obtain⟨a1,a2,a3,a4,a5⟩:=e3;refine⟨a1,a2,by omega,by simp;omega,?_⟩;have:j - i=(j - (i+1))+1:=by omega
       simp only[this,List.getElem_cons_succ];exact a5
theorem iM{kk:iG}{k:V}{y:Value}{t:TypeId}(hk:rJ P t kk)(hp:plainKey kk k=true)(hy:aF w0 ρ k y)(b:Bool)(n:Nat)(w:World):(Instr.checkKey b (n+1) t y).run P w=.ok () w:=by
 cases kk<;>simp only[rJ]at hk<;>try exact hk.elim
 ·cases k<;>simp[plainKey]at hp;rw[hy.gR];simp[Instr.checkKey,run_underlying hk]
 ·obtain⟨j,hj⟩:=hk;cases k<;>simp[plainKey]at hp;rw[hy.fP];simp[Instr.checkKey,run_underlying hj]
 ·cases k<;>simp[plainKey]at hp;obtain⟨p,rfl,_⟩:=hy.gM;simp[Instr.checkKey,run_underlying hk]
theorem rM{t:TypeId}{kk:iG}(h:lR P t=some kk):rJ P t kk:=by
 unfold lR at h;split at h<;>simp at h<;>subst h
 ·assumption
 ·exact⟨_,by assumption⟩
 ·assumption
theorem Rel.LF(hR:Rel w0 ρ s w){m r o lim:Nat}{es:List ME}{clock:Nat}(hρ:ρ m=some (r,o,lim))(hs:s.get m=some (.map es clock)):
  ∃ es',w.heap[r]? =some (.map es' clock)∧es.length=es'.size∧∀ i (h:i<es.length) (h' :i<es'.size),aF w0 ρ es[i].key es'[i].key∧aF w0 ρ es[i].val es'[i].val∧es[i].born=es'[i].born:=by
 have:=hR.ob m r o lim hρ;rw[hs]at this;exact this
theorem run_getObj_map{r:Nat}{es' :Array MapEntry}{clock:Nat}(h:w.heap[r]? =some (.map es' clock)):(getObj r).run P w=.ok (.map es' clock) w:=by
 simp[getObj,Sem.run,h]
theorem Gf{t kt et:TypeId}{kk:iG}{z:V}{ok:Bool}{m k:V}{x y:Value}{v:V}(hu:P.underlying t=some (.map kt et))(hz:zeroOf P et=some z)(hkk:lR P kt=some kk)
  (hR:Rel w0 ρ s w) (hm:aF w0 ρ m x) (hk:aF w0 ρ k y) (hv:qB s kk z ok m k=some v):
  ∃ u,(Instr.lookup t x y ok).run P w=.ok u w∧aF w0 ρ v u:=by
 have hK:=rM hkk;obtain⟨zx,hzr,hzv⟩:=jM hz;simp only[qB]at hv;have fin:∀ {a:V} {a' :Value} (b:Bool),aF w0 ρ a a'→aF w0 ρ (if ok then .aZ [a,.bool b]else a) (if ok then .tuple #[a',.bool b]else a'):=fun {a a'} b ha=>by
  cases ok
  ·simpa using ha
  ·simpa using aF.lH (aV.cons ha (aV.cons (.bool b) .nil))
 split at hv
 ·cases hp:plainKey kk k with
  |false=>simp[hp]at hv
  |true=>
   simp[hp]at hv;cases hm;refine⟨if ok then .tuple #[zx,.bool false]else zx,?_,by rw[←hv];exact fin false (hzv w0 ρ)⟩;have hc:=iM (P:=P) hK hp hk true 9999 w;have hf:(Instr.findKey kt y []).run P w=.ok none w:=by
    obtain⟨D,r',e1,e2,e3⟩:=rR (P:=P) (es:=[]) (es' :=[]) (i:=0) hK hk rfl rfl (fun j h=>by simp at h);simp[Instr.findKey,run_underlying e1,Instr.findNow]
   simp[Instr.lookup,run_underlying hu,hc,hf,hzr]
 ·rename_i mm;cases hs:s.get mm with
  |none=>simp[hs]at hv
  |some ob=>
   cases ob<;>simp only[hs,reduceCtorEq]at hv;rename_i es clock;cases hp:plainKey kk k with
   |false=>simp[hp]at hv
   |true=>
    simp only[hp,cond_true]at hv;cases hm with
    |map hρ=>
     rename_i r o lim;obtain⟨es',g1,g2,g3⟩:=hR.LF hρ hs;have hc:=iM (P:=P) hK hp hk es'.isEmpty 9999 w;cases hf:nF kk k es 0 with
     |none=>simp[hf]at hv
     |some res=>
      obtain⟨D,r',e1,e2,e3⟩:=rR (P:=P) (es:=es) (es' :=es'.toList) (i:=0) hK hk hf (by simpa using g2) (fun j h h' =>by simpa using g3 j h (by simpa using h'));have hfk:(Instr.findKey kt y es'.toList).run P w=.ok r' w:=by simp[Instr.findKey,run_underlying e1,e2]
      simp only[hf]at hv;cases res with
      |none=>
       cases r' with
       |some _=>simp at e3
       |none=>
        simp only[ag]at hv;refine⟨if ok then .tuple #[zx,.bool false]else zx,?_,by rw[←hv];exact fin false (hzv w0 ρ)⟩;simp[Instr.lookup,run_underlying hu,run_getObj_map g1,hc,hfk,hzr]
      |some jv=>
       obtain⟨j,u⟩:=jv;cases r' with
       |none=>simp at e3
       |some jv' =>
        obtain⟨j',u'⟩:=jv';simp only[ag]at hv;refine⟨if ok then .tuple #[u',.bool true]else u',?_,by rw[←hv];exact fin true e3.2.1⟩;simp[Instr.lookup,run_underlying hu,run_getObj_map g1,hc,hfk]
 ·simp at hv
end
end Go.RE
