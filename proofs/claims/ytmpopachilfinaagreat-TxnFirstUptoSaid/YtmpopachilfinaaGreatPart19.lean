/- Contracts: what a transaction has written, in order; Scan. -/
import Derived.Test.YtmpopachilfinaaGreatPart18
import Derived.Test.YtmpopachilfinaaGreatPart17
import Derived.Test.YtmpopachilfinaaGreatPart3
import Derived.Test.YtmpopachilfinaaGreatPart14
import Derived.Test.YtmpopachilfinaaGreatPart6
import Derived.ChangeArms
import Derived.Carry
import Derived.RowKit
import Derived.Test.YtmpopachilfinaaGreatPart16
set_option linter.unusedVariables false
set_option linter.unusedSimpArgs false
set_option linter.unnecessarySimpa false
set_option linter.constructorNameAsVariable false
namespace Go.RE
section
variable{α:Type}(key:α→By)
def dD(a:α):List α→List α
 |[]=>[a]
 |b::l=>bif lt (key b) (key a)then b::dD a l else a::b::l
def dQ(l:List α):List α:=l.foldr (dD key) []
theorem JE{a b:α}(h:key a≠key b):∀ l,dD key a (dD key b l)=dD key b (dD key a l):=by
 have two:∀ l,(bif lt (key b) (key a)then b::a::l else a::b::l)=(bif lt (key a) (key b)then a::b::l else b::a::l):=by
  intro l;rcases wG (key a) (key b)with h1|h1|h1
  ·rw[show lt (key a) (key b)=true from h1,show lt (key b) (key a)=false from tC h1];rfl
  ·exact absurd h1 h
  ·rw[show lt (key b) (key a)=true from h1,show lt (key a) (key b)=false from tC h1];rfl
 intro l
 induction l with
 |nil=>simp only[dD];exact two []
 |cons x l ih=>
  cases h1:lt (key x) (key a)with
  |true=>
   cases h2:lt (key x) (key b)with
   |true=>simp only[dD,h1,h2,cond_true,ih]
   |false=>
    have h3:lt (key b) (key a)=true:=by
     rcases wG (key b) (key x)with h|h|h
     ·exact Dp h h1
     ·rw[h];exact h1
     ·rw[show lt (key x) (key b)=true from h]at h2;cases h2
    have h4:lt (key a) (key b)=false:=tC h3;simp only[dD,h1,h2,h3,h4,cond_true,cond_false]
  |false=>
   cases h2:lt (key x) (key b)with
   |true=>
    have h3:lt (key a) (key b)=true:=by
     rcases wG (key a) (key x)with h|h|h
     ·exact Dp h h2
     ·rw[h];exact h2
     ·rw[show lt (key x) (key a)=true from h]at h1;cases h1
    have h4:lt (key b) (key a)=false:=tC h3;simp only[dD,h1,h2,h3,h4,cond_true,cond_false]
   |false=>
    simp only[dD,h1,h2,cond_false];have:=two (x::l);cases h3:lt (key b) (key a)with
    |true=>rw[h3]at this;cases h4:lt (key a) (key b)with
     |true=>rw[show lt (key a) (key b)=false from tC h3]at h4;cases h4
     |false=>simp only[dD,h3,h4,h1,h2,cond_true,cond_false]
    |false=>
     rw[h3]at this;cases h4:lt (key a) (key b)with
     |true=>simp only[dD,h3,h4,h1,h2,cond_true,cond_false]
     |false=>
      rcases wG (key a) (key b)with h|h' |h
      ·rw[show lt (key a) (key b)=true from h]at h4;cases h4
      ·exact absurd h' h
      ·rw[show lt (key b) (key a)=true from h]at h3;cases h3
theorem yu{l l' :List α}(h:l.Perm l'):(l.map key).Nodup→dQ key l=dQ key l' :=by
 induction h with
 |nil=>intro _;rfl
 |cons x _ ih=>
  intro hn;simp only[List.map_cons,List.nodup_cons]at hn;show dD key x (dQ key _)=dD key x (dQ key _);rw[ih hn.2]
 |swap x y l=>
  intro hn;simp only[List.map_cons,List.nodup_cons,dS,not_or]at hn;exact JE key hn.1.1 _
 |trans h1 _ ih1 ih2=>
  intro hn;rw[ih1 hn,ih2 ((h1.map key).nodup_iff.1 hn)]
theorem Dk(a:α):∀ l,(dD key a l).length=l.length+1
 |[]=>rfl
 |b::l=>by
  unfold dD;cases lt (key b) (key a)with
  |true=>simp only[cond_true,List.length_cons,Dk a l]
  |false=>rfl
theorem jj:∀ l:List α,(dQ key l).length=l.length
 |[]=>rfl
 |a::l=>by show(dD key a (dQ key l)).length=_;rw[Dk,jj l];rfl
theorem AH(a:α):∀ l,(dD key a l).Perm (a::l)
 |[]=> .refl _
 |b::l=>by
  unfold dD;cases lt (key b) (key a)with
  |true=>exact((AH a l).cons b).trans (.swap a b l)
  |false=>exact .refl _
theorem lu:∀ l:List α,(dQ key l).Perm l
 |[]=> .refl _
 |a::l=>(AH key a _).trans ((lu l).cons a)
variable(f:α→List U)(hf:∀ a,pQ (f a)=some (key a))
include hf
theorem JL(l:List α):kz (l.map f)=some (l.map key):=by
 induction l with
 |nil=>rfl
 |cons a l ih=>show(match pQ (f a),kz (l.map f)with|some k,some l=>some (k::l)|_,_=>none)=_;rw[hf,ih];rfl
theorem PY(a:α)(l:List α):Hp (f a) (l.map f)=(dD key a l).map f:=by
 induction l with
 |nil=>rfl
 |cons b l ih=>
  have e:Mt (f b) (f a)=lt (key b) (key a):=by simp only[Mt,hf]
  simp only[List.map_cons,Hp,dD,e];cases lt (key b) (key a)with
  |true=>simp only[cond_true,List.map_cons,ih]
  |false=>rfl
theorem OH(l:List α):Ij (l.map f)=(dQ key l).map f:=by
 induction l with
 |nil=>rfl
 |cons a l ih=>
  show Hp (f a) (Ij (l.map f))=(dD key a (dQ key l)).map f;rw[ih,PY key f hf]
theorem DE(k c:Nat)(hr:∀ a,kj k (f a)=true)(l:List α)(hn:(l.map key).Nodup)(hl:l.length<small):oq k c (l.map f) [.func c [] []]=some ((dQ key l).map f):=by
 have h2:(l.map f).all (kj k)=true:=by rw[List.all_map,jD];intro a _;exact hr a
 have h1:Nat.blt (l.map f).length 4611686018427387904=true:=by
  simp only[List.length_map];exact oT (by unfold small at hl;omega)
 simp only[oq,jC,h1,h2,Bool.and_self,cond_true,JL key f hf,if_pos hn,OH key f hf]
end
def ov(t:Tx):List Wt:=dQ Wt.key t.bT
theorem qfK{h:List Uo}{m:Nat}(fl:Nat)(hf:fl≤h.length)(lc:List (Wt×Nat))(c:Nat)(hc:ue nA lc c)(hm:h[m]? =some (.map (lc.map (tD nA)) c))(hlc:lc.length<small)(K:Ex→Vs→Prop)
  (hK:∀ vis:List (Wt×Nat),vis.Perm lc→K .normal ⟨[(3,.own (.t 3) 3 (vis.map fun x=>dI x.1))],h++[.iter (some m) c (vis.map (·.2)) c],fl⟩):
  ∀ (j:Nat) (vis left:List (Wt×Nat)),left.length≤j→(vis++left).Perm lc→
  gL br mT qT pT v79 0 Gt (h.length+1) ⟨[(3,.own (.t 3) 3 (vis.map fun x=>dI x.1)),(10,.ptr h.length 0)],h++[.iter (some m) c (vis.map (·.2)) c],fl⟩ K:=by
 intro j
 induction j with
 |zero=>
  intro vis left hj hp;obtain rfl:left=[]:=jT (by omega);rw[List.append_nil]at hp;rw[ak Gt.eq_1];simp[Vg];refine oE rfl hm (wm hc) (fun _=> ?_) (fun a ha hn=> ?_)
  ·have:=hK vis hp;simpa[kU hf]using this
  ·obtain⟨x,hx,rfl,_,h3⟩:=oJ (left:=[]) hc (by simpa using hp) ha hn;simp at h3
 |succ j ih=>
  intro vis left hj hp;rw[ak Gt.eq_1];simp[Vg];refine oE rfl hm (wm hc) (fun hall=> ?_) (fun a ha hn=> ?_)
  ·have:=EI hc hp hall;subst this;rw[List.append_nil]at hp;have:=hK vis hp;simpa[kU hf]using this
  ·obtain⟨x,hx,rfl,h2,h3⟩:=oJ hc hp ha hn;have ih' :=ih (vis++[x]) (left.erase x) (by omega) h2;have hvl:vis.length<small:=by have:=hp.length_eq;simp at this;omega
   have b1:(vis.length+1)*48≤bp∧vis.length+1≤bp:=by unfold small at hvl;unfold bp;omega
   have hent:∀ ev:Env,mF ⟨ev,h++[.iter (some m) c (vis.map (·.2)++[x.2]) c],fl⟩ h.length=some (.aV [.str x.1.key,.agg (dI x.1)]):=fun ev=>wA hm (D5 hc) ha;simp[List.map_append,dI]at ih';simp only[dI]at hent;simp[tD,nA,ZU,ZV,hent,dI,b1,kU hf];exact ih'
theorem t79{h:List Uo}{t p:Nat}{tx:Tx}(fl:Nat)(hf:fl≤h.length)(ht:h[t]? =some (.row (lB tx p)))(hp:jX nA h[p]? tx.bT)(hpl:tx.bT.length<small):G 79 [.ptr t 0] h fl=some (.own .r 3 ((ov tx).map dI),h,fl):=by
 refine bL (fn:=v79) rfl rfl rfl ?_;obtain⟨lc,c,e1,e2,e3⟩:=hp;have hl:decide (t<h.length)=true:=decide_eq_true (bn.1 ht).1;have hll0:lc.length=tx.bT.length:=by rw[←e1];simp
 have hll:lc.length<small:=by omega
 have a:=qfK fl hf lc c e3 e2 hll (gI br mT qT pT v79 (.seq (.region Vh) (.seq (.region Vi) .ret)) (kE h.length v79 (.own .r 3 ((ov tx).map dI),h,fl))) (fun vis hv=>by
  have hnk:((vis.map (·.1)).map Wt.key).Nodup:=by
   rw[List.map_map];exact(hv.map _).nodup_iff.2 e3.keys
  have hs:dQ Wt.key (vis.map (·.1))=ov tx:=by
   unfold ov;rw[←e1];exact yu Wt.key (hv.map _) hnk
  have hq:oq 3 116 (vis.map fun x=>dI x.1) [.func 116 [] []]=some ((ov tx).map dI):=by
   have e:(vis.map fun x=>dI x.1)=(vis.map (·.1)).map dI:=by rw[List.map_map];rfl
   have hvl:=hv.length_eq;rw[e,DE Wt.key dI (fun _=>rfl) 3 116 (fun _=>rfl) _ hnk (by simp;omega),hs]
  simp[Vh,Vi,hq,qA hf]) lc.length [] lc (aq _) (by simp)
 simp only[lB]at ht;simp at a;simp[Cm,ZR,ZS,ZT,hl,ht,e2,aZ hf,kU hf];exact a
end Go.RE
namespace Go.RE
theorem JF{α:Type}(key:α→By){a:α}:∀ {l:List α},(∀ x∈l,lt (key x) (key a)=false)→dD key a l=a::l
 |[],_=>rfl
 |b::l,h=>by
  unfold dD;rw[h b (.head _)];rfl
theorem s7{α:Type}(key:α→By):∀ {l:List α},l.Pairwise (fun a b=>lt (key b) (key a)=false)→dQ key l=l
 |[],_=>rfl
 |a::l,h=>by
  rw[List.pairwise_cons]at h;show dD key a (dQ key l)=a::l;rw[s7 key h.2];exact JF key h.1
theorem Il{α:Type}(key:α→By){l l' :List α}(hp:l.Perm l')(hs:l'.Pairwise (fun a b=>lt (key b) (key a)=false))(hn:(l.map key).Nodup):l' =dQ key l:=by
 rw[yu key hp hn,s7 key hs]
end Go.RE
namespace Go.RE
open Go Go.Proofs Go.Sort Go.Lib Go.RowKit
inductive s9{α β:Type}(R:α→β→Prop):List α→List β→Prop
 |nil:s9 R [] []
 |cons {a b l m} (h:R a b) (t:s9 R l m):s9 R (a::l) (b::m)
theorem s9.length{α β:Type}{R:α→β→Prop}{l:List α}{m:List β}(h:s9 R l m):l.length=m.length:=by
 induction h with
 |nil=>rfl
 |cons _ _ ih=>simp[ih]
theorem JD{α β:Type}{R:α→β→Prop}{k1:α→By}{k2:β→By}(hk:∀ a b,R a b→k1 a=k2 b){a:α}{b:β}(hab:R a b){l:List α}{m:List β}(h:s9 R l m):s9 R (dD k1 a l) (dD k2 b m):=by
 induction h with
 |nil=>exact .cons hab .nil
 |cons h t ih=>
  simp only[dD,hk _ _ hab,hk _ _ h];rename_i a' b' l' m';cases lt (k2 b') (k2 b)with
  |true=>exact .cons h ih
  |false=>exact .cons hab (.cons h t)
theorem yq{α β:Type}{R:α→β→Prop}{k1:α→By}{k2:β→By}(hk:∀ a b,R a b→k1 a=k2 b){l:List α}{m:List β}(h:s9 R l m):s9 R (dQ k1 l) (dQ k2 m):=by
 induction h with
 |nil=>exact .nil
 |cons h t ih=>exact JD hk h ih
theorem Dm{α β:Type}{R:α→β→Prop}{k1:α→By}{k2:β→By}(hk:∀ a b,R a b→k1 a=k2 b){l:List α}{m:List β}(h:s9 R l m):l.map k1=m.map k2:=by
 induction h with
 |nil=>rfl
 |cons h t ih=>simp[hk _ _ h,ih]
def L9:V→Bool
 | .bu=>true
 | .bM=>true
 | .slice .. =>true
 | .ag .. =>true
 |_=>false
def mN(k:Nat):List V→Bool
 |[.str _,v]=>Nat.beq k 2&&L9 v
 |[.str _,.bool _,v]=>Nat.beq k 3&&L9 v
 |_=>false
def Cr:List V→By
 | .str k::_=>k
 |_=>[]
def chunk(k:Nat):Nat→List V→List (List V)
 |0,_=>[]
 |n+1,l=>l.take k::chunk k n (l.drop k)
def DG(k len:Nat)(cs:List V)(off:Nat):List V:=(dQ Cr (chunk k len (cs.drop off))).flatten
def nc(k c:Nat):List V→St→Option (V×St):=fun vs s=>match vs with
 |[.bu,.func g [] []]=>bif Nat.beq g c then some (.aV [],s)else none
 |[.bM,.func g [] []]=>bif Nat.beq g c then some (.aV [],s)else none
 |[.slice b off 0 cap sz ex,.func g [] []]=>bif Nat.beq g c then some (.aV [],s)else none
 |[.slice b off len cap sz ex,.func g [] []]=>bif Nat.beq g c&&Nat.beq sz k then(match s.vT b with
  |some cs=>bif Nat.ble (off+len*k) cs.length&&Nat.blt len 4611686018427387904&&(chunk k len (cs.drop off)).all (mN k)then
    (if((chunk k len (cs.drop off)).map Cr).Nodup then some (.aV [],s.put b (.row (jQ cs off (DG k len cs off))))else none)else none
  |none=>none)else none
 |_=>none
theorem PB{k:Nat}(hk:k=2∨k=3)(x:Rw):(wu k x).length=k:=by rcases hk with rfl|rfl<;>rfl
def Wc(w0:World)(ρ:Ren)(k:Nat)(r:List V)(x:Rw):Prop:=Cr r=x.1∧mN k r=true∧aR w0 ρ r (wu k x)
theorem QU{w0:World}{ρ:Ren}{v:V}{y:Value}(h:az w0 ρ v y)(hv:L9 v=true):∃ p n c,y=.slice p n c:=by
 cases h<;>first|exact⟨_,_,_,rfl⟩|cases hv
theorem QZ{s:ByteArray}{a:By}(h:s.data.toList=a):s=⟨a.toArray⟩:=by
 subst h;cases s;simp
theorem qbw{w0:World}{ρ:Ren}{k:Nat}{r:List V}{ys:List Value}(hr:mN k r=true)(h:aR w0 ρ r ys):∃ x,Wc w0 ρ k r x∧wu k x=ys:=by
 unfold mN at hr;split at hr
 ·rename_i a v;simp only[bC]at hr;have hk:=bR hr.1;subst hk;have h0:=h;obtain⟨y1,ys1,rfl,h1,h2⟩:=h.bx;obtain⟨y2,ys2,rfl,h3,h4⟩:=h2.bx;obtain rfl:=h4.dY;obtain⟨p,n,c,rfl⟩:=QU h3 hr.2;cases h1 with
  |str hs=>
   have hs' :=QZ hs;subst hs';exact⟨(a,false,p,n,c),⟨rfl,by simp[mN,hr.2],h0⟩,rfl⟩
 ·rename_i a b v;simp only[bC]at hr;have hk:=bR hr.1;subst hk;have h0:=h;obtain⟨y1,ys1,rfl,h1,h2⟩:=h.bx;obtain⟨y2,ys2,rfl,h3,h4⟩:=h2.bx;obtain⟨y3,ys3,rfl,h5,h6⟩:=h4.bx;obtain rfl:=h6.dY;obtain⟨p,n,c,rfl⟩:=QU h5 hr.2;cases h1 with
  |str hs=>
   have hs' :=QZ hs;subst hs';cases h3;exact⟨(a,b,p,n,c),⟨rfl,by simp[mN,hr.2],h0⟩,rfl⟩
 ·cases hr
theorem Mu{w0:World}{ρ:Ren}{k:Nat}:∀ (n:Nat) {l:List V} {ys:List Value},(chunk k n l).all (mN k)=true→n*k≤l.length→aR w0 ρ (l.take (n*k)) ys→∃ ds:List Rw,s9 (Wc w0 ρ k) (chunk k n l) ds∧(ds.map (wu k)).flatten=ys
 |0,l,ys,_,_,h=>by
  rw[Nat.zero_mul,List.take_zero]at h;obtain rfl:=h.dY;exact⟨[],.nil,rfl⟩
 |n+1,l,ys,ha,hl,h=>by
  rw[Nat.succ_mul]at hl;simp only[chunk,List.all_cons,bC]at ha;have e:l.take ((n+1)*k)=l.take k++(l.drop k).take (n*k):=by
   rw[Nat.succ_mul,Nat.add_comm,List.take_add]
  rw[e]at h;have hlen:=h.1;have hk1:(l.take k).length=k:=by simp;omega
  have hy:ys=ys.take k++ys.drop k:=(List.take_append_drop k ys).symm;have h1:aR w0 ρ (l.take k) (ys.take k):=by
   refine⟨by simp at hlen⊢;omega,fun i h1 h2=> ?_⟩;have:=h.2 i (by simp at h1⊢;omega) (by simp at h2⊢;omega);rw[List.getElem_append_left h1]at this;simpa using this
  have h2:aR w0 ρ ((l.drop k).take (n*k)) (ys.drop k):=by
   refine⟨by simp at hlen⊢;omega,fun i h1 h2=> ?_⟩;have:=h.2 (k+i) (by simp at h1⊢;omega) (by simp at h2⊢;omega);rw[List.getElem_append_right (by omega)]at this;rw[List.getElem_drop];simpa[hk1,CX]using this
  obtain⟨x,r1,r2⟩:=qbw ha.1 h1;obtain⟨ds,r3,r4⟩:=Mu n ha.2 (by simp;omega) h2;exact⟨x::ds,.cons r1 r3,by rw[List.map_cons,List.flatten_cons,r2,r4,←hy]⟩
theorem NM{w0:World}{ρ:Ren}{k:Nat}{l:List (List V)}{m:List Rw}(h:s9 (Wc w0 ρ k) l m):aR w0 ρ l.flatten (m.map (wu k)).flatten:=by
 induction h with
 |nil=>exact .nil
 |cons h t ih=>rw[List.flatten_cons,List.map_cons,List.flatten_cons];exact h.2.2.append ih
theorem G6{α:Type}[Inhabited α]{enc:α→List Value}{k:Nat}(hk:∀ x,(enc x).length=k):∀ (l:List α) (t:Nat),(l.map enc).flatten[t]? =if t<l.length*k then some ((enc (l[t / k]?.getD default))[t % k]!)else none
 |[],t=>by simp
 |a::l,t=>by
  rw[List.map_cons,List.flatten_cons];have hl:(a::l).length*k=l.length*k+k:=by rw[List.length_cons,Nat.succ_mul]
  rw[hl];by_cases h:t<k
  ·rw[cz (by rw[hk];exact h),if_pos (by omega),Nat.div_eq_of_lt h,Nat.mod_eq_of_lt h,bP (by rw[hk];exact h)];simp only[List.getElem?_cons_zero,Option.getD_some];rw[getElem!_pos _ _ (by rw[hk];exact h)]
  ·rw[fh (by rw[hk];omega),hk,G6 hk l (t - k)];by_cases hk0:k=0
   ·subst hk0;simp
   ·by_cases h2:t - k<l.length*k
    ·rw[if_pos h2,if_pos (by omega)];have e1:t / k=(t - k) / k+1:=by
      rw[←Nat.add_div_right _ (Nat.pos_of_ne_zero hk0),Nat.sub_add_cancel (by omega)]
     have e2:t % k=(t - k) % k:=by rw[←Nat.mod_eq_sub_mod (by omega)]
     rw[e1,e2,List.getElem?_cons_succ]
    ·rw[if_neg h2,if_neg (by omega)]
theorem Az{α:Type}[Inhabited α]{enc:α→List Value}{k:Nat}(hk:∀ x,(enc x).length=k)(d:Array α):(Go.Sort.flatK enc k d).toList=(d.toList.map enc).flatten:=by
 apply List.ext_getElem?;intro t;rw[G6 hk,Array.getElem?_toList];by_cases h:t<d.size*k
 ·have h' :t<(Go.Sort.flatK enc k d).size:=by rw[size_flatK];exact h
  rw[if_pos (by simpa using h),sV h',←getElem!_pos _ t h',get_flatK enc k d t h];congr 3;rw[Array.getElem!_eq_getD];simp[rI]
 ·rw[if_neg (by simpa using h),CW (by rw[size_flatK];omega)]
end Go.RE
namespace Go.RE
open Go Go.Proofs Go.Sort Go.Lib Go.RowKit
theorem QF{w0:World}{ρ:Ren}{s:St}{w:World}(h:Rel w0 ρ s w)(os:Array Obj):Rel w0 ρ s (Go.Sort.grow w os)∧jO ρ s w ρ s (Go.Sort.grow w os):=by
 have hget:∀ r,r<w.heap.size→(Go.Sort.grow w os).heap[r]? =w.heap[r]? :=fun r hr=>by
  show(w.heap++os)[r]? =_;rw[Array.getElem?_append_left hr]
 have hsz:w.heap.size≤(Go.Sort.grow w os).heap.size:=by simp[Go.Sort.grow]
 refine⟨⟨fun r hr=> ?_,Nat.le_trans h.size hsz,h.os,h.output,fun n r o lim e=> ?_,h.fresh,fun n r o lim e=> ?_,h.inj⟩,⟨aq _,Ren.le_refl _,(fun n x a b=>by rw[a]at b;cases b),hsz,fun _ _ _=>rfl,fun r hr hx=>⟨hget r hr,hx⟩⟩⟩
 ·rw[hget r (mb hr h.size)];exact h.old r hr
 ·have:=h.dom n r o lim e;exact⟨this.1,this.2.1,mb this.2.2 hsz⟩
 ·rw[hget r (h.dom n r o lim e).2.2];exact h.ob n r o lim e
theorem Im{d d' :Array Rw}(hp:PermIn 0 d.size d d')(hs:SortedIn (ltOf fun x y:Rw=>n9 x.1 y.1) 0 d.size d')(hn:(d.toList.map (·.1)).Nodup):d'.toList=dQ (·.1) d.toList:=by
 obtain⟨h1,_,h3⟩:=hp;have e1:d'.extract 0 d.size=d' :=by rw[←h1];simp
 have e2:d.extract 0 d.size=d:=by simp
 rw[e1,e2]at h3;refine Il (fun x:Rw=>x.1) h3.symm ?_ hn;rw[List.pairwise_iff_getElem];intro i j hi hj hij;have:=hs i j (dW _) hij (by rw[←h1];simpa using hj);rw[Mi,getElem!_pos d' i (by simpa using hi),getElem!_pos d' j (by simpa using hj)]at this;simpa using this
theorem uH{P:Program}{f c k:Nat}(hk:k=2∨k=3)(hfn:∃ fn b,P.funcs[f]? =some fn∧fn.body=some b∧(fn.name== "runtime.NumGoroutine")=false)(hS:I5 P f c k)(hN:I6 P f c)(w0:World):DY P w0 f 2 (nc k c):=by
 refine⟨hfn,?_⟩;intro args s v s' ρ w args' hl hp hR hA;have stay:∀ (p:Option Addr) (cap:Nat),Calls P f #[.slice p 0 cap,.func (.func c) #[] #[]] w fun e w' =>∃ ρ' x,e=.returned x∧Rel w0 ρ' s w'∧jO ρ s w ρ' s w'∧az w0 ρ' (.aV []) x:=fun p cap=>by
  refine(hN p cap w).mono ?_;rintro e w' ⟨rfl,rfl⟩;exact⟨ρ,_,rfl,hR,jO.refl _ _ _,.aV rfl (fun i h=>by simp at h)⟩
 have hfun:∀ {g:Nat} {y:Value},az w0 ρ (.func g [] []) y→y=.func (.func g) #[] #[]:=fun {g y} h=>by
  cases h with
  |func ha hb va vb=>
   rename_i a' b';have h1:a' = #[]:=Array.eq_empty_of_size_eq_zero ha.symm;have h2:b' = #[]:=Array.eq_empty_of_size_eq_zero hb.symm;rw[h1,h2]
 unfold nc at hp;split at hp
 ·obtain⟨hg,hp⟩:=aK hp;simp only[ai,aJ]at hp;obtain⟨rfl,rfl⟩:=hp;have:=bR hg;subst this;obtain⟨x,xs,rfl,hx,hxs⟩:=hA.bx;obtain⟨x2,xs2,rfl,hx2,hxs2⟩:=hxs.bx;obtain rfl:=hxs2.dY;obtain rfl:=hfun hx2;cases hx;exact stay _ _
 ·obtain⟨hg,hp⟩:=aK hp;simp only[ai,aJ]at hp;obtain⟨rfl,rfl⟩:=hp;have:=bR hg;subst this;obtain⟨x,xs,rfl,hx,hxs⟩:=hA.bx;obtain⟨x2,xs2,rfl,hx2,hxs2⟩:=hxs.bx;obtain rfl:=hxs2.dY;obtain rfl:=hfun hx2;cases hx;exact stay _ _
 ·obtain⟨hg,hp⟩:=aK hp;simp only[ai,aJ]at hp;obtain⟨rfl,rfl⟩:=hp;have:=bR hg;subst this;obtain⟨x,xs,rfl,hx,hxs⟩:=hA.bx;obtain⟨x2,xs2,rfl,hx2,hxs2⟩:=hxs.bx;obtain rfl:=hxs2.dY;obtain rfl:=hfun hx2;cases hx;exact stay _ _
 ·rename_i b off len cap sz ex g hz;obtain⟨hg,hp2⟩:=aK hp;clear hp;simp only[bC]at hg;have hg1:=bR hg.1;have hg2:=bR hg.2;subst hg1;subst hg2;split at hp2
  case h_2=>cases hp2
  rename_i cs hcs;obtain⟨hb,hp3⟩:=aK hp2;clear hp2;simp only[bC]at hb;obtain⟨⟨hb1,hb2⟩,hb3⟩:=hb;have hle:=gu hb1;have hlt:len<4611686018427387904:=by simp only[Nat.blt,gv]at hb2;omega
  split at hp3
  case isFalse=>cases hp3
  rename_i hnd;simp only[ai,aJ]at hp3;obtain⟨rfl,rfl⟩:=hp3;obtain⟨x,xs,rfl,hx,hxs⟩:=hA.bx;obtain⟨x2,xs2,rfl,hx2,hxs2⟩:=hxs.bx;obtain rfl:=hxs2.dY;obtain rfl:=hfun hx2;have hob:=rH hcs;cases hx with
  |slice hρ h1 h2 h3 h4 hcb=>
  rename_i r o lim a cap';obtain⟨c,t,fr,q1,q2,q3,q4,q5⟩:iK w0 ρ o lim (some (.row cs)) w.heap[r]? :=by
   have:=hR.ob b r o lim hρ;rw[hob]at this;exact this
  have hdom:=hR.dom b r o lim hρ;have hz:len≠0:=fun hh=>hz hh;have ha:a=⟨r,o+off,none⟩:=by
   rcases h4 with h4|h4
   ·omega
   ·exact h4.1
  subst ha
  -- what is written back
  have key:∀ (w2:World) (F:Array Value) (ws:List V),ws.length=len*sz→aR w0 ρ ws F.toList→w2.os=w.os→w2.output=w.output→w2.heap=w.heap.modify r (onCells (putCells id (o+off) F))→∀ os:Array Obj,Rel w0 ρ (s.put b (.row (jQ cs off ws))) (grow w2 os)∧jO ρ s w ρ (s.put b (.row (jQ cs off ws))) (grow w2 os):=by
   intro w2 F ws hd hF ho hp' hh os;have hFs:F.size=len*sz:=by have:=hF.1;simp at this;omega
   have hmod:w.heap.modify r (onCells (putCells id (o+off) F))=w.heap.setIfInBounds r (.cells (putCells id (o+off) F c) t fr):=by
    apply Array.ext_getElem?;intro k;rw[Array.getElem?_modify,GA];by_cases hk:r=k
    ·subst hk;rw[if_pos rfl,if_pos rfl,if_pos hdom.2.2,q1];rfl
    ·rw[if_neg hk,if_neg hk]
   have hobr:iK w0 ρ o lim (some (.row (jQ cs off ws))) (some (.cells (putCells id (o+off) F c) t fr)):=by
    have hlen:(jQ cs off ws).length=cs.length:=by simp[jQ];omega
    refine⟨_,_,_,rfl,by simpa[putCells]using q2,by rw[hlen];exact q3,q4,fun i hi=> ?_⟩;rw[hlen]at hi;obtain⟨v,e1,e2⟩:=q5 i hi;have e3:(putCells id (o+off) F c)[o+i]? =some (if o+off≤o+i∧o+i<o+off+F.size then id F[o+i - (o+off)]! else v):=by
     unfold putCells;rw[Array.getElem?_mapIdx,e1];rfl
    refine⟨_,e3,?_⟩;by_cases hin:off≤i∧i<off+len*sz
    ·rw[if_pos (by omega)];have e4:o+i - (o+off)=i - off:=by omega
     have e5:(jQ cs off ws)[i]'(by rw[hlen];exact hi)=ws[i - off]'(by omega):=by
      have h5:(jQ cs off ws)[i]? =some (ws[i - off]'(by omega)):=by
       unfold jQ;rw[kO,fh (by simp;omega)];have e6:(cs.take off).length=off:=by simp;omega
       rw[e6,cz (by omega),bP (by omega)]
      rw[bP (by rw[hlen];exact hi)]at h5;exact Option.some.inj h5
     rw[e5,e4];have e7:=hF.2 (i - off) (by omega) (by simp;omega);have e8:id F[i - off]! =F.toList[i - off]'(by simp;omega):=by
      show F[i - off]! =_;rw[getElem!_pos _ _ (by omega)];simp
     rw[e8];exact e7
    ·rw[if_neg (by omega)];have e5:(jQ cs off ws)[i]'(by rw[hlen];exact hi)=cs[i]:=by
      have h5:(jQ cs off ws)[i]? =cs[i]? :=by
       unfold jQ;by_cases hi2:i<off
       ·rw[kO,cz (by simp;omega),jN,if_pos hi2]
       ·rw[fh (by simp;omega),qd];congr 1;simp;omega
      rw[bP (by rw[hlen];exact hi),bP hi]at h5;exact Option.some.inj h5
     rw[e5];exact e2
   obtain⟨k1,k2⟩:=hR.put hρ (by rw[hob];trivial) hobr;have hheap:w2.heap=({w with heap:=w.heap.setIfInBounds r (.cells (putCells id (o+off) F c) t fr)}:World).heap:=by rw[hh,hmod]
   have k3:=k1.same (w' :=w2) hheap ho hp';have k4:=k2.trans (jO.same (w' :=w2) hheap);obtain⟨k5,k6⟩:=QF k3 os;exact⟨k5,k4.trans k6⟩
  -- what it holds
  have hcell:∃ ys,aR w0 ρ ((cs.drop off).take (len*sz)) ys∧∀ j,j<len*sz→c[o+off+j]? =ys[j]? :=by
   refine⟨(List.range (len*sz)).map fun j=>c[o+off+j]!,⟨by simp;omega,fun i h1 h2=> ?_⟩,fun j hj=> ?_⟩
   ·simp at h1;obtain⟨v,e1,e2⟩:=q5 (off+i) (by omega);have e3:c[o+off+i]! =v:=by rw[Array.getElem!_eq_getD,rI,Nat.add_assoc,e1];rfl
    simp[e3];exact e2
   ·obtain⟨v,e1,e2⟩:=q5 (off+j) (by omega);have e3:c[o+off+j]! =v:=by rw[Array.getElem!_eq_getD,rI,Nat.add_assoc,e1];rfl
    rw[List.getElem?_map,List.getElem?_range hj,Option.map_some,e3,Nat.add_assoc,e1]
  obtain⟨ys,hy1,hy2⟩:=hcell;obtain⟨ds,r1,r2⟩:=Mu len hb3 (by simp;omega) hy1;have hkl:=PB hk;have hdl:ds.length=len:=by
   rw[←r1.length];have:∀ (n:Nat) (l:List V),(chunk sz n l).length=n:=by
    intro n;induction n with
    |zero=>intro l;rfl
    |succ n ih=>intro l;simp[chunk,ih]
   exact this _ _
  have hH:HoldsK (wu sz) sz w r (o+off) ds.toArray:=by
   intro j hj;rw[size_flatK]at hj;have hj' :j<len*sz:=by simpa[hdl]using hj
   have hF:=Az hkl ds.toArray;have e1:(Go.Sort.flatK (wu sz) sz ds.toArray)[j]? =c[o+off+j]? :=by
    rw[hy2 j hj',←r2,←Array.getElem?_toList,hF]
   obtain⟨v,e2,e3⟩:=q5 (off+j) (by omega);have e4:c[o+off+j]? =some v:=by rw[Nat.add_assoc];exact e2
   refine⟨?_,?_⟩
   ·have e7:id (Go.Sort.flatK (wu sz) sz ds.toArray)[j]! =v:=by
     show(Go.Sort.flatK (wu sz) sz ds.toArray)[j]! =v;rw[Array.getElem!_eq_getD,rI,e1,e4];rfl
    rw[e7];simp only[World.cell?,q1,e4];rfl
   ·simp only[World.frozen?,q1];have:=q4 (o+off+j) (by omega);obtain⟨f1,f2⟩:=fr;simp only at this⊢;simpa using this
  have:=hS r (o+off) cap' ds.toArray w hH hdom.2.2 (by simp;omega);have hsz:ds.toArray.size=len:=by simp[hdl]
  rw[hsz]at this;refine this.mono ?_;rintro e w' ⟨rfl,d',n,os,hpm,hst,rfl⟩;have hkeys:∀ (a:List V) (b:Rw),Wc w0 ρ sz a b→Cr a=b.1:=fun a b h=>h.1;have hkk:=Dm (k1:=Cr) (k2:=fun x:Rw=>x.1) hkeys r1;have hd' :=Im (by rw[hsz];exact hpm) (by rw[hsz];exact hst) (by simpa using hkk▸hnd);have r3:=yq (k1:=Cr) (k2:=fun x:Rw=>x.1) hkeys r1;have r4:=NM r3;have hF:aR w0 ρ (DG sz len cs off) (Go.Sort.flatK (wu sz) sz d').toList:=by
   rw[Az hkl,hd'];exact r4
  have hwl:(DG sz len cs off).length=len*sz:=by
   rw[hF.1,Array.length_toList,size_flatK];have:d'.size=len:=by have:=hpm.1;omega
   rw[this]
  obtain⟨k1,k2⟩:=key (putRow id (Sort.ahead w n) r (o+off) (Go.Sort.flatK (wu sz) sz d')) _ _ hwl hF rfl rfl rfl os;exact⟨ρ,_,rfl,k1,k2,.aV rfl (fun i h=>by simp at h)⟩
 ·cases hp
end Go.RE
namespace Go.RE
def wF:List U→By
 | .str k::_=>k
 |_=>[]
theorem ni{k:Nat}{x:List U}(h:kj k x=true):pQ x=some (wF x)∧x.length=k:=by
 unfold kj at h;split at h
 ·exact⟨rfl,(bR h).symm⟩
 ·exact⟨rfl,(bR h).symm⟩
 ·cases h
theorem A8{k:Nat}:∀ {xs:List (List U)},xs.all (kj k)=true→kz xs=some (xs.map wF)
 |[],_=>rfl
 |x::xs,h=>by
  simp only[List.all_cons,bC]at h;simp only[kz,(ni h.1).1,A8 h.2,List.map_cons]
theorem L4{k:Nat}{a:List U}(ha:kj k a=true):∀ {l:List (List U)},l.all (kj k)=true→Hp a l=dD wF a l
 |[],_=>rfl
 |b::l,h=>by
  simp only[List.all_cons,bC]at h;simp only[Hp,dD,Mt,(ni ha).1,(ni h.1).1,L4 ha h.2]
theorem AG{α:Type}(key:α→By){a x:α}:∀ {l:List α},x∈dD key a l→x=a∨x∈l
 |[],h=>by simp[dD]at h;exact .inl h
 |b::l,h=>by
  unfold dD at h;cases hc:lt (key b) (key a)with
  |true=>
   rw[hc,cond_true]at h;rcases dS.1 h with h|h
   ·exact .inr (h▸eU)
   ·rcases AG key h with h|h
    ·exact .inl h
    ·exact .inr (gB _ h)
  |false=>
   rw[hc,cond_false]at h;rcases dS.1 h with h|h
   ·exact .inl h
   ·exact .inr h
theorem nT{α:Type}(key:α→By){x:α}:∀ {l:List α},x∈dQ key l→x∈l
 |[],h=>by cases h
 |b::l,h=>by
  rcases AG key (show x∈dD key b (dQ key l)from h)with h|h
  ·exact h▸eU
  ·exact gB _ (nT key h)
theorem qV{α:Type}(key:α→By):∀ (l:List α),(dQ key l).length=l.length:=by
 have ins:∀ (a:α) (l:List α),(dD key a l).length=l.length+1:=by
  intro a l
  induction l with
  |nil=>rfl
  |cons b l ih=>
   unfold dD;cases lt (key b) (key a)with
   |true=>rw[cond_true,List.length_cons,ih,List.length_cons]
   |false=>rfl
 intro l
 induction l with
 |nil=>rfl
 |cons a l ih=>show(dD key a (dQ key l)).length=_;rw[ins,ih];rfl
theorem Ik{k:Nat}:∀ {xs:List (List U)},xs.all (kj k)=true→Ij xs=dQ wF xs
 |[],_=>rfl
 |x::xs,h=>by
  simp only[List.all_cons,bC]at h;show Hp x (Ij xs)=dD wF x (dQ wF xs);rw[Ik h.2];exact L4 h.1 (jD.2 fun y hy=>jD.1 h.2 y (nT wF hy))
section
variable{σ:Sg}{Z:Zs}
def Wd(σ:Sg)(Z:Zs)(k:Nat)(x:List U)(r:List V):Prop:=wF x=Cr r∧mN k r=true∧kj k x=true∧LU σ Z 0 x r
theorem MF{n:Nat}{w:Nat}{xs:List (List U)}{v:V}(h:UR σ Z n (.sl w xs) v):L9 v=true:=by cases h<;>rfl
theorem Xd{k:Nat}{x:List U}{r:List V}(hx:kj k x=true)(h:LU σ Z 0 x r):Wd σ Z k x r:=by
 have h0:=h;have hx0:=hx;unfold kj at hx;split at hx
 ·obtain⟨v1,r1,rfl,h1,h2⟩:=h.bx;obtain⟨v2,r2,rfl,h3,h4⟩:=h2.bx;obtain rfl:=h4.dY;cases h1;exact⟨rfl,by simp only[mN,hx,MF h3,Bool.and_self],hx0,h0⟩
 ·obtain⟨v1,r1,rfl,h1,h2⟩:=h.bx;obtain⟨v2,r2,rfl,h3,h4⟩:=h2.bx;obtain⟨v3,r3,rfl,h5,h6⟩:=h4.bx;obtain rfl:=h6.dY;cases h1;cases h3;exact⟨rfl,by simp only[mN,hx,MF h5,Bool.and_self],hx0,h0⟩
 ·cases hx
theorem H7{k:Nat}:∀ {xs:List (List U)} {l:List V},xs.all (kj k)=true→xs.length*k≤l.length→LU σ Z 0 xs.flatten (l.take (xs.length*k))→s9 (Wd σ Z k) xs (chunk k xs.length l)
 |[],l,_,_,_=> .nil
 |x::xs,l,ha,hl,h=>by
  simp only[List.all_cons,bC]at ha;have hxl:=(ni ha.1).2;rw[List.length_cons,Nat.succ_mul]at hl h;rw[List.flatten_cons]at h;have h1:=h.take k;have h2:=h.drop k;rw[List.take_append_of_le_length (by omega),jU (by omega),List.take_take,Nat.min_eq_left (by omega)]at h1;rw[List.drop_append_of_le_length (by omega),Gz (by omega),List.nil_append,List.drop_take,Nat.add_sub_cancel]at h2;exact .cons (Xd ha.1 h1) (H7 ha.2 (by simp;omega) h2)
theorem We{k:Nat}{xs:List (List U)}{l:List (List V)}(h:s9 (Wd σ Z k) xs l):LU σ Z 0 xs.flatten l.flatten:=by
 induction h with
 |nil=>exact LU.nil
 |cons h t ih=>rw[List.flatten_cons,List.flatten_cons];exact h.2.2.2.append ih
theorem I8{k:Nat}{xs:List (List U)}{l:List (List V)}(h:s9 (Wd σ Z k) xs l):l.all (mN k)=true:=by
 induction h with
 |nil=>rfl
 |cons h t ih=>rw[List.all_cons,h.2.1,ih];rfl
theorem Kg(row ws:List V)(off:Nat)(h:off+ws.length≤row.length):((jQ row off ws).drop off).take ws.length=ws:=by
 unfold jQ;rw[kO,List.drop_append_of_le_length (by simp;omega)];have h2:(row.take off).drop off=[]:=Gz (by simp;omega);rw[h2,List.nil_append,List.take_append_of_le_length (aq _),jU (aq _)]
theorem DF{C:Nat→Option ck}{M:oW}{f k c:Nat}(hC:C f=some (qh 2 (nc k c))):vX (dA C M) f (oq k c):=by
 intro xs rest ys hq E σ Z ω s e st g w v vs p0 hk hp0 hor hlen hr;unfold oq at hq;split at hq
 case h_2=>cases hq
 rename_i gg;obtain⟨hb,hq2⟩:=aK hq;clear hq;simp only[bC]at hb;obtain⟨⟨hg1,hsm0⟩,hrows⟩:=hb;have hg:=bR hg1;subst hg;have hsm:xs.length<4611686018427387904:=by simp only[Nat.blt,gv]at hsm0;omega
 rw[A8 hrows]at hq2;simp only at hq2;split at hq2
 case isFalse=>cases hq2
 rename_i hnd;simp only[ai]at hq2;rw[Ik hrows]at hq2;subst hq2;obtain⟨v2,rfl⟩:∃ v2,vs=[v2]:=by
  match vs,hlen with
  |[v2],_=>exact⟨v2,rfl⟩
 have hv2:v2=.func gg [] []:=by
  have:=hr 0 _ _ rfl rfl;have h2:UR σ Z s.h.length (.func gg [] []) v2:=MA this rfl;cases h2 with
  |func ha hb va vb=>
   have h1:=jT ha.symm;have h2:=jT hb.symm;rw[h1,h2]
 subst hv2;have hbq:Nat.beq gg gg=true:=jC gg;have hor0:=hor;unfold OR at hor;split at hor
 ·rename_i hg;obtain⟨h0,hv⟩:=hor;subst h0;refine j7 hC rfl (st' :=st) (v:=.aV []) ?_ ⟨rfl,ω,hk.Q7 hp0 hg⟩;rcases hv with rfl|rfl<;>simp only[nc,hbq,cond_true]
 ·rename_i I hg;obtain⟨rfl,⟨rfl,hIx⟩,e1,e2,e3,e4⟩:=hor;have hIr:=hk.lE g I hg;cases xs with
  |nil=>
   refine j7 hC rfl (st' :=st) (v:=.aV []) (by simp only[nc,List.length_nil,hbq,cond_true]) ⟨rfl,?_⟩;have hup:=hk.Bl hp0 hg (ys:=[]) (row' :=I.row) (by rw[hIx]) (fun h=>h) (fun r hr=>by cases hr) (by simpa using LU.nil);refine⟨dN ω g (some {I with row:=I.row,xs:=[]}),?_⟩;have hx:I={I with row:=I.row,xs:=[]}:=by
    cases I;simp only at hIx⊢;subst hIx;rfl
   have hω:dN ω g (some {I with row:=I.row,xs:=[]})=ω:=by
    funext x;by_cases hxx:x=g
    ·subst hxx;rw[bl,hg,←hx]
    ·rw[cV _ _ hxx]
   rw[hω]at hup⊢;refine hup.mem (st' :=st) (aq _) hk.fresh fun b _=> ?_;rw[St.dX];split
   ·subst b;exact hIr
   ·rfl
  |cons x0 xr=>
   have hw1:I.w=k:=by
    have:=e3 x0 (by simp);rw[List.all_cons,bC]at hrows;rw[←this];exact(ni hrows.1).2
   generalize hxs:x0::xr=xs at*;have hpos:xs.length≠0:=by rw[←hxs];simp
   rw[hw1]at e2 e4;have hle:I.off+xs.length*k≤I.row.length:=by
    have:=lY k e1;omega
   have ha:=H7 hrows (by simp;omega) e4;have hs:=yq (k1:=wF) (k2:=Cr) (fun _ _ h=>h.1) ha;have hkk:=Dm (k1:=wF) (k2:=Cr) (fun _ _ h=>h.1) ha;have hlu:=We hs;have hnd' :((chunk k xs.length (I.row.drop I.off)).map Cr).Nodup:=hkk▸hnd;have hwl:(DG k xs.length I.row I.off).length=xs.length*k:=by
    have h1:=hlu.1;show(dQ Cr (chunk k xs.length (I.row.drop I.off))).flatten.length=_;rw[←h1,dB (w:=k) (fun x hx=>(ni (jD.1 hrows x (nT wF hx))).2),qV]
   have hp:nc k gg [.slice I.b I.off xs.length I.cap I.w I.ex,.func gg [] []] st=some (.aV [],st.put I.b (.row (jQ I.row I.off (DG k xs.length I.row I.off)))):=by
    rw[hw1];obtain⟨m,hm⟩:∃ m,xs.length=m+1:=⟨xs.length - 1,by omega⟩;have hb1:Nat.ble (I.off+xs.length*k) I.row.length=true:=oT hle;have hb2:Nat.blt xs.length 4611686018427387904=true:=by simp only[Nat.blt];exact oT hsm
    have hb3:=I8 ha;rw[hm]at hb1 hb2 hb3 hnd'⊢;simp only[nc,hbq,jC,Bool.and_self,cond_true,qF hIr,hb1,hb2,hb3,if_pos hnd']
   refine j7 hC rfl hp ⟨rfl,?_⟩;have hup:=hk.Bl hp0 hg (ys:=dQ wF xs) (row' :=jQ I.row I.off (DG k xs.length I.row I.off)) (by rw[hIx,qV]) (by simp[jQ]<;>omega)
    (fun x hx=>by rw[hw1];exact(ni (jD.1 hrows x (nT wF hx))).2) (by
     rw[hw1,qV,←hwl,Kg _ _ _ (by omega)];exact hlu)
   exact⟨_,hup⟩
end
end Go.RE
namespace Go.RE
open Go Go.Proofs Go.Sort Go.Lib Go.RowKit
def jB{α:Type}(cs:List α)(i:Nat)(x:α):List α:=cs.take i++x::cs.drop i
theorem AI{α:Type}(cs:List α)(i:Nat)(x:α)(h:i≤cs.length):(jB cs i x).length=cs.length+1:=by
 simp[jB];omega
def qdI(P:Program)(f:Nat):Prop:=∀ (base:Option Addr) (n c i vb voff vc:Nat) (cs:List Value) (x:Value) (w:World),i≤n→n≤c→c<n+1→(n+1)*16≤140737488355328→cs.length=n→(base=none→n=0)→
  (i<n→∃ b off,base=some ⟨b,off,none⟩)→(∀ a,base=some a→∀ j v,cs[j]? =some v→w.cell? (a.add j)=some v)→w.cell? ⟨vb,voff,none⟩=some x→x.oneCell' =true→(∀ v∈cs,v.oneCell' =true)→
  Calls P f #[.slice base n c,.int .i64 i,.slice (some ⟨vb,voff,none⟩) 1 vc] w fun e w' =>∃ (c' :Nat) (C:Array Value) (t:TypeId),e=.returned (.slice (some ⟨w.heap.size,0,none⟩) (n+1) c')∧n+1≤c'∧c'≤9223372036854775807∧C.size=c'∧
   (∀ j,j<n+1→C[j]? =(jB cs i x)[j]?)∧w'.heap=w.heap.push (.cells C t (0,0))∧w'.os=w.os∧w'.output=w.output
def qdJ(P:Program)(f:Nat):Prop:=∀ (b off n c i vb voff vc:Nat) (cs:List Value) (x:Value) (w:World) (C:Array Value) (t:TypeId) (fr:Nat×Nat) (vC:Array Value) (vt:TypeId) (vfr:Nat×Nat),i≤n→n+1≤c→c≤9223372036854775807→
  w.heap[b]? =some (.cells C t fr)→off+c≤C.size→(∀ j,j≤C.size→¬(fr.1≤j∧j<fr.2))→cs.length=n→(∀ j v,cs[j]? =some v→C[off+j]? =some v)→vb≠b→
  w.heap[vb]? =some (.cells vC vt vfr)→vC[voff]? =some x→(∀ j,j≤vC.size→¬(vfr.1≤j∧j<vfr.2))→x.oneCell' =true→(∀ v∈cs,v.oneCell' =true)→
  Calls P f #[.slice (some ⟨b,off,none⟩) n c,.int .i64 i,.slice (some ⟨vb,voff,none⟩) 1 vc] w fun e w' =>e=.returned (.slice (some ⟨b,off,none⟩) (n+1) c)∧∃ C' :Array Value,w'.heap=w.heap.setIfInBounds b (.cells C' t fr)∧C'.size=C.size∧
   w'.os=w.os∧w'.output=w.output∧∀ j,C'[j]? =if off≤j∧j<off+(n+1)then(jB cs i x)[j - off]? else C[j]?
theorem uv{w:World}{need old:Nat}{e:TypeId}(h:need<9223372036854775808):grownCap w need old e≤9223372036854775807:=by
 show need+w.tape w.drawn (.appendCap need old e) % (2 ^ 63 - need)≤_;have:=Nat.mod_lt (w.tape w.drawn (.appendCap need old e)) (show 2 ^ 63 - need>0 by omega);omega
set_option maxRecDepth 100000 in
theorem WK:qdI Tryz.prog 145:=by
 intro base n c i vb voff vc cs x w hi hnc hroom hbig hcl hnil hb hcs hx h1x h1c;have hvs:∀ j v,[x][j]? =some v→w.cell? ⟨vb,voff+j,none⟩=some v:=fun j v hj=>by
  cases j with
  |zero=>simpa[←hj]using hx
  |succ j=>simp at hj
 have h1v:∀ v∈[x],v.oneCell' =true:=fun v hv=>by simp at hv;subst hv;exact h1x
 by_cases hin:i=n
 ·subst hin;have h:=Any2.slices_Insert_string_end_grow Tryz.yO base i c vb voff 1 vc cs [x] w (by omega) hnc hroom hbig hcl rfl hnil hcs hvs h1v;change Calls Tryz.prog 145 _ _ _ at h;refine h.mono ?_;rintro e w' ⟨rfl,rfl⟩;refine⟨_,_,_,rfl,grownCap_ge w (i+1) c _,uv (by omega),?_,fun j hj=> ?_,rfl,rfl,rfl⟩
  ·have:=grownCap_ge w (i+1) c (Tryz.cI.t 9);simp[Builtin.zeroCells,Value.cells,hcl];omega
  ·have e1:jB cs i x=cs++[x]:=by unfold jB;rw[jU (by omega),Gz (by omega)]
   rw[e1,Array.getElem?_append_left (by simp;omega)];simp
 ·obtain⟨b,off,rfl⟩:=hb (by omega);have h:=Any2.slices_Insert_string_grow Tryz.yO b off n c i vb voff 1 vc cs [x] w (by omega) (by omega) hnc hroom hbig hcl rfl (fun j v hj=>by have:=hcs _ rfl j v hj;rwa[Addr.add_lit]at this) hvs h1c h1v;change Calls Tryz.prog 145 _ _ _ at h;refine h.mono ?_;rintro e w' ⟨rfl,rfl⟩;have hge:=grownCap_ge w (n+1) c (Tryz.cI.t 9);have hle:=uv (w:=w) (need:=n+1) (old:=c) (e:=Tryz.cI.t 9) (by omega);generalize hG:grownCap w (n+1) c (Tryz.cI.t 9)=G at*;generalize hC0:(cs.take i).toArray++Builtin.zeroCells (Value.string ⟨#[]⟩).cells (n+1 - i)++Builtin.zeroCells (Value.string ⟨#[]⟩).cells (G - (n+1))=C0 at*;have hs0:C0.size=G:=by rw[←hC0];simp[Builtin.zeroCells,Value.cells];omega
  have g0:(w.alloc (.cells C0 (Tryz.cI.t 9))).drew.heap[w.heap.size]? =some (.cells C0 (Tryz.cI.t 9) (0,0)):=by
   show(w.heap.push _)[w.heap.size]? =_;simp
  obtain⟨C1,a1,a2,a3⟩:=fe w.heap.size (Tryz.cI.t 9) (0,0) [x] i (w.alloc (.cells C0 (Tryz.cI.t 9))).drew C0 g0;have g1:((w.alloc (.cells C0 (Tryz.cI.t 9))).drew.setCells w.heap.size i [x]).drew.heap[w.heap.size]? =some (.cells C1 (Tryz.cI.t 9) (0,0)):=by
   rw[a1];show((w.heap.push _).setIfInBounds _ _)[w.heap.size]? =_;simp
  obtain⟨C2,b1,b2,b3⟩:=fe w.heap.size (Tryz.cI.t 9) (0,0) (cs.drop i) (i+1) _ C1 g1;refine⟨_,C2,Tryz.cI.t 9,rfl,hge,hle,by omega,fun j hj=> ?_,?_,?_,?_⟩
  ·rw[b3,a3];have hlen:(jB cs i x).length=n+1:=by rw[AI _ _ _ (by omega)];omega
   unfold jB;by_cases c1:i+1≤j
   ·rw[if_pos (by simp;omega),fh (by simp;omega)];have e1:(cs.take i).length=i:=by simp;omega
    rw[e1,show j - i=(j - (i+1))+1 by omega,List.getElem?_cons_succ]
   ·rw[if_neg (by omega)];by_cases c2:i=j
    ·subst c2;have e1:(cs.take i).length=i:=by simp;omega
     have hCs:C0.size=G:=hs0;rw[if_pos ⟨aq _,by simp,by have:(w.alloc (.cells C0 (Tryz.cI.t 9))).drew=(w.alloc (.cells C0 (Tryz.cI.t 9))).drew:=rfl;omega⟩,fh (by omega),e1,Nat.sub_self];rfl
    ·rw[if_neg (by simp;omega),cz (by simp;omega),←hC0,Array.append_assoc,Array.getElem?_append_left (by simp;omega)];simp
  ·rw[b1,a1];show((w.heap.push _).setIfInBounds _ _).setIfInBounds _ _=_;apply Array.ext_getElem?;intro k;simp only[GA,Array.getElem?_push,Array.size_push,Array.size_setIfInBounds];by_cases hk:w.heap.size=k
   ·subst hk;simp
   ·simp[hk,Ne.symm hk]
  ·rw[b1,a1];rfl
  ·rw[b1,a1];rfl
set_option maxRecDepth 100000 in
theorem WN:qdJ Tryz.prog 145:=by
 intro b off n c i vb voff vc cs x w C t fr vC vt vfr hi hnc hc63 hC hoc hfr hcl hcs hvb hV hvx hvfr h1x h1c;have hcellb:∀ j,w.cell? ⟨b,j,none⟩=C[j]? :=fun j=>by simp[World.cell?,hC]
 have hcellv:∀ j,w.cell? ⟨vb,j,none⟩=vC[j]? :=fun j=>by simp[World.cell?,hV]
 have hvlt:voff<vC.size:=by
  rcases Nat.lt_or_ge voff vC.size with h|h
  ·exact h
  ·rw[CW h]at hvx;cases hvx
 have hfz:∀ j,j≤C.size→w.frozen? ⟨b,j,none⟩=false:=fun j hj=>by
  have:=hfr j hj;obtain⟨f1,f2⟩:=fr;simp only[World.frozen?,hC]at this⊢;simpa using this
 have hvz:∀ j,j≤vC.size→w.frozen? ⟨vb,j,none⟩=false:=fun j hj=>by
  have:=hvfr j hj;obtain⟨f1,f2⟩:=vfr;simp only[World.frozen?,hV]at this⊢;simpa using this
 have hvs:∀ j v,[x][j]? =some v→w.cell? ⟨vb,voff+j,none⟩=some v:=fun j v hj=>by
  cases j with
  |zero=>rw[hcellv];simpa[←hj]using hvx
  |succ j=>simp at hj
 have h1v:∀ v∈[x],v.oneCell' =true:=fun v hv=>by simp at hv;subst hv;exact h1x
 have hcs' :∀ j v,cs[j]? =some v→w.cell? ⟨b,off+j,none⟩=some v:=fun j v hj=>by rw[hcellb];exact hcs j v hj
 by_cases hin:i=n
 ·subst hin;have h:=Any2.slices_Insert_string_end_room Tryz.yO b off i c vb voff 1 vc [x] w (by omega) hnc hc63 rfl (fun j hj=>by rw[hcellb,sV (by omega)];rfl) (fun j hj=>hfz _ (by omega)) hvs h1v;change Calls Tryz.prog 145 _ _ _ at h;refine h.mono ?_;rintro e w' ⟨rfl,rfl⟩;obtain⟨C1,a1,a2,a3⟩:=fe b t fr [x] (off+i) w C hC;refine⟨rfl,C1,by rw[a1],a2,by rw[a1],by rw[a1],fun j=> ?_⟩;have e1:jB cs i x=cs++[x]:=by unfold jB;rw[jU (by omega),Gz (by omega)]
  rw[a3,e1];by_cases c1:off≤j∧j<off+(i+1)
  ·rw[if_pos c1];by_cases c2:off+i≤j
   ·rw[if_pos ⟨c2,by simp;omega,by omega⟩,fh (by omega),hcl];congr 1;omega
   ·rw[if_neg (by omega),cz (by omega)];have:=hcs (j - off) _ (bP (by omega));rw[show off+(j - off)=j by omega]at this;rw[this,bP (by omega)]
  ·rw[if_neg c1,if_neg (by simp;omega)]
 ·have h:=Any2.slices_Insert_string_shift Tryz.yO b off n c i vb voff 1 vc cs [x] w (by omega) (by omega) hnc hc63 hvb hcl rfl hcs' (fun j hj=>by rw[hcellb,sV (by omega)];rfl) (fun j hj=>hfz _ (by omega)) hvs h1c h1v
   vt t vC.size C.size (by simp[World.shape?,hV]) (by simp[World.shape?,hC]) (by omega) (hvz _ (by omega)) (hvz _ (aq _))
  change Calls Tryz.prog 145 _ _ _ at h;refine h.mono ?_;rintro e w' ⟨rfl,rfl⟩;have hC0:w.drew.heap[b]? =some (.cells C t fr):=hC;obtain⟨C1,a1,a2,a3⟩:=fe b t fr (cs.drop i) (off+(i+1)) w.drew C hC0;have hblt:b<w.heap.size:=by
   rcases Nat.lt_or_ge b w.heap.size with h|h
   ·exact h
   ·rw[CW h]at hC;cases hC
  have hC1:(w.drew.setCells b (off+(i+1)) (cs.drop i)).heap[b]? =some (.cells C1 t fr):=by
   rw[a1];show(w.heap.setIfInBounds b _)[b]? =_;rw[GA,if_pos rfl,if_pos hblt]
  obtain⟨C2,b1,b2,b3⟩:=fe b t fr [x] (off+i) _ C1 hC1;refine⟨rfl,C2,?_,by omega,by rw[b1,a1];rfl,by rw[b1,a1];rfl,fun j=> ?_⟩
  ·rw[b1,a1];show(w.heap.setIfInBounds _ _).setIfInBounds _ _=_;apply Array.ext_getElem?;intro k;simp only[GA,Array.size_setIfInBounds];by_cases hk:b=k
   ·subst hk;simp
   ·simp[hk]
  ·have e1:(cs.take i).length=i:=by simp;omega
   rw[b3,a3];unfold jB;by_cases c1:off≤j∧j<off+(n+1)
   ·rw[if_pos c1];by_cases c2:off+i=j
    ·subst c2;rw[if_pos ⟨by omega,by simp,by omega⟩,fh (by omega),e1,show off+i - (off+i)=0 by omega,show off+i - off - i=0 by omega];rfl
    ·rw[if_neg (by simp;omega)];by_cases c3:off+(i+1)≤j
     ·rw[if_pos ⟨c3,by simp;omega,by omega⟩,fh (by omega),e1,show j - off - i=(j - (off+(i+1)))+1 by omega,List.getElem?_cons_succ]
     ·rw[if_neg (by omega),cz (by omega),jN,if_pos (by omega)];have:=hcs (j - off) _ (bP (by omega));rw[show off+(j - off)=j by omega]at this;rw[this,bP (by omega)]
   ·rw[if_neg c1,if_neg (by simp;omega),if_neg (by simp;omega)]
end Go.RE
namespace Go.RE
open Go Go.Proofs Go.Sort Go.Lib Go.RowKit
def JH:V→Bool
 | .str _=>true
 |_=>false
def J3:List V→St→Option (V×St):=fun vs s=>match vs with
 |[a,.int .i64 n,.slice vb voff 1 vcap 1 vex]=>
  (match(s.vT vb).bind fun cs=>cs[voff]? with
  |some (.str k)=>(match a with
   | .bu=>if n=0 then some (.slice s.next 0 1 1 1 false,s.alloc (.row [.str k]))else none
   | .bM=>if n=0 then some (.slice s.next 0 1 1 1 false,s.alloc (.row [.str k]))else none
   | .slice b off len cap 1 ex=>if 0≤n∧n.toNat≤len∧len<1000000000∧b≠vb then
     (match s.vT b with
     |some cs=>if off+len≤cs.length∧((cs.drop off).take len).all JH=true then
       some (.slice s.next 0 (len+1) (len+1) 1 false,(s.put b .dead).alloc (.row (jB ((cs.drop off).take len) n.toNat (.str k))))else none
     |none=>none)else none
   |_=>none)
  |_=>none)
 |_=>none
theorem aR.qfQ{w0:World}{ρ:Ren}{a:List V}{b:List Value}(h:aR w0 ρ a b)(n:Nat):aR w0 ρ (a.take n) (b.take n):=by
 refine⟨by simp[h.1],fun i h1 h2=> ?_⟩;simp only[List.getElem_take];exact h.2 i (by simp at h1;omega) (by simp at h2;omega)
theorem aR.qef{w0:World}{ρ:Ren}{a:List V}{b:List Value}(h:aR w0 ρ a b)(n:Nat):aR w0 ρ (a.drop n) (b.drop n):=by
 refine⟨by simp[h.1],fun i h1 h2=> ?_⟩;simp only[List.getElem_drop];exact h.2 (n+i) (by simp at h1;omega) (by simp at h2;omega)
theorem Ho{w0:World}{ρ:Ren}{a:List V}{b:List Value}(h:aR w0 ρ a b)(n:Nat){v:V}{x:Value}(hv:az w0 ρ v x):aR w0 ρ (jB a n v) (jB b n x):=
 (h.qfQ n).append (.cons hv (h.qef n))
theorem J5{P:Program}{f:Nat}(hfn:∃ fn b,P.funcs[f]? =some fn∧fn.body=some b∧(fn.name== "runtime.NumGoroutine")=false)(hG:qdI P f)(hRm:qdJ P f)(w0:World):DY P w0 f 3 J3:=by
 refine⟨hfn,?_⟩;intro args s v s' ρ w args' hl hp hR hA;unfold J3 at hp;split at hp
 case h_2=>cases hp
 rename_i a n vb voff vcap vex;split at hp
 case h_2=>cases hp
 rename_i k hk;obtain⟨ya,xs,rfl,ha,hxs⟩:=hA.bx;obtain⟨yn,xs2,rfl,hn,hxs2⟩:=hxs.bx;obtain⟨yx,xs3,rfl,hx,hxs3⟩:=hxs2.bx;obtain rfl:=hxs3.dY;cases hn
 -- what is put in
 obtain⟨vcs,hvw,hvk⟩:∃ vcs,s.vT vb=some vcs∧vcs[voff]? =some (.str k):=by
  cases hw:s.vT vb with
  |none=>rw[hw]at hk;cases hk
  |some vcs=>rw[hw]at hk;exact⟨vcs,rfl,hk⟩
 have hvg:=rH hvw;cases hx with
 |slice hvρ hv1 hv2 hv3 hv4 hvcb=>
 rename_i r2 o2 lim2 a2 vcap';have ha2:a2=⟨r2,o2+voff,none⟩:=by
  rcases hv4 with h|h
  ·omega
  ·exact h.1
 subst ha2;obtain⟨vC,vt,vfr,p1,p2,p3,p4,p5⟩:iK w0 ρ o2 lim2 (some (.row vcs)) w.heap[r2]? :=by
  have:=hR.ob vb r2 o2 lim2 hvρ;rw[hvg]at this;exact this
 have hvlt:voff<vcs.length:=by
  rcases Nat.lt_or_ge voff vcs.length with h|h
  ·exact h
  ·rw[List.getElem?_eq_none h]at hvk;cases hvk
 obtain⟨x,hx1,hx2⟩:=p5 voff hvlt;have hkk:vcs[voff]=.str k:=by
  rw[bP hvlt]at hvk;exact Option.some.inj hvk
 rw[hkk]at hx2;have hxone:x.oneCell' =true:=by cases hx2;rfl
 have hxcell:w.cell? ⟨r2,o2+voff,none⟩=some x:=by simp[World.cell?,p1,hx1]
 -- a new row
 have fin:∀ (s0:St) (base:Option Addr) (m cap i:Nat) (old:List V) (olds:List Value),Rel w0 ρ s0 w→jO ρ s w ρ s0 w→aR w0 ρ old olds→i≤m→m≤cap→cap<m+1→m<1000000000→olds.length=m→(base=none→m=0)→
   (i<m→∃ b off,base=some ⟨b,off,none⟩)→(∀ a,base=some a→∀ j v,olds[j]? =some v→w.cell? (a.add j)=some v)→(∀ v∈olds,v.oneCell' =true)→
   Calls P f #[.slice base m cap,.int .i64 i,.slice (some ⟨r2,o2+voff,none⟩) 1 vcap'] w fun e w' =>∃ ρ' y,e=.returned y∧Rel w0 ρ' (s0.alloc (.row (jB old i (.str k)))) w'∧jO ρ s w ρ' (s0.alloc (.row (jB old i (.str k)))) w'∧
    az w0 ρ' (.slice s0.next 0 (m+1) (m+1) 1 false) y:=by
  intro s0 base m cap i old olds hR0 hS0 hold him hmc hcm hbig holds hnil hb hcs h1c;refine(hG base m cap i r2 (o2+voff) vcap' olds x w him hmc hcm (by omega) holds hnil hb hcs hxcell hxone h1c).mono ?_;rintro e w' ⟨c',C,t,rfl,g1,g2,g3,g4,g5,g6,g7⟩;have hrel:=Ho hold i hx2;have hil:(jB olds i x).length=m+1:=by rw[AI _ _ _ (by omega),holds]
  have hobr:iK w0 ρ 0 c' (some (.row (jB old i (.str k)))) (some (.cells C t (0,0))):=by
   refine⟨C,t,(0,0),rfl,g3,by rw[hrel.1];omega,fun j _=>by omega,fun j hj=> ?_⟩;rw[hrel.1]at hj;refine⟨(jB olds i x)[j],?_,hrel.2 j (by rw[hrel.1];exact hj) hj⟩;rw[Nat.zero_add,g4 j (by omega),bP hj]
  obtain⟨k1,k2⟩:=hR0.alloc hobr;have hheap:w'.heap=(w.alloc (.cells C t (0,0))).heap:=g5;exact⟨_,_,rfl,k1.same (w' :=w') hheap g6 g7,(hS0.trans k2).trans (jO.same (w' :=w') hheap),.slice (Ren.add_same _ _ _) g1 (fun h=>by simp at h) (aq _) (.inr ⟨rfl,by omega⟩) g2⟩
 split at hp
 ·-- nil
  split at hp
  case isFalse=>cases hp
  rename_i hn0;subst hn0;simp only[ai,aJ]at hp;obtain⟨rfl,rfl⟩:=hp;cases ha;exact fin s none 0 0 0 [] [] hR (.refl _ _ _) .nil (aq _) (aq _) (by omega) (by decide) rfl (fun _=>rfl) (fun h=>by omega) (fun a h=>by cases h) (fun v hv=>by cases hv)
 ·split at hp
  case isFalse=>cases hp
  rename_i hn0;subst hn0;simp only[ai,aJ]at hp;obtain⟨rfl,rfl⟩:=hp;cases ha;exact fin s (some _) 0 0 0 [] [] hR (.refl _ _ _) .nil (aq _) (aq _) (by omega) (by decide) rfl (fun _=>rfl) (fun h=>by omega) (fun a h j v hj=>by simp at hj) (fun v hv=>by cases hv)
 ·rename_i b off len cap ex;split at hp
  case isFalse=>cases hp
  rename_i hcond;obtain⟨h0n,hnl,hsm,hbv⟩:=hcond;split at hp
  case h_2=>cases hp
  rename_i cs hcs;split at hp
  case isFalse=>cases hp
  rename_i hcond2;obtain⟨hoff,hstr⟩:=hcond2;simp only[ai,aJ]at hp;obtain⟨rfl,rfl⟩:=hp;obtain⟨i,rfl⟩:=Int.eq_ofNat_of_zero_le h0n;simp only[Int.toNat_natCast]at hnl⊢;have hbg:=rH hcs;cases ha with
  |slice hρ h1 h2 h3 h4 hcb=>
  rename_i r o lim aa cap';obtain⟨C,t,fr,q1,q2,q3,q4,q5⟩:iK w0 ρ o lim (some (.row cs)) w.heap[r]? :=by
   have:=hR.ob b r o lim hρ;rw[hbg]at this;exact this
  have hrow:∃ ys,aR w0 ρ ((cs.drop off).take len) ys∧∀ j,j<len→C[o+off+j]? =ys[j]? :=by
   refine⟨(List.range len).map fun j=>C[o+off+j]!,⟨by simp;omega,fun i h1 h2=> ?_⟩,fun j hj=> ?_⟩
   ·simp at h1;obtain⟨v,e1,e2⟩:=q5 (off+i) (by omega);have e3:C[o+off+i]! =v:=by rw[Array.getElem!_eq_getD,rI,Nat.add_assoc,e1];rfl
    simp[e3];exact e2
   ·obtain⟨v,e1,e2⟩:=q5 (off+j) (by omega);have e3:C[o+off+j]! =v:=by rw[Array.getElem!_eq_getD,rI,Nat.add_assoc,e1];rfl
    rw[List.getElem?_map,List.getElem?_range hj,Option.map_some,e3,Nat.add_assoc,e1]
  obtain⟨ys,hy1,hy2⟩:=hrow;have hyl:ys.length=len:=by rw[←hy1.1];simp;omega
  have hyone:∀ v∈ys,v.oneCell' =true:=by
   intro v hv;obtain⟨j,hj,rfl⟩:=List.mem_iff_getElem.1 hv;have hj' :j<((cs.drop off).take len).length:=by rw[hy1.1];exact hj
   have e1:=hy1.2 j hj' hj;have e2:=jD.1 hstr _ (List.getElem_mem hj');generalize ((cs.drop off).take len)[j]=u at e1 e2;generalize ys[j]=y at e1⊢;cases e1<;>first|rfl|cases e2
  have hcell:∀ j v,ys[j]? =some v→C[o+off+j]? =some v:=fun j v hj=>by
   rw[hy2 j (by have:=(bn.1 hj).1;omega)];exact hj
  by_cases hroom:cap' <len+1
  ·-- grown
   obtain⟨k1,k2⟩:=hR.kill hρ;refine fin (s.put b .dead) (some aa) len cap' i _ ys k1 k2 hy1 hnl (by omega) hroom hsm hyl (fun h=>by cases h) (fun hi=> ?_) (fun a ha j v hj=> ?_) hyone
   ·rcases h4 with h4|h4
    ·omega
    ·exact⟨r,o+off,by rw[h4.1]⟩
   ·cases ha;have hjl:j<len:=by have:=(bn.1 hj).1;omega
    rcases h4 with h4|h4
    ·omega
    ·rw[h4.1,Addr.add_lit];simp only[World.cell?,q1,hcell j v hj];rfl
  ·-- in place
   have h4' :aa=⟨r,o+off,none⟩∧o+off+cap'*1≤lim:=by
    rcases h4 with h4|h4
    ·omega
    ·exact h4
   obtain⟨rfl,h4b⟩:=h4';have hne:r2≠r:=fun hh=>by
    subst hh;exact hbv (hR.inj b vb r2 o lim o2 lim2 hρ hvρ (by rw[hbg];trivial) (by rw[hvg];trivial))
   refine(hRm r (o+off) len cap' i r2 (o2+voff) vcap' ys x w C t fr vC vt vfr hnl (by omega) hcb q1 (by omega) (by rw[q2];exact q4) hyl hcell hne p1 hx1 (by rw[p2];exact p4) hxone hyone).mono ?_;rintro e w' ⟨rfl,C',g1,g2,g3,g4,g5⟩;have hrel:=Ho hy1 i hx2;have hil:(jB ys i x).length=len+1:=by rw[AI _ _ _ (by omega),hyl]
   have hobr:iK w0 ρ (o+off) lim (some (.row (jB ((cs.drop off).take len) i (.str k)))) (some (.cells C' t fr)):=by
    refine⟨C',t,fr,rfl,by omega,by rw[hrel.1];omega,q4,fun j hj=> ?_⟩;rw[hrel.1]at hj;refine⟨(jB ys i x)[j],?_,hrel.2 j (by rw[hrel.1];exact hj) hj⟩;rw[g5,if_pos (by omega),show o+off+j - (o+off)=j by omega,bP hj]
   obtain⟨k1,k2⟩:=hR.grow hρ (by rw[hbg];trivial) hobr;have hheap:w'.heap=({w with heap:=w.heap.setIfInBounds r (.cells C' t fr)}:World).heap:=g1;exact⟨_,_,rfl,k1.same (w' :=w') hheap g3 g4,k2.trans (jO.same (w' :=w') hheap),.slice (Ren.add_same _ _ _) (by omega) (fun h=>by simp at h) (aq _) (.inr ⟨rfl,by omega⟩) hcb⟩
 ·cases hp
end Go.RE
namespace Go.RE
theorem Dn{σ:Sg}{Z:Zs}:∀ {xs:List (List U)} {l:List V},(kz xs).isSome=true→(∀ r∈xs,r.length=1)→LU σ Z 0 xs.flatten l→l.all JH=true∧l.length=xs.length
 |[],l,_,_,h=>by obtain rfl:=h.dY;exact⟨rfl,rfl⟩
 |x::xs,l,hk,hw,h=>by
  have h1:=hw x eU
  match x,h1 with
  |[u],_=>
   have hk' :=hk;unfold kz at hk';cases hu:pQ [u]with
   |none=>rw[hu]at hk';cases hk'
   |some k=>
    cases hks:kz xs with
    |none=>rw[hu,hks]at hk';cases hk'
    |some ks=>
     obtain⟨v,l',rfl,h2,h3⟩:=(show LU σ Z 0 (u::xs.flatten) l from h).bx;obtain⟨i1,i2⟩:=Dn (by rw[hks];rfl) (fun r hr=>hw r (gB _ hr)) h3;have hv:JH v=true:=by
      unfold pQ at hu;split at hu
      ·rename_i heq;cases heq;cases h2;rfl
      ·cases hu
     exact⟨by rw[List.all_cons,hv,i1];rfl,by simp[i2]⟩
theorem WL{σ:Sg}{Z:Zs}{xs:List (List U)}{l:List V}{k:By}(n:Nat)(hw:∀ r∈xs,r.length=1)(h:LU σ Z 0 xs.flatten l):LU σ Z 0 (xs.take n++[[U.str k]]++xs.drop n).flatten (jB l n (V.str k)):=by
 have e1:∀ (m:Nat) (ys:List (List U)),(∀ r∈ys,r.length=1)→(ys.take m).flatten=ys.flatten.take m∧(ys.drop m).flatten=ys.flatten.drop m:=by
  intro m
  induction m with
  |zero=>intro ys _;simp
  |succ m ih=>
   intro ys hy;cases ys with
   |nil=>simp
   |cons y ys=>
    have h1:=hy y eU
    match y,h1 with
    |[u],_=>
     obtain⟨i1,i2⟩:=ih ys (fun r hr=>hy r (gB _ hr));simp[i1,i2]
 obtain⟨a1,a2⟩:=e1 n xs hw;rw[List.flatten_append,List.flatten_append,a1,a2];unfold jB;rw[kO];exact(h.take n).append (LU.cons (.str k) (h.drop n))
theorem WM{C:Nat→Option ck}{M:oW}{f:Nat}(hC:C f=some (qh 3 J3)):qdH (dA C M) f Of:=by
 intro xs rest ys hq E σ Z ω s e st g w v vs d hk hga hrw hnt hor hlen hr;unfold Of at hq;split at hq
 case h_2=>cases hq
 rename_i n t k;obtain⟨hb,hq2⟩:=aK hq;clear hq;simp only[bC,decide_eq_true_eq]at hb;obtain⟨⟨⟨⟨hn0,hnl⟩,hsm⟩,hks⟩,hrows⟩:=hb;simp only[ai]at hq2;subst hq2;obtain⟨n,rfl⟩:=Int.eq_ofNat_of_zero_le hn0;simp only[Int.toNat_natCast]at hnl⊢hrw;have hnl:=gu hnl;have hsm:xs.length<1000000000:=by simp only[Nat.blt,gv]at hsm;omega
 have hw1:w=1:=by
  have:([U.str k]:List U)∈xs.take n++[[U.str k]]++xs.drop n:=by simp
  have:=jD.1 hrw _ this;simpa using(bR this).symm
 subst hw1;obtain⟨vn,vx,rfl⟩:∃ vn vx,vs=[vn,vx]:=by
  match vs,hlen with
  |[vn,vx],_=>exact⟨vn,vx,rfl⟩
 have hvn:vn=.int .i64 (n:Int):=by
  have h2:UR σ Z s.h.length (.int .i64 (n:Int)) vn:=MA (hr 0 _ _ rfl rfl) rfl;cases h2;rfl
 subst hvn
 -- what is put in
 have hox:OR σ Z ω (.t t) 1 [[.str k]] vx:=(hr 1 _ _ rfl rfl).1;obtain⟨J,hJ,rfl,jc,jx⟩:∃ J,ω (.t t)=some J∧vx=.slice J.b J.off 1 J.cap 1 J.ex∧1≤J.cap∧J.row[J.off]? =some (.str k):=by
  unfold OR at hox;split at hox
  ·cases hox.1
  ·rename_i J hJ;obtain⟨rfl,⟨_,_⟩,e1,e2,e3,e4⟩:=hox;refine⟨J,hJ,rfl,by simpa using e1,?_⟩;have e5:LU σ Z 0 [.str k] ((J.row.drop J.off).take 1):=by simpa using e4
   obtain⟨v,l,h1,h2,h3⟩:=e5.bx;cases h2;have h6:((J.row.drop J.off).take 1)[0]? =some (.str k):=by rw[h1];rfl
   rw[jN,if_pos (by omega),qd]at h6;simpa using h6
 have hJr:=hk.lE _ J hJ;have hgt:g≠.t t:=by
  intro hh;subst hh;simp[uA]at hnt
 have hbind:((st.vT J.b).bind fun cs=>cs[J.off]?)=some (.str k):=by rw[qF hJr];exact jx
 -- a new row of the call's own,where the slice's block is done with
 have fin:∀ (l:List V) (st0:St),LU σ Z 0 xs.flatten l→(∀ r∈xs,r.length=1)→Ok E σ Z (dN ω g none) (s.kill g) e st0→st0.next=st.next→
   ∃ ω',Ok E σ Z ω' ((s.kill g).kill (.t d)) e (st0.alloc (.row (jB l n (.str k))))∧OR σ Z ω' (.t d) 1 (xs.take n++[[U.str k]]++xs.drop n) (.slice st0.next 0 (xs.length+1) (xs.length+1) 1 false):=by
  intro l st0 hlu hw ho hnx;have hlu' :=WL (k:=k) n hw hlu;have hyl:(xs.take n++[[U.str k]]++xs.drop n).length=xs.length+1:=by simp;omega
  have hyw:∀ r∈xs.take n++[[U.str k]]++xs.drop n,r.length=1:=fun r hr=>by
   rcases gD.1 hr with hr|hr
   ·rcases gD.1 hr with hr|hr
    ·exact hw r (List.mem_of_mem_take hr)
    ·simp at hr;subst hr;rfl
   ·exact hw r (List.mem_of_mem_drop hr)
  have hfl:(jB l n (V.str k)).length=xs.length+1:=by
   rw[←hlu'.1,dB hyw,hyl,Nat.mul_one]
  obtain⟨ω',k1,k2⟩:=ho.Ev (d:=d) (w:=1) (cap:=xs.length+1) (ex:=false) (xs:=xs.take n++[[U.str k]]++xs.drop n) (row:=jB l n (.str k)) (by omega) (by omega) hyw (by
   have e5:(jB l n (V.str k)).take ((xs.length+1)*1)=jB l n (V.str k):=jU (by omega);rw[hyl,e5];exact hlu')
  rw[hyl]at k2;exact⟨ω',k1,k2⟩
 have hor0:=hor;unfold OR at hor;split at hor
 ·rename_i hg;obtain⟨h0,hv⟩:=hor;subst h0;have hn00:n=0:=by simpa using hnl
  subst hn00;have hko:Ok E σ Z (dN ω g none) (s.kill g) e st:=by
   have hω:dN ω g none=ω:=by
    funext x;by_cases hxx:x=g
    ·subst hxx;rw[bl,hg]
    ·rw[cV _ _ hxx]
   rw[hω];exact hk.kill g
  obtain⟨ω',k1,k2⟩:=fin [] st LU.nil (fun r hr=>by cases hr) hko rfl;refine j7 hC rfl (st' :=st.alloc (.row [.str k])) (v:=.slice st.next 0 1 1 1 false) ?_ ⟨ω',k1,k2⟩;rcases hv with rfl|rfl<;>simp only[J3,hbind]<;>rfl
 ·rename_i I hg;obtain⟨rfl,⟨hIw,hIx⟩,e1,e2,e3,e4⟩:=hor;have hIr:=hk.lE g I hg;have hle:I.off+xs.length≤I.row.length:=by omega
  have e4' :LU σ Z 0 xs.flatten ((I.row.drop I.off).take xs.length):=by simpa using e4
  obtain⟨hst,hsl⟩:=Dn hks e3 e4';have hgr:g≠.r:=fun hh=>by subst hh;rw[hk.wr]at hg;cases hg
  have hbne:I.b≠J.b:=fun hh=>hgt (hk.gJ g (.t t) I J hg hJ hh);obtain⟨n1,n2,n3,n4,n5⟩:=Dj hk hg;have hk2:=(hk.kill g).Be (eZ g s) hgr (o:=none) (fun J hJ=>by cases hJ) hga;have hfree:∀ g' J,dN ω g none g' =some J→J.b≠I.b:=fun g' J hJ=>by
   by_cases hq:g' =g
   ·subst hq;rw[bl]at hJ;cases hJ
   ·rw[cV _ _ hq]at hJ;exact n4 g' J hq hJ
  have hk3:=hk2.EE n1 (fun i hi=>n2 i (by rw[cW]at hi;exact hi)) n3 hfree n5 .dead;obtain⟨ω',k1,k2⟩:=fin _ (st.put I.b .dead) e4' e3 hk3 rfl;refine j7 hC rfl (st' :=(st.put I.b .dead).alloc (.row (jB ((I.row.drop I.off).take xs.length) n (.str k)))) (v:=.slice st.next 0 (xs.length+1) (xs.length+1) 1 false) ?_ ⟨ω',k1,k2⟩;have hc1:(0:Int)≤(n:Int)∧(n:Int).toNat≤xs.length∧xs.length<1000000000∧I.b≠J.b:=⟨by omega,by simpa using hnl,hsm,hbne⟩;simp only[J3,hbind,if_pos hc1,qF hIr,if_pos (show I.off+xs.length≤I.row.length∧_ from⟨hle,hst⟩),Int.toNat_natCast];exact if_pos ⟨by omega,hnl,hsm,hbne⟩
end Go.RE
namespace Go.RE
def qg:Ren:=fun _=>none
structure Kept(W W' :World):Prop where
 os:W'.os=W.os
 output:W'.output=W.output
 block:∀ k,k<W.heap.size→W'.heap[k]? =W.heap[k]?
theorem Kept.frame{W W' :World}(h:Kept W W')(may:MemPlace→Prop):W.keptBut W' may:=by
 refine⟨h.os,h.output,fun i hi=> ?_⟩;rw[h.block i hi];split<;>simp_all
theorem Kept.same{W W' :World}(h:Kept W W'){p:MemPlace}(hp:p.block<W.heap.size):W.sameAt W' p:=by
 cases p with
 |cell b o=>exact World.cell?_of_block (w:=W) (h.block b hp)
 |map b=>exact h.block b hp
theorem Kept.trod{H:Type}{enc:TypeId×Value→H}{P:Program}{t:TypeId}(hl:laidOutB P=true)(hr:P.readableRec t=true)(hrow:t<P.types.size){W W' :World}{v:Value}{d:DataW H}{ps:List MemPlace}
  (h:DataW.Trod enc P W 0 (fun _=>true) true t v d ps) (hb:Kept W W') (hlt:∀ x∈ps,x.block<W.heap.size):
  DataW.Trod enc P W' 0 (fun b=>decide (b<W.heap.size)) true t v d ps:=
 WideElems.Trod_stays hl hr hrow h (fun x hx=>hb.same (hlt x hx)) (fun x hx=>by simpa using hlt x hx)
def Ew:St:={h:=.e,next:=0}
theorem Oi{P:Program}{C:Nat→Option ck}{M:oW}{W:World}(hC:I3 P W C)(hM:qs P M)(hD:zV P){f n:Nat}{vs:List V}{args:Array Value}{q:V}
  (hl:aR W qg vs args.toList) (h:bW C M n f vs Ew fun v _=>v=q):
  Calls P f args W fun e W' =>(∃ x ρ',e=.returned x∧az W ρ' q x)∧Kept W W' :=by
 have hR:Rel W qg Ew W:={
  old:=fun _ _=>rfl
  size:=aq _
  os:=rfl
  output:=rfl
  dom:=fun _ _ _ _ e=>by cases e
  fresh:=fun n _=>by simp[Ew,St.get]
  ob:=fun _ _ _ _ e=>by cases e
  inj:=fun _ _ _ _ _ _ _ e=>by cases e}
 obtain⟨_,hc⟩:=Wa (w0:=W) hC hM hD n f vs Ew _ qg W args.toList h hR hl;rw[Array.toArray_toList]at hc;refine hc.mono fun e W' h' => ?_;obtain⟨v,s',ρ',x,he,hk,hr,_,hv⟩:=h';subst hk;exact⟨⟨x,ρ',he,hv⟩,hr.os,hr.output,hr.old⟩
section
variable{H:Type}(enc:TypeId×Value→H)(P:Program)(w:World)
variable{enc P w}
def AL(P:Program)(tot:Nat):Nat→List Field→Bool
 |off,[]=>off==tot
 |off,f::fs=>f.offset==off&&AL P tot (off+P.cellsOf f.type) fs
theorem GH{b o n:Nat}:(⟨b,o,none⟩:Addr).add n=⟨b,o+n,none⟩:=by
 unfold Addr.add;split
 ·rename_i h;subst h;rfl
 ·rfl
end
end Go.RE
namespace Go.RE
section
variable{H:Type}(enc:TypeId×Value→H)(P:Program)(w:World)(bk:DataW H→Nat)(B:Nat)
structure GF:Prop where
 str:∀ b:List UInt8,b.length≤bk (.lit (.string b))
 len:∀ es sp,es.length≤bk (.slice es sp)
 elt:∀ es sp d,d∈es→bk d≤bk (.slice es sp)
 part:∀ ps d,d∈ps→bk d≤bk (.agg ps)
def gw(us:List U)(vs:List V):Prop:=∀ σ Z,LU σ Z 0 us vs
def LL(t:TypeId)(S:List U→Prop):Prop:=
 ∀ fuel cs x,DataW.trod enc P w 0 (fun _=>true) true fuel t cs=some x→bk x.1≤B→∃ vs us,aR w qg vs cs∧S us∧gw us vs
variable{enc P w bk B}
theorem gw.nil:gw [] []:=fun σ Z=>LU.nil
theorem gw.one{u:U}{v:V}(h:∀ σ Z,UR σ Z 0 u v):gw [u] [v]:=fun σ Z=>LU.cons (h σ Z) LU.nil
theorem gw.append{a c:List U}{b d:List V}(h:gw a b)(h' :gw c d):gw (a++c) (b++d):=fun σ Z=>(h σ Z).append (h' σ Z)
theorem Qw{t:TypeId}(ht:P.underlying t=some .bool):LL enc P w bk B t fun us=>∃ b,us=[.bool b]:=by
 intro fuel cs x h hb;obtain⟨b,rfl,_⟩:=DataW.trod_bool ht h;exact⟨[.bool b],[.bool b],aR.cons (.bool b) .nil,⟨b,rfl⟩,gw.one fun σ Z=> .bool b⟩
theorem EA{t:TypeId}{k:IntKind}(ht:P.underlying t=some (.int k)):LL enc P w bk B t fun us=>∃ n,us=[.int k n]∧(Lit.int k n).wf=true:=by
 intro fuel cs x h hb;obtain⟨n,rfl,_,hw⟩:=DataW.trod_int ht h;exact⟨[.int k n],[.int k n],aR.cons (.int k n) .nil,⟨n,rfl,hw⟩,gw.one fun σ Z=> .int k n⟩
theorem A1{t:TypeId}(hk:GF bk)(ht:P.underlying t=some .string):LL enc P w bk B t fun us=>∃ l:List UInt8,us=[.str l]∧l.length≤B:=by
 intro fuel cs x h hb;obtain⟨s,rfl,hx,hs⟩:=DataW.trod_string ht h;subst hx;exact⟨[.str s.data.toList],[.str s.data.toList],aR.cons (.str rfl) .nil,⟨_,rfl,Nat.le_trans (hk.str _) hb⟩,gw.one fun σ Z=> .str _⟩
def FS:List (List U→Prop)→List U→Prop
 |[],us=>us=[]
 |S::Ss,us=>∃ a b,us=a++b∧S a∧FS Ss b
def qad(enc:TypeId×Value→H)(P:Program)(w:World)(bk:DataW H→Nat)(B:Nat):List Field→List (List U→Prop)→Prop
 |[],[]=>True
 |f::fs,S::Ss=>LL enc P w bk B f.type S∧qad enc P w bk B fs Ss
 |_,_=>False
theorem JX{cs:List Value}:∀ {fs:List Field} {Ss:List (List U→Prop)} {off:Nat},AL P cs.length off fs=true→qad enc P w bk B fs Ss→
  (∀ f∈fs,∃ fuel x,DataW.trod enc P w 0 (fun _=>true) true fuel f.type ((cs.drop f.offset).take (P.cellsOf f.type))=some x∧bk x.1≤B)→∃ vs us,aR w qg vs (cs.drop off)∧FS Ss us∧gw us vs:=by
 intro fs
 induction fs with
 |nil=>
  intro Ss off hl ho _;cases Ss with
  |cons=>exact ho.elim
  |nil=>
   simp only[AL,beq_iff_eq]at hl;subst hl;exact⟨[],[],by rw[List.drop_length];exact .nil,rfl,gw.nil⟩
 |cons f fs ih=>
  intro Ss off hl ho hr;cases Ss with
  |nil=>exact ho.elim
  |cons S Ss=>
   simp only[AL,bC,beq_iff_eq]at hl;obtain⟨rfl,hl⟩:=hl;obtain⟨fuel,x,hx,hxb⟩:=hr f eU;obtain⟨va,ua,ha,hq,hu⟩:=ho.1 fuel _ x hx hxb;obtain⟨vb,ub,hb,hqs,hus⟩:=ih hl ho.2 (fun g hg=>hr g (gB _ hg));refine⟨va++vb,ua++ub,?_,⟨ua,ub,rfl,hq,hqs⟩,hu.append hus⟩;have:=ha.append hb;rwa[←List.drop_drop,List.take_append_drop]at this
theorem A2{t:TypeId}{fs:Array Field}(hk:GF bk)(ht:P.underlying t=some (.struct fs)){Ss:List (List U→Prop)}(hl:AL P (P.cellsOf t) 0 fs.toList=true)(ho:qad enc P w bk B fs.toList Ss):
  LL enc P w bk B t (FS Ss):=by
 intro fuel cs x h hb;obtain⟨xs,n,rfl,hxe,hlen,hxs,hf⟩:=DataW.trod_struct ht h;subst hxe;rw[←hlen]at hl;obtain⟨vs,us,h1,h2,h3⟩:=JX (off:=0) hl ho fun f hm=>by
  obtain⟨i,hi,rfl⟩:=List.getElem_of_mem hm;have hi' :i<fs.size:=by simpa using hi
  have:=hf i fs[i] (by rw[sV hi']);rw[bP (by omega)]at this;refine⟨n,_,by simpa using this,Nat.le_trans (hk.part _ _ ?_) hb⟩;exact eS.2 ⟨_,List.getElem_mem _,rfl⟩
 exact⟨vs,us,by simpa using h1,h2,h3⟩
theorem Dx{t e:TypeId}{c:Nat}{S:List U→Prop}(hk:GF bk)(ht:P.underlying t=some (.slice e))(hc:P.cellsOf e=c)(hpos:0<c)(he:LL enc P w bk B e S):
  LL enc P w bk B t fun us=>∃ rows:List (List U),us=[.sl c rows]∧(∀ r∈rows,S r∧r.length=c)∧rows.length≤B∧rows.length≤maxLen:=by
 intro fuel cs x h hb;rcases DataW.trod_slice ht h with⟨rfl,_⟩|⟨a,len,cap,elems,rest,n,_,rfl,hxe,_,hlc,hcm,hlen,hel,hsp,_⟩
 ·exact⟨[.bu],[.sl c []],aR.cons .bu .nil,⟨[],rfl,(fun r hr=>by cases hr),dW _,dW _⟩,gw.one fun σ Z=> .slnil⟩
 subst hxe;have hlenB:len≤B:=by
  have h1:=hk.len (elems.map (·.1)) (rest.map (·.1));simp only[List.length_map]at h1;have h2:=Nat.le_trans h1 hb;omega
 obtain⟨hrl,hre⟩:=hsp rfl;have each:∀ i,i<len→∃ xs:List Value,xs.length=c∧(∀ j,j<c→w.cell? ((a.add (i*c)).add j)=xs[j]?)∧∃ (r:List V) (u:List U),aR w qg r xs∧S u∧gw u r:=by
  intro i hi;have h1:=hel i hi;rw[bP (by omega),Option.bind_eq_some_iff]at h1;obtain⟨xs,hxs,hy⟩:=h1;have hyb:bk (elems[i]'(by omega)).1≤B:=Nat.le_trans (hk.elt _ _ _ (eS.2 ⟨_,List.getElem_mem _,rfl⟩)) hb;obtain⟨r,u,hr,hq,hu⟩:=he _ _ _ hy hyb;rw[hc]at hxs;unfold World.cells? at hxs;rw[if_pos (dW _)]at hxs;refine⟨xs,by simpa using mapM_some_length hxs,fun j hj=> ?_,r,u,hr,hq,hu⟩;exact mapM_some_get hxs j j (by rw[List.getElem?_range hj])
 have hspot:cap=0∨a.spot=none:=by
  by_cases h0:cap=0
  ·exact .inl h0
  right;by_cases hl0:len=0
  ·have h1:=hre 0 (by omega);rw[bP (by omega),Option.bind_eq_some_iff]at h1;obtain⟨xs,hxs,_⟩:=h1;rw[hc]at hxs;unfold World.cells? at hxs;rw[if_pos (dW _)]at hxs;have hl:=mapM_some_length hxs;have:=mapM_some_get hxs 0 0 (by rw[List.getElem?_range hpos]);rw[bP (by simp at hl;omega)]at this;simpa[Addr.add,hl0]using World.cell?_spot this
  ·obtain⟨xs,h1,h2,_⟩:=each 0 (by omega);have:=h2 0 hpos;rw[bP (by omega)]at this;simpa[Addr.add]using World.cell?_spot this
 obtain⟨b,off,spot⟩:=a;have pick:∀ i:Nat,∃ p:List V×List Value×List U,i<len→p.1.length=c∧p.2.1.length=c∧(∀ j,j<c→w.cell? ⟨b,off+i*c+j,none⟩=p.2.1[j]?)∧aR w qg p.1 p.2.1∧S p.2.2∧gw p.2.2 p.1:=by
  intro i;by_cases hi:i<len
  ·obtain⟨xs,h1,h2,r,u,h3,h4,h5⟩:=each i hi;refine⟨(r,xs,u),fun _=>⟨h3.1.trans h1,h1,fun j hj=> ?_,h3,h4,h5⟩⟩;rcases hspot with h0|h0
   ·omega
   ·simp only at h0;subst h0;have h5:=h2 j hj;rw[GH,GH]at h5;exact h5
  ·exact⟨([],[],[]),fun h=>absurd h hi⟩
 let g:=fun i=>Classical.choose (pick i);have hg:∀ i,i<len→(g i).1.length=c∧(g i).2.1.length=c∧(∀ j,j<c→w.cell? ⟨b,off+i*c+j,none⟩=(g i).2.1[j]?)∧aR w qg (g i).1 (g i).2.1∧S (g i).2.2∧gw (g i).2.2 (g i).1:=fun i=>Classical.choose_spec (pick i);let rows:=(List.range len).map fun i=>(g i).1;let urows:=(List.range len).map fun i=>(g i).2.2;have hrlen:rows.length=len:=by simp[rows]
 have hulen:urows.length=len:=by simp[urows]
 have hrow:∀ r∈rows,r.length=c:=by
  intro r hr;obtain⟨i,hi,rfl⟩:=eS.1 hr;exact(hg i (List.mem_range.1 hi)).1
 have hul:∀ i,i<len→(g i).2.2.length=c:=fun i hi=>by
  have h1:=(hg i hi).2.2.2.2.2 (fun i=>i) (fun _=>none);rw[h1.1];exact(hg i hi).1
 have hurow:∀ r∈urows,r.length=c:=by
  intro r hr;obtain⟨i,hi,rfl⟩:=eS.1 hr;exact hul i (List.mem_range.1 hi)
 have hget:∀ i (h:i<rows.length),rows[i]=(g i).1:=by intro i h;simp[rows]
 obtain⟨f1,f2⟩:=Ej hrow;have flat:∀ i j,i<len→j<c→rows.flatten[i*c+j]? =(g i).1[j]? :=by
  intro i j hi hj;have h2:=f2 i (by omega);rw[hget i (by omega)]at h2;have h3:=congrArg (·[j]?) h2;simp only[jN,qd,if_pos hj]at h3;exact h3
 have flatU:gw urows.flatten rows.flatten:=by
  have key:∀ l:List Nat,(∀ i∈l,i<len)→gw ((l.map fun i=>(g i).2.2).flatten) ((l.map fun i=>(g i).1).flatten):=by
   intro l
   induction l with
   |nil=>intro _;exact gw.nil
   |cons i l ih=>
    intro hl;simp only[List.map_cons,List.flatten_cons];exact(hg i (hl i eU)).2.2.2.2.2.append (ih fun j hj=>hl j (gB _ hj))
  exact key _ fun i hi=>List.mem_range.1 hi
 have cell:∀ i (hi:i<rows.flatten.length),∃ y,w.cell? ⟨b,off+i,none⟩=some y∧az w qg rows.flatten[i] y:=by
  intro i hi;rw[f1,hrlen]at hi;have hd:i / c<len:=Nat.div_lt_of_lt_mul (by rw[Nat.mul_comm];exact hi);have hm:i % c<c:=Nat.mod_lt _ hpos;have he:i / c*c+i % c=i:=by rw[Nat.mul_comm];exact Nat.div_add_mod i c
  obtain⟨g1,g2,g3,g4,_⟩:=hg (i / c) hd;have h1:=g3 (i % c) hm;rw[Nat.add_assoc,he,bP (by omega)]at h1;have h2:=flat (i / c) (i % c) hd hm;rw[he,bP (by omega),bP (by omega)]at h2;refine⟨_,h1,?_⟩;rw[Option.some.inj h2];exact g4.2 _ _ _
 refine⟨[.ag rows.flatten 0 rows.length c],[.sl c urows],aR.cons ?_ .nil,⟨urows,rfl,fun r hr=>⟨?_,hurow r hr⟩,by omega,by omega⟩,gw.one fun σ Z=> ?_⟩
 ·rw[hrlen];refine az.ag (r:=b) (o:=off) (fun i=>(w.cell? ⟨b,off+i,none⟩).getD (.bool false)) (fun hne=> ?_) (fun i hi=> ?_) (fun i hi=> ?_) hlc ?_
  ·obtain⟨y,hy,_⟩:=cell 0 (by
    cases hf:rows.flatten with
    |nil=>exact absurd hf hne
    |cons=>simp)
   by_cases hb:b<w.heap.size
   ·exact hb
   ·unfold World.cell? at hy;have hn:w.heap[b]? =none:=CW (Nat.le_of_not_lt hb);simp only[hn]at hy;simp at hy
  ·obtain⟨y,hy,_⟩:=cell i hi;rw[hy];rfl
  ·obtain⟨y,hy,hv⟩:=cell i hi;rw[hy];exact hv
  ·rcases hspot with h0|h0
   ·exact .inl h0
   ·right;simp only at h0;subst h0;rfl
 ·obtain⟨i,hi,rfl⟩:=eS.1 hr;exact(hg i (List.mem_range.1 hi)).2.2.2.2.1
 ·have hfl:rows.flatten.length=rows.length*c:=f1;refine .CO (by rw[hrlen,hulen]) hurow (by rw[hulen,←hrlen,←hfl];omega) ?_;have:=(flatU σ Z).2;intro j u v h1 h2;refine this j u v h1 ?_;rw[List.drop_zero,hulen,←hrlen,←hfl,List.take_length]at h2;exact h2
end
end Go.RE
namespace Go.RE
open Go.Proofs
def erF(fn:aC):ck:=⟨fn.ntmps,fn.results,fn.body.er⟩
def zSp:List V:=[.str [],.str []]
def zRc:List V:=[.int .u64 0,.int .u64 0,.int .u64 0,.int .u64 0,.ag [] 0 0 2,.ag [] 0 0 2]
def zDo:List V:=[.int .i64 0,.int .u64 0,.int .u64 0,.int .i64 0,.int .i64 0,.ag [] 0 0 2,.ag [] 0 0 3]
def uI:Nat→Option ck:=fun f=>match f with
 |58=>some (erF (qx 1 1 [.int .u8 0]))
 |61=>some (erF (qx 7 88 zDo))
 |62=>some (erF (qx 2 32 zSp))
 |97=>some (erF (qx 6 80 zRc))
 |135=>some (erF (qx 1 16 [.str []]))
 |194=>some (erF (qx 1 1 [.int .u8 0]))
 |83=>some (qh 2 Qy)
 |81=>some (qh 2 (nc 2 82))
 |115=>some (qh 2 (nc 3 116))
 |145=>some (qh 3 J3)
 |f=>(br f).map erF
theorem Bk:∀ f p,pT f=some p→V9 (dA uI mT) f p:=by
 intro f p h;unfold pT at h;cases hc:uw f with
 |true=>
  rw[hc,cond_true,ai]at h;subst h;simp only[uw,Bool.or_eq_true,beq_iff_eq]at hc;rcases hc with((((rfl|rfl)|rfl)|rfl)|rfl)|rfl
  ·exact oy (w:=1) (bytes:=1) (zero:=[.int .u8 0]) rfl (by decide) (by decide) rfl
  ·exact oy (w:=7) (bytes:=88) (zero:=zDo) rfl (by decide) (by decide) rfl
  ·exact oy (w:=2) (bytes:=32) (zero:=zSp) rfl (by decide) (by decide) rfl
  ·exact oy (w:=6) (bytes:=80) (zero:=zRc) rfl (by decide) (by decide) rfl
  ·exact oy (w:=1) (bytes:=16) (zero:=[.str []]) rfl (by decide) (by decide) rfl
  ·exact oy (w:=1) (bytes:=1) (zero:=[.int .u8 0]) rfl (by decide) (by decide) rfl
 |false=>
  rw[hc,cond_false]at h;cases h83:f==83 with
  |true=>
   rw[h83,cond_true,ai]at h;subst h;have:f=83:=by simpa using h83
   subst this;exact qav rfl
  |false=>rw[h83]at h;cases h
theorem DJ:∀ f fn,br f=some fn→uI f=some ⟨fn.ntmps,fn.results,fn.body.er⟩:=by
 intro f fn h;unfold uI;split<;>first|(rw[h];rfl)|exact absurd h (by simp[br])
theorem Yg:lR uI mT br Q0 pT:=
 ⟨DJ,⟨fun f q h=>(by cases h),fun f q h=>(by cases h),fun f q h=>(by cases h)⟩,Bk⟩
theorem qhN:lR uI mT br qT pT:=by
 refine⟨DJ,⟨fun f q h=> ?_,fun f q h=> ?_,fun f q h=> ?_⟩,Bk⟩
 ·rw[qe5]at h;cases h1:f==81 with
  |true=>
   rw[h1,cond_true,ai]at h;subst h;have:f=81:=by simpa using h1
   subst this;exact DF rfl
  |false=>
   rw[h1,cond_false]at h;cases h2:f==115 with
   |true=>
    rw[h2,cond_true,ai]at h;subst h;have:f=115:=by simpa using h2
    subst this;exact DF rfl
   |false=>
    rw[h2,cond_false]at h;cases h3:f==191 with
    |true=>
     rw[h3,cond_true,ai]at h;subst h;have:f=191:=by simpa using h3
     subst this;exact qhx Yg
    |false=>rw[h3]at h;cases h
 ·rw[QC]at h;cases h1:f==145 with
  |true=>
   rw[h1,cond_true,ai]at h;subst h;have:f=145:=by simpa using h1
   subst this;exact WM rfl
  |false=>rw[h1]at h;cases h
 ·rw[qbq]at h;unfold GJ at h;cases h1:f==66 with
  |true=>
   rw[h1,cond_true,ai]at h;subst h;have:f=66:=by simpa using h1
   subst this;exact qd0 Yg
  |false=>rw[h1]at h;cases h
theorem qba:qs Go.Proofs.Tryz.prog mT:=by
 intro t name f h;cases h
theorem mixed:zV Go.Proofs.Tryz.prog:=by unfold zV;kernel_rfl
end Go.RE
namespace Go.RE
open Go.Proofs
theorem qay(W:World):I3 Go.Proofs.Tryz.prog W uI:=by
 intro f fn h;unfold uI at h;split at h
 ·simp only[ai]at h;subst h;left;kernel_rfl
 ·simp only[ai]at h;subst h;left;kernel_rfl
 ·simp only[ai]at h;subst h;left;kernel_rfl
 ·simp only[ai]at h;subst h;left;kernel_rfl
 ·simp only[ai]at h;subst h;left;kernel_rfl
 ·simp only[ai]at h;subst h;left;kernel_rfl
 ·simp only[ai]at h;subst h;exact .inr ⟨2,Qy,rfl,J4 ⟨_,_,Go.Proofs.Tryz.func83,rfl,rfl⟩ (fun a b w=>Any.strings_Compare Go.Proofs.Tryz.Et a b w) W⟩
 ·simp only[ai]at h;subst h;exact .inr ⟨2,nc 2 82,rfl,uH (.inl rfl) ⟨_,_,Go.Proofs.Tryz.func81,rfl,rfl⟩ qbE Ii W⟩
 ·simp only[ai]at h;subst h;exact .inr ⟨2,nc 3 116,rfl,uH (.inr rfl) ⟨_,_,Go.Proofs.Tryz.func115,rfl,rfl⟩ Xh EN W⟩
 ·simp only[ai]at h;subst h;exact .inr ⟨3,J3,rfl,J5 ⟨_,_,Go.Proofs.Tryz.func145,rfl,rfl⟩ WK WN W⟩
 ·left;unfold br at h;split at h<;>first|(simp only[Option.map_some,ai]at h;subst h;kernel_rfl)|(simp at h)
theorem ok_none:Ok ⟨([]:List Uo).length,fun i=>i,fO (fun i=>i) (fun _=>none) ([]:List Uo).length,fun _=>none,Ew,fun i=>([]:List Uo)[i]? =some .gone,none,jd ([]:List Uo)⟩ (fun i=>i) (fun _=>none) (fun _=>none) ⟨[],[],0⟩ .e Ew:=
 ⟨fun t u hu=>by simp[look]at hu,fun i o ho=>by simp at ho,(fun b r hb=>by cases hb),(fun g I hI=>by cases hI),fun n _=>by simp[Ew,St.get],fun i j hi=>by simp at hi,(fun g g' I I' hI=>by cases hI),fun i g I hi=>by simp at hi,fun i hi=>by simp at hi,(fun g I hI=>by cases hI),fun i hi=>by simp at hi,⟨rfl,rfl⟩,(fun i off I hI=>by cases hI),aq _,fun i hi=>rfl,fun b r hb=>hb,aq _,fun b hb _=>⟨rfl,fun i hi=>by simp at hi,(fun g I hI=>by cases hI),fun r hr=>hr⟩,⟨fun i hi=>by simp at hi,fun i off cs h1=>by simp at h1⟩⟩
theorem qa0{W:World}{f:Nat}{us:List U}{vs:List V}{args:Array Value}{h' :List Uo}{fl' :Nat}(hrun:gF br mT qT pT f us [] 0=some (.bool true,h',fl'))(hu:gw us vs)(hl:aR W qg vs args.toList):
  Calls Go.Proofs.Tryz.prog f args W fun e W' =>e=.returned (.bool true)∧Kept W W' :=by
 obtain⟨N,hN⟩:=XQ (C:=uI) qhN f us [] 0 _ h' fl' hrun (fun i=>i) (fun _=>none) (fun _=>none) Ew vs ok_none ⟨aq _,fun i o ho=>by simp at ho⟩ (fun _=>rfl) (hu _ _);have h2:bW uI mT N f vs Ew fun v _=>v=.bool true:=gZ (aq _) (fun v st' hh=>by
  obtain⟨_,σ',Z',ω',_,_,hr⟩:=hh;cases hr;rfl) hN
 refine(Oi (qay W) qba mixed hl h2).mono fun e W' h=> ?_;obtain⟨⟨x,ρ',rfl,hx⟩,hk⟩:=h;cases hx;exact⟨rfl,hk⟩
end Go.RE
