/- Calls that begin with nothing. -/
import Derived.Test.YtigkmaeaoaejiaaGreatDoorPart7
import Derived.Test.YtigkmaeaoaejiaaGreatDoorPart4
set_option linter.unusedVariables false
set_option linter.unusedSimpArgs false
set_option linter.constructorNameAsVariable false
namespace Go.RE
section
variable{E:vK}{σ:Sg}{Z:Zs}{ω:Om}{s s' :Vs}{e:PT V}{st:St}{n:Nat}
theorem pF(σ:Sg)(b:Nat):¬gq σ (fun _=>none) 0 b:=by
 rintro(⟨i,hi,_⟩|⟨g,I,hI,_⟩)
 ·omega
 ·cases hI
theorem OR.to{σ2:Sg}{Z2:Zs}{ω2:Om}{g g2:Tg}{w:Nat}{xs:List (List U)}{v:V}(h:OR σ Z ω g w xs v)(hZ:∀ b r,Z b=some r→Z2 b=some r)(hω:ω2 g2=ω g):OR σ2 Z2 ω2 g2 w xs v:=by
 unfold OR at h⊢;rw[hω];split at h
 ·exact h
 ·exact⟨h.1,h.2.1,h.2.2.1,h.2.2.2.1,h.2.2.2.2.1,h.2.2.2.2.2.mono (aM 0) (fun i hi=>by omega) hZ⟩
theorem OB.shift{σ2:Sg}{ω2:Om}{k m j:Nat}(hσ:∀ i,i<n→σ2 (i+k)=σ i)(hm:n+k≤m)(hω:∀ off,ω2 (.c (j+k) off)=ω (.c j off)){o:Uo}{ob:Option Ob}(h:OB σ Z ω n j o ob):OB σ2 Z ω2 m (j+k) (fW k o) ob:=by
 cases o with
 |row cs=>
  obtain⟨cs',h1,h2,h3⟩:=h;refine⟨cs',h1,by rw[nJ];exact h2,fun off u v hu hv=> ?_⟩;obtain⟨x,hx,rfl⟩:=nK hu;have:=h3 off x v hx hv;cases x with
  |bad=>trivial
  |dD w xs=>exact OR.to this (fun _ _ h=>h) (hω off)
  |ptr i o=>exact UR.shift hσ hm this
  |map i=>exact UR.shift hσ hm this
  |func f a b=>exact UR.shift hσ hm this
  |iface t v=>exact UR.shift hσ hm this
  |agg cs=>exact UR.shift hσ hm this
  |aP cs=>exact UR.shift hσ hm this
  |bool b=>exact UR.shift hσ hm this
  |int k x=>exact UR.shift hσ hm this
  |str x=>exact UR.shift hσ hm this
  |aT=>exact UR.shift hσ hm this
  |bu=>exact UR.shift hσ hm this
  |bK=>exact UR.shift hσ hm this
  |cZ=>exact UR.shift hσ hm this
  |aK=>exact UR.shift hσ hm this
  |dI r o=>exact UR.shift hσ hm this
  |sl w xs=>exact UR.shift hσ hm this
  |nl w=>exact UR.shift hσ hm this
  |own g w xs=>exact UR.shift hσ hm this
  |cA g i f=>exact UR.shift hσ hm this
  |xX i o l w=>exact UR.shift hσ hm this
 |map es c=>
  obtain⟨es',h1,h2,h3⟩:=h;refine⟨es',h1,by simp[h2],fun q x y hx hy=> ?_⟩;rw[List.getElem?_map]at hx;cases hq:es[q]? with
  |none=>rw[hq]at hx;simp at hx
  |some z=>
   rw[hq]at hx;simp at hx;subst hx;obtain⟨k1,k2,k3⟩:=h3 q z y hq hy;exact⟨UR.shift hσ hm k1,UR.shift hσ hm k2,k3⟩
 |iter q a b c=>
  obtain⟨h1,h2⟩:=h;refine⟨?_,fun i hi=> ?_⟩
  ·rw[h1];cases q with
   |none=>rfl
   |some i=>simp only[Option.map_some,hσ i (h2 i rfl)]
  ·cases q with
   |none=>cases hi
   |some i0=>simp at hi;subst hi;have:=h2 i0 rfl;omega
 |gone=>trivial
theorem Ok.N8(h:Ok E σ Z ω s e st){σ' :Sg}{Z' :Zs}{ω' :Om}{hc:List Uo}{fc fl2:Nat}{st' :St}{r:U}{v:V}{d:Nat}
  (hb:Ok ⟨0,σ,gq σ (fun _=>none) 0,Z,st,fun i=>([]:List Uo)[i]? =some .gone⟩ σ' Z' ω' ⟨[],hc,fc⟩ .e st') (ht:∀ d,d≠0→ω' (.t d)=none) (hr:RR σ' Z' ω' hc.length r v):
  ∃ σ2 ω2,Ok E σ2 Z' ω2 (dV d (r.shift s.h.length) {s with h:=s.h++hc.map (fW s.h.length),fl:=fl2}).2 e st'∧
   TR σ2 Z' ω2 (dV d (r.shift s.h.length) {s with h:=s.h++hc.map (fW s.h.length),fl:=fl2}).2.h.length (dV d (r.shift s.h.length) {s with h:=s.h++hc.map (fW s.h.length),fl:=fl2}).1 v∧
   (dV d (r.shift s.h.length) {s with h:=s.h++hc.map (fW s.h.length),fl:=fl2}).2.h=s.h++hc.map (fW s.h.length)∧(∀ i,i<s.h.length→σ2 i=σ i)∧∀ b r,Z b=some r→Z' b=some r:=by
 have hZ:∀ b r,Z b=some r→Z' b=some r:=hb.zz;have hout:∀ b,b<st.next→st'.get b=st.get b∧(∀ i,i<hc.length→σ' i≠b)∧(∀ g I,ω' g=some I→I.b≠b)∧(∀ r,Z' b=some r→Z b=some r):=fun b hb1=>hb.out b hb1 (pF σ b)
 have hlt:∀ g I,ω g=some I→I.b<st.next:=fun g I hI=>h.lt_next (h.pW g I hI)
 generalize hk:s.h.length=k at*;let σ2:Sg:=fun i=>if i<k then σ i else σ' (i - k)
 let ω2:Om:=fun g=>match g with
  | .t x=>ω (.t x)
  | .c i o=>if i<k then ω (.c i o)else ω' (.c (i - k) o)
  | .r=>none
 have hs1:∀ i,i<k→σ2 i=σ i:=fun i hi=>if_pos hi;have hs2:∀ i,σ2 (i+k)=σ' i:=fun i=>by
  show(if i+k<k then σ (i+k)else σ' (i+k - k))=_;rw[if_neg (by omega),Nat.add_sub_cancel]
 have hc2:∀ g I,ω2 g=some I→(ω g=some I∧(∀ i o,g=.c i o→i<k))∨(∃ i o,g=.c (i+k) o∧ω' (.c i o)=some I):=fun g I hI=>by
  cases g with
  |t x=>exact .inl ⟨hI,fun i o hh=>by cases hh⟩
  |c i o=>
   have hI' :(if i<k then ω (.c i o)else ω' (.c (i - k) o))=some I:=hI;by_cases hi:i<k
   ·rw[if_pos hi]at hI';exact .inl ⟨hI',fun i' o' hh=>by cases hh;exact hi⟩
   ·rw[if_neg hi]at hI';exact .inr ⟨i - k,o,by congr 1;omega,hI'⟩
  |r=>cases hI
 have hlen:(s.h++hc.map (fW k)).length=k+hc.length:=by simp[hk]
 have hcase:∀ i,i<k+hc.length→i<k∨∃ j,i=j+k∧j<hc.length:=fun i hi=>by
  by_cases h1:i<k
  ·exact .inl h1
  ·exact .inr ⟨i - k,by omega,by omega⟩
 have hOk:Ok E σ2 Z' ω2 {s with h:=s.h++hc.map (fW k),fl:=fl2} e st' :=by
  refine⟨fun t u hu=> ?_,fun i o ho=> ?_,hb.tL,fun g I hI=> ?_,hb.fresh,fun i j hi hj hij=> ?_,fun g1 g2 I1 I2 h1 h2 hbb=> ?_,fun i g I hi hI=> ?_,fun i hi=> ?_,fun g I hI=> ?_,fun i hi=> ?_,rfl,fun i off I hI=> ?_,?_,fun i hi=> ?_,fun b r hbr=>hZ b r (h.zz b r hbr),Nat.le_trans h.nx hb.nx,fun b hb1 hb2=> ?_,fun i hi=> ?_⟩
  ·obtain⟨v,h1,h2⟩:=h.env t u hu;rw[hk]at h2;simp only[hlen];refine⟨v,h1,h2.mono (by omega) hs1 hZ fun g hg=> ?_⟩;cases g with
   |t x=>rfl
   |r=>exact h.wr.symm
   |c i o=>
    show(if i<k then ω (.c i o)else ω' (.c (i - k) o))=_;rw[if_pos];cases u with
    |own g' w xs=>simp[U.tag]at hg;subst hg;exact h2.2 i o rfl
    |cA g' i' f=>simp[U.tag]at hg;subst hg;exact h2.2 i o rfl
    |_=>simp[U.tag]at hg
  ·simp only[hlen];by_cases hi:i<k
   ·have hi' :i<s.h.length:=by omega
    simp only[gD hi']at ho;rw[hs1 i hi,(hout _ (h.sb i hi')).1];have:=h.obj i o ho;rw[hk]at this;exact this.mono (by omega) hs1 hZ fun off=>if_pos hi
   ·simp only at ho;rw[gf (by omega),List.getElem?_map,hk]at ho;cases hq:hc[i - k]? with
    |none=>rw[hq]at ho;simp at ho
    |some x=>
     rw[hq]at ho;simp at ho;subst ho;have:=hb.obj (i - k) x hq;have e1:i=(i - k)+k:=by omega
     rw[e1,hs2];refine OB.shift (n:=hc.length) (fun i hi=>hs2 i) (by omega) (fun off=> ?_) this;show(if i - k+k<k then _ else ω' (.c (i - k+k - k) off))=_;rw[if_neg (by omega),Nat.add_sub_cancel]
  ·rcases hc2 g I hI with⟨hx,_⟩|⟨i,o,rfl,hx⟩
   ·rw[(hout _ (hlt g I hx)).1];exact h.pW g I hx
   ·exact hb.pW _ I hx
  ·simp only[hlen]at hi hj;rcases hcase i hi with hi' |⟨p,rfl,hp⟩<;>rcases hcase j hj with hj' |⟨q,rfl,hq⟩
   ·rw[hs1 i hi',hs1 j hj']at hij;exact h.inj i j (by omega) (by omega) hij
   ·rw[hs1 i hi',hs2]at hij;exact absurd hij.symm ((hout _ (h.sb i (by omega))).2.1 q hq)
   ·rw[hs2,hs1 j hj']at hij;exact absurd hij ((hout _ (h.sb j (by omega))).2.1 p hp)
   ·rw[hs2,hs2]at hij;rw[hb.inj p q hp hq hij]
  ·rcases hc2 g1 I1 h1 with⟨hx,_⟩|⟨i,o,rfl,hx⟩<;>rcases hc2 g2 I2 h2 with⟨hy,_⟩|⟨j,p,rfl,hy⟩
   ·exact h.jA _ _ _ _ hx hy hbb
   ·exact absurd hbb.symm ((hout _ (hlt g1 I1 hx)).2.2.1 _ _ hy)
   ·exact absurd hbb ((hout _ (hlt g2 I2 hy)).2.2.1 _ _ hx)
   ·have:=hb.jA _ _ _ _ hx hy hbb;cases this;rfl
  ·simp only[hlen]at hi;rcases hcase i hi with hi' |⟨p,rfl,hp⟩<;>rcases hc2 g I hI with⟨hx,_⟩|⟨j,o,rfl,hx⟩
   ·rw[hs1 i hi'];exact h.sw i g I (by omega) hx
   ·rw[hs1 i hi'];exact fun hh=>(hout _ (h.sb i (by omega))).2.2.1 _ _ hx hh.symm
   ·rw[hs2];exact(hout _ (hlt g I hx)).2.1 p hp
   ·rw[hs2];exact hb.sw p _ I hp hx
  ·simp only[hlen]at hi;rcases hcase i hi with hi' |⟨p,rfl,hp⟩
   ·rw[hs1 i hi'];cases hz:Z' (σ i)with
    |none=>rfl
    |some r=>have:=(hout _ (h.sb i (by omega))).2.2.2 r hz;rw[h.sz i (by omega)]at this;cases this
   ·rw[hs2];exact hb.sz p hp
  ·rcases hc2 g I hI with⟨hx,_⟩|⟨j,o,rfl,hx⟩
   ·cases hz:Z' I.b with
    |none=>rfl
    |some r=>have:=(hout _ (hlt g I hx)).2.2.2 r hz;rw[h.wz g I hx]at this;cases this
   ·exact hb.wz _ I hx
  ·simp only[hlen]at hi;rcases hcase i hi with hi' |⟨p,rfl,hp⟩
   ·rw[hs1 i hi'];exact o4 (h.sb i (by omega)) hb.nx
   ·rw[hs2];exact hb.sb p hp
  ·simp only[hlen];rcases hc2 (.c i off) I hI with⟨hx,hy⟩|⟨j,o,he,hx⟩
   ·have:=hy i off rfl;omega
   ·cases he;have:j<hc.length:=hb.wc j off I hx;omega
  ·simp only[hlen];have:=h.n0;omega
  ·rw[hs1 i (by have:=h.n0;omega)];exact h.sig i hi
  ·obtain⟨k1,k2,k3,k4⟩:=h.out b hb1 hb2;obtain⟨q1,q2,q3,q4⟩:=hout b (o4 hb1 h.nx);refine⟨by rw[q1,k1],fun i hi=> ?_,fun g I hI=> ?_,fun r hr=>k4 r (q4 r hr)⟩
   ·simp only[hlen]at hi;rcases hcase i hi with hi' |⟨p,rfl,hp⟩
    ·rw[hs1 i hi'];exact k2 i (by omega)
    ·rw[hs2];exact q2 p hp
   ·rcases hc2 g I hI with⟨hx,_⟩|⟨j,o,rfl,hx⟩
    ·exact k3 g I hx
    ·exact q3 _ I hx
  ·obtain⟨k1,k2,k3⟩:=h.gn i hi;have hlt:=(cz.1 k2).1;exact⟨k1,by simp only[gD hlt];exact k2,by rw[hs1 i (by omega),(hout _ (h.sb i hlt)).1];exact k3⟩
 refine⟨σ2,?_⟩;have hown:∀ w xs,OR σ' Z' ω' (.t 0) w xs v→∃ ω3,Ok E σ2 Z' ω3 (({s with h:=s.h++hc.map (fW k),fl:=fl2}:Vs).kill (.t d)) e st'∧OR σ2 Z' ω3 (.t d) w xs v:=by
  intro w xs hor;refine⟨_,(hOk.kill (.t d)).Ch (fJ _ _) (by simp) (o:=ω' (.t 0)) (fun J hJ=> ?_),OR.to hor (fun _ _ h=>h) (bw _ _ _)⟩;refine⟨hb.pW _ J hJ,fun i hi=> ?_,hb.wz _ J hJ,fun g' I' hg' hI' hbb=> ?_,fun b hb1 hb2=>(hout b (o4 hb1 h.nx)).2.2.1 _ _ hJ,fun i off hh=>by cases hh⟩
  ·rw[dL]at hi;simp only[hlen]at hi;rcases hcase i hi with hi' |⟨p,rfl,hp⟩
   ·rw[hs1 i hi'];exact fun hh=>(hout _ (h.sb i (by omega))).2.2.1 _ _ hJ hh.symm
   ·rw[hs2];exact hb.sw p _ J hp hJ
  ·rcases hc2 g' I' hI' with⟨hx,_⟩|⟨j,o,rfl,hx⟩
   ·exact(hout _ (hlt g' I' hx)).2.2.1 _ _ hJ hbb.symm
   ·have:=hb.jA _ _ _ _ hx hJ hbb;cases this
 have hpl:∀ u,UR σ' Z' hc.length u v→TR σ2 Z' ω2 (k+hc.length) (u.shift k) v:=fun u hu=>TR.bz (UR.shift (fun i hi=>hs2 i) (by omega) hu);have hlen' :(s.h++hc.map (fW k)).length=k+hc.length:=hlen;cases r with
 |own g w xs=>
  cases g with
  |r=>
   obtain⟨ω3,k1,k2⟩:=hown w xs hr;exact⟨ω3,k1,⟨k2,fun i off hh=>by cases hh⟩,rfl,hs1,hZ⟩
  |t x=>exact hr.elim
  |c i o=>exact hr.elim
 |bad=>exact⟨ω2,hOk,by simp only[dV,U.shift];trivial,rfl,hs1,hZ⟩
 |_=>exact⟨ω2,hOk,by simp only[dV,U.shift,hlen'];exact hpl _ hr,rfl,hs1,hZ⟩
theorem Ok.Sx(h:Ok E σ Z ω s e st){σ' :Sg}{Z' :Zs}{ω' :Om}{fc:Nat}{st' :St}{r:U}{v:V}{d:Nat}
  (hb:Ok ⟨0,σ,gq σ (fun _=>none) 0,Cb ω Z,st,fun i=>([]:List Uo)[i]? =some .gone⟩ σ' Z' ω' ⟨[],[],fc⟩ .e st') (hr:RR σ' Z' ω' 0 r v) (hf:r.flat=true):
  ∃ ω2,Ok E σ Z ω2 (dV d r s).2 e st'∧TR σ Z ω2 (dV d r s).2.h.length (dV d r s).1 v∧(dV d r s).2.h=s.h:=by
 have hout:∀ b,b<st.next→st'.get b=st.get b∧(∀ g I,ω' g=some I→I.b≠b):=fun b hb1=>⟨(hb.out b hb1 (pF σ b)).1,(hb.out b hb1 (pF σ b)).2.2.1⟩
 have hOk:Ok E σ Z ω s e st' :=h.mem hb.nx hb.fresh fun b hbb=>(hout b (h.MO hbb)).1;have hur:∀ u,UR σ' Z' 0 u v→u.flat=true→TR σ Z ω s.h.length u v:=fun u hu hf=>TR.bz ((hu.flat hf).mono (kN _) (fun i hi=>by omega) (fun _ _ h=>h));cases r with
 |own g w xs=>
  cases g with
  |r=>
   have hor:OR σ' Z' ω' (.t 0) w xs v:=hr;refine⟨_,(hOk.kill (.t d)).Ch (fJ _ _) (by simp) (o:=ω' (.t 0)) (fun J hJ=> ?_),⟨OR.flat hor (bw _ _ _) (by simpa[U.flat]using hf),fun i off hh=>by cases hh⟩,rfl⟩;have hge:∀ b,b<st.next→J.b≠b:=fun b hb1=>(hout b hb1).2 _ _ hJ
   refine⟨hb.pW _ J hJ,fun i hi hh=> ?_,?_,fun g' I' hg' hI' hbb=> ?_,fun b hb1 hb2=>hge b (o4 hb1 h.nx),fun i off hh=>by cases hh⟩
   ·rw[dL]at hi;exact hge _ (h.sb i hi) hh.symm
   ·cases hz:Z J.b with
    |none=>rfl
    |some r=>exact absurd rfl (hge _ (h.lt_next (h.tL _ _ hz)))
   ·exact hge _ (h.lt_next (h.pW _ _ hI')) hbb.symm
  |t x=>exact hr.elim
  |c i o=>exact hr.elim
 |_=>exact⟨ω,hOk,hur _ hr hf,rfl⟩
theorem BL{P:Nat→List V→St→(V→St→Prop)→Prop}{F:FU}(hP:∀ f vs st k k',(∀ v s,k v s→k' v s)→P f vs st k→P f vs st k')(hF:Zt P F){d f:Nat}{args:List U}{vs:List V}{u:U}(h:Ok E σ Z ω s e st)(hF0:Fl s)
  (hl:args.length=vs.length) (ha:∀ (j:Nat) u v,args[j]? =some u→vs[j]? =some v→TR σ Z ω s.h.length u v) (hc:mO F d f args s=some (u,s')):
  P f vs st fun v st' =>Fl s'∧∃ σ' Z' ω',Ok E σ' Z' ω' s' e st'∧TR σ' Z' ω' s'.h.length u v∧s.h.length≤s'.h.length∧(∀ i,i<s.h.length→σ' i=σ i)∧(∀ b r,Z b=some r→Z' b=some r)∧
   ((∀ us,kj args=some us→U.bX 0 us=true)→∀ b,b<st.next→st'.get b=st.get b):=by
 unfold mO at hc;obtain⟨us,hus⟩:∃ us,kj args=some us:=by
  cases hq:kj args with
  |none=>rw[hq]at hc;simp at hc
  |some us=>exact⟨us,rfl⟩
 ·rw[hus]at hc;simp only at hc;cases hlow:U.bX 0 us with
  |true=>
   rw[hlow]at hc;simp only[cond_true]at hc;cases hcall:F f us [] 0 with
   |none=>rw[hcall]at hc;simp at hc
   |some R=>
    obtain⟨r,hcs,fc⟩:=R;rw[hcall]at hc;simp only[ay]at hc
    -- without what is lent
    have plain:∀ {s1:Vs} {Z1:Zs} {ω1:Om},Ok E σ Z1 ω1 s1 e st→Fl s1→s1.h.length=s.h.length→(∀ b r,Z b=some r→Z1 b=some r)→LU σ Z1 s.h.length us vs→
      rF d r hcs fc s1=(u,s')→
      P f vs st fun v st' =>Fl s'∧∃ σ' Z' ω',Ok E σ' Z' ω' s' e st'∧TR σ' Z' ω' s'.h.length u v∧s.h.length≤s'.h.length∧(∀ i,i<s.h.length→σ' i=σ i)∧(∀ b r,Z b=some r→Z' b=some r)∧
       ((∀ us,kj args=some us→U.bX 0 us=true)→∀ b,b<st.next→st'.get b=st.get b):=by
     intro s1 Z1 ω1 h1 hf1 hlen hZ hlu hfin;have hlu0:LU σ Z1 0 us vs:=hlu.low hlow;refine hP _ _ _ _ _ ?_ (hF f us [] 0 r hcs fc hcall σ Z1 (fun _=>none) st vs (h1.iso h1.tL 0) ⟨aM _,fun i o ho=>by simp at ho⟩ (fun _=>rfl) hlu0);rintro v st' ⟨k0,σ',Z',ω',k1,k2,k3⟩;have hfs:Fl s' :=by have:=hf1.land k0 d r;rw[hfin]at this;exact this
     refine⟨hfs,?_⟩;obtain⟨σ2,ω2,q1,q2,q3,q4,q5⟩:=h1.N8 (d:=d) (fl2:=bif Nat.beq fc 0 then s1.fl else s1.h.length+fc) k1 k2 k3;have hframe:∀ b,b<st.next→st'.get b=st.get b:=fun b hb=>(k1.out b hb (pF σ b)).1
     cases hcs with
     |nil=>
      simp only[rF]at hfin
      -- nothing is laid
      have hOk2:∃ σ2 ω2,Ok E σ2 Z' ω2 (dV d r s1).2 e st'∧TR σ2 Z' ω2 (dV d r s1).2.h.length (dV d r s1).1 v∧(dV d r s1).2.h=s1.h∧∀ i,i<s1.h.length→σ2 i=σ i:=by
       obtain⟨σ2,ω2,q1,q2,q3,q4,q5⟩:=h1.N8 (d:=d) (fl2:=s1.fl) k1 k2 k3;have e1:({s1 with h:=s1.h++List.map (fW s1.h.length) [],fl:=s1.fl}:Vs)=s1:=by simp
       rw[e1]at q1 q2 q3;have hpl:∀ {u:U},UR σ' Z' 0 u v→TR σ2 Z' ω2 s1.h.length u v:=fun hu=>TR.bz (hu.mono (kN _) (fun i hi=>by omega) (fun _ _ h=>h));cases r with
       |own g w xs=>
        cases g with
        |r=>exact⟨σ2,ω2,q1,q2,by simpa[dV,U.shift]using q3,q4⟩
        |t x=>exact k3.elim
        |c i o=>exact k3.elim
       |_=>exact⟨σ2,ω2,q1,hpl k3,rfl,q4⟩
      obtain⟨σ2,ω3,p1,p2,p3,p4⟩:=hOk2;rw[hfin]at p1 p2 p3;exact⟨σ2,Z',ω3,p1,p2,by rw[p3];omega,fun i hi=>p4 i (by omega),fun b r hb=>q5 b r (hZ b r hb),fun _=>hframe⟩
     |cons a as=>
      simp only[rF]at hfin;rw[hfin]at q1 q2 q3;exact⟨σ2,Z',ω2,q1,q2,by rw[q3];simp;omega,fun i hi=>q4 i (by omega),fun b r hb=>q5 b r (hZ b r hb),fun _=>hframe⟩
    have hOwnArgs:∀ {Z' :Zs},(∀ b r,Z b=some r→Z' b=some r)→(∀ g w xs I,.own g w xs∈args→ω g=some I→Z' I.b=some I.row)→LU σ Z' s.h.length us vs:=fun hz ho=>yX hz hus hl ha ho;cases hany:rY args with
    |false=>
     rw[hany]at hc;simp only[Bool.false_and,cond_false]at hc;have hno:∀ {args:List U},rY args=false→∀ g w xs,.own g w xs ∉ args:=by
      intro args
      induction args with
      |nil=>intro _ g w xs hm;cases hm
      |cons a args ih=>
       intro h g w xs hm;simp only[rY,Bool.or_eq_false_iff]at h;rcases eB.1 hm with hh|hh
       ·rw[←hh]at h;cases h.1
       ·exact ih h.2 g w xs hh
     exact plain h hF0 rfl (fun _ _ h=>h) (hOwnArgs (fun _ _ h=>h) fun g w xs I hm=>absurd hm (hno hany g w xs)) hc
    |true=>
     rw[hany]at hc;simp only[Bool.true_and]at hc;cases hfl:(r.flat&&hcs.isEmpty)with
     |false=>
      rw[hfl]at hc;simp only[Bool.not_false,cond_true]at hc;obtain⟨Z1,ω1,b1,b2,b3,b4,b5⟩:=qH (args:=args) h;exact plain b1 hF0.bp b3 b2 (hOwnArgs b2 b5) hc
     |true=>
      rw[hfl]at hc;simp only[Bool.not_true,cond_false]at hc;simp only[cm]at hfl;have hc0:hcs=[]:=by cases hcs with|nil=>rfl|cons a as=>simp at hfl
      subst hc0;simp only[rF]at hc;have hlu0:LU σ (Cb ω Z) 0 us vs:=(hOwnArgs (fun b r hb=>qdG h hb) fun g w xs I _ hg=>SG h hg).low hlow;have hlz:∀ b r,Cb ω Z b=some r→st.get b=some (.row r):=fun b r hb=>by
       rcases Iw hb with hb|⟨g,I,hg,rfl,rfl⟩
       ·exact h.tL b r hb
       ·exact h.pW g I hg
      refine hP _ _ _ _ _ ?_ (hF f us [] 0 r [] fc hcall σ (Cb ω Z) (fun _=>none) st vs (h.iso hlz 0) ⟨aM _,fun i o ho=>by simp at ho⟩ (fun _=>rfl) hlu0);rintro v st' ⟨k0,σ',Z',ω',k1,k2,k3⟩;refine⟨by have:=hF0.dV d r;rw[hc]at this;exact this,?_⟩;obtain⟨ω2,p1,p2,p3⟩:=h.Sx (d:=d) k1 k3 hfl.1;rw[hc]at p1 p2 p3;exact⟨σ,Z,ω2,p1,p2,by rw[p3];exact aM _,fun _ _=>rfl,fun _ _ h=>h,fun _ b hb=>(k1.out b hb (pF σ b)).1⟩
  |false=>
   rw[hlow]at hc;simp only[cond_false]at hc;obtain⟨Z1,ω1,b1,b2,b3,b4,b5⟩:=qH (args:=args) h;cases hcall:F f us (bp args s).h (bp args s).fl with
   |none=>rw[hcall]at hc;simp at hc
   |some R=>
    obtain⟨r,h',fl'⟩:=R;rw[hcall]at hc;simp only[ay]at hc;have hlu:LU σ Z1 s.h.length us vs:=yX b2 hus hl ha b5;refine hP _ _ _ _ _ ?_ (hF f us _ _ r h' fl' hcall σ Z1 (qL ω1) st vs (b1.shared _) (hF0.bp.env []) (fun _=>rfl) (by rw[b3];exact hlu));rintro v st' ⟨k0,σ',Z',ω',k1,k2,k3⟩;refine⟨by have:=Fl.dV (s:={e:=Env.cy Tg.NV (bp args s).e,h:=h',fl:=fl'}) ⟨k0.le,k0.ob⟩ d r;rw[hc]at this;exact this,?_⟩;obtain⟨ω2,p1,p2,p3⟩:=b1.J5 (d:=d) k1 k2 k3;rw[hc]at p1 p2 p3;have hn0:(bp args s).h.length≤h'.length:=k1.n0;exact⟨σ',Z',ω2,p1,p2,by rw[p3];omega,fun i hi=>k1.sig i (by show i<(bp args s).h.length;omega),fun b r hb=>k1.zz b r (b2 b r hb),fun hq=>absurd (hq us hus) (by rw[hlow];simp)⟩
end
end Go.RE
namespace Go.RE
variable{C:Nat→Option dW}{M:eA}
theorem Zq{Q:Nat→Nat→Prop}(hm:∀ i a b,a≤b→Q i a→Q i b):∀ {n:Nat},(∀ i,i<n→∃ m,Q i m)→∃ m,∀ i,i<n→Q i m:=by
 intro n
 induction n with
 |zero=>intro _;exact⟨0,fun i hi=>by omega⟩
 |succ n ih=>
  intro h;obtain⟨m,h1⟩:=ih fun i hi=>h i (by omega);obtain⟨k,h2⟩:=h n (by omega);refine⟨max m k,fun i hi=> ?_⟩;by_cases hin:i<n
  ·exact hm _ _ _ (oE _ _) (h1 i hin)
  ·have:i=n:=by omega
   subst this;exact hm _ _ _ (Nat.le_max_right _ _) h2
abbrev Fam:=Nat→Nat→List V→St→(V→St→Prop)→Prop
def Yz(Fn:Fam):Prop:=∀ a b,a≤b→Qq (Fn a) (Fn b)
def M1(Fn:Fam)(n:Nat):Prop:=∀ f args s (K:Nat→V→St→Prop),(∀ a b v s,a≤b→K a v s→K b v s)→Fn n f args s (fun v s=>∃ m,K m v s)→∃ m,n≤m∧Fn m f args s (K m)
theorem PL{K:Nat→V→St→Prop}(hK:∀ a b v s,a≤b→K a v s→K b v s){s:St}{b:Nat}(h:qD s b fun v s=>∃ m,K m v s):∃ m,qD s b (K m):=by
 unfold qD at h⊢;cases hs:s.get b with
 |none=>simp only[hs]at h;exact h.elim
 |some ob=>
  cases ob with
  |row cs=>simp only[hs]at h;exact h.elim
  |map es c=>simp only[hs]at h;exact h.elim
  |dead=>simp only[hs]at h;exact h.elim
  |fS m since seen last=>
   cases m with
   |none=>simp only[hs]at h⊢;exact h
   |some mm=>
    simp only[hs]at h⊢;cases hm:s.get mm with
    |none=>simp only[hm]at h;exact h.elim
    |some ob2=>
     cases ob2 with
     |row cs=>simp only[hm]at h;exact h.elim
     |fS a b c d=>simp only[hm]at h;exact h.elim
     |dead=>simp only[hm]at h;exact h.elim
     |map es clock=>
      simp only[hm]at h⊢;cases hst:(!seen.isEmpty&& !es.isEmpty&&es.all (fun e=>Nat.ble last e.born))with
      |true=>rw[hst]at h;exact h.elim
      |false=>
       rw[hst]at h;simp only[cond_false]at h⊢;let Q:Nat→Nat→Prop:=fun i m=>match(dz es since seen)[i]? with
        |some (some e)=>K m (.aP [.bool true,e.key,e.val]) (s.put b (.fS (some mm) since (seen++[e.born]) clock))
        |some none=>K m (.aP [.bool false]) s
        |none=>jm.fail
       have hq:=Zq (Q:=Q) (n:=(dz es since seen).length) (fun i x y hxy hh=>by
        show(match(dz es since seen)[i]? with
         |some (some e)=>K y (.aP [.bool true,e.key,e.val]) (s.put b (.fS (some mm) since (seen++[e.born]) clock))
         |some none=>K y (.aP [.bool false]) s
         |none=>jm.fail)
        have hh' :(match(dz es since seen)[i]? with
         |some (some e)=>K x (.aP [.bool true,e.key,e.val]) (s.put b (.fS (some mm) since (seen++[e.born]) clock))
         |some none=>K x (.aP [.bool false]) s
         |none=>jm.fail):=hh
        cases hc:(dz es since seen)[i]? with
        |none=>simp only[hc]at hh';exact hh'
        |some c=>
         simp only[hc]at hh';cases c with
         |none=>exact hK _ _ _ _ hxy hh'
         |some e=>exact hK _ _ _ _ hxy hh') (fun i hi=>by
        have hh:=h i hi;cases hc:(dz es since seen)[i]? with
        |none=>simp only[hc]at hh;exact hh.elim
        |some c=>
         simp only[hc]at hh;cases c with
         |none=>
          obtain⟨m,hm⟩:=hh;refine⟨m,?_⟩;show(match(dz es since seen)[i]? with
           |some (some e)=>K m (.aP [.bool true,e.key,e.val]) (s.put b (.fS (some mm) since (seen++[e.born]) clock))
           |some none=>K m (.aP [.bool false]) s
           |none=>jm.fail)
          rw[hc];exact hm
         |some e=>
          obtain⟨m,hm⟩:=hh;refine⟨m,?_⟩;show(match(dz es since seen)[i]? with
           |some (some e)=>K m (.aP [.bool true,e.key,e.val]) (s.put b (.fS (some mm) since (seen++[e.born]) clock))
           |some none=>K m (.aP [.bool false]) s
           |none=>jm.fail)
          rw[hc];exact hm)
       obtain⟨m,hm⟩:=hq;exact⟨m,hm⟩
theorem uj{Fn:Fam}{n:Nat}(hM:Yz Fn)(hF:M1 Fn n){K:Nat→V→St→Prop}(hK:∀ a b v s,a≤b→K a v s→K b v s){env:PT V}{s:St}{o:lH}(h:dw M (Fn n) env s o fun v s=>∃ m,K m v s):
  ∃ m,n≤m∧dw M (Fn m) env s o (K m):=by
 have up:∀ {m:Nat} {v s},K m v s→K (max n m) v s:=fun h=>hK _ _ _ _ (Nat.le_max_right _ _) h;cases o with
 |s o=>
  simp only[dw]at h⊢;split at h
  ·obtain⟨m,hm⟩:=h;exact⟨max n m,oE _ _,up hm⟩
  ·exact h.elim
 |m o=>
  simp only[dw]at h⊢;split at h
  ·obtain⟨m,hm⟩:=h;exact⟨max n m,oE _ _,up hm⟩
  ·exact h.elim
 |h o=>
  simp only[dw]at h⊢;split at h
  ·obtain⟨m,hm⟩:=h;exact⟨max n m,oE _ _,up hm⟩
  ·exact h.elim
 |call f args=>
  simp only[dw]at h⊢;split at h
  ·exact hF _ _ _ _ hK h
  ·exact h.elim
 |invoke name x args=>
  simp only[dw]at h⊢;split at h
  ·split at h
   ·exact hF _ _ _ _ hK h
   ·exact h.elim
  ·exact h.elim
 |next x=>
  simp only[dw]at h⊢;split at h
  ·obtain⟨m,hm⟩:=PL hK h;exact⟨max n m,oE _ _,dh (F:=Fn 0) (F' :=Fn 0) (M:=M) (env:=env) (o:=.next (.c (.ptr _ 0))) (fun f args s k k' hk h=>hM 0 0 (aM _) f args s k k' hk h) (fun v s h=>up h) (by simpa[dw,bB.ev]using hm)⟩
  ·exact h.elim
 |bad=>exact h.elim
theorem uz{s:St}{p:Nat}{K:Nat→Prop}:∀ {recs:fH},recheck s p recs (∃ m,K m)→∃ m,recheck s p recs (K m):=by
 intro recs
 induction recs with
 |nil=>intro h;exact h
 |cons x r ih=>
  intro h;obtain⟨i,op,env,v⟩:=x;simp only[recheck]at h⊢;cases hb:Nat.testBit p i with
  |true=>rw[hb]at h;exact ih h
  |false=>
   rw[hb]at h;simp only[cond_false]at h⊢;split at h
   ·obtain⟨m,hm⟩:=ih h.2;exact⟨m,h.1,hm⟩
   ·exact h.elim
theorem EF{n f:Nat}{args:List V}{s:St}{k:V→St→Prop}:ct C M n f args s k=(match C f with
  |none=>False
  |some fn=>bif Nat.ble args.length fn.ntmps then fR C M n fn.body (cT args 0 .e) s (RC fn k)else False):=by
 unfold ct evF;cases C f with
 |none=>rfl
 |some fn=>
  simp only;cases Nat.ble args.length fn.ntmps with
  |false=>rfl
  |true=>
   simp only[cond_true];congr 1
theorem cc{a b:Nat}(h:a≤b):Qq (ct C M a) (ct C M b):=fun f args s k k' hk hc=>n6 h hk hc
theorem Gq{fn:dW}{K:Nat→V→St→Prop}{ex:Ex}{env:PT V}{s:St}(h:RC fn (fun v s=>∃ m,K m v s) ex env s):∃ m,RC fn (K m) ex env s:=by
 cases ex with
 |exit i=>exact h.elim
 |normal=>
  simp only[qo]at h⊢;cases hr:cV env s fn.results with
  |none=>rw[hr]at h;exact h.elim
  |some v=>rw[hr]at h;exact h
 |ret=>
  simp only[sE]at h⊢;cases hr:cV env s fn.results with
  |none=>rw[hr]at h;exact h.elim
  |some v=>rw[hr]at h;exact h
theorem Ia{fn:dW}{k k' :V→St→Prop}(hk:∀ v s,k v s→k' v s){ex:Ex}{env:PT V}{s:St}(h:RC fn k ex env s):RC fn k' ex env s:=by
 cases ex with
 |exit i=>exact h.elim
 |normal=>
  simp only[qo]at h⊢;cases hr:cV env s fn.results with
  |none=>rw[hr]at h;exact h.elim
  |some v=>rw[hr]at h;exact hk _ _ h
 |ret=>
  simp only[sE]at h⊢;cases hr:cV env s fn.results with
  |none=>rw[hr]at h;exact h.elim
  |some v=>rw[hr]at h;exact hk _ _ h
theorem GQ:∀ {n:Nat} {c:ag} {env:PT V} {s:St} {K:Nat→Ex→PT V→St→Prop},(∀ a b e env s,a≤b→K a e env s→K b e env s)→fR C M n c env s (fun e env s=>∃ m,K m e env s)→∃ m,n≤m∧fR C M m c env s (K m):=by
 intro n
 induction n with
 |zero=>intro _ _ _ _ _ h;exact h.elim
 |succ n ih=>
  intro c env s K hK h;have hfam:M1 (ct C M) n:=by
   intro f args s K hK h;rw[EF]at h;cases hf:C f with
   |none=>rw[hf]at h;exact h.elim
   |some fn=>
    rw[hf]at h;simp only at h;cases hb:Nat.ble args.length fn.ntmps with
    |false=>rw[hb]at h;exact h.elim
    |true=>
     rw[hb]at h;simp only[cond_true]at h;obtain⟨m,h1,h2⟩:=ih (K:=fun m=>RC fn (K m)) (fun a b e env s hab h=>Ia (fun v s h=>hK a b v s hab h) h) (cK (aM n) (fun e env s h=>Gq h) h);refine⟨m,h1,?_⟩;rw[EF,hf];simp only[hb,cond_true];exact h2
  -- one step more
  have up:∀ {m:Nat} {c env s},n≤m→fR C M (m+1) c env s (K m)→∃ m,n+1≤m∧fR C M m c env s (K m):=fun {m c env s} hm h=>
   ⟨m+1,by omega,cK (aM _) (fun e env s h=>hK _ _ _ _ _ (Nat.le_succ _) h) h⟩
  have now:∀ {e env' s'},(∃ m,K m e env' s')→∃ m,n≤m∧K m e env' s' :=fun⟨m,hm⟩=>⟨max n m,oE _ _,hK _ _ _ _ _ (Nat.le_max_right _ _) hm⟩;cases c with
  |skip=>obtain⟨m,h1,h2⟩:=now h;exact up h1 (by rw[Bi];exact h2)
  |ret=>obtain⟨m,h1,h2⟩:=now h;exact up h1 (by rw[F3];exact h2)
  |exit i=>obtain⟨m,h1,h2⟩:=now h;exact up h1 (by rw[GX];exact h2)
  |bad=>exact h.elim
  |uh p q=>
   simp only[fR]at h;split at h
   ·rename_i vs hv;split at h
    ·rename_i v s2 hp;obtain⟨m,h1,h2⟩:=now h;refine up h1 ?_;simp only[fR,hv,hp];exact h2
    ·exact h.elim
   ·exact h.elim
  |region ops=>
   rw[jV]at h
   -- the rest,at whatever fuel
   have key:∀ {ops:List aH} {env:PT V} {s:St},eR M (ct C M n) ops env s (fun env s=>∃ m,K m .normal env s)→∃ m,n≤m∧eR M (ct C M m) ops env s (K m .normal):=by
    intro ops
    induction ops with
    |nil=>intro env s h;exact now h
    |cons o r ih2=>
     intro env s h;simp only[eR]at h⊢;split at h
     ·have h2:dw M (ct C M n) env s o.op fun v s' =>∃ m,eR M (ct C M m) r (fB o.dst v env) s' (K m .normal):=dh (cc (aM _)) (fun v s' h=>let⟨m,_,hm⟩:=ih2 h;⟨m,hm⟩) h;exact uj (K:=fun m v s' =>eR M (ct C M m) r (fB o.dst v env) s' (K m .normal)) (fun a b hab=>cc hab) hfam (fun a b v s hab h=>oy (cc hab) (fun e s h=>hK a b _ e s hab h) h) h2
     ·exact ih2 h
     ·exact h.elim
   obtain⟨m,h1,h2⟩:=key h;exact up h1 (by rw[jV];exact h2)
  |draw ops=>
   rw[zX]at h;have key:∀ {k:Nat} {todo:List (Nat×aH)} {done:Nat} {env:PT V} {s:St} {recs:fH},eM M (ct C M n) k todo done env s recs (fun env s=>∃ m,K m .normal env s)→∃ m,n≤m∧eM M (ct C M m) k todo done env s recs (K m .normal):=by
    intro k
    induction k with
    |zero=>intro _ _ _ _ _ h;exact h.elim
    |succ k ih2=>
     intro todo done env s recs h;simp only[eM]at h⊢;split at h
     ·exact h.elim
     ·split at h
      ·split at h
       ·exact now h
       ·exact h.elim
      ·rename_i i o rest _;generalize (within o.aS _&&rest.all _)=b at h⊢;cases b with
       |false=>exact h.elim
       |true=>
        simp only[cond_true]at h⊢;split at h
        ·have h2:=dh (cc (aM n)) (k' :=fun v s' =>∃ m,recheck s' o.aS _ (eM M (ct C M m) k rest _ (fB o.dst v _) s' (de o.aS _) (K m .normal))) (fun v s' h=>uz (dQ (fun h=>let⟨m,_,hm⟩:=ih2 h;⟨m,hm⟩) h)) h;exact uj (K:=fun m v s' =>recheck s' o.aS _ (eM M (ct C M m) k rest _ (fB o.dst v _) s' (de o.aS _) (K m .normal))) (fun a b hab=>cc hab) hfam (fun a b v s hab h=>dQ (fun h=>xW (cc hab) (fun e s h=>hK a b _ e s hab h) h) h) h2
        ·exact ih2 h
        ·exact h.elim
   obtain⟨m,h1,h2⟩:=key h;exact up h1 (by rw[zX];exact h2)
  |cond x a b=>
   simp only[fR]at h;split at h
   ·rename_i hx;obtain⟨m,h1,h2⟩:=ih hK h;exact up h1 (by simp only[fR,hx];exact h2)
   ·rename_i hx;obtain⟨m,h1,h2⟩:=ih hK h;exact up h1 (by simp only[fR,hx];exact h2)
   ·exact h.elim
  |block id b=>
   rw[sY]at h;obtain⟨m,h1,h2⟩:=ih (K:=fun m=>o5 id (K m)) (fun a b e env s hab h=>by
    cases e with
    |normal=>exact hK a b _ env s hab h
    |ret=>exact hK a b _ env s hab h
    |exit i=>
     simp only[xG]at h⊢;split
     ·rename_i hi;rw[if_pos hi]at h;exact hK a b _ env s hab h
     ·rename_i hi;rw[if_neg hi]at h;exact hK a b _ env s hab h) (cK (aM n) (fun e env s h=>by
    cases e with
    |normal=>exact h
    |ret=>exact h
    |exit i=>
     simp only[xG]at h⊢;split
     ·rename_i hi;rw[if_pos hi]at h;exact h
     ·rename_i hi;rw[if_neg hi]at h;exact h) h)
   exact up h1 (by rw[sY];exact h2)
  |seq a b=>
   rw[qq]at h;obtain⟨m,h1,h2⟩:=ih (K:=fun m=>Ey C M m b (K m)) (fun x y e env s hab h=>by
    cases e with
    |normal=>exact cK hab (fun e env s h=>hK x y _ env s hab h) h
    |ret=>exact hK x y _ env s hab h
    |exit i=>exact hK x y _ env s hab h) (cK (aM n) (fun e env s h=>by
    cases e with
    |normal=>exact let⟨m,_,hm⟩:=ih hK h;⟨m,hm⟩
    |ret=>exact h
    |exit i=>exact h) h)
   exact up h1 (by rw[qq];exact h2)
  |loop b=>
   have h' :fR C M n b env s (Ey C M n (.loop b) fun e env s=>∃ m,K m e env s):=h;obtain⟨m,h1,h2⟩:=ih (K:=fun m=>Ey C M m (.loop b) (K m)) (fun x y e env s hab h=>by
    cases e with
    |normal=>exact cK hab (fun e env s h=>hK x y _ env s hab h) h
    |ret=>exact hK x y _ env s hab h
    |exit i=>exact hK x y _ env s hab h) (cK (aM n) (fun e env s h=>by
    cases e with
    |normal=>exact let⟨m,_,hm⟩:=ih hK h;⟨m,hm⟩
    |ret=>exact h
    |exit i=>exact h) h')
   exact up h1 h2
theorem tK{n f:Nat}{args:List V}{s:St}{K:Nat→V→St→Prop}(hK:∀ a b v s,a≤b→K a v s→K b v s)(h:ct C M n f args s (fun v s=>∃ m,K m v s)):∃ m,n≤m∧ct C M m f args s (K m):=by
 rw[EF]at h;cases hf:C f with
 |none=>rw[hf]at h;exact h.elim
 |some fn=>
  rw[hf]at h;simp only at h;cases hb:Nat.ble args.length fn.ntmps with
  |false=>rw[hb]at h;exact h.elim
  |true=>
   rw[hb]at h;simp only[cond_true]at h;obtain⟨m,h1,h2⟩:=GQ (K:=fun m=>RC fn (K m)) (fun a b e env s hab h=>Ia (fun v s h=>hK a b v s hab h) h) (cK (aM n) (fun e env s h=>Gq h) h);refine⟨m,h1,?_⟩;rw[EF,hf];simp only[hb,cond_true];exact h2
end Go.RE
namespace Go.RE
def ie(C:Nat→Option dW)(M:eA):Nat→List V→St→(V→St→Prop)→Prop:=fun f vs st k=>∃ N,ct C M N f vs st k
def QOK(P:Nat→List V→St→(V→St→Prop)→Prop)(Q:fq):Prop:=
 ∀ f q,Q f=some q→∀ (xs:List (List U)) (rest:List U) (ys:List (List U)),q xs rest=some ys→∀ (E:vK) (σ:Sg) (Z:Zs) (ω:Om) (s:Vs) (e:PT V) (st:St) (g:Tg) (w:Nat) (v:V) (vs:List V) (p0:Nat×List (List U)),Ok E σ Z ω s e st→s.gI g=some p0→OR σ Z ω g w xs v→rest.length=vs.length→(∀ (j:Nat) u v,rest[j]? =some u→vs[j]? =some v→TR σ Z ω s.h.length u v)→
  P f (v::vs) st fun r st' =>r=.aP []∧∃ ω',Ok E σ Z ω' (s.mz g w ys) e st'
section
variable{C:Nat→Option dW}{M:eA}{Q:fq}{F:FU}
variable{E:vK}{σ:Sg}{Z:Zs}{ω:Om}{s s' :Vs}{e:PT V}{st:St}{n:Nat}
theorem tR{f:Nat}{vs:List V}{st:St}{k k' :V→St→Prop}(hk:∀ v s,k v s→k' v s)(h:ie C M f vs st k):ie C M f vs st k' :=let⟨N,h⟩:=h;⟨N,n6 (aM _) hk h⟩
theorem Zg(g:Tg)(w:Nat)(ys:List (List U))(s:Vs):(s.mz g w ys).h.length=s.h.length:=by
 unfold Vs.mz;split
 ·simp only;unfold setCell;split<;>simp
 ·rfl
def Op1(E:vK)(σ:Sg)(Z:Zs)(s1:Vs)(e:PT V)(st:St)(n:Nat)(u:U)(q:Bool)(v:V)(st' :St):Prop:=
 Fl s1∧∃ σ' Z' ω',Ok E σ' Z' ω' s1 e st'∧TR σ' Z' ω' s1.h.length u v∧n≤s1.h.length∧(∀ i,i<n→σ' i=σ i)∧(∀ b r,Z b=some r→Z' b=some r)∧(q=true→∀ b,b<st.next→st'.get b=st.get b)
theorem CZ(hF:Zt (ie C M) F)(hQ:QOK (ie C M) Q){dst:Option Nat}{o:lH}{u:U}(h:lg M Q F s dst o=some (u,s'))(hk:Ok E σ Z ω s e st)(hfl:Fl s):
  ∃ N,dw M (ct C M N) e st o.er (Op1 E σ Z s' e st s.h.length u (gH Q s o)):=by
 cases o with
 |s o=>
  simp only[lg]at h;obtain⟨Z',ω',v,h1,h2,h3,h4,h5⟩:=Dw h hk;exact⟨0,by simp only[lH.er,dw,h1];exact⟨Ri h hfl,σ,Z',ω',h2,h3,by omega,fun _ _=>rfl,h5,fun _ b _=>rfl⟩⟩
 |m o=>
  simp only[lg]at h;obtain⟨σ',Z',ω',ob,f,h1,h2,h3,h4,h5,h6⟩:=CQ h hk;exact⟨0,by simp only[lH.er,dw,h1];exact⟨RA h hk hfl,σ',Z',ω',h2,h3,h4,h5,h6,fun hq=>by simp[gH]at hq⟩⟩
 |h o=>
  have gen:qm (dst.getD 0) s o=some (u,s')→∃ N,dw M (ct C M N) e st (lH.h o).er (Op1 E σ Z s' e st s.h.length u (gH Q s (.h o))):=fun h=>by
   obtain⟨Z',ω',v,st',h1,h2,h3,h4,h5⟩:=Pe h hk;exact⟨0,by simp only[lH.er,dw,h1];exact⟨qes h hk hfl,σ,Z',ω',h2,h3,by omega,fun _ _=>rfl,h5,fun hq=>by simp[gH]at hq⟩⟩
  cases o with
  |range x=>
   simp only[lg]at h
   -- a new place to stand at
   have mk:∀ {m:Option Nat} {since last:Nat} {ob:Ob},ob=.fS (m.map σ) since [] last→(∀ j,m=some j→j<s.h.length)→u=.ptr s.h.length 0→s' ={s with h:=s.h++[.iter m since [] last]}→
     Op1 E σ Z s' e st s.h.length u (gH Q s (.h (.range x))) (.ptr st.next 0) (st.alloc ob):=by
    rintro m since last ob rfl hm rfl rfl;have hj:∀ j,j<s.h.length→dM σ s.h.length st.next j=σ j:=fun j hj=>dF _ _ (by omega)
    obtain⟨k1,k2⟩:=hk.ou (o:=.iter m since [] last) (ob:=.fS (m.map σ) since [] last) ⟨by
     cases m with
     |none=>rfl
     |some j=>simp only[Option.map_some,hj j (hm j rfl)],fun j hj=>by have:=hm j hj;omega⟩
    refine⟨hfl.push (o:=.iter m since [] last) (by
     cases m with
     |none=>rfl
     |some j=>simp only[Uo.low,Nat.blt,jC];have:=hm j rfl;omega) s.e,_,Z,ω,k1,?_,by simp,hj,fun _ _ h=>h,fun hq=>by simp[gH]at hq⟩
    have:=UR.ptr (σ:=dM σ s.h.length st.next) (Z:=Z) (n:=(s.h++[Uo.iter m since [] last]).length) (i:=s.h.length) (off:=0) (by simp);rw[bw]at this;exact TR.bz this
   split at h<;>try (simp at h;done)
   ·rename_i hx;simp only[ay,aO]at h;obtain⟨rfl,rfl⟩:=h;obtain⟨vx,x1,x2⟩:=hk.cO hx;obtain rfl:=TR.bK x2;exact⟨0,by simp only[lH.er,xL.er,dw,xV,x1];exact mk (m:=none) rfl (fun j hj=>by cases hj) rfl rfl⟩
   ·rename_i m hx;split at h<;>simp only[ay,aO,reduceCtorEq]at h;rename_i es clock hm;obtain⟨rfl,rfl⟩:=h;obtain⟨vx,x1,x2⟩:=hk.cO hx;obtain⟨hlt,rfl⟩:=TR.map x2;obtain⟨es',m1,m2,m3⟩:=hk.obj m _ hm;exact⟨0,by simp only[lH.er,xL.er,dw,xV,x1,m1];exact mk (m:=some m) rfl (fun j hj=>by cases hj;exact hlt) rfl rfl⟩
  |_=>simp only[lg]at h;exact gen h
 |call f args=>
  simp only[lg]at h;split at h<;>try (simp at h;done)
  rename_i g first captured vs hf ha
  obtain⟨vf,f1,f2⟩:=hk.cO hf;obtain⟨first',captured',rfl,l1,l2⟩:=TR.func f2;obtain⟨vs',a1,a2,a3⟩:=hk.nI ha
  -- the arguments together
  have hall:(first++vs++captured).length=(first'++vs'++captured').length:=by simp[l1.1,l2.1,a2]
  have htr:∀ (j:Nat) u v,(first++vs++captured)[j]? =some u→(first'++vs'++captured')[j]? =some v→TR σ Z ω s.h.length u v:=by
   intro j u v hu hv;rw[ow]at hu hv;by_cases h1:j<first.length
   ·rw[gD h1]at hu;rw[gD (by rw[←l1.1];exact h1)]at hv;exact TR.bz (l1.2 j u v hu hv)
   ·rw[gf (by omega)]at hu;rw[gf (by rw[←l1.1];omega),←l1.1]at hv;by_cases h2:j - first.length<vs.length
    ·rw[gD h2]at hu;rw[gD (by omega)]at hv;exact a3 _ u v hu hv
    ·rw[gf (by omega)]at hu;rw[gf (by omega),←a2]at hv;exact TR.bz (l2.2 _ u v hu hv)
  split at h
  ·rename_i q hq;split at h<;>try (simp at h;done)
   rename_i gt w xs rest hargs;split at h<;>try (simp at h;done)
   rename_i ys hys;cases hown:(s.gI gt).isSome with
   |false=>rw[hown]at h;simp at h
   |true=>
    rw[hown]at h;simp only[cond_true,ay,aO]at h;obtain⟨rfl,rfl⟩:=h;obtain⟨p0,hp0⟩:=Option.isSome_iff_exists.1 hown;rw[hargs]at hall htr;cases hvv:first'++vs'++captured' with
    |nil=>rw[hvv]at hall;simp at hall
    |cons v0 vr=>
     rw[hvv]at hall htr;have h0:=htr 0 _ v0 rfl rfl;obtain⟨N,hN⟩:=hQ g q hq xs rest ys hys E σ Z ω s e st gt w v0 vr p0 hk hp0 h0.1 (by simpa using hall) (fun j u v hu hv=>htr (j+1) u v (by simpa using hu) (by simpa using hv));refine⟨N,?_⟩;simp only[lH.er,dw,f1,a1,hvv];refine n6 (aM _) ?_ hN;rintro v st' ⟨rfl,ω',k1⟩;exact⟨hfl.mz _ _ _,σ,Z,ω',k1,UR.aP rfl (fun j u v h=>by simp at h),by rw[Zg];exact aM _,fun _ _=>rfl,fun _ _ h=>h,fun hq' =>by simp[gH,hf,ha,hq]at hq'⟩
  ·rename_i hq;obtain⟨N,hN⟩:=BL (P:=ie C M) (fun f vs st k k' hk h=>tR hk h) hF hk hfl hall htr h;refine⟨N,?_⟩;simp only[lH.er,dw,f1,a1];refine n6 (aM _) ?_ hN;rintro v st' ⟨k0,σ',Z',ω',k1,k2,k3,k4,k5,k6⟩;refine⟨k0,σ',Z',ω',k1,k2,k3,k4,k5,fun hqq=>k6 fun us hus=> ?_⟩;simp only[gH,hf,ha,hq,hus]at hqq;exact hqq
 |invoke name x args=>
  simp only[lg]at h;split at h<;>try (simp at h;done)
  rename_i t u0 vs hx ha;split at h<;>try (simp at h;done)
  rename_i f hm;obtain⟨vx,x1,x2⟩:=hk.cO hx;obtain⟨v',rfl,x3⟩:=TR.iface x2;obtain⟨vs',a1,a2,a3⟩:=hk.nI ha;obtain⟨N,hN⟩:=BL (P:=ie C M) (fun f vs st k k' hk h=>tR hk h) hF (vs:=v' ::vs') hk hfl (by simp[a2]) (fun j u v hu hv=>by
   cases j with
   |zero=>simp at hu hv;subst hu;subst hv;exact TR.bz x3
   |succ j=>exact a3 j u v (by simpa using hu) (by simpa using hv)) h
  refine⟨N,?_⟩;simp only[lH.er,dw,x1,a1,hm];refine n6 (aM _) ?_ hN;rintro v st' ⟨k0,σ',Z',ω',k1,k2,k3,k4,k5,k6⟩;refine⟨k0,σ',Z',ω',k1,k2,k3,k4,k5,fun hqq=>k6 fun us hus=> ?_⟩;simp only[gH,hx,ha,hus]at hqq;exact hqq
 |next x=>simp[lg]at h
 |bad=>simp[lg]at h
theorem AY(h:Ok E σ Z ω s e st){g:Option (Nat×Bool)}{b:Bool}(hg:iJ g s.e=some b):bZ g e=some b:=by
 cases g with
 |none=>exact hg
 |some p=>
  obtain⟨t,want⟩:=p;simp only[iJ]at hg;simp only[bZ];split at hg<;>simp only[ay,reduceCtorEq]at hg
  ·rename_i c hc;obtain⟨v,h1,h2⟩:=h.env _ _ hc;obtain rfl:=TR.bool h2;rw[h1];simpa using hg
  ·rename_i vs hc;obtain⟨v,h1,h2⟩:=h.env _ _ hc;obtain⟨vs',rfl,_⟩:=TR.aP h2;rw[h1];simpa using hg
def Cj(E:vK)(s:Vs)(e:PT V)(st:St):Prop:=Fl s∧∃ σ Z ω,Ok E σ Z ω s e st
theorem K3(hF:Zt (ie C M) F)(hQ:QOK (ie C M) Q):∀ {ops:List aH} {σ:Sg} {Z:Zs} {ω:Om} {s s' :Vs} {e:PT V} {st:St},gw M Q F ops s=some s'→Ok E σ Z ω s e st→Fl s→
  ∃ N,eR M (ct C M N) (fG ops) e st fun e' st' =>Cj E s' e' st' :=by
 intro ops
 induction ops with
 |nil=>
  intro σ Z ω s s' e st h hk hfl;simp only[gw,ay]at h;subst h;exact⟨0,hfl,σ,Z,ω,hk⟩
 |cons o r ih=>
  intro σ Z ω s s' e st h hk hfl;simp only[gw]at h;cases hg:iJ o.guard s.e with
  |none=>rw[hg]at h;simp at h
  |some b=>
   rw[hg]at h;have hgr:bZ (aH.er o).guard e=some b:=AY hk hg;cases b with
   |false=>
    simp only at h;obtain⟨N,hN⟩:=ih h (hk.put (dst:=o.dst) (u:=.aP []) (v:=.aP []) (UR.aP rfl (fun j u v h=>by simp at h))) (hfl.env _);exact⟨N,by simp only[fG,eR,hgr];exact hN⟩
   |true=>
    simp only at h;cases hc:lg M Q F s o.dst o.op with
    |none=>rw[hc]at h;simp at h
    |some p=>
     obtain⟨u,s1⟩:=p;rw[hc]at h;simp only at h;obtain⟨N,hN⟩:=CZ hF hQ hc hk hfl;have h2:dw M (ct C M N) e st o.op.er fun v st' =>∃ m,eR M (ct C M m) (fG r) (fB o.dst v e) st' fun e' st' =>Cj E s' e' st' :=by
      refine dh (cc (aM N)) (fun v st' hv=> ?_) hN;obtain⟨k0,σ',Z',ω',k1,k2,_⟩:=hv;exact ih h (k1.put k2) (k0.env _)
     obtain⟨m,_,hm⟩:=uj (K:=fun m v st' =>eR M (ct C M m) (fG r) (fB o.dst v e) st' fun e' st' =>Cj E s' e' st') (fun a b hab=>cc hab) (fun f args s K hK h=>tK hK h)
      (fun a b v s hab h=>oy (cc hab) (fun _ _ h=>h) h) h2
     exact⟨m,by simp only[fG,eR,hgr];exact hm⟩
end
end Go.RE
namespace Go.RE
def Sc(F:Nat→List V→St→(V→St→Prop)→Prop):Prop:=
 ∀ f args s (k k' :V→St→Prop),F f args s k→F f args s k'→F f args s fun v s=>k v s∧k' v s
variable{M:eA}{F:Nat→List V→St→(V→St→Prop)→Prop}
theorem BB(hF:Sc F){env:PT V}{s:St}{o:lH}{k k' :V→St→Prop}(h:dw M F env s o k)(h' :dw M F env s o k'):dw M F env s o fun v s=>k v s∧k' v s:=by
 cases o with
 |s o=>
  simp only[dw]at h h'⊢;cases hq:cX env s o with
  |none=>rw[hq]at h;exact h.elim
  |some v=>rw[hq]at h h';exact⟨h,h'⟩
 |m o=>
  simp only[dw]at h h'⊢;cases hq:Ai env o with
  |none=>rw[hq]at h;exact h.elim
  |some v=>rw[hq]at h h';exact⟨h,h'⟩
 |h o=>
  simp only[dw]at h h'⊢;cases hq:xV env s o with
  |none=>rw[hq]at h;exact h.elim
  |some v=>rw[hq]at h h';exact⟨h,h'⟩
 |call f args=>
  simp only[dw]at h h'⊢;split at h
  ·rename_i e1 e2;simp only[e1,e2]at h';exact hF _ _ _ _ _ h h'
  ·exact h.elim
 |invoke name x args=>
  simp only[dw]at h h'⊢;split at h
  ·rename_i e1 e2;simp only[e1,e2]at h';split at h
   ·rename_i e3;simp only[e3]at h';exact hF _ _ _ _ _ h h'
   ·exact h.elim
  ·exact h.elim
 |next x=>
  simp only[dw]at h h'⊢;split at h
  ·rename_i e1;simp only[e1]at h';unfold qD at h h'⊢;split at h
   ·rename_i e2;simp only[e2]at h';exact⟨h,h'⟩
   ·rename_i e2;simp only[e2]at h';split at h
    ·rename_i es clock e3;simp only[e3]at h';generalize (!_&& !_&&_)=b at h h'⊢;cases b with
     |true=>exact h.elim
     |false=>
      intro i hi;have h1:=h i hi;have h2:=h' i hi;dsimp only at h1 h2⊢;split at h1
      ·rename_i e4;rw[e4]at h2;exact⟨h1,h2⟩
      ·rename_i e4;rw[e4]at h2;exact⟨h1,h2⟩
      ·exact h1.elim
    ·exact h.elim
   ·exact h.elim
  ·exact h.elim
 |bad=>exact h.elim
theorem P5(hF:Sc F)(hM:Qq F F):∀ {ops:List aH} {env:PT V} {s:St} {k k' :PT V→St→Prop},eR M F ops env s k→eR M F ops env s k'→eR M F ops env s fun e s=>k e s∧k' e s:=by
 intro ops
 induction ops with
 |nil=>intro env s k k' h h';exact⟨h,h'⟩
 |cons o r ih=>
  intro env s k k' h h';simp only[eR]at h h'⊢;split at h
  ·rename_i e1;simp only[e1]at h';exact dh hM (fun v s hh=>ih hh.1 hh.2) (BB hF h h')
  ·rename_i e1;simp only[e1]at h';exact ih h h'
  ·exact h.elim
theorem Gx{s:St}{p:Nat}:∀ {recs:fH} {a b:Prop},recheck s p recs a→recheck s p recs b→recheck s p recs (a∧b):=by
 intro recs
 induction recs with
 |nil=>intro a b h h';exact⟨h,h'⟩
 |cons x r ih=>
  intro a b h h';obtain⟨i,op,env,v⟩:=x;simp only[recheck]at h h'⊢;cases hb:Nat.testBit p i with
  |true=>rw[hb]at h h';exact ih h h'
  |false=>
   rw[hb]at h h';simp only[cond_false]at h h'⊢;cases hq:cX env s op with
   |none=>rw[hq]at h;exact h.elim
   |some u=>rw[hq]at h h';exact⟨h.1,ih h.2 h'.2⟩
theorem J6(hF:Sc F)(hM:Qq F F):∀ {n:Nat} {todo:List (Nat×aH)} {done:Nat} {env:PT V} {s:St} {recs:fH} {k k' :PT V→St→Prop},eM M F n todo done env s recs k→eM M F n todo done env s recs k'→eM M F n todo done env s recs fun e s=>k e s∧k' e s:=by
 intro n
 induction n with
 |zero=>intro _ _ _ _ _ _ _ h;exact h.elim
 |succ n ih=>
  intro todo done env s recs k k' h h';simp only[eM]at h h'⊢;cases ha:jT todo done env s [] recs with
  |none=>rw[ha]at h;exact h.elim
  |some q=>
   obtain⟨todo,done,env,s,recs⟩:=q;rw[ha]at h h';simp only at h h'⊢;cases hs:dU [] todo with
   |none=>
    rw[hs]at h h';simp only at h h'⊢;cases todo with
    |nil=>exact⟨h,h'⟩
    |cons a b=>exact h.elim
   |some q=>
    obtain⟨i,o,rest⟩:=q;rw[hs]at h h';simp only at h h'⊢;generalize (within o.aS _&&rest.all _)=b at h h'⊢;cases b with
    |false=>exact h.elim
    |true=>
     simp only[cond_true]at h h'⊢;cases hg:bZ o.guard env with
     |none=>rw[hg]at h;exact h.elim
     |some b=>
      rw[hg]at h h';cases b with
      |true=>exact dh hM (fun v s hh=>dQ (fun h=>ih h.1 h.2) (Gx hh.1 hh.2)) (BB hF h h')
      |false=>exact ih h h'
variable{C:Nat→Option dW}
theorem Zw:∀ {n:Nat} {c:ag} {env:PT V} {s:St} {k k' :Ex→PT V→St→Prop},fR C M n c env s k→fR C M n c env s k'→fR C M n c env s fun ex e s=>k ex e s∧k' ex e s:=by
 intro n
 induction n with
 |zero=>intro c env s k k' h;exact h.elim
 |succ n ih=>
  intro c env s k k' h h';have hM:Qq (fun f args s (k:V→St→Prop)=>match C f with
   |none=>jm.fail
   |some fn=>
    bif Nat.ble args.length fn.ntmps then
     fR C M n fn.body (cT args 0 .e) s fun e env s=>match e with
      | .exit _=>jm.fail
      |_=>(match cV env s fn.results with|some v=>k v s|none=>jm.fail)
    else jm.fail) (fun f args s (k:V→St→Prop)=>match C f with
   |none=>jm.fail
   |some fn=>
    bif Nat.ble args.length fn.ntmps then
     fR C M n fn.body (cT args 0 .e) s fun e env s=>match e with
      | .exit _=>jm.fail
      |_=>(match cV env s fn.results with|some v=>k v s|none=>jm.fail)
    else jm.fail):=by
   intro f args s k k' hk h;split at h
   ·exact h.elim
   ·rename_i fn _;generalize Nat.ble _ _=b at h⊢;cases b with
    |false=>exact h.elim
    |true=>
     refine cK (aM _) (fun e env s hh=> ?_) h;cases e with
     |exit i=>exact hh
     |normal=>simp only at hh⊢;cases hr:cV env s fn.results with
      |none=>rw[hr]at hh;exact hh
      |some v=>rw[hr]at hh;exact hk _ _ hh
     |ret=>simp only at hh⊢;cases hr:cV env s fn.results with
      |none=>rw[hr]at hh;exact hh
      |some v=>rw[hr]at hh;exact hk _ _ hh
  have hF:Sc (fun f args s (k:V→St→Prop)=>match C f with
   |none=>jm.fail
   |some fn=>
    bif Nat.ble args.length fn.ntmps then
     fR C M n fn.body (cT args 0 .e) s fun e env s=>match e with
      | .exit _=>jm.fail
      |_=>(match cV env s fn.results with|some v=>k v s|none=>jm.fail)
    else jm.fail):=by
   intro f args s k k' h h';simp only at h h'⊢;cases hc:C f with
   |none=>rw[hc]at h;exact h.elim
   |some fn=>
    rw[hc]at h h';simp only at h h'⊢;generalize Nat.ble _ _=b at h h'⊢;cases b with
    |false=>exact h.elim
    |true=>
     refine cK (aM _) (fun e env s hh=> ?_) (ih h h');cases e with
     |exit i=>exact hh.1
     |normal=>simp only at hh⊢;cases hr:cV env s fn.results with
      |none=>rw[hr]at hh;exact hh.1
      |some v=>rw[hr]at hh;exact hh
     |ret=>simp only at hh⊢;cases hr:cV env s fn.results with
      |none=>rw[hr]at hh;exact hh.1
      |some v=>rw[hr]at hh;exact hh
  cases c with
  |skip=>exact⟨h,h'⟩
  |ret=>exact⟨h,h'⟩
  |exit i=>exact⟨h,h'⟩
  |bad=>exact h.elim
  |region ops=>exact P5 hF hM h h'
  |draw ops=>exact J6 hF hM h h'
  |seq a b=>
   simp only[fR]at h h'⊢;refine cK (aM _) (fun e env s hh=> ?_) (ih h h');cases e with
   |normal=>exact ih hh.1 hh.2
   |exit i=>exact hh
   |ret=>exact hh
  |cond x a b=>
   simp only[fR]at h h'⊢;split at h
   ·rename_i e1;simp only[e1]at h';exact ih h h'
   ·rename_i e1;simp only[e1]at h';exact ih h h'
   ·exact h.elim
  |block id b=>
   simp only[fR]at h h'⊢;refine cK (aM _) (fun e env s hh=> ?_) (ih h h');cases e with
   |normal=>exact hh
   |exit i=>
    simp only at hh⊢;cases hb:Nat.beq i id with
    |true=>rw[hb]at hh;exact hh
    |false=>rw[hb]at hh;exact hh
   |ret=>exact hh
  |loop b=>
   simp only[fR]at h h'⊢;refine cK (aM _) (fun e env s hh=> ?_) (ih h h');cases e with
   |normal=>exact ih hh.1 hh.2
   |exit i=>exact hh
   |ret=>exact hh
  |uh m p=>
   simp only[fR]at h h'⊢;split at h
   ·rename_i e1;simp only[e1]at h';split at h
    ·rename_i e2;simp only[e2]at h';exact⟨h,h'⟩
    ·exact h.elim
   ·exact h.elim
theorem O2{n:Nat}:Sc (ct C M n):=by
 intro f args s k k' h h';unfold ct evF at h h'⊢;cases hc:C f with
 |none=>rw[hc]at h;exact h.elim
 |some fn=>
  rw[hc]at h h';simp only at h h'⊢;generalize Nat.ble _ _=b at h h'⊢;cases b with
  |false=>exact h.elim
  |true=>
   refine cK (aM _) (fun e env s hh=> ?_) (Zw h h');cases e with
   |exit i=>exact hh.1
   |normal=>simp only at hh⊢;cases hr:cV env s fn.results with
    |none=>rw[hr]at hh;exact hh.1
    |some v=>rw[hr]at hh;exact hh
   |ret=>simp only at hh⊢;cases hr:cV env s fn.results with
    |none=>rw[hr]at hh;exact hh.1
    |some v=>rw[hr]at hh;exact hh
end Go.RE
namespace Go.RE
def Step.er:Step→Step
 | .small i o=> .small i o.er
 | .aW i o=> .aW i o.er
def lT(x:Nat×aH):Nat×aH:=(x.1,x.2.er)
theorem Bq(o:aH):o.er.small=o.small:=by
 obtain⟨d,op,g,p⟩:=o;cases op<;>rfl
theorem zh(o:aH):o.er.aS=o.aS:=rfl
theorem GG:∀ (ops:List aH) (i:Nat),aC (fG ops) i=(aC ops i).map lT:=by
 intro ops
 induction ops with
 |nil=>intro i;rfl
 |cons o r ih=>intro i;simp only[fG,aC,ih,List.map_cons];rfl
theorem Gs:∀ (ops:List aH),(fG ops).length=ops.length:=by
 intro ops
 induction ops with
 |nil=>rfl
 |cons o r ih=>simp[fG,ih]
theorem Pu:∀ (l:List (Nat×aH)) (done:Nat) (left:List (Nat×aH)) (acc:List Step),dR (l.map lT) done (left.map lT) (acc.map Step.er)=((dR l done left acc).1.map lT,(dR l done left acc).2.1,(dR l done left acc).2.2.map Step.er):=by
 intro l
 induction l with
 |nil=>intro done left acc;simp[dR]
 |cons x l ih=>
  intro done left acc;obtain⟨i,o⟩:=x;simp only[List.map_cons,lT,dR,Bq,zh];cases o.small&&within o.aS done with
  |true=>simp only[cond_true];exact ih _ left (.small i o::acc)
  |false=>simp only[cond_false];exact ih done ((i,o)::left) acc
theorem XC:∀ (l pre:List (Nat×aH)),dU (pre.map lT) (l.map lT)=(dU pre l).map fun x=>(x.1,x.2.1.er,x.2.2.map lT):=by
 intro l
 induction l with
 |nil=>intro pre;simp[dU]
 |cons x l ih=>
  intro pre;obtain⟨i,o⟩:=x;simp only[List.map_cons,lT,dU,Bq];cases o.small with
  |true=>simp only[cond_true];exact ih ((i,o)::pre)
  |false=>simp[lT]
theorem W9:∀ {n:Nat} {todo:List (Nat×aH)} {done:Nat} {l:List Step},sched n todo done=some l→sched n (todo.map lT) done=some (l.map Step.er):=by
 intro n
 induction n with
 |zero=>intro _ _ _ h;simp[sched]at h
 |succ n ih=>
  intro todo done l h;simp only[sched]at h⊢;have ha:=Pu todo done [] [];simp only[List.map_nil]at ha;rw[ha];generalize dR todo done [] []=R at h⊢;obtain⟨t,d,tk⟩:=R;simp only at h⊢;have hs:=XC t [];simp only[List.map_nil]at hs;rw[hs];cases hq:dU [] t with
  |none=>
   rw[hq]at h;simp only[Option.map_none];cases t with
   |nil=>simp at h⊢;subst h;rw[List.map_reverse]
   |cons a b=>simp at h
  |some x=>
   obtain⟨i,o,rest⟩:=x;rw[hq]at h;simp only[Option.map_some,zh]at h⊢;have hall:(rest.map lT).all (fun x=>x.2.small||Nat.testBit x.2.aS i)=rest.all (fun x=>x.2.small||Nat.testBit x.2.aS i):=by
    rw[List.all_map];congr 1;funext x;simp[lT,Bq,zh]
   rw[hall];cases hb:(within o.aS d&&rest.all fun x=>x.2.small||Nat.testBit x.2.aS i)with
   |false=>rw[hb]at h;simp at h
   |true=>
    rw[hb]at h;simp only[cond_true]at h⊢;cases hr:sched n rest (Nat.lor d (2 ^ i))with
    |none=>rw[hr]at h;simp at h
    |some r=>
     rw[hr]at h;simp only[ay]at h;subst h;rw[ih hr];simp[Step.er]
section
variable{C:Nat→Option dW}{M:eA}{Q:fq}{F:FU}
variable{E:vK}{σ σ' :Sg}{Z Z' :Zs}{ω:Om}{s s' :Vs}{e:PT V}{st st' :St}{n m:Nat}
def KR(σ:Sg)(Z:Zs)(n:Nat)(R:Nat×ga×PT V×V):Rk→Prop
 | .ok=>∀ st2:St,(∀ b r,Z b=some r→st2.get b=some (.row r))→cX R.2.2.1 st2 R.2.1=some R.2.2.2
 | .ld i k off u=>i<n∧(∀ st2:St,cX R.2.2.1 st2 R.2.1=(match st2.row (σ i)with|some cs=>ei k cs off|none=>none))∧(U.same u u=true→UR σ Z n u R.2.2.2)
 | .no=>True
theorem KR.mono{R:Nat×ga×PT V×V}{k:Rk}(hn:n≤m)(hσ:∀ i,i<n→σ' i=σ i)(hZ:∀ b r,Z b=some r→Z' b=some r)(h:KR σ Z n R k):KR σ' Z' m R k:=by
 cases k with
 |ok=>exact fun st2 h2=>h st2 fun b r hb=>h2 b r (hZ b r hb)
 |ld i q off u=>exact⟨o4 h.1 hn,fun st2=>by rw[hσ i h.1];exact h.2.1 st2,fun hu=>(h.2.2 hu).mono hn hσ hZ⟩
 |no=>trivial
inductive RL(σ:Sg)(Z:Zs)(n:Nat)(st:St):List (Nat×Rk)→fH→Prop
 |nil:RL σ Z n st [] []
 |cons {i:Nat} {k:Rk} {op:ga} {env:PT V} {v:V} {gb:List (Nat×Rk)} {recs:fH} (h1:cX env st op=some v) (h2:KR σ Z n (i,op,env,v) k) (h:RL σ Z n st gb recs):RL σ Z n st ((i,k)::gb) ((i,op,env,v)::recs)
theorem RL.mono{gb:List (Nat×Rk)}{recs:fH}(hn:n≤m)(hσ:∀ i,i<n→σ' i=σ i)(hZ:∀ b r,Z b=some r→Z' b=some r)(hst:∀ b x,st.get b=some x→st'.get b=some x)(h:RL σ Z n st gb recs):RL σ' Z' m st' gb recs:=by
 induction h with
 |nil=>exact .nil
 |cons h1 h2 _ ih=>exact .cons (Ip hst h1) (h2.mono hn hσ hZ) ih
mutual
theorem C6:∀ {u u' :U},U.same u u' =true→U.same u u=true
 | .bool a,u',h=>by simp[U.same]
 | .int k a,u',h=>by simp[U.same]
 | .str a,u',h=>by simp[U.same]
 | .aT,_,_=>rfl
 | .bK,_,_=>rfl
 | .cZ,_,_=>rfl
 | .aK,_,_=>rfl
 | .ptr a b,_,_=>by simp[U.same]
 | .map a,_,_=>by simp[U.same]
 | .agg a,u',h=>by
  cases u' <;>simp[U.same]at h;simp only[U.same];exact Az h
 | .bu,_,h=>by simp[U.same]at h
 | .bad,_,h=>by simp[U.same]at h
 | .dI _ _,_,h=>by simp[U.same]at h
 | .sl _ _,_,h=>by simp[U.same]at h
 | .own _ _ _,_,h=>by simp[U.same]at h
 | .dD _ _,_,h=>by simp[U.same]at h
 | .cA _ _ _,_,h=>by simp[U.same]at h
 | .xX _ _ _ _,_,h=>by simp[U.same]at h
 | .func _ _ _,_,h=>by simp[U.same]at h
 | .iface _ _,_,h=>by simp[U.same]at h
 | .aP _,_,h=>by simp[U.same]at h
theorem Az:∀ {a b:List U},U.mQ a b=true→U.mQ a a=true
 |[],_,_=>rfl
 |x::a,[],h=>by simp[U.mQ]at h
 |x::a,y::b,h=>by
  simp only[U.mQ,cm]at h⊢;exact⟨C6 h.1,Az h.2⟩
end
theorem RL.stay{gb:List (Nat×Rk)}{recs:fH}{p:Nat}{r:Prop}(h:RL σ Z n st gb recs)(hgo:r):recheck st p recs r∧RL σ Z n st (fM p gb) (de p recs):=by
 induction h with
 |nil=>exact⟨hgo,.nil⟩
 | @cons i k op env v gb recs h1 h2 h ih=>
  obtain⟨ih1,ih2⟩:=ih;simp only[recheck,fM,de,List.filter_cons];cases hb:Nat.testBit p i with
  |true=>simp only[cond_true,Bool.not_true];exact⟨ih1,ih2⟩
  |false=>
   simp only[cond_false,Bool.not_false,if_true,h1];exact⟨⟨rfl,ih1⟩,.cons h1 h2 ih2⟩
theorem RL.check{gb:List (Nat×Rk)}{recs:fH}{p:Nat}{r:Prop}(hk:Ok E σ Z ω s e st')(h:RL σ Z s.h.length st gb recs)(hc:p7 s p gb=true)(hgo:r):recheck st' p recs r∧RL σ Z s.h.length st' (fM p gb) (de p recs):=by
 induction h with
 |nil=>exact⟨hgo,.nil⟩
 | @cons i k op env v gb recs h1 hK h ih=>
  simp only[p7,cm]at hc;obtain⟨ih1,ih2⟩:=ih hc.2;simp only[recheck,fM,de,List.filter_cons];cases hb:Nat.testBit p i with
  |true=>simp only[cond_true,Bool.not_true];exact⟨ih1,ih2⟩
  |false=>
   simp only[cond_false,Bool.not_false,if_true];have hev:cX env st' op=some v:=by
    have hc1:=hc.1;rw[hb]at hc1;simp only[Bool.false_or]at hc1;cases k with
    |ok=>exact hK st' hk.tL
    |no=>simp[Rk.holds]at hc1
    |ld q kk off u=>
     simp only[Rk.holds]at hc1;split at hc1<;>try (simp at hc1;done)
     rename_i cs hi;split at hc1<;>try (simp at hc1;done)
     rename_i u' hl;obtain⟨k1,k2,k3⟩:=hK;obtain⟨cs',v',w1,w2,w3⟩:=Ba hk hi hl;have hur:UR σ Z s.h.length u' v' :=by
      cases u' with
      |own g w xs=>cases u<;>simp[U.same]at hc1
      |bad=>cases u<;>simp[U.same]at hc1
      |dD w xs=>cases u<;>simp[U.same]at hc1
      |cA g a b=>cases u<;>simp[U.same]at hc1
      |xX a b c d=>cases u<;>simp[U.same]at hc1
      |_=>exact w3
     have hvv:=(k3 (C6 hc1)).same hur hc1;have:=k2 st';simp only at this hvv;rw[this,w1];simp only;rw[w2,hvv]
   rw[hev];exact⟨⟨rfl,ih1⟩,.cons hev hK ih2⟩
theorem RL.qcC{gb:List (Nat×Rk)}{recs:fH}{p:Nat}{r:Prop}{hid:List Nat}{st0:St}{σ0:Sg}{n0:Nat}(hk:Ok E σ Z ω s e st')(h:RL σ Z s.h.length st0 gb recs)(h0:RL σ0 Z' n0 st0 gb recs)(hc:pS s p gb=some hid)
  (hh:∀ j,j∈hid→j<n0→st'.get (σ0 j)=st0.get (σ0 j)) (hgo:r):recheck st' p recs r∧RL σ Z s.h.length st' (fM p gb) (de p recs):=by
 induction h generalizing hid with
 |nil=>exact⟨hgo,.nil⟩
 | @cons i k op env v gb recs h1 hK h ih=>
  cases h0 with
  |cons g1 g2 g3=>
  simp only[pS]at hc;simp only[recheck,fM,de,List.filter_cons];cases hb:Nat.testBit p i with
  |true=>
   rw[hb]at hc;simp only[Bool.true_or,cond_true]at hc;obtain⟨ih1,ih2⟩:=ih g3 hc hh;simp only[cond_true,Bool.not_true];exact⟨ih1,ih2⟩
  |false=>
   rw[hb]at hc;simp only[Bool.false_or]at hc;simp only[cond_false,Bool.not_false,if_true];cases hr:k.holds s with
   |true=>
    rw[hr]at hc;simp only[cond_true]at hc;obtain⟨ih1,ih2⟩:=ih g3 hc hh;have hone:=RL.check (gb:=[(i,k)]) (recs:=[(i,op,env,v)]) (p:=p) (r:=True) hk (.cons h1 hK .nil) (by simp only[p7,hb,hr];rfl) trivial;have hev:cX env st' op=some v:=by
     have h2:=hone.2;simp only[fM,de,List.filter_cons,List.filter_nil,hb,cond_false,Bool.not_false,if_true]at h2;cases h2 with
     |cons a b c=>exact a
    rw[hev];exact⟨⟨rfl,ih1⟩,.cons hev hK ih2⟩
   |false=>
    rw[hr]at hc;simp only[cond_false]at hc;split at hc<;>try (simp at hc;done)
    rename_i j q off u;split at hc<;>simp only[ay,reduceCtorEq]at hc;rename_i l hl;subst hc;obtain⟨ih1,ih2⟩:=ih g3 hl fun j hj=>hh j (ki _ hj);have hev:cX env st' op=some v:=by
     obtain⟨k1,k2,k3⟩:=g2;have e1:=k2 st';have e2:=k2 st0;simp only at e1 e2;have e3:st'.row (σ0 j)=st0.row (σ0 j):=by unfold St.row;rw[hh j k7 k1]
     rw[e1,e3,←e2];exact h1
    rw[hev];exact⟨⟨rfl,ih1⟩,.cons hev hK ih2⟩
theorem Ok.qgf(h:Ok E σ Z ω s e st)(j:Nat):Ok E σ Z ω {s with h:=s.h.set j .gone} e st:=by
 have hl:(s.h.set j .gone).length=s.h.length:=List.length_set;refine⟨fun t u hu=>by rw[hl];exact h.env t u hu,fun i o ho=> ?_,h.tL,h.pW,h.fresh,by rw[hl];exact h.inj,h.jA,by rw[hl];exact h.sw,by rw[hl];exact h.sz,h.wz,by rw[hl];exact h.sb,h.wr,by rw[hl];exact h.wc,by rw[hl];exact h.n0,h.sig,h.zz,h.nx,by rw[hl];exact h.out,fun i hi=> ?_⟩
 ·rw[hl];simp only at ho;rw[gZ]at ho;by_cases hj:j=i
  ·rw[if_pos hj]at ho;split at ho
   ·simp at ho;subst ho;trivial
   ·cases ho
  ·rw[if_neg hj]at ho;exact h.obj i o ho
 ·obtain⟨q1,q2,q3⟩:=h.gn i hi;refine⟨q1,?_,q3⟩;rw[gZ];split
  ·subst j;rw[if_pos (cz.1 q2).1]
  ·exact q2
theorem Hp:∀ (l:List Nat) (h:List Uo),(gm l h).length=h.length:=by
 intro l
 induction l with
 |nil=>intro h;rfl
 |cons j l ih=>intro h;simp only[gm,ih,List.length_set]
theorem Fo:∀ (l:List Nat) (h:List Uo) (i:Nat),h[i]? =some .gone→(gm l h)[i]? =some .gone:=by
 intro l
 induction l with
 |nil=>intro h i hi;exact hi
 |cons j l ih=>
  intro h i hi;refine ih _ i ?_;rw[gZ];split
  ·subst j;rw[if_pos (cz.1 hi).1]
  ·exact hi
theorem HS:∀ (l:List Nat) (h:List Uo) (i:Nat),i∈l→i<h.length→(gm l h)[i]? =some .gone:=by
 intro l
 induction l with
 |nil=>intro h i hi;cases hi
 |cons j l ih=>
  intro h i hi hlt;rcases eB.1 hi with rfl|hi
  ·refine Fo l _ i ?_;rw[gZ,if_pos rfl,if_pos hlt]
  ·exact ih _ i hi (by simpa using hlt)
theorem Ok.qcQ:∀ (l:List Nat) {s:Vs},Ok E σ Z ω s e st→Ok E σ Z ω {s with h:=gm l s.h} e st:=by
 intro l
 induction l with
 |nil=>intro s h;exact h
 |cons j l ih=>intro s h;exact ih (h.qgf j)
theorem Fl.qcQ:∀ (l:List Nat) {s:Vs},Fl s→Fl {s with h:=gm l s.h}:=by
 intro l
 induction l with
 |nil=>intro s h;exact h
 |cons j l ih=>intro s h;exact ih (h.set (i:=j) (o:=.gone) rfl s.e)
theorem xI(hF:Zt (ie C M) F){f:Nat}{args:List U}{vs:List V}{hid:List Nat}(h:Ok E σ Z ω s e st)(hF0:Fl s)
  (hl:args.length=vs.length) (ha:∀ (j:Nat) u v,args[j]? =some u→vs[j]? =some v→TR σ Z ω s.h.length u v) (hc:mT F f args s hid=true):
  ie C M f vs st fun v st' =>∀ j,j∈hid→j<s.h.length→st'.get (σ j)=st.get (σ j):=by
 unfold mT at hc;split at hc<;>try (simp at hc;done)
 rename_i us hus;obtain⟨Z1,ω1,b1,b2,b3,b4,b5⟩:=qH (args:=args) h;obtain⟨⟨r,h',fl'⟩,hcall⟩:=Option.isSome_iff_exists.1 hc;have hlu:LU σ Z1 s.h.length us vs:=yX b2 hus hl ha b5;have hs:(gm hid (bp args s).h).length=s.h.length:=by rw[Hp];exact b3
 have hsh:=(b1.qcQ hid).shared (bp args s).fl;refine tR ?_ (hF f us _ _ r h' fl' hcall σ Z1 (qL ω1) st vs hsh ((hF0.bp.qcQ hid).env []) (fun _=>rfl) (by rw[hs];exact hlu));rintro v st' ⟨k0,σ',Z',ω',k1,k2,k3⟩ j hj hlt;have hg:=k1.gn j (HS hid _ j hj (by rw[b3];exact hlt));have hsig:σ' j=σ j:=k1.sig j hg.1;rw[←hsig];refine hg.2.2.trans ?_;rw[hsig]
theorem HE(hF:Zt (ie C M) F){o:lH}{p:Nat}{gb:List (Nat×Rk)}{hid:List Nat}{t:Vs}(hh:pS t p gb=some hid)(h:gG M Q F s t o p gb=true)(hk:Ok E σ Z ω s e st)(hfl:Fl s):
  ∃ N,dw M (ct C M N) e st o.er fun v st' =>∀ j,j∈hid→j<s.h.length→st'.get (σ j)=st.get (σ j):=by
 unfold gG at h;rw[hh]at h;simp only at h;split at h<;>try (simp at h;done)
 ·rename_i f args;split at h<;>try (simp at h;done)
  rename_i g first captured vs hf ha
  split at h<;>try (simp at h;done)
  rename_i hq;obtain⟨vf,f1,f2⟩:=hk.cO hf;obtain⟨first',captured',rfl,l1,l2⟩:=TR.func f2;obtain⟨vs',a1,a2,a3⟩:=hk.nI ha;obtain⟨N,hN⟩:=xI hF hk hfl (vs:=first'++vs'++captured') (by simp[l1.1,l2.1,a2]) (by
   intro j u v hu hv;rw[ow]at hu hv;by_cases h1:j<first.length
   ·rw[gD h1]at hu;rw[gD (by rw[←l1.1];exact h1)]at hv;exact TR.bz (l1.2 j u v hu hv)
   ·rw[gf (by omega)]at hu;rw[gf (by rw[←l1.1];omega),←l1.1]at hv;by_cases h2:j - first.length<vs.length
    ·rw[gD h2]at hu;rw[gD (by omega)]at hv;exact a3 _ u v hu hv
    ·rw[gf (by omega)]at hu;rw[gf (by omega),←a2]at hv;exact TR.bz (l2.2 _ u v hu hv)) h
  exact⟨N,by simp only[lH.er,dw,f1,a1];exact hN⟩
 ·rename_i name x args;split at h<;>try (simp at h;done)
  rename_i t0 u0 vs hx ha;split at h<;>try (simp at h;done)
  rename_i f hm;obtain⟨vx,x1,x2⟩:=hk.cO hx;obtain⟨v',rfl,x3⟩:=TR.iface x2;obtain⟨vs',a1,a2,a3⟩:=hk.nI ha;obtain⟨N,hN⟩:=xI hF hk hfl (vs:=v' ::vs') (by simp[a2]) (fun j u v hu hv=>by
   cases j with
   |zero=>simp at hu hv;subst hu;subst hv;exact TR.bz x3
   |succ j=>exact a3 j u v (by simpa using hu) (by simpa using hv)) h
  exact⟨N,by simp only[lH.er,dw,x1,a1,hm];exact hN⟩
theorem Qk(o:ga):o.er.impure=o.impure:=by
 cases o with
 |len k x=>
  match k with
  |0=>rfl
  |1=>rfl
  |2=>rfl
  |k+3=>rfl
 |_=>rfl
theorem Dl{F F' :Nat→List V→St→(V→St→Prop)→Prop}(hF:Qq F F'){M:eA}:∀ {l:List Step} {env:PT V} {s:St} {recs:fH} {k k' :PT V→St→Prop},(∀ e s,k e s→k' e s)→lq M F l env s recs k→lq M F' l env s recs k' :=by
 intro l
 induction l with
 |nil=>intro env s recs k k' hk h;exact hk _ _ h
 |cons x r ih=>
  intro env s recs k k' hk h;cases x with
  |small i o=>
   simp only[lq]at h⊢;split at h
   ·split at h
    ·split at h
     ·exact ih hk h
     ·exact h.elim
    ·split at h
     ·exact ih hk h
     ·exact h.elim
    ·exact h.elim
   ·exact ih hk h
   ·exact h.elim
  |aW i o=>
   simp only[lq]at h⊢;split at h
   ·exact dh hF (fun v s h=>dQ (fun h=>ih hk h) h) h
   ·exact ih hk h
   ·exact h.elim
theorem ZO{d:Nat}{o:ga}{u:U}(h:fA d s o=some (u,s'))(hk:Ok E σ Z ω s e st){v:V}(hv:cX e st o.er=some v)(hu:TR σ Z ω s.h.length u v)(i:Nat):KR σ Z s.h.length (i,o.er,e,v) (tw s o u):=by
 cases o with
 |load n x=>
  simp only[tw];split
  ·rename_i j off hx;obtain⟨vx,x1,x2⟩:=hk.cO hx;obtain⟨hlt,rfl⟩:=TR.ptr x2;refine⟨hlt,fun st2=>by simp only[ga.er,cX,x1];cases st2.row (σ j)<;>rfl,fun hs=> ?_⟩;cases u with
   |own g w xs=>simp[U.same]at hs
   |bad=>simp[U.same]at hs
   |dD w xs=>simp[U.same]at hs
   |cA g a b=>simp[U.same]at hs
   |xX a b c d=>simp[U.same]at hs
   |_=>exact hu
  ·rename_i row off hx;obtain⟨vx,x1,x2⟩:=hk.cO hx;intro st2 hst2;simp only[ga.er,cX,x1]at hv⊢;cases x2 with
   |kn hz hr hv' =>
    simp only[eN (hk.tL _ _ hz)]at hv;simp only[eN (hst2 _ _ hz)];exact hv
   |kq hr hv' =>exact hv
  ·trivial
 |toStr x=>
  simp only[tw];split
  ·rename_i w xs hx;obtain⟨vx,x1,x2⟩:=hk.cO hx;intro st2 hst2;simp only[ga.er,cX,x1]at hv⊢;have hsc:∀ cs,bx st 1 vx=some cs→bx st2 1 vx=some cs:=by
    intro cs hcs;have x3:UR σ Z s.h.length (.sl w xs) vx:=x2;cases x3 with
    |slnil=>exact hcs
    |zW=>exact hcs
    |Cs hn hz hl hcap hr hv' =>
     simp only[bx,eN (hk.tL _ _ hz)]at hcs;simp only[bx,eN (hst2 _ _ hz)];exact hcs
    |Cn hn hl hr hv' =>exact hcs
   cases hq:bx st 1 vx with
   |none=>rw[hq]at hv;simp at hv
   |some cs=>rw[hq]at hv;rw[hsc cs hq];exact hv
  ·trivial
 |_=>exact trivial
theorem Fa(hF:Zt (ie C M) F)(hQ:QOK (ie C M) Q):∀ {l:List Step} {σ:Sg} {Z:Zs} {ω:Om} {s s' :Vs} {e:PT V} {st:St} {gb:List (Nat×Rk)} {recs:fH},b7 M Q F l s gb=some s'→Ok E σ Z ω s e st→Fl s→RL σ Z s.h.length st gb recs→
  ∃ N,lq M (ct C M N) (l.map Step.er) e st recs fun e' st' =>Cj E s' e' st' :=by
 intro l
 induction l with
 |nil=>
  intro σ Z ω s s' e st gb recs h hk hfl hr;simp only[b7,ay]at h;subst h;exact⟨0,hfl,σ,Z,ω,hk⟩
 |cons x r ih=>
  intro σ Z ω s s' e st gb recs h hk hfl hr;have hunit:Ok E σ Z ω {s with e:=jD (match x with| .small _ o=>o.dst| .aW _ o=>o.dst) (.aP []) s.e} (fB (match x with| .small _ o=>o.dst| .aW _ o=>o.dst) (.aP []) e) st:=hk.put (UR.aP rfl (fun j u v h=>by simp at h));cases x with
  |small i o=>
   simp only[b7]at h;cases hg:iJ o.guard s.e with
   |none=>rw[hg]at h;simp at h
   |some b=>
    rw[hg]at h;have hgr:bZ (aH.er o).guard e=some b:=AY hk hg;cases b with
    |false=>
     simp only at h;obtain⟨N,hN⟩:=ih h hunit (hfl.env _) hr;exact⟨N,by simp only[List.map_cons,Step.er,lq,hgr];exact hN⟩
    |true=>
     simp only at h;cases hc:lg M Q F s o.dst o.op with
     |none=>rw[hc]at h;simp at h
     |some p=>
      obtain⟨u,s1⟩:=p;rw[hc]at h;simp only at h;cases hop:o.op with
      |s so=>
       rw[hop]at hc h;simp only[lg]at hc;simp only at h;obtain⟨Z',ω',v,h1,h2,h3,h4,h5⟩:=Dw hc hk;have hr2:RL σ Z' s1.h.length st gb recs:=hr.mono (by omega) (fun _ _=>rfl) h5 (fun _ _ h=>h);have hrecs:RL σ Z' s1.h.length st (bif so.impure then(i,tw s so u)::gb else gb) (bif so.er.impure then(i,so.er,e,v)::recs else recs):=by
        rw[Qk];cases so.impure with
        |false=>exact hr2
        |true=>
         refine .cons h1 ?_ hr2
         -- what is read was told before
         have hkr:KR σ Z s.h.length (i,so.er,e,v) (tw s so u)∨True:=.inr trivial;cases so with
         |load n y=>
          simp only[fA]at hc;have hs1:s1=s:=by
           split at hc
           ·split at hc<;>try (simp at hc;done)
            split at hc<;>simp only[ay,aO,reduceCtorEq]at hc;exact hc.2.symm
           ·split at hc<;>simp only[ay,aO,reduceCtorEq]at hc;exact hc.2.symm
           ·split at hc<;>try (simp at hc;done)
            split at hc<;>try (simp at hc;done)
            split at hc<;>simp only[ay,aO,reduceCtorEq]at hc;exact hc.2.symm
           ·simp at hc
          subst hs1;simp only[tw];split
          ·rename_i j off hx;obtain⟨vx,x1,x2⟩:=h2.cO hx;obtain⟨hlt,rfl⟩:=TR.ptr x2;refine⟨hlt,fun st2=>by simp only[ga.er,cX,x1];cases st2.row (σ j)<;>rfl,fun hs=> ?_⟩;cases u with
           |own g w xs=>simp[U.same]at hs
           |bad=>simp[U.same]at hs
           |dD w xs=>simp[U.same]at hs
           |cA g a b=>simp[U.same]at hs
           |xX a b c d=>simp[U.same]at hs
           |_=>exact h3
          ·rename_i row off hx;obtain⟨vx,x1,x2⟩:=h2.cO hx;intro st2 hst2;simp only[ga.er,cX,x1]at h1⊢;cases x2 with
           |kn hz hr' hv' =>
            simp only[eN (h2.tL _ _ hz)]at h1;simp only[eN (hst2 _ _ hz)];exact h1
           |kq hr' hv' =>exact h1
          ·trivial
         |toStr y=>
          have hs1:s1=s:=by
           simp only[fA]at hc;split at hc<;>try (simp at hc;done)
           split at hc<;>try (simp at hc;done)
           split at hc<;>simp only[ay,aO,reduceCtorEq]at hc;exact hc.2.symm
          subst hs1;exact ZO hc h2 h1 h3 i
         |_=>trivial
       obtain⟨N,hN⟩:=ih h (h2.put h3) ((Ri hc hfl).env _) hrecs;refine⟨N,?_⟩;have hoe:(aH.er o).op=.s so.er:=by simp[aH.er,hop,lH.er]
       simp only[List.map_cons,Step.er,lq,hgr,hoe,h1];exact hN
      |m mo=>
       rw[hop]at hc h;simp only[lg]at hc;simp only at h;obtain⟨σ',Z',ω',ob,f,h1,h2,h3,h4,h5,h6⟩:=CQ hc hk;obtain⟨N,hN⟩:=ih h (h2.put h3) ((RA hc hk hfl).env _) (hr.mono h4 h5 h6 fun b x hb=>by rw[St.dG,if_neg (by have:=hk.lt_next hb;omega)];exact hb);refine⟨N,?_⟩;have hoe:(aH.er o).op=.m mo.er:=by simp[aH.er,hop,lH.er]
       simp only[List.map_cons,Step.er,lq,hgr,hoe,h1];exact hN
      |_=>rw[hop]at h;simp at h
  |aW i o=>
   simp only[b7]at h;cases hg:iJ o.guard s.e with
   |none=>rw[hg]at h;simp at h
   |some b=>
    rw[hg]at h;have hgr:bZ (aH.er o).guard e=some b:=AY hk hg;cases b with
    |false=>
     simp only at h;obtain⟨N,hN⟩:=ih h hunit (hfl.env _) hr;exact⟨N,by simp only[List.map_cons,Step.er,lq,hgr];exact hN⟩
    |true=>
     simp only at h;cases hc:lg M Q F s o.dst o.op with
     |none=>rw[hc]at h;simp at h
     |some p=>
      obtain⟨u,s1⟩:=p;rw[hc]at h;simp only at h;cases hb:(gH Q s o.op||p7 s1 o.aS gb||gG M Q F s s1 o.op o.aS gb)with
      |false=>rw[hb]at h;simp at h
      |true=>
       rw[hb]at h;simp only[cond_true]at h;obtain⟨N0,hN0⟩:=CZ hF hQ hc hk hfl
       -- what lies where it does not come to
       have hfr:∃ N1,dw M (ct C M N1) e st o.op.er fun v st' =>∀ hid,(gH Q s o.op||p7 s1 o.aS gb)=false→pS s1 o.aS gb=some hid→∀ j,j∈hid→j<s.h.length→st'.get (σ j)=st.get (σ j):=by
        cases hq:(gH Q s o.op||p7 s1 o.aS gb)with
        |true=>exact⟨N0,dh (cc (aM _)) (fun v st' _ hid hh=>by cases hh) hN0⟩
        |false=>
         rw[hq,Bool.false_or]at hb;cases hh:pS s1 o.aS gb with
         |none=>exact⟨N0,dh (cc (aM _)) (fun v st' _ hid _ hh=>by cases hh) hN0⟩
         |some hid=>
          obtain⟨N1,hN1⟩:=HE hF hh hb hk hfl;exact⟨N1,dh (cc (aM _)) (fun v st' h hid' _ hh=>by cases hh;exact h) hN1⟩
       obtain⟨N1,hN1⟩:=hfr;have hN:=BB (O2 (C:=C) (M:=M) (n:=max N0 N1)) (dh (cc (oE N0 N1)) (fun _ _ h=>h) hN0) (dh (cc (Nat.le_max_right N0 N1)) (fun _ _ h=>h) hN1);generalize max N0 N1=N at hN;have h2:dw M (ct C M N) e st o.op.er fun v st' =>∃ m,recheck st' o.aS recs (lq M (ct C M m) (r.map Step.er) (fB o.dst v e) st' (de o.aS recs) fun e' st' =>Cj E s' e' st'):=by
        refine dh (cc (aM N)) (fun v st' hv=> ?_) hN;obtain⟨⟨k0,σ',Z',ω',k1,k2,k3,k4,k5,k6⟩,hid0⟩:=hv;refine uz (K:=fun m=>lq M (ct C M m) (r.map Step.er) (fB o.dst v e) st' (de o.aS recs) fun e' st' =>Cj E s' e' st') ?_;have hr1:RL σ' Z' s1.h.length st gb recs:=hr.mono k3 k4 k5 (fun _ _ h=>h);have fin:∀ {st2:St},RL σ' Z' s1.h.length st' (fM o.aS gb) (de o.aS recs)→∃ m,lq M (ct C M m) (r.map Step.er) (fB o.dst v e) st' (de o.aS recs) fun e' st' =>Cj E s' e' st' :=fun hrl=>ih h (k1.put k2) (k0.env _) hrl;cases hq:gH Q s o.op with
        |true=>
         have hr2:RL σ' Z' s1.h.length st' gb recs:=hr.mono k3 k4 k5 (fun b x hbx=>by rw[k6 hq b (hk.lt_next hbx)];exact hbx);have hst:=hr2.stay (p:=o.aS) trivial;exact dQ (fun _=>fin (st2:=st') hst.2) hst.1
        |false=>
         cases hro:p7 s1 o.aS gb with
         |true=>
          have hst:=RL.check k1 hr1 hro trivial;exact dQ (fun _=>fin (st2:=st') hst.2) hst.1
         |false=>
          cases hh:pS s1 o.aS gb with
          |none=>
           rw[hq,hro]at hb;simp[gG,hh]at hb
          |some hid=>
           have hst:=RL.qcC k1 hr1 hr hh (hid0 hid (by rw[hq,hro];rfl) hh) trivial;exact dQ (fun _=>fin (st2:=st') hst.2) hst.1
       obtain⟨m,_,hm⟩:=uj (K:=fun m v st' =>recheck st' o.aS recs (lq M (ct C M m) (r.map Step.er) (fB o.dst v e) st' (de o.aS recs) fun e' st' =>Cj E s' e' st')) (fun a b hab=>cc hab) (fun f args s K hK h=>tK hK h)
        (fun a b v s hab h=>dQ (fun h=>Dl (cc hab) (fun _ _ h=>h) h) h) h2
       exact⟨m,by simp only[List.map_cons,Step.er,lq,hgr];exact hm⟩
theorem Ic(hF:Zt (ie C M) F)(hQ:QOK (ie C M) Q){ops:List aH}{l:List Step}(hl:sched (ops.length+1) (aC ops 0) 0=some l)(h:b7 M Q F l s []=some s')(hk:Ok E σ Z ω s e st)(hfl:Fl s):
  ∃ N,fR C M N (.draw (fG ops)) e st fun ex e' st' =>ex=.normal∧Cj E s' e' st' :=by
 obtain⟨N,hN⟩:=Fa hF hQ h hk hfl .nil;refine⟨N+1,Qh (steps:=l.map Step.er) ?_ (Dl (cc (aM _)) (fun _ _ h=>⟨rfl,h⟩) hN)⟩;have:=W9 hl;rw[Gs,GG];exact this
end
end Go.RE
