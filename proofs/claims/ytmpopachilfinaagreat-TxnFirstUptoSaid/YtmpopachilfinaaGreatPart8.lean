/- Memory that is made and written, on both sides. -/
import Derived.Test.YtmpopachilfinaaGreatPart7
set_option linter.unusedVariables false
set_option linter.unusedSimpArgs false
set_option linter.constructorNameAsVariable false
namespace Go.RE
section
variable{E:qe}{σ:Sg}{Z:Zs}{ω:Om}{s s' :Vs}{e:PT V}{st:St}{n:Nat}
theorem Ok.lt_next(h:Ok E σ Z ω s e st){b:Nat}{o:Ob}(hb:st.get b=some o):b<st.next:=by
 refine Nat.lt_of_not_le fun hle=> ?_;rw[h.fresh b hle]at hb;cases hb
theorem Ok.AX(h:Ok E σ Z ω s e st){b:Nat}{r:List V}(hb:st.row b=some r):b<st.next:=let⟨o,ho⟩:=QJ hb;h.lt_next ho
theorem Ok.mem(h:Ok E σ Z ω s e st){st' :St}(hn:st.next≤st'.next)(hf:∀ b,st'.next≤b→st'.get b=none)
  (hg:∀ b,((∃ i,i<s.h.length∧σ i=b)∨(∃ r,Z b=some r)∨(∃ g I,ω g=some I∧I.b=b)∨(b<E.st.next∧¬E.I b))→st'.get b=st.get b):Ok E σ Z ω s e st' :=by
 refine⟨h.env,fun i o ho=> ?_,fun b r hb=> ?_,fun g I hI=> ?_,hf,h.inj,h.gJ,h.sw,h.sz,h.wz,fun i hi=>mb (h.sb i hi) hn,h.zT,h.wc,h.n0,h.sig,h.zz,Nat.le_trans h.nx hn,fun b hb hbI=> ?_,⟨fun i hi=> ?_,h.wC.2.mem fun i hi=>hg _ (.inl ⟨i,hi,rfl⟩)⟩⟩
 ·rw[hg _ (.inl ⟨i,(bn.1 ho).1,rfl⟩)];exact h.obj i o ho
 ·rw[wL (hg b (.inr (.inl ⟨r,hb⟩)))];exact h.qm b r hb
 ·rw[hg _ (.inr (.inr (.inl ⟨g,I,hI,rfl⟩)))];exact h.lE g I hI
 ·obtain⟨k1,k2,k3,k4⟩:=h.out b hb hbI;exact⟨by rw[hg b (.inr (.inr (.inr ⟨hb,hbI⟩))),k1],k2,k3,k4⟩
 ·obtain⟨k1,k2,k3⟩:=h.gn i hi;exact⟨k1,k2,by rw[hg _ (.inl ⟨i,(bn.1 k2).1,rfl⟩)];exact k3⟩
theorem Ok.zc(h:Ok E σ Z ω s e st){b:Nat}(hb:(∃ i,i<s.h.length∧σ i=b)∨(∃ r,Z b=some r)∨(∃ g I,ω g=some I∧I.b=b)∨(b<E.st.next∧¬E.I b)):b<st.next:=by
 rcases hb with⟨i,hi,rfl⟩|⟨r,hr⟩|⟨g,I,hI,rfl⟩|⟨hb,_⟩
 ·exact h.sb i hi
 ·exact h.AX (h.qm b r hr)
 ·exact h.lt_next (h.lE g I hI)
 ·exact mb hb h.nx
theorem Ok.alloc(h:Ok E σ Z ω s e st)(o:Ob):Ok E σ Z ω s e (st.alloc o):=by
 refine h.mem (by simp) (fun b hb=> ?_) fun b hb=> ?_
 ·rw[St.dL,if_neg (by simp at hb;omega)];exact h.fresh b (by simp at hb;omega)
 ·have:=h.zc hb;rw[St.dL,if_neg (by omega)]
theorem Ok.EE(h:Ok E σ Z ω s e st){b:Nat}(hb:b<st.next)(h1:∀ i,i<s.h.length→σ i≠b)(h2:Z b=none)(h3:∀ g I,ω g=some I→I.b≠b)(h4:b<E.st.next→E.I b)(o:Ob):Ok E σ Z ω s e (st.put b o):=by
 refine h.mem (by simp) (fun c hc=> ?_) fun c hc=> ?_
 ·have:(st.put b o).next=st.next:=rfl
  rw[this]at hc;rw[St.dX,if_neg (by omega)];exact h.fresh c hc
 ·rw[St.dX,if_neg];rintro rfl;rcases hc with⟨i,hi,hq⟩|⟨r,hr⟩|⟨g,I,hI,hq⟩|⟨hc,hq⟩
  ·exact h1 i hi hq
  ·rw[h2]at hr;cases hr
  ·exact h3 g I hI hq
  ·exact hq (h4 hc)
theorem Ok.mV(h:Ok E σ Z ω s e st){o:Uo}{ob:Ob}(ho:OB (dN σ s.h.length st.next) Z ω (s.h.length+1) s.h.length o (some ob))
  (hno:∀ cs (off:Nat),o=.row cs→cs[off]?≠some .cZ:=by intro _ _ h;cases h):
  Ok E (dN σ s.h.length st.next) Z ω {s with h:=s.h++[o]} e (st.alloc ob)∧∀ i,i<s.h.length→dN σ s.h.length st.next i=σ i:=by
 have ha:=h.alloc ob;have hσ:∀ i,i<s.h.length→dN σ s.h.length st.next i=σ i:=fun i hi=>cV _ _ (by omega)
 have hσn:dN σ s.h.length st.next s.h.length=st.next:=bl _ _ _
 have hlen:(s.h++[o]).length=s.h.length+1:=by simp
 have hcase:∀ i,i<s.h.length+1→i<s.h.length∨i=s.h.length:=fun i hi=>by omega
 have hzn:Z st.next=none:=by
  cases hz:Z st.next with
  |none=>rfl
  |some r=>have:=h.AX (h.qm _ _ hz);omega
 have hwn:∀ g I,ω g=some I→I.b≠st.next:=fun g I hI hh=>by have:=h.lt_next (h.lE g I hI);omega
 refine⟨⟨fun t u hu=> ?_,fun i x hx=> ?_,ha.qm,ha.lE,ha.fresh,fun i j hi hj hij=> ?_,h.gJ,fun i g I hi hI=> ?_,fun i hi=> ?_,h.wz,fun i hi=> ?_,h.zT,fun i off I hI=> ?_,?_,fun i hi=> ?_,h.zz,ha.nx,fun b hb hbI=> ?_,⟨fun i hi=> ?_,?_⟩⟩,hσ⟩
 ·obtain⟨v,h1,h2⟩:=h.env t u hu;exact⟨v,h1,h2.mono (by simp) hσ (fun _ _ h=>h) (fun _ _=>rfl)⟩
 ·simp only[hlen];rcases Nat.lt_or_ge i s.h.length with hi|hi
  ·simp only[cz hi]at hx;rw[hσ i hi,St.dL,if_neg (by have:=h.sb i hi;omega)];exact(h.obj i x hx).mono (by omega) hσ (fun _ _ h=>h) (fun _=>rfl)
  ·simp only[fh hi]at hx;have:i=s.h.length:=by
    have:=(bn.1 hx).1;simp at this;omega
   subst this;simp at hx;subst hx;rw[hσn,St.dL,if_pos rfl];exact ho
 ·simp only[hlen]at hi hj;rcases hcase i hi with hi' |rfl<;>rcases hcase j hj with hj' |rfl
  ·rw[hσ i hi',hσ j hj']at hij;exact h.inj i j hi' hj' hij
  ·rw[hσ i hi',hσn]at hij;have:=h.sb i hi';omega
  ·rw[hσ j hj',hσn]at hij;have:=h.sb j hj';omega
  ·rfl
 ·simp only[hlen]at hi;rcases hcase i hi with hi' |rfl
  ·rw[hσ i hi'];exact h.sw i g I hi' hI
  ·rw[hσn];exact fun hh=>hwn g I hI hh.symm
 ·simp only[hlen]at hi;rcases hcase i hi with hi' |rfl
  ·rw[hσ i hi'];exact h.sz i hi'
  ·rw[hσn];exact hzn
 ·simp only[hlen]at hi;rcases hcase i hi with hi' |rfl
  ·rw[hσ i hi'];have:=h.sb i hi';simp;omega
  ·rw[hσn];simp
 ·simp only[hlen];have:=h.wc i off I hI;omega
 ·simp only[hlen];have:=h.n0;omega
 ·rw[hσ i (by have:=h.n0;omega)];exact h.sig i hi
 ·obtain⟨k1,k2,k3,k4⟩:=ha.out b hb hbI;refine⟨k1,fun i hi=> ?_,k3,k4⟩;simp only[hlen]at hi;rcases hcase i hi with hi' |rfl
  ·rw[hσ i hi'];exact k2 i hi'
  ·rw[hσn];have:=h.nx;omega
 ·obtain⟨k1,k2,k3⟩:=ha.gn i hi;have hlt:=(bn.1 k2).1;exact⟨k1,by simp only[cz hlt];exact k2,by rw[hσ i hlt];exact k3⟩
 ·intro i off cs h1 h2;rcases Nat.lt_or_ge i s.h.length with hi|hi
  ·rw[cz hi]at h1;rw[hσ i hi];exact ha.wC.2 i off cs h1 h2
  ·rw[fh hi]at h1;have:i=s.h.length:=by
    have:=(bn.1 h1).1;simp at this;omega
   subst this;simp at h1;exact absurd h2 (hno cs off h1)
theorem Ok.DA(h:Ok E σ Z ω s e st){i:Nat}{o:Uo}{ob:Ob}(hi:i<s.h.length)(hng:s.h[i]?≠some .gone)(ho:OB σ Z ω s.h.length i o (some ob))
  (hln:∀ cs (off:Nat),o=.row cs→cs[off]? =some .cZ→∃ ds r r2,s.h[i]? =some (.row ds)∧ds[off]? =some .cZ∧st.get (σ i)=some (.row r)∧ob=.row r2∧r2[off]? =r[off]? :=by intro _ _ h;cases h):Ok E σ Z ω {s with h:=s.h.set i o} e (st.put (σ i) ob):=by
 have hl:(s.h.set i o).length=s.h.length:=List.length_set;have hsb:=h.sb i hi;have hne:∀ b,b≠σ i→(st.put (σ i) ob).get b=st.get b:=fun b hb=>by rw[St.dX,if_neg hb]
 have hgn:∀ j,E.G j→j<E.n∧(s.h.set i o)[j]? =some .gone∧(st.put (σ i) ob).get (σ j)=E.st.get (E.σ j):=fun j hj=>by
  obtain⟨q1,q2,q3⟩:=h.gn j hj;have hij:i≠j:=by rintro rfl;exact hng q2
  exact⟨q1,by rw[eN,if_neg hij];exact q2,by rw[hne _ (fun hh=>hij (h.inj _ _ (bn.1 q2).1 hi hh).symm)];exact q3⟩
 refine⟨fun t u hu=>by rw[hl];exact h.env t u hu,fun j x hx=> ?_,fun b r hb=> ?_,fun g I hI=> ?_,fun b hb=> ?_,by rw[hl];exact h.inj,h.gJ,by rw[hl];exact h.sw,by rw[hl];exact h.sz,h.wz,by rw[hl];exact h.sb,h.zT,by rw[hl];exact h.wc,by rw[hl];exact h.n0,h.sig,h.zz,h.nx,fun b hb hbI=> ?_,hgn,?_⟩
 rotate_right
 ·intro j off cs h1 h2;simp only at h1;rw[eN]at h1;by_cases hj:i=j
  ·subst hj;rw[if_pos rfl,if_pos hi]at h1;simp at h1;subst h1;obtain⟨ds,r,r2,q1,q2,q3,rfl,q5⟩:=hln cs off rfl h2;obtain⟨k1,a,b,k2,k3,k4⟩:=h.wC.2 i off ds q1 q2;rw[q3]at k2;simp at k2;subst k2;exact⟨k1,r2,b,by rw[St.dX,if_pos rfl],k3,by rw[q5,k4]⟩
  ·rw[if_neg hj]at h1;have hj' :=(bn.1 h1).1;rw[hne _ (fun hh=>hj (h.inj _ _ hj' hi hh).symm)];exact h.wC.2 j off cs h1 h2
 ·rw[hl];rw[eN]at hx;by_cases hj:i=j
  ·subst hj;rw[if_pos rfl,if_pos hi]at hx;simp at hx;subst hx;rw[St.dX,if_pos rfl];exact ho
  ·rw[if_neg hj]at hx;have hj' :=(bn.1 hx).1;rw[hne _ (fun hh=>hj (h.inj _ _ hj' hi hh).symm)];exact h.obj j x hx
 ·rw[wL (hne b (fun hh=>by rw[hh,h.sz i hi]at hb;cases hb))];exact h.qm b r hb
 ·rw[hne _ (fun hh=>h.sw i g I hi hI hh.symm)];exact h.lE g I hI
 ·have:(st.put (σ i) ob).next=st.next:=rfl
  rw[this]at hb;rw[hne b (by omega)];exact h.fresh b hb
 ·rw[hl];obtain⟨k1,k2,k3,k4⟩:=h.out b hb hbI;exact⟨by rw[hne b (fun hh=>k2 i hi hh.symm),k1],k2,k3,k4⟩
theorem Ok.Yc(h:Ok E σ Z ω s e st){i:Nat}{o:Uo}(hi:i<s.h.length)(hng:s.h[i]?≠some .gone)(ho:OB σ Z ω s.h.length i o (st.get (σ i)))
  (hln:∀ (off:Nat) cs,o=.row cs→cs[off]? =some .cZ→∃ ds,s.h[i]? =some (.row ds)∧ds[off]? =some .cZ:=by intro _ _ h;cases h):Ok E σ Z ω {s with h:=s.h.set i o} e st:=by
 have hl:(s.h.set i o).length=s.h.length:=List.length_set;have hgn:∀ j,E.G j→j<E.n∧(s.h.set i o)[j]? =some .gone∧st.get (σ j)=E.st.get (E.σ j):=fun j hj=>by
  obtain⟨q1,q2,q3⟩:=h.gn j hj;have hij:i≠j:=by rintro rfl;exact hng q2
  exact⟨q1,by rw[eN,if_neg hij];exact q2,q3⟩
 refine⟨fun t u hu=>by rw[hl];exact h.env t u hu,fun j x hx=> ?_,h.qm,h.lE,h.fresh,by rw[hl];exact h.inj,h.gJ,by rw[hl];exact h.sw,by rw[hl];exact h.sz,h.wz,by rw[hl];exact h.sb,h.zT,by rw[hl];exact h.wc,by rw[hl];exact h.n0,h.sig,h.zz,h.nx,by rw[hl];exact h.out,hgn,h.wC.2.set hln⟩;rw[hl];rw[eN]at hx;by_cases hj:i=j
 ·subst hj;rw[if_pos rfl,if_pos hi]at hx;simp at hx;subst hx;exact ho
 ·rw[if_neg hj]at hx;exact h.obj j x hx
theorem Ok.iG(h:Ok E σ Z ω s e st){g g2:Tg}(hn:ow g2 s)(hg:∀ i off,g≠.c i off)(hg2:g2≠.r)(hc:∀ i off,g2=.c i off→i<s.h.length)(hga:g≠.a)(hg2a:g2≠.a:=by simp):
  Ok E σ Z (dN (dN ω g none) g2 (ω g)) {s with e:=Env.iG g g2 s.e} e st∧∀ w xs v,OR σ Z ω g w xs v→OR σ Z (dN (dN ω g none) g2 (ω g)) g2 w xs v:=by
 have hor:∀ w xs v,OR σ Z ω g w xs v→OR σ Z (dN (dN ω g none) g2 (ω g)) g2 w xs v:=fun w xs v hv=>by
  unfold OR at hv⊢;rw[bl];exact hv
 by_cases hgg:g=g2
 ·-- nothing turns
  subst hgg;have e1:dN (dN ω g none) g (ω g)=ω:=by
   funext x;by_cases hx:x=g
   ·subst hx;rw[bl]
   ·rw[cV _ _ hx,cV _ _ hx]
  rw[e1];refine⟨h.setEnv fun t u hu=> ?_,by rw[e1]at hor;exact hor⟩;rw[AT]at hu;cases hl:look s.e t with
  |none=>rw[hl]at hu;simp at hu
  |some x=>
   rw[hl]at hu;simp at hu;obtain⟨v,h1,h2⟩:=h.env t x hl;refine⟨v,h1,?_⟩;have:u=x:=by
    rw[←hu];cases x<;>simp[U.iG]
    all_goals (intro hh;exact hh.symm)
   rw[this];exact h2
 have hcase:∀ x I,dN (dN ω g none) g2 (ω g) x=some I→(x=g2∧ω g=some I)∨(x≠g2∧x≠g∧ω x=some I):=fun x I hI=>by
  by_cases hx:x=g2
  ·subst hx;rw[bl]at hI;exact .inl ⟨rfl,hI⟩
  ·rw[cV _ _ hx]at hI;by_cases hx2:x=g
   ·subst hx2;rw[bl]at hI;cases hI
   ·rw[cV _ _ hx2]at hI;exact .inr ⟨hx,hx2,hI⟩
 have hoth:∀ x,x≠g2→x≠g→dN (dN ω g none) g2 (ω g) x=ω x:=fun x h1 h2=>by rw[cV _ _ h1,cV _ _ h2]
 have hsame:dN (dN ω g none) g2 (ω g) g2=ω g:=bl _ _ _;refine⟨⟨fun t u hu=> ?_,fun i o ho=> ?_,h.qm,fun x I hI=> ?_,h.fresh,h.inj,fun x y I J hI hJ hb=> ?_,fun i x I hi hI=> ?_,h.sz,fun x I hI=> ?_,h.sb,?_,fun i off I hI=> ?_,h.n0,h.sig,h.zz,h.nx,fun b hb hbI=> ?_,h.wC⟩,hor⟩
 ·rw[AT]at hu;cases hl:look s.e t with
  |none=>rw[hl]at hu;simp at hu
  |some x=>
   rw[hl]at hu;simp at hu;obtain⟨v,h1,h2⟩:=h.env t x hl;have hnt:=hn.1 t x hl;refine⟨v,h1,?_⟩;subst hu;cases x with
   |own g' w xs=>
    simp only[U.iG];by_cases hq:g' =g
    ·subst hq;rw[if_pos rfl];exact⟨hor _ _ _ h2.1,hc⟩
    ·rw[if_neg hq];exact h2.mono (aq _) (fun _ _=>rfl) (fun _ _ h=>h) fun g3 h3=>by simp[U.tag]at h3;subst h3;exact hoth _ (fun hh=>hnt (by simp[U.tag,hh])) hq
   |bD g' i f=>
    simp only[U.iG];by_cases hq:g' =g
    ·subst hq;rw[if_pos rfl];obtain⟨⟨I,k1,k2⟩,_⟩:=h2;exact⟨⟨I,by rw[hsame];exact k1,k2⟩,hc⟩
    ·rw[if_neg hq];exact h2.mono (aq _) (fun _ _=>rfl) (fun _ _ h=>h) fun g3 h3=>by simp[U.tag]at h3;subst h3;exact hoth _ (fun hh=>hnt (by simp[U.tag,hh])) hq
   |view g' lo len w=>
    simp only[U.iG];by_cases hq:g' =g
    ·subst hq;rw[if_pos rfl];exact⟨by have h2:=h2.1;unfold VW at h2⊢;rw[hsame];exact h2,hc⟩
    ·rw[if_neg hq];exact h2.mono (aq _) (fun _ _=>rfl) (fun _ _ h=>h) fun g3 h3=>by simp[U.tag]at h3;subst h3;exact hoth _ (fun hh=>hnt (by simp[U.tag,hh])) hq
   |_=>exact h2.mono (aq _) (fun _ _=>rfl) (fun _ _ h=>h) fun g3 h3=>by simp[U.tag,U.iG]at h3
 ·have h1:=h.obj i o ho;cases o with
  |row cs=>
   obtain⟨cs',q1,q2,q3⟩:=h1;refine⟨cs',q1,q2,fun off u v hu hv=> ?_⟩;have h2:=q3 off u v hu hv;cases u with
   |bF w xs=>
    refine OR.mono (fun _ _ h=>h) (hoth _ (fun hh=> ?_) (fun hh=>hg i off hh.symm)) h2;exact hn.2 i off hh.symm cs w xs ho hu
   |bad=>trivial
   |cZ=>trivial
   |_=>exact h2
  |map es c=>exact h1
  |iter q a b c=>exact h1
  |gone=>trivial
 ·rcases hcase x I hI with⟨_,hh⟩|⟨_,_,hh⟩<;>exact h.lE _ I hh
 ·rcases hcase x I hI with⟨e1,k1⟩|⟨e1,e1',k1⟩<;>rcases hcase y J hJ with⟨e2,k2⟩|⟨e2,e2',k2⟩
  ·rw[e1,e2]
  ·exact absurd (h.gJ _ _ _ _ k1 k2 hb).symm e2'
  ·exact absurd (h.gJ _ _ _ _ k1 k2 hb) e1'
  ·exact h.gJ _ _ _ _ k1 k2 hb
 ·rcases hcase x I hI with⟨_,hh⟩|⟨_,_,hh⟩<;>exact h.sw i _ I hi hh
 ·rcases hcase x I hI with⟨_,hh⟩|⟨_,_,hh⟩<;>exact h.wz _ I hh
 ·refine⟨?_,h.zT.2.up (hoth _ (Ne.symm hg2a) (Ne.symm hga))⟩;by_cases hr:Tg.r=g
  ·subst hr;rw[cV _ _ (Ne.symm hg2),bl]
  ·rw[hoth _ (Ne.symm hg2) hr];exact h.wr
 ·rcases hcase _ I hI with⟨e1,hh⟩|⟨_,_,hh⟩
  ·exact hc i off e1.symm
  ·exact h.wc i off I hh
 ·obtain⟨k1,k2,k3,k4⟩:=h.out b hb hbI;refine⟨k1,k2,fun x I hI=> ?_,k4⟩;rcases hcase x I hI with⟨_,hh⟩|⟨_,_,hh⟩<;>exact k3 _ I hh
theorem Ok.Ev(h:Ok E σ Z ω s e st){d w cap:Nat}{ex:Bool}{xs:List (List U)}{row:List V}(hl:xs.length≤cap)(hc:cap*w≤row.length)(hw:∀ r∈xs,r.length=w)(hx:LU σ Z 0 xs.flatten (row.take (xs.length*w))):
  ∃ ω',Ok E σ Z ω' (s.kill (.t d)) e (st.alloc (.row row))∧OR σ Z ω' (.t d) w xs (.slice st.next 0 xs.length cap w ex):=by
 have ha:=(h.kill (.t d)).alloc (.row row);have hzn:Z st.next=none:=by
  cases hz:Z st.next with
  |none=>rfl
  |some r=>have:=h.AX (h.qm _ _ hz);omega
 refine⟨_,ha.Be (eZ _ _) (by simp) (o:=some ⟨st.next,0,cap,ex,w,row,xs⟩) fun J hJ=> ?_,?_⟩
 ·cases hJ;refine⟨by rw[St.dL,if_pos rfl],fun i hi=> ?_,hzn,fun g' I' _ hI' hb=> ?_,fun b hb _ hh=> ?_,fun i off hh=>by cases hh⟩
  ·have:=h.sb i (by rw[cW]at hi;exact hi);show σ i≠st.next
   omega
  ·have:=h.lt_next (h.lE g' I' hI');have hb' :I'.b=st.next:=hb
   omega
  ·have:=h.nx;have hh' :st.next=b:=hh
   omega
 ·unfold OR;rw[bl];exact⟨rfl,⟨rfl,rfl⟩,hl,by simpa using hc,hw,by simpa using hx⟩
theorem Ok.qhs(h:Ok E σ Z ω s e st)(row:List V):Ok E σ (dN Z st.next (some row)) ω s e (st.alloc (.uK row))∧∀ b r,Z b=some r→dN Z st.next (some row) b=some r:=by
 have ha:=h.alloc (.uK row);have hzn:Z st.next=none:=by
  cases hz:Z st.next with
  |none=>rfl
  |some r=>have:=h.AX (h.qm _ _ hz);omega
 have hZ:∀ b r,Z b=some r→dN Z st.next (some row) b=some r:=fun b r hb=>by
  by_cases hbb:b=st.next
  ·subst hbb;rw[hzn]at hb;cases hb
  ·rw[cV _ _ hbb];exact hb
 have hne:∀ b,b≠st.next→dN Z st.next (some row) b=Z b:=fun b hb=>cV _ _ hb
 refine⟨⟨fun t u hu=> ?_,fun i o ho=>(ha.obj i o ho).mono (aq _) (fun _ _=>rfl) hZ (fun _=>rfl),fun b r hb=> ?_,ha.lE,ha.fresh,ha.inj,ha.gJ,ha.sw,fun i hi=> ?_,fun g I hI=> ?_,ha.sb,ha.zT,ha.wc,ha.n0,ha.sig,fun b r hb=>hZ b r (h.zz b r hb),ha.nx,fun b hb hbI=> ?_,ha.wC⟩,hZ⟩
 ·obtain⟨v,h1,h2⟩:=ha.env t u hu;exact⟨v,h1,h2.mono (aq _) (fun _ _=>rfl) hZ fun _ _=>rfl⟩
 ·by_cases hbb:b=st.next
  ·subst hbb;rw[bl]at hb;simp only[ai]at hb;subst hb;unfold St.row;rw[St.dL,if_pos rfl]
  ·rw[hne b hbb]at hb;exact ha.qm b r hb
 ·rw[hne _ (by have:=h.sb i hi;omega)];exact h.sz i hi
 ·rw[hne _ (by have:=h.lt_next (h.lE g I hI);omega)];exact h.wz g I hI
 ·obtain⟨o1,o2,o3,o4⟩:=ha.out b hb hbI;refine⟨o1,o2,o3,fun r hr=> ?_⟩;rw[hne _ (by have:=h.nx;omega)]at hr;exact o4 r hr
end
end Go.RE
namespace Go.RE
section
variable{E:qe}{σ:Sg}{Z:Zs}{ω:Om}{s s' :Vs}{e:PT V}{st:St}{n:Nat}
theorem XC{i:Nat}(hω:∀ off,ω (.c i off)=none):∀ {zs:List V},(V.dc zs).all (fun u=>u.aH||u.oc)=true→(V.dc zs).length=(V.yL zs).length∧
  ∀ (off:Nat) u v,(V.dc zs)[off]? =some u→(V.yL zs)[off]? =some v→∀ k,CR σ Z ω n i (k+off) u v:=by
 intro zs
 induction zs with
 |nil=>intro _;exact⟨rfl,fun off u v h=>by simp[V.dc]at h⟩
 |cons z zs ih=>
  intro h;simp only[V.dc,List.all_cons,bC]at h;obtain⟨h1,h2⟩:=ih h.2;refine⟨by simp[V.dc,V.yL,h1],fun off u v hu hv k=> ?_⟩;cases off with
  |zero=>
   simp[V.dc]at hu;simp[V.yL]at hv;subst hu;subst hv;have hh:=h.1;cases hq:z.mq with
   |bF w xs=>
    cases z with
    |ag r o l zz=>
     match r,o,l with
     |[],0,0=>simp[V.mq]at hq
     |[],1,0=>simp[V.mq]at hq
     |[],2,0=>
      simp[V.mq]at hq;obtain⟨rfl,rfl⟩:=hq;show OR σ Z ω _ _ _ _;unfold OR;rw[hω];exact⟨rfl,.inl rfl⟩
     |[],3,0=>simp[V.mq]at hq
     |[],k+4,0=>simp[V.mq]at hq
     |[],_,l+1=>simp[V.mq]at hq
     |a::r,_,_=>simp[V.mq]at hq
    |func f a b=>simp only[V.mq]at hq;generalize (_&&_:Bool)=c at hq;cases c<;>simp at hq
    |iface t v=>simp only[V.mq]at hq;generalize U.aH _=c at hq;cases c<;>simp at hq
    |agg cs=>simp only[V.mq]at hq;generalize List.all _ _=c at hq;cases c<;>simp at hq
    |aV cs=>simp only[V.mq]at hq;generalize List.all _ _=c at hq;cases c<;>simp at hq
    |_=>simp[V.mq]at hq
   |_=>
    rw[←hq];refine CR.bB (oz z ?_ ?_ ?_)<;>(rw[hq];try rw[hq]at hh)<;>simp_all [U.aH,U.oc]
  |succ off=>
   simp[V.dc]at hu;simp[V.yL]at hv;rw[show k+(off+1)=(k+1)+off by omega];exact h2 off u v hu hv (k+1)
theorem CE{cs:List U}(h:cs.all (fun u=>u.aH||u.oc)=true)(off:Nat):cs[off]?≠some .cZ:=fun hh=>by
 have:=jD.1 h _ (List.mem_of_getElem? hh);simp[U.aH,U.oc]at this
theorem qw{cs:List U}(h:cs.all U.aH=true)(off:Nat):cs[off]?≠some .cZ:=fun hh=>by
 have:=jD.1 h _ (List.mem_of_getElem? hh);simp[U.aH]at this
theorem GR{w:Nat}:∀ {k:Nat} {cs:List U},cs.length=k*w→(chunks w k cs).length=k∧(chunks w k cs).flatten=cs∧∀ r∈chunks w k cs,r.length=w:=by
 intro k
 induction k with
 |zero=>intro cs h;simp at h;subst h;simp[chunks]
 |succ k ih=>
  intro cs h;rw[Nat.succ_mul]at h;obtain⟨h1,h2,h3⟩:=ih (cs:=cs.drop w) (by simp;omega);refine⟨by simp[chunks,h1],by simp only[chunks,List.flatten_cons,h2,List.take_append_drop],fun r hr=> ?_⟩;simp only[chunks,dS]at hr;rcases hr with rfl|hr
  ·simp;omega
  ·exact h3 r hr
theorem QG{a:List U}{b:List V}(h:LU σ Z n a b):∀ k,LU σ Z n (J8 a k) (eF b k):=by
 intro k
 induction k with
 |zero=>exact .nil
 |succ k ih=>exact h.append ih
theorem EG{a:List U}:∀ k,(iA a k).flatten=J8 a k:=by
 intro k
 induction k with
 |zero=>rfl
 |succ k ih=>
  have:iA a (k+1)=a::iA a k:=by simp[iA,List.replicate_succ]
  rw[this,List.flatten_cons,ih];rfl
theorem HX{b:List V}:∀ k,(eF b k).length=k*b.length:=by
 intro k
 induction k with
 |zero=>simp[eF]
 |succ k ih=>simp[eF,ih,Nat.succ_mul];omega
theorem EH{b:List V}:∀ {k m:Nat},k≤m→(eF b m).take (k*b.length)=eF b k:=by
 intro k
 induction k with
 |zero=>intro m _;simp[eF]
 |succ k ih=>
  intro m hm;cases m with
  |zero=>omega
  |succ m=>
   simp only[eF,Nat.succ_mul];rw[List.take_append,jU (l:=b) (by omega),Nat.add_sub_cancel,ih (by omega)]
theorem Is:∀ (zs:List V),(V.dc zs).length=zs.length∧(V.yL zs).length=zs.length
 |[]=>⟨rfl,rfl⟩
 |z::zs=>by
  obtain⟨h1,h2⟩:=Is zs;exact⟨by simp[V.dc,h1],by simp[V.yL,h2]⟩
theorem GM:∀ (b:List UInt8),LU σ Z n (bE b).flatten (b.map gW):=by
 intro b
 induction b with
 |nil=>exact .nil
 |cons c b ih=>exact LU.cons (.int _ _) ih
theorem Ab(b:List UInt8):∀ r∈bE b,r.length=1:=by
 intro r hr;simp only[bE,eS]at hr;obtain⟨c,_,rfl⟩:=hr;rfl
theorem GQ{u:U}{v:V}(h:TR σ Z ω n u v)(hc:u.cells.all U.aH=true):UR σ Z n u v:=by
 cases u<;>first|exact h|(simp[U.cells,U.aH]at hc)
theorem uO{v:V}{g:Tg}{w:Nat}{xs:List (List U)}(h:OR σ Z ω g w xs v):v.cells=[v]∧v.one=true:=by
 unfold OR at h;split at h
 ·obtain⟨_,rfl|rfl⟩:=h<;>exact⟨rfl,rfl⟩
 ·obtain⟨rfl,_⟩:=h;exact⟨rfl,rfl⟩
theorem Dv{d:Nat}{o:GB}{u:U}(h:yg d s o=some (u,s'))(hk:Ok E σ Z ω s e st):
  ∃ σ' Z' ω' ob f,Ax e o.er=some (ob,f)∧Ok E σ' Z' ω' s' e (st.alloc ob)∧TR σ' Z' ω' s'.h.length u (f st.next)∧s.h.length≤s'.h.length∧(∀ i,i<s.h.length→σ' i=σ i)∧∀ b r,Z b=some r→Z' b=some r:=by
 have hωn:∀ off,ω (.c s.h.length off)=none:=fun off=>by
  cases hq:ω (.c s.h.length off)with
  |none=>rfl
  |some I=>have:=hk.wc _ off I hq;omega
 have hptr:∀ (σ' :Sg),σ' s.h.length=st.next→UR σ' Z (s.h.length+1) (.ptr s.h.length 0) (.ptr st.next 0):=fun σ' hσ=>by rw[←hσ];exact .ptr (by omega)
 cases o with
 |alloc zero=>
  simp only[yg]at h;cases hz:(V.dc zero).all (fun u=>u.aH||u.oc)with
  |false=>rw[hz]at h;simp at h
  |true=>
   rw[hz]at h;simp only[cond_true,ai,aJ]at h;obtain⟨rfl,rfl⟩:=h;obtain⟨h1,h2⟩:=XC (σ:=dN σ s.h.length st.next) (Z:=Z) (n:=s.h.length+1) hωn hz;obtain⟨k1,k2⟩:=hk.mV (o:=.row (V.dc zero)) (ob:=.row (V.yL zero)) ⟨_,rfl,h1,fun off u v hu hv=>by simpa using h2 off u v hu hv 0⟩ (fun cs off e=>by cases e;exact CE hz off);refine⟨_,Z,ω,.row (V.yL zero),fun n=> .ptr n 0,rfl,k1,TR.bB ?_,by simp[mV],k2,fun _ _ h=>h⟩;have:=hptr _ (bl σ s.h.length st.next);simpa[mV]using this
 |box x=>
  simp only[yg]at h;split at h
  ·simp at h
  ·simp at h
  ·rename_i g w xs hno hna hx;simp only[ai,aJ]at h;obtain⟨rfl,rfl⟩:=h;obtain⟨v,v1,v2,v3⟩:=hk.cB hx;obtain⟨c1,c2⟩:=uO v2;have hg:∀ i off,g≠.c i off:=fun i off hh=>hno i off hh
   -- a cell of which nothing is told
   obtain⟨k1,k2⟩:=hk.mV (o:=.row [.bad]) (ob:=.row [v]) ⟨[v],rfl,rfl,fun off u y hu hv=>by
    cases off with
    |zero=>simp at hu;subst hu;trivial
    |succ off=>simp at hu⟩ (fun cs off e=>by cases e;cases off<;>simp)
   have hnt:ow (.c s.h.length 0) {s with h:=s.h++[.row [.bad]]}:=by
    refine⟨fun t u hu htag=> ?_,fun i off he cs w xs hc hx=> ?_⟩
    ·obtain⟨v',_,q2⟩:=hk.env t u hu;cases u with
     |own g' w' xs' =>simp[U.tag]at htag;subst htag;have:=q2.2 _ _ rfl;omega
     |bD g' i f=>simp[U.tag]at htag;subst htag;have:=q2.2 _ _ rfl;omega
     |view g' i f l=>simp[U.tag]at htag;subst htag;have:=q2.2 _ _ rfl;omega
     |_=>simp[U.tag]at htag
    ·cases he;simp at hc;subst hc;simp at hx
   obtain⟨m1,m2⟩:=k1.iG (g:=g) (g2:=.c s.h.length 0) hnt hg (by simp) (fun i off hh=>by cases hh;simp) (fun hh=>hna hh);have m3:=m1.Yc (i:=s.h.length) (o:=.row [.bF w xs]) (by simp) (by simp) (by
    rw[bl,St.dL,if_pos rfl];refine⟨[v],rfl,rfl,fun off u y hu hv=> ?_⟩;cases off with
    |zero=>
     simp at hu hv;subst hu;subst hv;exact m2 w xs _ (v2.mono (fun _ _ h=>h) rfl)
    |succ off=>simp at hu) (fun off cs e=>by cases e;cases off<;>simp)
   have e1:(s.h++[Uo.row [.bad]]).set s.h.length (Uo.row [.bF w xs])=s.h++[Uo.row [.bF w xs]]:=by
    rw[List.set_append_right _ _ (aq _)];simp
   rw[e1]at m3;refine⟨_,Z,_,.row v.cells,fun n=> .ptr n 0,by simp only[GB.er,Ax,v1],by rw[c1];exact m3,TR.bB ?_,by simp,k2,fun _ _ h=>h⟩;have:=hptr _ (bl σ s.h.length st.next);simpa using this
  ·rename_i u' hno1 hno0 hno2 hx;cases hc:u'.cells.all U.aH with
   |false=>rw[hc]at h;simp at h
   |true=>
    rw[hc]at h;simp only[cond_true,ai,aJ]at h;obtain⟨rfl,rfl⟩:=h;obtain⟨v,v1,v2⟩:=hk.cB hx;have v3:=(GQ v2 hc).cells;obtain⟨k1,k2⟩:=hk.mV (o:=.row u'.cells) (ob:=.row v.cells) ⟨_,rfl,v3.1,fun off u y hu hv=>CR.bB ((v3.2 off u y hu hv).mono (by omega) (fun i hi=>cV _ _ (by omega)) (fun _ _ h=>h))⟩ (fun cs off e=>by cases e;exact qw hc off);refine⟨_,Z,ω,.row v.cells,fun n=> .ptr n 0,by simp only[GB.er,Ax,v1],k1,TR.bB ?_,by simp[mV],k2,fun _ _ h=>h⟩;have:=hptr _ (bl σ s.h.length st.next);simpa[mV]using this
  ·simp at h
 |buildSlice w len zero parts=>
  simp only[yg]at h;cases hz:(V.dc zero).all U.aH with
  |false=>rw[hz]at h;simp at h
  |true=>
   rw[hz]at h;simp only[cond_true]at h;split at h<;>try (simp at h;done)
   rename_i cs s1 hf;obtain⟨Z1,ω1,ws,a1,a2,a3,a4,a5⟩:=hk.fill (QG (jo zero hz) len) hf;cases hb:(cs.all U.aH&&U.b8 0 cs&&Nat.beq cs.length (len*w))with
   |false=>rw[hb]at h;simp at h
   |true=>
    rw[hb]at h;simp only[cond_true,ai,aJ]at h;obtain⟨rfl,rfl⟩:=h;simp only[bC]at hb;have hlen:cs.length=len*w:=bR hb.2;obtain⟨c1,c2,c3⟩:=GR hlen;have hlu:=a3.low hb.1.2;obtain⟨ω',k1,k2⟩:=a2.Ev (d:=d) (w:=w) (cap:=len) (ex:=true) (xs:=chunks w len cs) (row:=ws) (by omega) (by rw[←hlu.1,hlen];exact aq _) c3 (by
     rw[c2,c1,jU (by rw[←hlu.1,hlen];exact aq _)];exact hlu)
    rw[c1]at k2;exact⟨σ,Z1,ω',.row ws,fun n=> .slice n 0 len len w true,by simp only[GB.er,Ax,a1],k1,⟨k2,fun i off hh=>by cases hh⟩,by rw[cW];omega,fun _ _=>rfl,a5⟩
 |makeMap=>
  simp only[yg,ai,aJ]at h;obtain⟨rfl,rfl⟩:=h;obtain⟨k1,k2⟩:=hk.mV (o:=.map [] 0) (ob:=.map [] 0) ⟨[],rfl,rfl,fun j x y hx=>by simp at hx⟩;refine⟨_,Z,ω,.map [] 0,fun n=> .map n,rfl,k1,TR.bB ?_,by simp[mV],k2,fun _ _ h=>h⟩;have:UR (dN σ s.h.length st.next) Z (s.h.length+1) (.map s.h.length) (.map st.next):=by
   have:=bl σ s.h.length st.next
   conv=>rhs;rw[←this]
   exact .map (by omega)
  simpa[mV]using this
 |makeSlice w bytes zero len cap=>
  simp only[yg]at h;split at h<;>try (simp at h;done)
  rename_i ul uc hl hc;split at h<;>try (simp at h;done)
  rename_i c hcn;split at h<;>try (simp at h;done)
  rename_i l hln;cases hb:(Nat.ble (c*bytes) bp&&Nat.beq zero.length w&&U.b8 0 (V.dc zero)&&(V.dc zero).all U.aH)with
  |false=>rw[hb]at h;simp at h
  |true=>
   rw[hb]at h;simp only[cond_true,ai,aJ]at h;obtain⟨rfl,rfl⟩:=h;simp only[bC]at hb;have hw:zero.length=w:=bR hb.1.1.2;obtain⟨vl,l1,l2⟩:=hk.cB hl;obtain⟨vc,c1,c2⟩:=hk.cB hc;have n1:=zZ hcn c2;have n2:=zZ hln l2;have hle:l≤c:=by
    cases vl<;>simp[asNat]at n2;omega
   obtain⟨z1,z2⟩:=Is zero;have hlu:LU σ Z 0 (V.dc zero) (V.yL zero):=(jo (n:=0) zero hb.2);obtain⟨ω',k1,k2⟩:=hk.Ev (d:=d) (w:=w) (cap:=c) (ex:=true) (xs:=iA (V.dc zero) l) (row:=eF (V.yL zero) c) (by simpa[iA]using hle) (by rw[HX,z2,hw];exact aq _) (fun r hr=>by
    simp only[iA,List.mem_replicate]at hr;rw[hr.2,z1,hw]) (by
    have:(iA (V.dc zero) l).length*w=l*(V.yL zero).length:=by rw[z2,hw];simp[iA]
    rw[EG,this,EH hle];exact QG hlu l)
   have hrl:(iA (V.dc zero) l).length=l:=by simp[iA]
   rw[hrl]at k2;exact⟨σ,Z,ω',.row (eF (V.yL zero) c),fun n=> .slice n 0 l c w true,by simp only[GB.er,Ax,l1,c1,n1,n2,hb.1.1.1,cond_true],k1,⟨k2,fun i off hh=>by cases hh⟩,by rw[cW];exact aq _,fun _ _=>rfl,fun _ _ h=>h⟩
 |lV x=>
  simp only[yg]at h;split at h<;>try (simp at h;done)
  rename_i b hx;cases hbb:Nat.ble b.length bp with
  |false=>rw[hbb]at h;cases h
  |true=>
  rw[hbb]at h;simp only[cond_true,ai,aJ]at h;obtain⟨rfl,rfl⟩:=h;obtain⟨v,h1,h2⟩:=hk.cB hx;obtain rfl:=TR.str h2;have hbl:(bE b).length=b.length:=by simp[bE]
  obtain⟨k1,k2⟩:=hk.qhs (b.map gW);refine⟨σ,_,ω,_,fun n=> .slice n 0 b.length b.length 1 false,by simp only[GB.er,Ax,h1,hbb,cond_true],k1,TR.bB ?_,aq _,fun _ _=>rfl,k2⟩;refine .Bf hbl.symm (bl _ _ _) (Ab b) (aq _) (by simp[bE]) fun j u v hu hv=> ?_;have:(b.map gW).take ((bE b).length*1)=b.map gW:=jU (by simp[bE]);rw[List.drop_zero,this]at hv;exact(GM b).2 j u v hu hv
end
end Go.RE
namespace Go.RE
section
variable{E:qe}{σ:Sg}{Z:Zs}{ω:Om}{s s' :Vs}{e:PT V}{st:St}{n:Nat}
theorem Ov{g:Tg}(hn:ow g s):s.cc g=none:=by
 have key:∀ r:Env,Env.cc g s.e r=none:=by
  intro r
  induction r with
  |nil=>rfl
  |cons x r ih=>
   obtain⟨k,u⟩:=x;cases u with
   |own g' w' xs' =>
    simp only[Env.cc];split
    ·split
     ·rename_i g2 w2 xs2 hl;split
      ·rename_i hg;subst hg;exact absurd rfl (hn.1 _ _ hl)
      ·exact ih
     ·exact ih
    ·exact ih
   |_=>exact ih
 unfold Vs.cc;split
 ·rename_i i off;split
  ·rename_i cs hi;split
   ·rename_i w xs hc;exact absurd hc (hn.2 i off rfl cs w xs hi)
   ·rfl
  ·rfl
 ·exact key _
theorem EK{h:List Uo}{i off:Nat}{v:U}(hv:v≠.cZ){j o:Nat}{cs:List U}(h1:(setCell h i off v)[j]? =some (.row cs))(h2:cs[o]? =some .cZ):∃ ds,h[j]? =some (.row ds)∧ds[o]? =some .cZ:=by
 unfold setCell at h1;split at h1
 ·rename_i ds hi;rw[eN]at h1;by_cases hj:i=j
  ·subst hj;rw[if_pos rfl,if_pos (bn.1 hi).1]at h1;simp at h1;subst h1;rw[eN]at h2;split at h2
   ·split at h2<;>simp at h2;exact absurd h2 hv
   ·exact⟨ds,hi,h2⟩
  ·rw[if_neg hj]at h1;exact⟨cs,h1,h2⟩
 ·exact⟨cs,h1,h2⟩
theorem Ok.Bl(h:Ok E σ Z ω s e st){g:Tg}{I:nZ}{p0:Nat×List (List U)}(hp0:s.cc g=some p0)(hg:ω g=some I){ys:List (List U)}{row' :List V}(hl:ys.length=I.xs.length)(hrl:I.off+I.cap*I.w≤I.row.length→I.off+I.cap*I.w≤row'.length)(hw:∀ r∈ys,r.length=I.w)
  (hy:LU σ Z 0 ys.flatten ((row'.drop I.off).take (ys.length*I.w))):Ok E σ Z (dN ω g (some {I with row:=row',xs:=ys})) (s.fB g I.w ys) e (st.put I.b (.row row')):=by
 have hgr:g≠.r:=fun hh=>by subst hh;rw[h.wr]at hg;cases hg
 have hsame:dN ω g (some {I with row:=row',xs:=ys}) g=some {I with row:=row',xs:=ys}:=bl _ _ _;have hne:∀ g',g'≠g→dN ω g (some {I with row:=row',xs:=ys}) g' =ω g' :=fun g' hh=>cV _ _ hh;have hor:∀ w xs v,OR σ Z ω g w xs v→OR σ Z (dN ω g (some {I with row:=row',xs:=ys})) g w ys v∧w=I.w:=fun w xs v hv=>by
  unfold OR at hv⊢;rw[hg]at hv;rw[hsame];obtain⟨rfl,⟨rfl,rfl⟩,e1,e2,e3,e4⟩:=hv;exact⟨⟨by rw[hl],⟨rfl,rfl⟩,by rw[hl];exact e1,hrl e2,hw,hy⟩,rfl⟩
 have hcase:∀ x J,dN ω g (some {I with row:=row',xs:=ys}) x=some J→(x=g∧J={I with row:=row',xs:=ys})∨(x≠g∧ω x=some J):=fun x J hJ=>by
  by_cases hx:x=g
  ·subst hx;rw[hsame]at hJ;cases hJ;exact .inl ⟨rfl,rfl⟩
  ·rw[hne x hx]at hJ;exact .inr ⟨hx,hJ⟩
 have hget:∀ b,b≠I.b→(st.put I.b (.row row')).get b=st.get b:=fun b hb=>by rw[St.dX,if_neg hb]
 have hIlt:=h.lt_next (h.lE g I hg)
 -- the temporaries
 have henv:∀ t u,look (Env.fB g ys s.e) t=some u→∃ v,e.get t=some v∧TR σ Z (dN ω g (some {I with row:=row',xs:=ys})) s.h.length u v:=by
  intro t u hu;rw[AU]at hu;cases hq:look s.e t with
  |none=>rw[hq]at hu;simp at hu
  |some x=>
   rw[hq]at hu;simp at hu;obtain⟨v,h1,h2⟩:=h.env t x hq;refine⟨v,h1,?_⟩;subst hu;cases x with
   |own g' w xs=>
    simp only[U.fB];by_cases hgg:g' =g
    ·subst hgg;rw[if_pos rfl];exact⟨(hor _ _ _ h2.1).1,h2.2⟩
    ·rw[if_neg hgg];exact⟨OR.mono (fun _ _ h=>h) (hne _ hgg) h2.1,h2.2⟩
   |bD g' i f=>
    obtain⟨⟨J,k1,k2⟩,k3⟩:=h2;by_cases hgg:g' =g
    ·subst hgg;rw[hg]at k1;cases k1;exact⟨⟨_,hsame,k2⟩,k3⟩
    ·exact⟨⟨J,by rw[hne _ hgg];exact k1,k2⟩,k3⟩
   |view g' lo len w=>
    by_cases hgg:g' =g
    ·subst hgg;refine⟨?_,h2.2⟩;have h2:=h2.1;unfold VW at h2⊢;rw[hg]at h2;simp only[hsame,hl];exact h2
    ·exact⟨h2.1.mono (hne _ hgg),h2.2⟩
   |_=>exact h2.mono (aq _) (fun _ _=>rfl) (fun _ _ h=>h) fun g3 h3=>by simp[U.tag,U.fB]at h3
 have hob:∀ (i:Nat) o,s.h[i]? =some o→(∀ off cs w xs,g=.c i off→o=.row cs→cs[off]?≠some (.bF w xs))→
   OB σ Z (dN ω g (some {I with row:=row',xs:=ys})) s.h.length i o ((st.put I.b (.row row')).get (σ i)):=by
  intro i o ho hno;have hi:=(bn.1 ho).1;rw[hget _ (h.sw i g I hi hg)];have h1:=h.obj i o ho;cases o with
  |row cs=>
   obtain⟨cs',q1,q2,q3⟩:=h1;refine⟨cs',q1,q2,fun off u v hu hv=> ?_⟩;have h2:=q3 off u v hu hv;cases u with
   |bF w xs=>
    refine OR.mono (fun _ _ h=>h) (hne _ fun hh=> ?_) h2;exact hno off cs w xs hh.symm rfl hu
   |bad=>trivial
   |cZ=>trivial
   |_=>exact h2
  |map es c=>exact h1
  |iter q a b c=>exact h1
  |gone=>trivial
 have hrest:∀ (s1:Vs),s1.h.length=s.h.length→(∀ (i:Nat),s.h[i]? =some Uo.gone→s1.h[i]? =some Uo.gone)→(∀ (i off:Nat) cs,s1.h[i]? =some (.row cs)→cs[off]? =some .cZ→∃ ds,s.h[i]? =some (.row ds)∧ds[off]? =some .cZ)→(∀ t u,look s1.e t=some u→∃ v,e.get t=some v∧TR σ Z (dN ω g (some {I with row:=row',xs:=ys})) s.h.length u v)→
   (∀ (i:Nat) o,s1.h[i]? =some o→OB σ Z (dN ω g (some {I with row:=row',xs:=ys})) s.h.length i o ((st.put I.b (.row row')).get (σ i)))→
   Ok E σ Z (dN ω g (some {I with row:=row',xs:=ys})) s1 e (st.put I.b (.row row')):=by
  intro s1 hl1 hgo hlt h1 h2;have hgn:∀ j,E.G j→j<E.n∧s1.h[j]? =some .gone∧(st.put I.b (.row row')).get (σ j)=E.st.get (E.σ j):=fun j hj=>by
   obtain⟨q1,q2,q3⟩:=h.gn j hj;exact⟨q1,hgo j q2,by rw[hget _ (h.sw j g I (bn.1 q2).1 hg)];exact q3⟩
  refine⟨by rw[hl1];exact h1,by rw[hl1];exact h2,fun b r hb=> ?_,fun x J hJ=> ?_,fun b hb=> ?_,by rw[hl1];exact h.inj,fun x y J K hJ hK hb=> ?_,fun i x J hi hJ=> ?_,by rw[hl1];exact h.sz,fun x J hJ=> ?_,by rw[hl1];exact h.sb,⟨by rw[hne _ (Ne.symm hgr)];exact h.wr,by
    by_cases hag:Tg.a=g
    ·subst hag;have:=h.zT.2;unfold WA at this⊢;rw[hsame];rw[hg]at this;exact this
    ·exact h.zT.2.up (hne _ hag)⟩,fun i off J hJ=> ?_,by rw[hl1];exact h.n0,h.sig,h.zz,h.nx,fun b hb hbI=> ?_,hgn,(h.wC.2.sub hlt).mem fun i hi=>hget _ (h.sw i g I (by omega) hg)⟩
  ·rw[wL (hget b (fun hh=>by rw[hh,h.wz g I hg]at hb;cases hb))];exact h.qm b r hb
  ·rcases hcase x J hJ with⟨rfl,rfl⟩|⟨hx,hh⟩
   ·rw[St.dX,if_pos rfl]
   ·rw[hget _ (fun hb=>hx (h.gJ x g J I hh hg hb))];exact h.lE x J hh
  ·have:(st.put I.b (.row row')).next=st.next:=rfl
   rw[this]at hb;rw[hget b (by omega)];exact h.fresh b hb
  ·rcases hcase x J hJ with⟨rfl,rfl⟩|⟨hx,hh⟩<;>rcases hcase y K hK with⟨rfl,rfl⟩|⟨hy,hh'⟩
   ·rfl
   ·exact absurd (h.gJ _ _ _ _ hg hh' hb).symm hy
   ·exact absurd (h.gJ _ _ _ _ hh hg hb) hx
   ·exact h.gJ _ _ _ _ hh hh' hb
  ·rcases hcase x J hJ with⟨rfl,rfl⟩|⟨hx,hh⟩
   ·exact h.sw i x I (by omega) hg
   ·exact h.sw i x J (by omega) hh
  ·rcases hcase x J hJ with⟨rfl,rfl⟩|⟨hx,hh⟩
   ·exact h.wz x I hg
   ·exact h.wz x J hh
  ·rw[hl1];rcases hcase _ J hJ with⟨e1,rfl⟩|⟨hx,hh⟩
   ·exact h.wc i off I (by rw[e1];exact hg)
   ·exact h.wc i off J hh
  ·obtain⟨k1,k2,k3,k4⟩:=h.out b hb hbI;refine⟨by rw[hget b (fun hh=>k3 g I hg hh.symm),k1],by rw[hl1];exact k2,fun x J hJ=> ?_,k4⟩;rcases hcase x J hJ with⟨rfl,rfl⟩|⟨hx,hh⟩
   ·exact k3 x I hg
   ·exact k3 x J hh
 unfold Vs.fB;split
 ·rename_i i off;refine hrest _ ?_ (fun j hj=> ?_) (fun j o cs h1 h2=> ?_) henv fun j o ho=> ?_
  ·simp only;unfold setCell;split<;>simp
  ·simp only;unfold setCell;split
   ·rename_i cs hi;rw[eN,if_neg (by rintro rfl;rw[hi]at hj;cases hj)];exact hj
   ·exact hj
  ·exact EK (by simp) h1 h2
  ·simp only at ho;unfold setCell at ho;split at ho
   ·rename_i cs hi;have hlt:=(bn.1 hi).1;rw[eN]at ho;by_cases hj:i=j
    ·subst hj;rw[if_pos rfl,if_pos hlt]at ho;simp at ho;subst ho;rw[hget _ (h.sw i _ I hlt hg)];obtain⟨cs',q1,q2,q3⟩:=h.obj i _ hi;refine⟨cs',q1,by rw[List.length_set];exact q2,fun o' u v hu hv=> ?_⟩;rw[eN]at hu;by_cases ho' :off=o'
     ·subst ho';simp only[Vs.cc,hi]at hp0;split at hp0<;>try (simp at hp0;done)
      rename_i w0 xs0 hc0;have hoff:=(bn.1 hc0).1;rw[if_pos rfl,if_pos hoff]at hu;simp at hu;subst hu;have:=hor w0 xs0 v (q3 off _ v hc0 hv);rw[this.2]at this;exact this.1
     ·rw[if_neg ho']at hu;exact(q3 o' u v hu hv).mono (aq _) (fun _ _=>rfl) (fun _ _ h=>h) (hne _ fun hh=>ho' (by simp at hh;omega))
    ·rw[if_neg hj]at ho;exact hob j o ho fun off' cs' w xs he=>by simp at he;exact absurd he.1 hj
   ·rename_i hno;exact hob j o ho fun off' cs' w xs he hoo=>by simp at he;obtain⟨rfl,rfl⟩:=he;exact absurd (hoo▸ho) (hno _)
 ·rename_i hno;exact hrest _ rfl (fun _ h=>h) (fun _ _ cs h1 h2=>⟨cs,h1,h2⟩) henv fun i o ho=>hob i o ho fun off cs w xs he=>absurd he (hno i off)
end
end Go.RE
namespace Go.RE
section
variable{E:qe}{σ:Sg}{Z:Zs}{ω:Om}{s s' :Vs}{e:PT V}{st:St}{n:Nat}
theorem qbd{u:U}{v:V}(h:UR σ Z n u v)(hc:u.aH=true):v.one=true:=by
 cases h<;>first|rfl|(simp[U.aH]at hc)
theorem yV{us:List U}{vs:List V}(h:LU σ Z n us vs)(hc:us.all U.aH=true):vs.all V.one=true:=by
 rw[jD]at hc⊢;intro v hv;obtain⟨j,hj,rfl⟩:=List.mem_iff_getElem.1 hv;have hj' :j<us.length:=h.1▸hj;exact qbd (h.2 j _ _ (bP hj') (bP hj)) (hc _ (List.getElem_mem hj'))
theorem QW{i off:Nat}{cs:List U}{cs' :List V}{us:List U}{vs:List V}(hl:cs.length=cs'.length)(hc:∀ (o:Nat) u v,cs[o]? =some u→cs'[o]? =some v→CR σ Z ω n i o u v)
  (hul:us.length=vs.length) (hu:∀ (o:Nat) u v,us[o]? =some u→vs[o]? =some v→CR σ Z ω n i (off+o) u v) (hle:off+us.length≤cs.length):
  (gh cs off us).length=(jQ cs' off vs).length∧∀ (o:Nat) u v,(gh cs off us)[o]? =some u→(jQ cs' off vs)[o]? =some v→CR σ Z ω n i o u v:=by
 refine⟨by simp[gh,jQ];omega,fun o u v h1 h2=> ?_⟩;unfold gh at h1;unfold jQ at h2;rw[kO]at h1 h2;by_cases ho:o<off
 ·rw[cz (by simp;omega),jN,if_pos ho]at h1;rw[cz (by simp;omega),jN,if_pos ho]at h2;exact hc o u v h1 h2
 ·rw[fh (by simp;omega)]at h1 h2;have e1:(cs.take off).length=off:=by simp;omega
  have e2:(cs'.take off).length=off:=by simp;omega
  rw[e1]at h1;rw[e2]at h2;by_cases ho2:o - off<us.length
  ·rw[cz ho2]at h1;rw[cz (by omega)]at h2;have:=hu _ u v h1 h2;rw[show off+(o - off)=o by omega]at this;exact this
  ·rw[fh (by omega),qd]at h1;rw[fh (by omega),qd]at h2;have:=hc _ u v h1 (by rw[←h2];congr 1;omega);rw[show off+us.length+(o - off - us.length)=o by omega]at this;exact this
theorem My{cs vs:List V}{off o:Nat}(hle:off+vs.length≤cs.length)(ho:o<off∨off+vs.length≤o):(jQ cs off vs)[o]? =cs[o]? :=by
 unfold jQ;rw[kO];have e1:(cs.take off).length=off:=by simp;omega
 rcases ho with ho|ho
 ·rw[cz (by omega),jN,if_pos ho]
 ·rw[fh (by omega),fh (by omega),qd];congr 1;omega
theorem QV{cs vs:List U}{off o:Nat}(hle:off+vs.length≤cs.length)(ho:o<off∨off+vs.length≤o):(gh cs off vs)[o]? =cs[o]? :=by
 unfold gh;rw[kO];have e1:(cs.take off).length=off:=by simp;omega
 rcases ho with ho|ho
 ·rw[cz (by omega),jN,if_pos ho]
 ·rw[fh (by omega),fh (by omega),qd];congr 1;omega
theorem Xi{cs vs:List U}{off o:Nat}(hle:off+vs.length≤cs.length)(h1:off≤o)(h2:o<off+vs.length):(gh cs off vs)[o]? =vs[o - off]? :=by
 unfold gh;rw[kO];have e1:(cs.take off).length=off:=by simp;omega
 rw[fh (by omega),e1,cz (by omega)]
theorem rF{b off:Nat}{vs cs:List V}(hr:st.get b=some (.row cs))(hl:off+vs.length≤cs.length)(ho:vs.all V.one=true):st.write b off vs=some (st.put b (.row (jQ cs off vs))):=by
 simp only[St.write,qF hr,oT hl,ho,Bool.and_self,cond_true]
theorem Iq{k i off:Nat}{u:U}{v:V}{cs:List U}(h:Ok E σ Z ω s e st)(hi:s.h[i]? =some (.row cs))(hv:TR σ Z ω s.h.length u v)(hs:pU s k i off u cs=some s'):
  ∃ ω' st',(bif Nat.beq v.cells.length k then(match st.write (σ i) off v.cells with|some s' =>some (.aV [],s')|none=>none)else none)=some (V.aV [],st')∧Ok E σ Z ω' s' e st'∧s'.h.length=s.h.length:=by
 have hlt:i<s.h.length:=(bn.1 hi).1;obtain⟨cs',g1,g2,g3⟩:=h.obj i _ hi;unfold pU at hs;split at hs
 ·rename_i g w xs;cases hb:(Nat.beq k 1&&Nat.blt off cs.length)with
  |false=>rw[hb]at hs;simp at hs
  |true=>
   rw[hb]at hs;simp only[cond_true]at hs;simp only[bC]at hb;have hk1:k=1:=bR hb.1;subst hk1;have hoff:off<cs.length:=by have:=hb.2;simp only[Nat.blt,gv]at this;omega
   split at hs<;>simp only[ai,reduceCtorEq]at hs;rename_i hno hna;subst hs;obtain⟨c1,c2⟩:=uO hv.1;have hg:∀ i off,g≠.c i off:=fun i off hh=>hno i off hh;have hw:st.write (σ i) off v.cells=some (st.put (σ i) (.row (jQ cs' off [v]))):=by
    rw[c1];exact rF g1 (by simp;omega) (by simp[c2])
   -- the cell is given up
   have h1:=h.bS (Tg.PX i off 1);have hspl:OB σ Z ω s.h.length i (.row (cs.set off .bad)) (some (.row (jQ cs' off [v]))):=by
    have e1:cs.set off .bad=gh cs off [.bad]:=by
     unfold gh;rw[List.set_eq_take_append_cons_drop,if_pos hoff];simp
    rw[e1];obtain⟨s1,s2⟩:=QW (off:=off) (us:=[.bad]) (vs:=[v]) g2 g3 rfl (fun o u y hu hy=>by
     cases o with
     |zero=>simp at hu;subst hu;trivial
     |succ o=>simp at hu) (by simp;omega)
    exact⟨_,rfl,s1,s2⟩
   have h2:=h1.DA hlt (by simp only[hi];intro hh;cases hh) hspl (fun ds o e hh=>by
    cases e;rw[eN]at hh;split at hh
    ·first|(simp at hh;done)|(split at hh<;>simp at hh)
    ·exact⟨cs,cs',_,hi,hh,g1,rfl,My (by simp;omega) (by simp;omega)⟩)
   have hnt:ow (.c i off) {e:=Env.bS (Tg.PX i off 1) s.e,h:=s.h.set i (.row (cs.set off .bad)),fl:=s.fl}:=by
    refine⟨fun t u hu htag=> ?_,fun i' off' he cs2 w' xs' hc hx=> ?_⟩
    ·simp only at hu;rw[qN]at hu;have hin:Tg.PX i off 1 (.c i off)=true:=by simp[Tg.PX,Nat.blt]
     cases hq:look s.e t with
     |none=>rw[hq]at hu;simp at hu
     |some x=>
      rw[hq]at hu;simp at hu;subst hu;cases x with
      |own g' w' xs' =>
       simp only[U.bS]at htag;cases hp:Tg.PX i off 1 g' with
       |true=>rw[hp]at htag;simp[U.tag]at htag
       |false=>rw[hp]at htag;simp[U.tag]at htag;subst htag;rw[hin]at hp;cases hp
      |bD g' i' f=>
       simp only[U.bS]at htag;cases hp:Tg.PX i off 1 g' with
       |true=>rw[hp]at htag;simp[U.tag]at htag
       |false=>rw[hp]at htag;simp[U.tag]at htag;subst htag;rw[hin]at hp;cases hp
      |view g' i' f l=>
       simp only[U.bS]at htag;cases hp:Tg.PX i off 1 g' with
       |true=>rw[hp]at htag;simp[U.tag]at htag
       |false=>rw[hp]at htag;simp[U.tag]at htag;subst htag;rw[hin]at hp;cases hp
      |_=>simp[U.bS,U.tag]at htag
    ·cases he;simp only at hc;rw[eN,if_pos rfl,if_pos hlt]at hc;simp at hc;subst hc;rw[eN,if_pos rfl,if_pos hoff]at hx;simp at hx
   obtain⟨h3,h4⟩:=h2.iG (g:=g) hnt hg (by simp) (fun i' off' hh=>by cases hh;simpa using hlt) (fun hh=>hna hh);have h5:=h3.Yc (i:=i) (o:=.row (cs.set off (.bF w xs))) (by simpa using hlt) (by simp only;rw[eN,if_pos rfl,if_pos hlt];intro hh;cases hh) (by
    rw[St.dX,if_pos rfl];have e1:cs.set off (.bF w xs)=gh cs off [.bF w xs]:=by
     unfold gh;rw[List.set_eq_take_append_cons_drop,if_pos hoff];simp
    rw[e1];have hcs:∀ (o:Nat) u y,(cs.set off .bad)[o]? =some u→(jQ cs' off [v])[o]? =some y→CR σ Z (dN (dN ω g none) (Tg.c i off) (ω g)) s.h.length i o u y:=by
     obtain⟨ds,q1,q2,q3⟩:=h3.obj i (.row (cs.set off .bad)) (by simp only;rw[eN,if_pos rfl,if_pos hlt]);rw[St.dX,if_pos rfl]at q1;simp at q1;subst q1;simpa using q3
    refine⟨_,rfl,by simp[gh,jQ];omega,fun o u y hu hy=> ?_⟩;by_cases ho:o=off
    ·subst ho;have e2:(gh cs o [.bF w xs])[o]? =some (.bF w xs):=by rw[←e1,eN,if_pos rfl,if_pos hoff]
     have e3:(jQ cs' o [v])[o]? =some v:=by
      unfold jQ;rw[kO,fh (by simp;omega)];have:(cs'.take o).length=o:=by simp;omega
      rw[this];simp
     rw[e2]at hu;rw[e3]at hy;simp at hu hy;subst hu;subst hy;exact h4 w xs _ hv.1
    ·have e2:(gh cs off [.bF w xs])[o]? =(cs.set off .bad)[o]? :=by
      rw[←e1,eN,eN,if_neg (Ne.symm ho),if_neg (Ne.symm ho)]
     rw[e2]at hu;simpa using hcs o u y hu hy) (fun o ds e hh=>by
    cases e;simp only;rw[eN,if_pos rfl,if_pos hlt];refine⟨_,rfl,?_⟩;rw[eN]at hh⊢;split at hh
    ·first|(simp at hh;done)|(split at hh<;>simp at hh)
    ·rename_i hne;rw[if_neg hne];exact hh)
   simp only[List.set_set]at h5;rw[c1]at hw;refine⟨_,_,by rw[c1];simp only[List.length_singleton,jC,cond_true,hw],h5,by simp⟩
 ·rename_i u' hno;cases hb:(Nat.beq u.cells.length k&&Nat.ble (off+k) cs.length&&u.cells.all U.aH)with
  |false=>rw[hb]at hs;simp at hs
  |true=>
   rw[hb]at hs;simp only[cond_true,ai]at hs;subst hs;simp only[bC]at hb;have hk:u.cells.length=k:=bR hb.1.1;have hle:=gu hb.1.2;have hur:=GQ hv hb.2;have hcl:=hur.cells;have hw:st.write (σ i) off v.cells=some (st.put (σ i) (.row (jQ cs' off v.cells))):=rF g1 (by rw[←hcl.1];omega) (yV hcl hb.2);obtain⟨s1,s2⟩:=QW (off:=off) g2 g3 hcl.1 (fun o u y hu hy=>CR.bB (hcl.2 o u y hu hy)) (by omega);have h2:=(h.bS (Tg.PX i off k)).DA hlt (by simp only[hi];intro hh;cases hh) (ob:=.row (jQ cs' off v.cells)) (o:=.row (gh cs off u.cells)) ⟨_,rfl,s1,s2⟩ (fun ds o e hh=>by
    cases e;have hnl:¬(off≤o∧o<off+u.cells.length):=fun ho=>by
     rw[Xi (by omega) ho.1 ho.2]at hh;exact qw hb.2 _ hh
    rw[QV (by omega) (by omega)]at hh;exact⟨cs,cs',_,hi,hh,g1,rfl,My (by rw[←hcl.1];omega) (by rw[←hcl.1];omega)⟩)
   refine⟨ω,_,by rw[←hcl.1,hb.1.1,hw];rfl,h2.QN _,by simp⟩
theorem Kh(h:Ok E σ Z ω s e st){w:Nat}{str:Bool}{u:U}{v:V}{ys:List (List U)}(hs:yG s w str u=some ys)(hv:TR σ Z ω s.h.length u v):
  ∃ cs,iu st w str v=some cs∧LU σ Z s.h.length ys.flatten cs∧tw v=some ys.length∧∀ r∈ys,r.length=w:=by
 cases str with
 |true=>
  cases u<;>simp only[yG,reduceCtorEq]at hs;rename_i b;cases hb:Nat.beq w 1 with
  |false=>rw[hb]at hs;simp at hs
  |true=>
   rw[hb]at hs;simp at hs;subst hs;have:w=1:=bR hb;subst this;obtain rfl:=TR.str hv;exact⟨_,by simp[iu],GM b,by simp[tw,bE],Ab b⟩
 |false=>
  have hs' :rowsOf s w u=some ys:=by cases u<;>exact hs
  obtain⟨cs,h1,h2,h3,h4⟩:=A9 h hs' hv;refine⟨cs,?_,h2,h3,h4⟩;cases v<;>simpa[iu]using h1
theorem G5{ys:List (List U)}(h:ys.all (fun r=>r.all U.aH&&U.b8 0 r&&Nat.beq r.length n)=true):ys.flatten.all U.aH=true∧U.b8 0 ys.flatten=true∧∀ r∈ys,r.length=n:=by
 induction ys with
 |nil=>exact⟨rfl,rfl,fun r hr=>by cases hr⟩
 |cons y ys ih=>
  simp only[List.all_cons,bC]at h;obtain⟨h1,h2,h3⟩:=ih h.2;have lows_app:∀ {a b:List U},U.b8 0 a=true→U.b8 0 b=true→U.b8 0 (a++b)=true:=by
   intro a
   induction a with
   |nil=>intro b _ hb;exact hb
   |cons x a iha=>intro b ha hb;simp only[U.b8,bC,List.cons_append]at ha⊢;exact⟨ha.1,iha ha.2 hb⟩
  refine⟨by simp only[List.flatten_cons,List.all_append,bC];exact⟨h.1.1.1,h1⟩,by simp only[List.flatten_cons];exact lows_app h.1.1.2 h2,fun r hr=> ?_⟩;rcases dS.1 hr with rfl|hr
  ·exact bR h.1.2
  ·exact h3 r hr
theorem Dj(h:Ok E σ Z ω s e st){g:Tg}{I:nZ}(hg:ω g=some I):I.b<st.next∧(∀ i,i<s.h.length→σ i≠I.b)∧Z I.b=none∧(∀ g' J,g'≠g→ω g' =some J→J.b≠I.b)∧(I.b<E.st.next→E.I I.b):=
 ⟨h.lt_next (h.lE g I hg),fun i hi=>h.sw i g I hi hg,h.wz g I hg,fun g' J hgg hJ hb=>hgg (h.gJ g' g J I hJ hg hb),fun hlt=>Classical.byContradiction fun hno=>(h.out I.b hlt hno).2.2.1 g I hg rfl⟩
theorem Oq{a:List U}{row new:List V}{ys:List U}{off L:Nat}(h:LU σ Z 0 a ((row.drop off).take L))(hn:LU σ Z 0 ys new)(hl:off+L≤row.length)(hb:off+L+new.length≤row.length):
  LU σ Z 0 (a++ys) (((jQ row (off+L) new).drop off).take (L+ys.length)):=by
 have e:((jQ row (off+L) new).drop off).take (L+ys.length)=((row.drop off).take L)++new:=by
  unfold jQ;rw[kO,List.drop_append];have e1:(List.take (off+L) row).length=off+L:=by simp;omega
  rw[e1,show off - (off+L)=0 by omega,List.drop_zero];have e2:(List.take (off+L) row).drop off=(row.drop off).take L:=by rw[List.drop_take];congr 1;omega
  rw[e2,List.take_append];have e3:((row.drop off).take L).length=L:=by simp;omega
  rw[e3,CX,jU (by omega)];rw[hn.1,List.take_left]
 rw[e];exact h.append hn
theorem PL{w f:Nat}{us:List U}:∀ {xs:List (List U)},(∀ r∈xs,r.length=w)→∀ {i:Nat} {r:List U},xs[i]? =some r→f+us.length≤w→(xs.set i (gh r f us)).flatten=gh xs.flatten (i*w+f) us:=by
 intro xs
 induction xs with
 |nil=>intro _ i r h;simp at h
 |cons x xs ih=>
  intro hw i r h hf;have hx:=hw x eU;cases i with
  |zero=>
   simp at h;subst h;simp only[List.set_cons_zero,List.flatten_cons,Nat.zero_mul,Nat.zero_add];unfold gh;rw[List.take_append_of_le_length (by omega),List.drop_append_of_le_length (by omega)];simp
  |succ i=>
   simp at h;simp only[List.set_cons_succ,List.flatten_cons,ih (fun r hr=>hw r (gB _ hr)) h hf,Nat.succ_mul];unfold gh;rw[show i*w+w+f=x.length+(i*w+f) by omega,List.take_append,jU (l:=x) (by omega),CX,show x.length+(i*w+f)+us.length=x.length+(i*w+f+us.length) by omega,List.drop_append (l₁:=x),Gz (l:=x) (by omega),CX];simp
theorem Cs{row vs:List V}{off p L:Nat}(h1:p+vs.length≤L)(h2:off+L≤row.length):((jQ row (off+p) vs).drop off).take L=jQ ((row.drop off).take L) p vs:=by
 apply List.ext_getElem?;intro j;unfold jQ;rw[jN,qd];by_cases hj:j<L
 ·rw[if_pos hj];by_cases ha:j<p
  ·rw[kO,kO,cz (by simp;omega),cz (by simp;omega),jN,jN,if_pos (by omega),if_pos ha,jN,if_pos hj,qd]
  ·have e1:(row.take (off+p)).length=off+p:=by simp;omega
   have e2:(((row.drop off).take L).take p).length=p:=by simp;omega
   rw[kO,kO];have l1:∀ D:List V,(row.take (off+p)++(vs++D))[off+j]? =(vs++D)[j - p]? :=fun D=>by
    rw[fh (by omega),e1];congr 1;omega
   have l2:∀ D:List V,(((row.drop off).take L).take p++(vs++D))[j]? =(vs++D)[j - p]? :=fun D=>by
    rw[fh (by omega),e2]
   rw[l1,l2];by_cases hb:j - p<vs.length
   ·rw[cz hb,cz hb]
   ·rw[fh (by omega),fh (by omega),qd,qd,jN,if_pos (by omega),qd];congr 1;omega
 ·rw[if_neg hj,List.getElem?_eq_none];simp;omega
theorem sW{d w bytes:Nat}{str:Bool}{g:Tg}{xs ys:List (List U)}{a x:V}{u:U}(h:Ok E σ Z ω s e st)(hga:g≠.a)(ha:OR σ Z ω g w xs a)(hx:TR σ Z ω s.h.length u x)(hs:yG s w str u=some ys)
  (hb1:Nat.ble ((xs.length+ys.length)*bytes) bp=true) (hb2:Nat.ble (xs.length+ys.length) bp=true) (hy:ys.all (fun r=>r.all U.aH&&U.b8 0 r&&Nat.beq r.length w)=true):
  ∃ ω' v st',oZ st w bytes str a x=some (v,st')∧Ok E σ Z ω' ((s.kill g).kill (.t d)) e st'∧OR σ Z ω' (.t d) w (xs++ys) v:=by
 obtain⟨cs,c1,c2,c3,c4⟩:=Kh h hs hx;obtain⟨f1,f2,f3⟩:=G5 hy;have hone:=yV c2 f1;have hlu0:=c2.low f2;have hcl:cs.length=ys.length*w:=by rw[←c2.1,dB c4]
 have hbl1:=gu hb1;have hbl2:=gu hb2;have hk1:=h.kill g;unfold oZ;rw[c1,c3];simp only[hone,cond_true];have hgr:∀ I,ω g=some I→g≠.r:=fun I hI hh=>by subst hh;rw[h.wr]at hI;cases hI
 -- a new row
 have fresh:∀ (ω1:Om) (st1:St) (old:List V),Ok E σ Z ω1 (s.kill g) e st1→LU σ Z 0 xs.flatten old→(∀ r∈xs,r.length=w)→
   ∃ ω',Ok E σ Z ω' ((s.kill g).kill (.t d)) e (st1.alloc (.row (old++cs)))∧OR σ Z ω' (.t d) w (xs++ys) (.slice st1.next 0 (xs.length+ys.length) (xs.length+ys.length) w false):=by
  intro ω1 st1 old ho hold hw;have hol:old.length=xs.length*w:=by rw[←hold.1,dB hw]
  have hwl:∀ r∈xs++ys,r.length=w:=fun r hr=>by
   rcases gD.1 hr with hr|hr
   ·exact hw r hr
   ·exact c4 r hr
  obtain⟨ω',k1,k2⟩:=ho.Ev (d:=d) (w:=w) (cap:=xs.length+ys.length) (ex:=false) (xs:=xs++ys) (row:=old++cs) (by simp) (by rw[lZ,hol,hcl,Nat.add_mul];exact aq _) hwl (by
   rw[List.flatten_append,jU (by rw[lZ,hol,hcl,lZ,Nat.add_mul];exact aq _)];exact hold.append hlu0)
  rw[lZ]at k2;exact⟨ω',k1,k2⟩
 unfold OR at ha;split at ha
 ·rename_i hg;obtain⟨rfl,hv⟩:=ha;simp only[List.length_nil,Nat.zero_add]at hbl1 hbl2 hb1 hb2;cases hk0:Nat.beq ys.length 0 with
  |true=>
   have hy0:ys=[]:=jT (bR hk0);subst hy0;obtain⟨ω',k1,k2,_⟩:=hk1.EC d;have hor:∀ v,v=.bu∨v=.bM→OR σ Z ω' (.t d) w ([]++[]) v:=fun v hv=>by unfold OR;rw[k2];exact⟨rfl,hv⟩
   rcases hv with rfl|rfl
   ·exact⟨ω',_,_,by simp,k1,hor _ (.inl rfl)⟩
   ·exact⟨ω',_,_,by simp,k1,hor _ (.inr rfl)⟩
  |false=>
   obtain⟨ω',k1,k2⟩:=fresh ω st [] hk1 .nil (fun r hr=>by cases hr);simp only[List.nil_append,List.length_nil,Nat.zero_add]at k1 k2;rcases hv with rfl|rfl
   ·exact⟨ω',_,_,by simp only[hk0,cond_false,hb1,hb2,Bool.and_self,cond_true],k1,k2⟩
   ·exact⟨ω',_,_,by simp only[hk0,cond_false,hb1,hb2,Bool.and_self,cond_true],k1,k2⟩
 ·rename_i I hg;obtain⟨rfl,⟨rfl,rfl⟩,e1,e2,e3,e4⟩:=ha;obtain⟨n1,n2,n3,n4,n5⟩:=Dj h hg;have hIr:=h.lE g I hg;have hcapw:I.xs.length*I.w≤I.cap*I.w:=lY _ e1
  -- the tag is given up
  have hk2:=hk1.Be (eZ g s) (hgr I hg) (o:=none) (fun J hJ=>by cases hJ) hga;have hfree:∀ g' J,dN ω g none g' =some J→J.b≠I.b:=fun g' J hJ=>by
   by_cases hq:g' =g
   ·subst hq;rw[bl]at hJ;cases hJ
   ·rw[cV _ _ hq]at hJ;exact n4 g' J hq hJ
  simp only[jC,hb1,hb2,Bool.and_self,cond_true];cases hc:Nat.ble (I.xs.length+ys.length) I.cap with
  |true=>
   have hc' :=gu hc;simp only[cond_true];have hin:∀ (st1:St) (row' :List V),Ok E σ Z (dN ω g none) (s.kill g) e st1→st1.next=st.next→st1.get I.b=some (.row row')→row'.length=I.row.length→
     LU σ Z 0 (I.xs++ys).flatten ((row'.drop I.off).take ((I.xs++ys).length*I.w))→
     ∃ ω',Ok E σ Z ω' ((s.kill g).kill (.t d)) e st1∧OR σ Z ω' (.t d) I.w (I.xs++ys) (.slice I.b I.off (I.xs.length+ys.length) I.cap I.w I.ex):=by
    intro st1 row' ho hn hr hl hlu;refine⟨_,(ho.kill (.t d)).Be (eZ _ _) (by simp) (o:=some ⟨I.b,I.off,I.cap,I.ex,I.w,row',I.xs++ys⟩) (fun J hJ=> ?_),?_⟩
    ·cases hJ;refine⟨hr,fun i hi=>n2 i (by rw[cW,cW]at hi;exact hi),n3,fun g' J' _ hJ' =>hfree g' J' hJ',fun b hb hbI hh=>hbI (hh▸n5 (by rw[show I.b=b from hh];exact hb)),fun i off hh=>by cases hh⟩
    ·unfold OR;rw[bl];refine⟨by simp,⟨rfl,rfl⟩,by simp;omega,by simp only[hl];exact e2,fun r hr=> ?_,hlu⟩;rcases gD.1 hr with hr|hr
     ·exact e3 r hr
     ·exact c4 r hr
   cases hk0:Nat.beq ys.length 0 with
   |true=>
    have hy0:ys=[]:=jT (bR hk0);subst hy0;obtain⟨ω',k1,k2⟩:=hin st I.row hk2 rfl hIr rfl (by simpa using e4);exact⟨ω',.slice I.b I.off I.xs.length I.cap I.w I.ex,st,by simp only[cond_true],k1,by simpa using k2⟩
   |false=>
    have hfit:(I.xs.length+ys.length)*I.w≤I.cap*I.w:=lY _ hc';rw[Nat.add_mul]at hfit;have hwr:=rF hIr (off:=I.off+I.xs.length*I.w) (vs:=cs) (by omega) hone;have hk3:=hk2.EE n1 (fun i hi=>n2 i (by rw[cW]at hi;exact hi)) n3 hfree n5 (.row (jQ I.row (I.off+I.xs.length*I.w) cs));obtain⟨ω',k1,k2⟩:=hin _ (jQ I.row (I.off+I.xs.length*I.w) cs) hk3 rfl (by rw[St.dX,if_pos rfl]) (by simp[jQ];omega) (by
     have:=Oq e4 hlu0 (by omega) (by omega);rw[List.flatten_append,lZ,Nat.add_mul];rw[dB c4]at this;exact this)
    exact⟨ω',_,_,by simp only[cond_false,hwr],k1,k2⟩
  |false=>
   simp only[cond_false];have hsc:=nS (cap:=I.cap) (ex:=I.ex) (iT hIr) (show I.off+I.xs.length*I.w≤I.row.length by omega);rw[hsc,qF hIr];cases hex:I.ex with
   |true=>
    obtain⟨ω',k1,k2⟩:=fresh _ st _ hk2 e4 e3;exact⟨ω',_,_,rfl,k1,k2⟩
   |false=>
    have hk3:=hk2.EE n1 (fun i hi=>n2 i (by rw[cW]at hi;exact hi)) n3 hfree n5 .dead;obtain⟨ω',k1,k2⟩:=fresh _ _ _ hk3 e4 e3;exact⟨ω',_,_,rfl,k1,k2⟩
theorem qa9{i:Nat}:∀ {es:List (U×U×Nat)} {es' :List ME} {j:Nat} {k v:U} {k' v' :V},es.length=es'.length→
  (∀ (j:Nat) x y,es[j]? =some x→es'[j]? =some y→UR σ Z n x.1 y.key∧UR σ Z n x.2.1 y.val∧y.born=x.2.2)→UR σ Z n k k'→UR σ Z n v v'→
  (oD j (fun e=>(k,v,e.2.2)) es).length=(k9 j (fun e=>{e with key:=k',val:=v'}) es').length∧
  ∀ (i:Nat) x y,(oD j (fun e=>(k,v,e.2.2)) es)[i]? =some x→(k9 j (fun e=>{e with key:=k',val:=v'}) es')[i]? =some y→UR σ Z n x.1 y.key∧UR σ Z n x.2.1 y.val∧y.born=x.2.2:=by
 intro es
 induction es with
 |nil=>
  intro es' j k v k' v' hl hr hk hv;have:es' =[]:=jT hl.symm;subst this;exact⟨by simp[oD,k9],fun i x y h=>by simp[oD]at h⟩
 |cons a es ih=>
  intro es' j k v k' v' hl hr hk hv;cases es' with
  |nil=>simp at hl
  |cons b es' =>
   have h0:=hr 0 a b rfl rfl;cases j with
   |zero=>
    refine⟨by simpa[oD,k9]using hl,fun i x y hx hy=> ?_⟩;cases i with
    |zero=>simp[oD]at hx;simp[k9]at hy;subst hx;subst hy;exact⟨hk,hv,h0.2.2⟩
    |succ i=>simp[oD]at hx;simp[k9]at hy;exact hr (i+1) x y (by simpa using hx) (by simpa using hy)
   |succ j=>
    obtain⟨h1,h2⟩:=ih (j:=j) (by simpa using hl) (fun i x y hx hy=>hr (i+1) x y (by simpa using hx) (by simpa using hy)) hk hv;refine⟨by simp[oD,k9,h1],fun i x y hx hy=> ?_⟩;cases i with
    |zero=>simp[oD]at hx;simp[k9]at hy;subst hx;subst hy;exact h0
    |succ i=>simp[oD]at hx;simp[k9]at hy;exact h2 i x y hx hy
theorem PD:∀ {es:List (U×U×Nat)} {es' :List ME} {j:Nat},es.length=es'.length→
  (∀ (j:Nat) x y,es[j]? =some x→es'[j]? =some y→UR σ Z n x.1 y.key∧UR σ Z n x.2.1 y.val∧y.born=x.2.2)→
  (gG j es).length=(gN j es').length∧∀ (i:Nat) x y,(gG j es)[i]? =some x→(gN j es')[i]? =some y→UR σ Z n x.1 y.key∧UR σ Z n x.2.1 y.val∧y.born=x.2.2:=by
 intro es
 induction es with
 |nil=>
  intro es' j hl hr;have:es' =[]:=jT hl.symm;subst this;exact⟨by simp[gG,gN],fun i x y h=>by simp[gG]at h⟩
 |cons a es ih=>
  intro es' j hl hr;cases es' with
  |nil=>simp at hl
  |cons b es' =>
   cases j with
   |zero=>exact⟨by simpa[gG,gN]using hl,fun i x y hx hy=>hr (i+1) x y (by simpa[gG]using hx) (by simpa[gN]using hy)⟩
   |succ j=>
    obtain⟨h1,h2⟩:=ih (j:=j) (by simpa using hl) (fun i x y hx hy=>hr (i+1) x y (by simpa using hx) (by simpa using hy));refine⟨by simp[gG,gN,h1],fun i x y hx hy=> ?_⟩;cases i with
    |zero=>simp[gG]at hx;simp[gN]at hy;subst hx;subst hy;exact hr 0 _ _ rfl rfl
    |succ i=>simp[gG]at hx;simp[gN]at hy;exact h2 i x y hx hy
theorem DB{off:Nat}{u:U}{v:V}{cs:List U}(h:Ok E σ Z ω s e st)(hv:TR σ Z ω s.h.length u v):
  ∃ Z' ω',Ok E σ Z' ω' (jg s off u cs).2 e st∧TR σ Z' ω' (jg s off u cs).2.h.length (jg s off u cs).1 v∧(jg s off u cs).2.h.length=s.h.length∧∀ b r,Z b=some r→Z' b=some r:=by
 unfold jg;split
 ·rename_i g w xs;split
  ·by_cases hga:g=.a
   ·simp only[hga,decide_true,cond_true];rw[hga]at hv;exact⟨Z,ω,h,hv,by trivial,fun _ _ h=>h⟩
   ·simp only[hga,decide_false,cond_false];obtain⟨Z',ω',q1,q2,q3,q4,q5,q6⟩:=h.lT g hga;exact⟨Z',ω',q1,TR.bB (by rw[q6];exact hv.1.sl q2 q5),q6,q2⟩
  ·exact⟨Z,ω,h,hv,rfl,fun _ _ h=>h⟩
 ·exact⟨Z,ω,h,hv,rfl,fun _ _ h=>h⟩
theorem Ow{d:Nat}{o:xT}{u:U}(h:pM d s o=some (u,s'))(hk:Ok E σ Z ω s e st):
  ∃ Z' ω' v st',x8 e st o.er=some (v,st')∧Ok E σ Z' ω' s' e st'∧TR σ Z' ω' s'.h.length u v∧s'.h.length=s.h.length∧∀ b r,Z b=some r→Z' b=some r:=by
 have hunit:∀ {Z' ω' n},TR σ Z' ω' n (.aV []) (.aV []):=fun {_ _ _}=>UR.aV rfl (fun j u v h=>by simp at h);cases o with
 |store k a x=>
  simp only[pM]at h;split at h
  ·rename_i i off u0 ha hx;split at h<;>try (simp at h;done)
   rename_i cs0 hi0;obtain⟨va,a1,a2⟩:=hk.cB ha;obtain⟨vx,x1,x2⟩:=hk.cB hx;obtain⟨hlt,rfl⟩:=TR.ptr a2;obtain⟨Z1,ω1,r1,r2,r3,r4⟩:=DB (off:=off) (cs:=cs0) hk x2;generalize jg s off u0 cs0=R at h r1 r2 r3;obtain⟨u1,t1⟩:=R;simp only at h r1 r2 r3;split at h<;>try (simp at h;done)
   rename_i cs hi;split at h<;>simp only[ai,aJ,reduceCtorEq]at h;rename_i s1 hs;obtain⟨rfl,rfl⟩:=h;obtain⟨ω',st',k1,k2,k3⟩:=Iq r1 hi r2 hs;exact⟨Z1,ω',.aV [],st',by simp only[xT.er,x8,a1,x1];exact k1,k2,hunit,k3.trans r3,r4⟩
  ·rename_i g i f u0 ha hx;split at h<;>try (simp at h;done)
   rename_i v1 s1 hesc;split at h<;>try (simp at h;done)
   rename_i w xs hc;split at h<;>try (simp at h;done)
   rename_i r hr;cases hb:(Nat.beq v1.cells.length k&&Nat.ble (f+k) r.length&&v1.cells.all U.aH&&v1.low 0)with
   |false=>rw[hb]at h;simp at h
   |true=>
    rw[hb]at h;simp only[cond_true,ai,aJ]at h;obtain⟨rfl,rfl⟩:=h;simp only[bC]at hb;obtain⟨va,a1,⟨I,hg,rfl⟩,_⟩:=hk.cB ha;obtain⟨vx,x1,x2⟩:=hk.cB hx;have hesc2:∃ Z' ω',Ok E σ Z' ω' s1 e st∧UR σ Z' s.h.length v1 vx∧s1.h.length=s.h.length∧(∀ b r,Z b=some r→Z' b=some r)∧ω' g=some I:=by
     cases u0 with
     |own g0 w0 xs0=>
      have hga:g0≠.a:=by rintro rfl;simp[esc]at hesc
      have hesc:(U.sl w0 xs0,s.lT g0)=(v1,s1):=by cases g0<;>first|exact absurd rfl hga|simpa[esc]using hesc
      rw[aJ]at hesc;obtain⟨rfl,rfl⟩:=hesc;obtain⟨Z',ω',q1,q2,q3,q4,q5,q6⟩:=hk.lT g0 hga;refine⟨Z',ω',q1,x2.1.sl q2 q5,q6,q2,?_⟩;have hne:g≠g0:=fun hh=>by subst hh;rw[Ov q4]at hc;cases hc
      rw[q3 g hne];exact hg
     |bad=>simp[esc]at hesc
     |bF w0 xs0=>simp[esc]at hesc
     |bD g0 i0 f0=>simp[esc]at hesc
     |xU i0 o0 l0 w0=>simp[esc]at hesc
     |view i0 o0 l0 w0=>simp[esc]at hesc
     |cZ=>simp[esc]at hesc
     |aV vs=>simp[esc]at hesc
     |_=>
      simp only[esc,ai,aJ]at hesc;obtain⟨rfl,rfl⟩:=hesc;exact⟨Z,ω,hk,x2,rfl,fun _ _ h=>h,hg⟩
    obtain⟨Z',ω',q1,q2,q3,q4,q5⟩:=hesc2;obtain⟨vo,hor⟩:=yX q1 hc;unfold OR at hor;rw[q5]at hor;obtain⟨rfl,⟨rfl,rfl⟩,e1,e2,e3,e4⟩:=hor;have hrw:r.length=I.w:=e3 r (List.mem_of_getElem? hr);have hil:i<I.xs.length:=(bn.1 hr).1;have hkl:v1.cells.length=k:=bR hb.1.1.1;have hfk:=gu hb.1.1.2;have hcl:=q2.cells;have hcl0:LU σ Z' 0 v1.cells vx.cells:=(q2.low hb.2).cells;have hone:=yV hcl hb.1.2;have hIr:=q1.lE g I q5;have hcapw:I.xs.length*I.w≤I.cap*I.w:=lY _ e1;have hiw:i*I.w+I.w≤I.xs.length*I.w:=by rw[←Nat.succ_mul];exact lY _ hil
    have hwr:=rF hIr (off:=I.off+i*I.w+f) (vs:=vx.cells) (by rw[←hcl.1];omega) hone
    -- the elements,told anew
    have hup:=q1.Bl hc q5 (ys:=I.xs.set i (gh r f v1.cells)) (row' :=jQ I.row (I.off+i*I.w+f) vx.cells) (by simp) (fun hh=>by have:=hcl.1;simp[jQ];omega) (fun r' hr' =>by
     rcases List.mem_or_eq_of_mem_set hr' with hr' |rfl
     ·exact e3 r' hr'
     ·rw[Io (by omega)];exact hrw) (by
     rw[List.length_set,PL e3 hr (by omega),Nat.add_assoc I.off,Cs (by rw[←hcl.1];omega) (by omega)];exact Kf e4 hcl0)
    refine⟨Z',_,.aV [],_,by simp only[xT.er,x8,a1,x1,←hcl.1,hkl,jC,cond_true,hwr],hup,hunit,?_,q4⟩;unfold Vs.fB;split
    ·simp only;unfold setCell;split<;>simp[q3]
    ·exact q3
  ·simp at h
 |mapUpdate kk m k x=>
  simp only[pM]at h;split at h<;>try (simp at h;done)
  rename_i i s1 hm;split at h<;>try (simp at h;done)
  rename_i ku s2 hkk;split at h<;>try (simp at h;done)
  rename_i v s3 hx;split at h<;>try (simp at h;done)
  rename_i es clock hi;obtain⟨Z1,ω1,vm,m1,m2,m3,m4,m5⟩:=hk.fN hm;obtain⟨Z2,ω2,vk,k1,k2,k3,k4,k5⟩:=m2.fN hkk;obtain⟨Z3,ω3,vx,x1,x2,x3,x4,x5⟩:=k2.fN hx;have hlen:s3.h.length=s.h.length:=by omega
  cases hp:dw kk ku with
  |false=>rw[hp]at h;simp at h
  |true=>
   rw[hp]at h;simp only[cond_true]at h;have hml:i<s.h.length∧vm=.map (σ i):=by cases m3;exact⟨‹_›,rfl⟩
   obtain⟨hlt,rfl⟩:=hml;obtain⟨es',g1,g2,g3⟩:=yT x2 hi;have k3' :UR σ Z3 s3.h.length ku vk:=k3.mono (by omega) (fun _ _=>rfl) x5;have x3' :UR σ Z3 s3.h.length v vx:=x3.mono (by omega) (fun _ _=>rfl) (fun _ _ h=>h);have hpk:=lg (TR.bB (ω:=ω3) k3') hp;split at h<;>try (simp at h;done)
   ·rename_i j uo hf;simp only[ai,aJ]at h;obtain⟨rfl,rfl⟩:=h;obtain⟨r',f1,f2⟩:=uk (TR.bB (ω:=ω3) k3') g2 g3 hf;cases r' with
    |none=>exact f2.elim
    |some q=>
     obtain⟨j',b⟩:=q;obtain⟨rfl,_⟩:=f2;obtain⟨l1,l2⟩:=qa9 (i:=0) (j:=j) g2 g3 k3' x3';have:=x2.DA (i:=i) (o:=.map (oD j (fun e=>(ku,v,e.2.2)) es) clock) (ob:=.map (k9 j (fun e=>{e with key:=vk,val:=vx}) es') clock) (by omega) (by rw[hi];intro hh;cases hh) ⟨_,rfl,l1,l2⟩;exact⟨Z3,ω3,.aV [],_,by simp only[xT.er,x8,m1,k1,x1,g1,hpk,cond_true,f1],this.QN _,hunit,by simp[hlen],fun b r hb=>x5 b r (k5 b r (m5 b r hb))⟩
   ·rename_i hf;simp only[ai,aJ]at h;obtain⟨rfl,rfl⟩:=h;obtain⟨r',f1,f2⟩:=uk (TR.bB (ω:=ω3) k3') g2 g3 hf;cases r' with
    |some q=>exact f2.elim
    |none=>
     have:=x2.DA (i:=i) (o:=.map (es++[(ku,v,clock)]) (clock+1)) (ob:=.map (es'++[{key:=vk,val:=vx,born:=clock}]) (clock+1)) (by omega) (by rw[hi];intro hh;cases hh) ⟨_,rfl,by simp[g2],fun j x y hx hy=>by
      by_cases hj:j<es.length
      ·rw[cz hj]at hx;rw[cz (by omega)]at hy;exact g3 j x y hx hy
      ·rw[fh (by omega)]at hx hy;rw[←g2]at hy;cases hq:j - es.length with
       |zero=>rw[hq]at hx hy;simp at hx hy;subst hx;subst hy;exact⟨k3',x3',rfl⟩
       |succ m=>rw[hq]at hx;simp at hx⟩
     exact⟨Z3,ω3,.aV [],_,by simp only[xT.er,x8,m1,k1,x1,g1,hpk,cond_true,f1],this.QN _,hunit,by simp[hlen],fun b r hb=>x5 b r (k5 b r (m5 b r hb))⟩
 |delete kk m k=>
  simp only[pM]at h;split at h
  ·rename_i ku hm hkk;cases hp:dw kk ku with
   |false=>rw[hp]at h;simp at h
   |true=>
    rw[hp]at h;simp only[cond_true,ai,aJ]at h;obtain⟨rfl,rfl⟩:=h;obtain⟨vm,m1,m2⟩:=hk.cB hm;obtain⟨vk,k1,k2⟩:=hk.cB hkk;obtain rfl:=TR.bQ m2;exact⟨Z,ω,.aV [],st,by simp only[xT.er,x8,m1,k1,lg k2 hp,cond_true],hk,hunit,rfl,fun _ _ h=>h⟩
  ·rename_i i ku hm hkk;split at h<;>try (simp at h;done)
   rename_i es clock hi;cases hp:dw kk ku with
   |false=>rw[hp]at h;simp at h
   |true=>
    rw[hp]at h;simp only[cond_true]at h;obtain⟨vm,m1,m2⟩:=hk.cB hm;obtain⟨vk,k1,k2⟩:=hk.cB hkk;obtain⟨hlt,rfl⟩:=TR.map m2;obtain⟨es',g1,g2,g3⟩:=yT hk hi;have hpk:=lg k2 hp;split at h<;>try (simp at h;done)
    ·rename_i j uo hf;simp only[ai,aJ]at h;obtain⟨rfl,rfl⟩:=h;obtain⟨r',f1,f2⟩:=uk k2 g2 g3 hf;cases r' with
     |none=>exact f2.elim
     |some q=>
      obtain⟨j',b⟩:=q;obtain⟨rfl,_⟩:=f2;obtain⟨l1,l2⟩:=PD (j:=j) g2 g3;have:=hk.DA (i:=i) (o:=.map (gG j es) clock) (ob:=.map (gN j es') clock) hlt (by rw[hi];intro hh;cases hh) ⟨_,rfl,l1,l2⟩;exact⟨Z,ω,.aV [],_,by simp only[xT.er,x8,m1,k1,g1,hpk,cond_true,f1],this,hunit,by simp,fun _ _ h=>h⟩
    ·rename_i hf;simp only[ai,aJ]at h;obtain⟨rfl,rfl⟩:=h;obtain⟨r',f1,f2⟩:=uk k2 g2 g3 hf;cases r' with
     |some q=>exact f2.elim
     |none=>exact⟨Z,ω,.aV [],st,by simp only[xT.er,x8,m1,k1,g1,hpk,cond_true,f1],hk,hunit,rfl,fun _ _ h=>h⟩
  ·simp at h
 |append w bytes str a x=>
  simp only[pM]at h;split at h<;>try (simp at h;done)
  rename_i ua ux ha hx;split at h<;>try (simp at h;done)
  rename_i ys hys;obtain⟨va,a1,a2⟩:=hk.cB ha;obtain⟨vx,x1,x2⟩:=hk.cB hx;split at h
  ·rename_i g w' xs;cases hb:(!(decide (g=.a))&&Nat.beq w' w&&Nat.ble ((xs.length+ys.length)*bytes) bp&&Nat.ble (xs.length+ys.length) bp&&ys.all (fun r=>r.all U.aH&&U.b8 0 r&&Nat.beq r.length w))with
   |false=>rw[hb]at h;simp at h
   |true=>
    rw[hb]at h;simp only[cond_true,ai,aJ]at h;obtain⟨rfl,rfl⟩:=h;simp only[bC]at hb;have hww:w' =w:=bR hb.1.1.1.2;subst hww;have hga:g≠.a:=by have:=hb.1.1.1.1;simpa using this
    obtain⟨ω',v,st',k1,k2,k3⟩:=sW (d:=d) hk hga a2.1 x2 hys hb.1.1.2 hb.1.2 hb.2;exact⟨Z,ω',v,st',by simp only[xT.er,x8,a1,x1];exact k1,k2,⟨k3,fun i off hh=>by cases hh⟩,by rw[cW,cW],fun _ _ h=>h⟩
  ·rename_i w';cases hb:(Nat.beq w' w&&Nat.ble (ys.length*bytes) bp&&Nat.ble ys.length bp&&ys.all (fun r=>r.all U.aH&&U.b8 0 r&&Nat.beq r.length w))with
   |false=>rw[hb]at h;simp at h
   |true=>
    rw[hb]at h;simp only[cond_true,ai,aJ]at h;obtain⟨rfl,rfl⟩:=h;simp only[bC]at hb;have hww:w' =w:=bR hb.1.1.1;subst hww;have hor:OR σ Z ω .r w' [] va:=by
     have a3:UR σ Z s.h.length (.nl w') va:=a2;unfold OR;rw[hk.wr];cases a3 with
     |CJ=>exact⟨rfl,.inl rfl⟩
     |Dt=>exact⟨rfl,.inr rfl⟩
    obtain⟨ω',v,st',k1,k2,k3⟩:=sW (d:=d) hk (by simp) hor x2 hys (by simpa using hb.1.1.2) (by simpa using hb.1.2) hb.2;exact⟨Z,ω',v,st',by simp only[xT.er,x8,a1,x1];exact k1,k2,⟨by simpa using k3,fun i off hh=>by cases hh⟩,by rw[cW,cW],fun _ _ h=>h⟩
  ·rename_i w' xs;cases hb:(Nat.beq w' w&&ys.isEmpty&&Nat.ble (xs.length*bytes) bp&&Nat.ble xs.length bp)with
   |false=>rw[hb]at h;simp at h
   |true=>
    rw[hb]at h;simp only[cond_true,ai,aJ]at h;obtain⟨rfl,rfl⟩:=h;simp only[bC]at hb;have hww:w' =w:=bR hb.1.1.1;subst hww;have hy0:ys=[]:=by cases ys with|nil=>rfl|cons a r=>simp at hb
    subst hy0;obtain⟨cs,c1,c2,c3,c4⟩:=Kh hk hys x2;rw[List.flatten_nil]at c2;have hcs:=c2.dY;subst hcs;have hap:oZ st w' bytes str va vx=some (va,st):=by
     unfold oZ;rw[c1,c3];have a3:UR σ Z s.h.length (.sl w' xs) va:=a2;cases a3 with
     |slnil=>simp
     |y9=>simp
     |Bf hn hz hl hcap hr hv=>
      subst hn;simp[hb.1.2,hb.2,oT hcap]
     |CO hn hl hr hv=>simp
    exact⟨Z,ω,va,st,by simp only[xT.er,x8,a1,x1];exact hap,hk,a2,rfl,fun _ _ h=>h⟩
  ·simp at h
 |copy w str a x=>
  simp only[pM]at h;split at h<;>try (simp at h;done)
  rename_i g w' xs ux ha hx;split at h<;>try (simp at h;done)
  rename_i ys hys;cases hb:(Nat.beq w' w&&(s.cc g).isSome&&ys.all (fun r=>r.all U.aH&&U.b8 0 r&&Nat.beq r.length w))with
  |false=>rw[hb]at h;simp at h
  |true=>
   rw[hb]at h;simp only[cond_true,ai,aJ]at h;obtain⟨rfl,rfl⟩:=h;simp only[bC]at hb;have hww:w' =w:=bR hb.1.1;subst hww;obtain⟨va,a1,a2,a3⟩:=hk.cB ha;obtain⟨vx,x1,x2⟩:=hk.cB hx;obtain⟨cs,c1,c2,c3,c4⟩:=Kh hk hys x2;obtain⟨f1,f2,f3⟩:=G5 hb.2;have hone:=yV c2 f1;have hlu0:=c2.low f2;obtain⟨p0,hp0⟩:=Option.isSome_iff_exists.1 hb.1.2;unfold OR at a2;split at a2
   ·rename_i hg;obtain⟨rfl,hv⟩:=a2;have hupd:s.fB g w' (List.take 0 ys++List.drop ys.length [])=s.fB g w' []:=by simp
    -- nothing turns
    obtain⟨vo,hor⟩:=yX hk (g:=g) (w:=p0.1) (xs:=p0.2) hp0;have hx0:p0.2=[]:=by unfold OR at hor;rw[hg]at hor;exact hor.1
    have hOk:Ok E σ Z ω (s.fB g w' []) e st∧(s.fB g w' []).h.length=s.h.length:=by
     have henv:∀ t u,look (Env.fB g [] s.e) t=some u→∃ v,e.get t=some v∧TR σ Z ω s.h.length u v:=by
      intro t u hu;rw[AU]at hu;cases hq:look s.e t with
      |none=>rw[hq]at hu;simp at hu
      |some x=>
       rw[hq]at hu;simp at hu;obtain⟨v,h1,h2⟩:=hk.env t x hq;refine⟨v,h1,?_⟩;subst hu;cases x with
       |own g' w2 xs2=>
        simp only[U.fB];by_cases hgg:g' =g
        ·subst hgg;rw[if_pos rfl];refine⟨?_,h2.2⟩;have h3:=h2.1;unfold OR at h3⊢;rw[hg]at h3⊢;exact⟨rfl,h3.2⟩
        ·rw[if_neg hgg];exact h2
       |_=>exact h2
     unfold Vs.fB;split
     ·rename_i i off;simp only[Vs.cc]at hp0;split at hp0<;>try (simp at hp0;done)
      rename_i cs' hi;split at hp0<;>try (simp at hp0;done)
      rename_i w0 xs0 hc0;have hlt:=(bn.1 hi).1;have hoff:=(bn.1 hc0).1;simp only[setCell,hi];refine⟨(hk.setEnv henv).setRow (cs:=cs') hi (by simp) (fun o u u' v h1 h2 h3=> ?_) (fun o h2=> ?_),by simp⟩
      ·rw[eN]at h2;by_cases ho:off=o
       ·subst ho;rw[if_pos rfl,if_pos hoff]at h2;simp at h2;subst h2;rw[hc0]at h1;simp at h1;subst h1;have h4:OR σ Z ω (.c i off) w0 xs0 v:=h3;show OR σ Z ω (.c i off) w' [] v;unfold OR at h4⊢;rw[hg]at h4⊢;exact⟨rfl,h4.2⟩
       ·rw[if_neg ho,h1]at h2;simp at h2;subst h2;exact h3
      ·rw[eN]at h2;split at h2
       ·first|(simp at h2;done)|(split at h2<;>simp at h2)
       ·exact h2
     ·exact⟨hk.setEnv henv,rfl⟩
    have hcp:copyV st w' str va vx=some (.int .i64 0,st):=by
     unfold copyV;rw[c1,c3];rcases hv with rfl|rfl<;>rfl
    refine⟨Z,ω,.int .i64 0,st,by simp only[xT.er,x8,a1,x1];exact hcp,by simpa using hOk.1,?_,by simpa using hOk.2,fun _ _ h=>h⟩;have:((min ys.length ([]:List (List U)).length:Nat):Int)=0:=by simp
    rw[this];exact TR.bB (.int _ _)
   ·rename_i I hg;obtain⟨rfl,⟨rfl,rfl⟩,e1,e2,e3,e4⟩:=a2;have hIr:=hk.lE g I hg;have hcl:cs.length=ys.length*I.w:=by rw[←c2.1,dB c4]
    have hcapw:I.xs.length*I.w≤I.cap*I.w:=lY _ e1;have hmin:min ys.length I.xs.length*I.w≤I.xs.length*I.w:=lY _ (Nat.min_le_right _ _);have hmin2:min ys.length I.xs.length*I.w≤ys.length*I.w:=lY _ (Nat.min_le_left _ _);have htl:(cs.take (min ys.length I.xs.length*I.w)).length=min ys.length I.xs.length*I.w:=by rw[List.length_take];omega
    have hwr:=rF hIr (off:=I.off) (vs:=cs.take (min ys.length I.xs.length*I.w)) (by rw[htl];omega) (by
     rw[jD]at hone⊢;exact fun v hv=>hone v (List.mem_of_mem_take hv))
    have hfl:(ys.take I.xs.length++I.xs.drop ys.length).flatten=gh I.xs.flatten 0 (ys.flatten.take (min ys.length I.xs.length*I.w)):=by
     unfold gh;rw[List.flatten_append,rS c4,rR e3,List.take_zero,List.nil_append,List.length_take,dB c4];rw[Nat.zero_add,Nat.min_eq_left hmin2];rcases Nat.le_total ys.length I.xs.length with hle|hle
     ·rw[Nat.min_eq_left hle,jU (by rw[dB c4];exact lY _ hle),jU (by rw[dB c4];exact aq _)]
     ·rw[Nat.min_eq_right hle,Gz (by rw[dB e3];exact lY _ hle),Gz (by rw[dB e3];exact aq _)]
    have hup:=hk.Bl hp0 hg (ys:=ys.take I.xs.length++I.xs.drop ys.length) (row' :=jQ I.row I.off (cs.take (min ys.length I.xs.length*I.w))) (by simp;omega) (fun hh=>by simp only[jQ,lZ,List.length_take,List.length_drop]at htl⊢;omega) (fun r hr=>by
     rcases gD.1 hr with hr|hr
     ·exact c4 r (List.mem_of_mem_take hr)
     ·exact e3 r (List.mem_of_mem_drop hr)) (by
     have hll:(ys.take I.xs.length++I.xs.drop ys.length).length=I.xs.length:=by simp;omega
     rw[hll,hfl];have:=Cs (row:=I.row) (vs:=cs.take (min ys.length I.xs.length*I.w)) (off:=I.off) (p:=0) (L:=I.xs.length*I.w) (by rw[htl];omega) (by omega);rw[Nat.add_zero]at this;rw[this];exact Kf e4 (hlu0.take _))
    have hcp:copyV st I.w str (.slice I.b I.off I.xs.length I.cap I.w I.ex) vx=some (.int .i64 (min ys.length I.xs.length:Nat),st.put I.b (.row (jQ I.row I.off (cs.take (min ys.length I.xs.length*I.w))))):=by
     unfold copyV;rw[c1,c3];simp only[jC,cond_true,hwr]
    refine⟨Z,_,_,_,by simp only[xT.er,x8,a1,x1];exact hcp,hup,TR.bB (.int _ _),?_,fun _ _ h=>h⟩;unfold Vs.fB;split
    ·simp only;unfold setCell;split<;>simp
    ·rfl
 |clear w z x=>simp[pM]at h
 |range x=>simp[pM]at h
end
end Go.RE
namespace Go.RE
def iZ(m:Nat)(x:U×U×Nat):Bool:=x.1.low m&&x.2.1.low m
def Uo.low(m:Nat):Uo→Bool
 | .row cs=>U.b8 m cs
 | .map es _=>es.all (iZ m)
 | .iter (some j) _ _ _=>Nat.blt j m
 | .iter none _ _ _=>true
 | .gone=>true
structure Fl(s:Vs):Prop where
 le:s.fl≤s.h.length
 ob:∀ (i:Nat) o,s.h[i]? =some o→o.low (max (i+1) s.fl)=true
theorem k7{m:Nat}:∀ {us:List U},U.b8 m us=true↔∀ u∈us,u.low m=true:=by
 intro us
 induction us with
 |nil=>simp[U.b8]
 |cons a r ih=>simp[U.b8,ih]
mutual
theorem ic{m k:Nat}(hm:m≤k):∀ {u:U},u.low m=true→u.low k=true
 | .ptr i _,h=>by simp only[U.low,Nat.blt,gv]at h⊢;omega
 | .map i,h=>by simp only[U.low,Nat.blt,gv]at h⊢;omega
 | .xU i _ _ _,h=>by simp only[U.low,Nat.blt,gv]at h⊢;omega
 | .own (.c i _) _ _,h=>by simp only[U.low,Nat.blt,gv]at h⊢;omega
 | .bD (.c i _) _ _,h=>by simp only[U.low,Nat.blt,gv]at h⊢;omega
 | .view (.c i _) _ _ _,h=>by simp only[U.low,Nat.blt,gv]at h⊢;omega
 | .func _ a b,h=>by simp only[U.low,bC]at h⊢;exact⟨rY hm h.1,rY hm h.2⟩
 | .iface _ v,h=>by simp only[U.low]at h⊢;exact ic hm h
 | .agg a,h=>by simp only[U.low]at h⊢;exact rY hm h
 | .aV a,h=>by simp only[U.low]at h⊢;exact rY hm h
 | .bad,_=>rfl
 | .bool _,_=>rfl
 | .int _ _,_=>rfl
 | .str _,_=>rfl
 | .bA,_=>rfl
 | .bu,_=>rfl
 | .bQ,_=>rfl
 | .di,_=>rfl
 | .cO,_=>rfl
 | .eD _ _,_=>rfl
 | .sl _ _,_=>rfl
 | .nl _,_=>rfl
 | .own (.t _) _ _,_=>rfl
 | .own .r _ _,_=>rfl
 | .bD (.t _) _ _,_=>rfl
 | .bD .r _ _,_=>rfl
 | .own .a _ _,_=>rfl
 | .bD .a _ _,_=>rfl
 | .view (.t _) _ _ _,_=>rfl
 | .view .r _ _ _,_=>rfl
 | .view .a _ _ _,_=>rfl
 | .cZ,_=>rfl
 | .bF _ _,_=>rfl
theorem rY{m k:Nat}(hm:m≤k):∀ {us:List U},U.b8 m us=true→U.b8 k us=true
 |[],_=>rfl
 |u::us,h=>by simp only[U.b8,bC]at h⊢;exact⟨ic hm h.1,rY hm h.2⟩
end
mutual
theorem mg{m k:Nat}:∀ {u:U},u.low m=true→(u.shift k).low (m+k)=true
 | .ptr i _,h=>by simp only[U.shift,U.low,Nat.blt,gv]at h⊢;omega
 | .map i,h=>by simp only[U.shift,U.low,Nat.blt,gv]at h⊢;omega
 | .xU i _ _ _,h=>by simp only[U.shift,U.low,Nat.blt,gv]at h⊢;omega
 | .own (.c i _) _ _,h=>by simp only[U.shift,U.low,Nat.blt,gv]at h⊢;omega
 | .bD (.c i _) _ _,h=>by simp only[U.shift,U.low,Nat.blt,gv]at h⊢;omega
 | .view (.c i _) _ _ _,h=>by simp only[U.shift,U.low,Nat.blt,gv]at h⊢;omega
 | .func _ a b,h=>by simp only[U.shift,U.low,bC]at h⊢;exact⟨kF h.1,kF h.2⟩
 | .iface _ v,h=>by simp only[U.shift,U.low]at h⊢;exact mg h
 | .agg a,h=>by simp only[U.shift,U.low]at h⊢;exact kF h
 | .aV a,h=>by simp only[U.shift,U.low]at h⊢;exact kF h
 | .bad,_=>rfl
 | .bool _,_=>rfl
 | .int _ _,_=>rfl
 | .str _,_=>rfl
 | .bA,_=>rfl
 | .bu,_=>rfl
 | .bQ,_=>rfl
 | .di,_=>rfl
 | .cO,_=>rfl
 | .eD _ _,_=>rfl
 | .sl _ _,_=>rfl
 | .nl _,_=>rfl
 | .own (.t _) _ _,_=>rfl
 | .own .r _ _,_=>rfl
 | .bD (.t _) _ _,_=>rfl
 | .bD .r _ _,_=>rfl
 | .own .a _ _,_=>rfl
 | .bD .a _ _,_=>rfl
 | .view (.t _) _ _ _,_=>rfl
 | .view .r _ _ _,_=>rfl
 | .view .a _ _ _,_=>rfl
 | .cZ,_=>rfl
 | .bF _ _,_=>rfl
theorem kF{m k:Nat}:∀ {us:List U},U.b8 m us=true→U.b8 (m+k) (U.fQ k us)=true
 |[],_=>rfl
 |u::us,h=>by simp only[U.fQ,U.b8,bC]at h⊢;exact⟨mg h.1,kF h.2⟩
end
theorem Uo.ic{m k:Nat}(hm:m≤k){o:Uo}(h:o.low m=true):o.low k=true:=by
 cases o with
 |row cs=>exact rY hm h
 |map es c=>
  simp only[Uo.low,jD,iZ,bC]at h⊢;exact fun x hx=>⟨RE.ic hm (h x hx).1,RE.ic hm (h x hx).2⟩
 |iter q a b c=>
  cases q with
  |none=>rfl
  |some j=>simp only[Uo.low,Nat.blt,gv]at h⊢;omega
 |gone=>rfl
theorem Uo.mg{m k:Nat}{o:Uo}(h:o.low m=true):(eL k o).low (m+k)=true:=by
 cases o with
 |row cs=>exact kF h
 |map es c=>
  simp only[Uo.low,eL,jD,iZ,bC,eS]at h⊢;rintro x ⟨y,hy,rfl⟩;exact⟨RE.mg (h y hy).1,RE.mg (h y hy).2⟩
 |iter q a b c=>
  cases q with
  |none=>rfl
  |some j=>simp only[eL,Option.map_some,Uo.low,Nat.blt,gv]at h⊢;omega
 |gone=>rfl
section
variable{E:qe}{σ:Sg}{Z:Zs}{ω:Om}{s s' :Vs}{e:PT V}{st:St}{n:Nat}
theorem yS{a:List U}{b:List V}(hab:a.length=b.length)(hh:∀ (j:Nat) u v,a[j]? =some u→b[j]? =some v→u.low n=true):U.b8 n a=true:=by
 rw[k7];intro u hu;obtain⟨j,hj,rfl⟩:=List.mem_iff_getElem.1 hu;exact hh j _ _ (bP hj) (bP (by omega))
theorem UR.mR{u:U}{v:V}(h:UR σ Z n u v):u.low n=true:=by
 induction h with
 |ptr h=>simp only[U.low,Nat.blt,gv];omega
 |map h=>simp only[U.low,Nat.blt,gv];omega
 |func h1 _ h2 _ ih1 ih2=>simp only[U.low,bC];exact⟨yS ‹_› ih1,yS ‹_› ih2⟩
 |iface _ ih=>exact ih
 |agg h _ ih=>exact yS h ih
 |aV h _ ih=>exact yS h ih
 |_=>rfl
theorem TR.mR{u:U}{v:V}(h:TR σ Z ω n u v):u.low n=true:=by
 cases u with
 |bad=>rfl
 |bF _ _=>rfl
 |own g w xs=>
  cases g with
  |c i o=>have:=h.2 i o rfl;simp only[U.low,Nat.blt,gv];omega
  |t d=>rfl
  |r=>rfl
  |a=>rfl
 |bD g i f=>
  cases g with
  |c i o=>have:=h.2 i o rfl;simp only[U.low,Nat.blt,gv];omega
  |t d=>rfl
  |r=>rfl
  |a=>rfl
 |view g i f l=>
  cases g with
  |c i o=>have:=h.2 i o rfl;simp only[U.low,Nat.blt,gv];omega
  |t d=>rfl
  |r=>rfl
  |a=>rfl
 |cZ=>rfl
 |xU i off len w=>have:=h.1;simp only[U.low,Nat.blt,gv];omega
 |_=>exact UR.mR h
theorem CR.mR{i off:Nat}{u:U}{v:V}(h:CR σ Z ω n i off u v):u.low n=true:=by
 cases u with
 |bad=>rfl
 |cZ=>rfl
 |bF _ _=>rfl
 |_=>exact UR.mR h
theorem LU.mR{us:List U}{vs:List V}(h:LU σ Z n us vs):U.b8 n us=true:=by
 rw[k7];intro u hu;obtain⟨j,hj,rfl⟩:=List.mem_iff_getElem.1 hu;exact(h.2 j _ _ (bP hj) (bP (by have:=h.1;omega))).mR
theorem Ok.Mg(h:Ok E σ Z ω s e st){i:Nat}{o:Uo}(ho:s.h[i]? =some o):o.low s.h.length=true:=by
 have h1:=h.obj i o ho;cases o with
 |row cs=>
  obtain⟨cs',q1,q2,q3⟩:=h1;simp only[Uo.low];rw[k7];intro u hu;obtain⟨j,hj,rfl⟩:=List.mem_iff_getElem.1 hu;exact(q3 j _ _ (bP hj) (bP (by omega))).mR
 |map es c=>
  obtain⟨es',q1,q2,q3⟩:=h1;simp only[Uo.low,jD,iZ,bC];intro u hu;obtain⟨j,hj,rfl⟩:=List.mem_iff_getElem.1 hu;have:=q3 j _ _ (bP hj) (bP (by omega));exact⟨this.1.mR,this.2.1.mR⟩
 |iter q a b c=>
  cases q with
  |none=>rfl
  |some j=>simp only[Uo.low,Nat.blt,gv];exact h1.2 j rfl
 |gone=>rfl
theorem Fl.env(h:Fl s)(E' :Env):Fl {s with e:=E'}:=⟨h.le,h.ob⟩
theorem Fl.set(h:Fl s){i:Nat}{o:Uo}(ho:o.low (max (i+1) s.fl)=true)(E' :Env):Fl {s with e:=E',h:=s.h.set i o}:=by
 refine⟨by simpa using h.le,fun j x hx=> ?_⟩;simp only at hx;rw[eN]at hx;by_cases hj:i=j
 ·subst hj;rw[if_pos rfl]at hx;split at hx<;>simp at hx;subst hx;exact ho
 ·rw[if_neg hj]at hx;exact h.ob j x hx
theorem Fl.push(h:Fl s){o:Uo}(ho:o.low (s.h.length+1)=true)(E' :Env):Fl {s with e:=E',h:=s.h++[o]}:=by
 refine⟨by have:=h.le;simp;omega,fun j x hx=> ?_⟩;simp only at hx;rcases Nat.lt_or_ge j s.h.length with hj|hj
 ·rw[cz hj]at hx;exact h.ob j x hx
 ·rw[fh hj]at hx;have:j=s.h.length:=by
   have:=(bn.1 hx).1;simp at this;omega
  subst this;simp at hx;subst hx;exact Uo.ic (oU _ _) ho
theorem Fl.raise(h:Fl s){E' :Env}{H:List Uo}(hl:H.length=s.h.length)(hH:∀ (i:Nat) o,H[i]? =some o→o.low s.h.length=true):Fl {e:=E',h:=H,fl:=s.h.length}:=
 ⟨by simp[hl],fun i o ho=>Uo.ic (Nat.le_max_right _ _) (hH i o ho)⟩
theorem AV{m off:Nat}{cs:List U}{v:U}(h:U.b8 m cs=true)(hv:v.low m=true):U.b8 m (cs.set off v)=true:=by
 rw[k7]at h⊢;intro u hu;rcases List.mem_or_eq_of_mem_set hu with hu|rfl
 ·exact h u hu
 ·exact hv
theorem HG{m off:Nat}{cs vs:List U}(h:U.b8 m cs=true)(hv:U.b8 m vs=true):U.b8 m (gh cs off vs)=true:=by
 rw[k7]at h hv⊢;intro u hu;unfold gh at hu;simp only[gD]at hu;rcases hu with(hu|hu)|hu
 ·exact h u (List.mem_of_mem_take hu)
 ·exact hv u hu
 ·exact h u (List.mem_of_mem_drop hu)
theorem Fl.setCell(h:Fl s){i off:Nat}{v:U}(hv:∀ m,v.low m=true)(E' :Env):Fl {s with e:=E',h:=setCell s.h i off v}:=by
 unfold RE.setCell;split
 ·rename_i cs hi;exact h.set (o:=.row (cs.set off v)) (AV (h.ob i _ hi) (hv _)) E'
 ·exact h.env E'
theorem Fl.kill(h:Fl s)(g:Tg):Fl (s.kill g):=by
 unfold Vs.kill;split
 ·exact h.setCell (fun _=>rfl) _
 ·exact h.env _
theorem Fl.lT(h:Fl s)(g:Tg):Fl (s.lT g):=by
 unfold Vs.lT;split
 ·split
  ·split
   ·rename_i i off _ cs hi _ w xs hc;exact h.set (o:=.row (cs.set off (.sl w xs))) (AV (h.ob _ _ hi) rfl) _
   ·exact h.env _
  ·exact h.env _
 ·exact h.env _
theorem Fl.fB(h:Fl s)(g:Tg)(w:Nat)(ys:List (List U)):Fl (s.fB g w ys):=by
 unfold Vs.fB;split
 ·exact h.setCell (fun _=>rfl) _
 ·exact h.env _
theorem Fl.esc(h:Fl s){u u' :U}(he:esc u s=some (u',s')):Fl s' :=by
 unfold RE.esc at he;split at he<;>simp only[ai,aJ,reduceCtorEq]at he
 ·obtain⟨_,rfl⟩:=he;exact h.lT _
 ·obtain⟨_,rfl⟩:=he;exact h
theorem Fl.fN(h:Fl s){x:bJ}{u' :U}(he:fN x s=some (u',s')):Fl s' :=by
 unfold RE.fN at he;split at he
 ·exact h.esc he
 ·simp at he
theorem Fl.fW:∀ {xs:List bJ} {s s' :Vs} {us:List U},Fl s→fW xs s=some (us,s')→Fl s' :=by
 intro xs
 induction xs with
 |nil=>intro s s' us h he;simp[RE.fW]at he;obtain⟨_,rfl⟩:=he;exact h
 |cons x xs ih=>
  intro s s' us h he;simp only[RE.fW]at he;split at he
  ·rename_i v s1 h1;split at he<;>simp only[ai,aJ,reduceCtorEq]at he;rename_i vs s2 h2;obtain⟨_,rfl⟩:=he;exact ih (h.fN h1) h2
  ·simp at he
theorem Fl.fill:∀ {parts:List (Nat×Nat×bJ)} {s s' :Vs} {us cs:List U},Fl s→jV parts us s=some (cs,s')→Fl s' :=by
 intro parts
 induction parts with
 |nil=>intro s s' us cs h he;simp[jV]at he;obtain⟨_,rfl⟩:=he;exact h
 |cons p parts ih=>
  intro s s' us cs h he;obtain⟨off,size,x⟩:=p;simp only[jV]at he;split at he
  ·rename_i v s1 h1;cases hb:(Nat.beq v.cells.length size&&Nat.ble (off+v.cells.length) us.length)with
   |false=>rw[hb]at he;simp at he
   |true=>rw[hb]at he;exact ih (h.fN h1) he
  ·simp at he
end
end Go.RE
