/- The operations that write memory: they are sound. -/
import Derived.Test.YtigkmaeaoaejiaaGreatDoorPart6
set_option linter.unusedVariables false
set_option linter.unusedSimpArgs false
set_option linter.constructorNameAsVariable false
namespace Go.RE
section
variable{E:vK}{σ:Sg}{Z:Zs}{ω:Om}{s s' :Vs}{e:PT V}{st:St}{n:Nat}
theorem qel{u:U}{v:V}(h:UR σ Z n u v)(hc:u.aL=true):v.one=true:=by
 cases h<;>first|rfl|(simp[U.aL]at hc)
theorem yu{us:List U}{vs:List V}(h:LU σ Z n us vs)(hc:us.all U.aL=true):vs.all V.one=true:=by
 rw[qd]at hc⊢;intro v hv;obtain⟨j,hj,rfl⟩:=List.mem_iff_getElem.1 hv;have hj' :j<us.length:=h.1▸hj;exact qel (h.2 j _ _ (dm hj') (dm hj)) (hc _ (List.getElem_mem hj'))
theorem Si{i off:Nat}{cs:List U}{cs' :List V}{us:List U}{vs:List V}(hl:cs.length=cs'.length)(hc:∀ (o:Nat) u v,cs[o]? =some u→cs'[o]? =some v→CR σ Z ω n i o u v)
  (hul:us.length=vs.length) (hu:∀ (o:Nat) u v,us[o]? =some u→vs[o]? =some v→CR σ Z ω n i (off+o) u v) (hle:off+us.length≤cs.length):
  (jy cs off us).length=(kT cs' off vs).length∧∀ (o:Nat) u v,(jy cs off us)[o]? =some u→(kT cs' off vs)[o]? =some v→CR σ Z ω n i o u v:=by
 refine⟨by simp[jy,kT];omega,fun o u v h1 h2=> ?_⟩;unfold jy at h1;unfold kT at h2;rw[ow]at h1 h2;by_cases ho:o<off
 ·rw[gD (by simp;omega),o3,if_pos ho]at h1;rw[gD (by simp;omega),o3,if_pos ho]at h2;exact hc o u v h1 h2
 ·rw[gf (by simp;omega)]at h1 h2;have e1:(cs.take off).length=off:=by simp;omega
  have e2:(cs'.take off).length=off:=by simp;omega
  rw[e1]at h1;rw[e2]at h2;by_cases ho2:o - off<us.length
  ·rw[gD ho2]at h1;rw[gD (by omega)]at h2;have:=hu _ u v h1 h2;rw[show off+(o - off)=o by omega]at this;exact this
  ·rw[gf (by omega),td]at h1;rw[gf (by omega),td]at h2;have:=hc _ u v h1 (by rw[←h2];congr 1;omega);rw[show off+us.length+(o - off - us.length)=o by omega]at this;exact this
theorem rD{b off:Nat}{vs cs:List V}(hr:st.get b=some (.row cs))(hl:off+vs.length≤cs.length)(ho:vs.all V.one=true):st.write b off vs=some (st.put b (.row (kT cs off vs))):=by
 simp only[St.write,eN hr,tD hl,ho,Bool.and_self,cond_true]
theorem HW{k i off:Nat}{u:U}{v:V}{cs:List U}(h:Ok E σ Z ω s e st)(hi:s.h[i]? =some (.row cs))(hv:TR σ Z ω s.h.length u v)(hs:qi s k i off u cs=some s'):
  ∃ ω' st',(bif Nat.beq v.cells.length k then(match st.write (σ i) off v.cells with|some s' =>some (.aP [],s')|none=>none)else none)=some (V.aP [],st')∧Ok E σ Z ω' s' e st'∧s'.h.length=s.h.length:=by
 have hlt:i<s.h.length:=(cz.1 hi).1;obtain⟨cs',g1,g2,g3⟩:=h.obj i _ hi;unfold qi at hs;split at hs
 ·rename_i g w xs;cases hb:(Nat.beq k 1&&Nat.blt off cs.length)with
  |false=>rw[hb]at hs;simp at hs
  |true=>
   rw[hb]at hs;simp only[cond_true]at hs;simp only[cm]at hb;have hk1:k=1:=bS hb.1;subst hk1;have hoff:off<cs.length:=by have:=hb.2;simp only[Nat.blt,jC]at this;omega
   split at hs<;>simp only[ay,reduceCtorEq]at hs;rename_i hno;subst hs;obtain⟨c1,c2⟩:=uL hv.1;have hg:∀ i off,g≠.c i off:=fun i off hh=>hno i off hh;have hw:st.write (σ i) off v.cells=some (st.put (σ i) (.row (kT cs' off [v]))):=by
    rw[c1];exact rD g1 (by simp;omega) (by simp[c2])
   -- the cell is given up
   have h1:=h.cy (Tg.kG i off 1);have hspl:OB σ Z ω s.h.length i (.row (cs.set off .bad)) (some (.row (kT cs' off [v]))):=by
    have e1:cs.set off .bad=jy cs off [.bad]:=by
     unfold jy;rw[List.set_eq_take_append_cons_drop,if_pos hoff];simp
    rw[e1];obtain⟨s1,s2⟩:=Si (off:=off) (us:=[.bad]) (vs:=[v]) g2 g3 rfl (fun o u y hu hy=>by
     cases o with
     |zero=>simp at hu;subst hu;trivial
     |succ o=>simp at hu) (by simp;omega)
    exact⟨_,rfl,s1,s2⟩
   have h2:=h1.BG hlt (by simp only[hi];intro hh;cases hh) hspl;have hnt:pU (.c i off) {e:=Env.cy (Tg.kG i off 1) s.e,h:=s.h.set i (.row (cs.set off .bad)),fl:=s.fl}:=by
    refine⟨fun t u hu htag=> ?_,fun i' off' he cs2 w' xs' hc hx=> ?_⟩
    ·simp only at hu;rw[rL]at hu;have hin:Tg.kG i off 1 (.c i off)=true:=by simp[Tg.kG,Nat.blt]
     cases hq:look s.e t with
     |none=>rw[hq]at hu;simp at hu
     |some x=>
      rw[hq]at hu;simp at hu;subst hu;cases x with
      |own g' w' xs' =>
       simp only[U.cy]at htag;cases hp:Tg.kG i off 1 g' with
       |true=>rw[hp]at htag;simp[U.tag]at htag
       |false=>rw[hp]at htag;simp[U.tag]at htag;subst htag;rw[hin]at hp;cases hp
      |cA g' i' f=>
       simp only[U.cy]at htag;cases hp:Tg.kG i off 1 g' with
       |true=>rw[hp]at htag;simp[U.tag]at htag
       |false=>rw[hp]at htag;simp[U.tag]at htag;subst htag;rw[hin]at hp;cases hp
      |_=>simp[U.cy,U.tag]at htag
    ·cases he;simp only at hc;rw[gZ,if_pos rfl,if_pos hlt]at hc;simp at hc;subst hc;rw[gZ,if_pos rfl,if_pos hoff]at hx;simp at hx
   obtain⟨h3,h4⟩:=h2.jH (g:=g) hnt hg (by simp) (fun i' off' hh=>by cases hh;simpa using hlt);have h5:=h3.qbK (i:=i) (o:=.row (cs.set off (.dD w xs))) (by simpa using hlt) (by simp only;rw[gZ,if_pos rfl,if_pos hlt];intro hh;cases hh) (by
    rw[St.eE,if_pos rfl];have e1:cs.set off (.dD w xs)=jy cs off [.dD w xs]:=by
     unfold jy;rw[List.set_eq_take_append_cons_drop,if_pos hoff];simp
    rw[e1];have hcs:∀ (o:Nat) u y,(cs.set off .bad)[o]? =some u→(kT cs' off [v])[o]? =some y→CR σ Z (dM (dM ω g none) (Tg.c i off) (ω g)) s.h.length i o u y:=by
     obtain⟨ds,q1,q2,q3⟩:=h3.obj i (.row (cs.set off .bad)) (by simp only;rw[gZ,if_pos rfl,if_pos hlt]);rw[St.eE,if_pos rfl]at q1;simp at q1;subst q1;simpa using q3
    refine⟨_,rfl,by simp[jy,kT];omega,fun o u y hu hy=> ?_⟩;by_cases ho:o=off
    ·subst ho;have e2:(jy cs o [.dD w xs])[o]? =some (.dD w xs):=by rw[←e1,gZ,if_pos rfl,if_pos hoff]
     have e3:(kT cs' o [v])[o]? =some v:=by
      unfold kT;rw[ow,gf (by simp;omega)];have:(cs'.take o).length=o:=by simp;omega
      rw[this];simp
     rw[e2]at hu;rw[e3]at hy;simp at hu hy;subst hu;subst hy;exact h4 w xs _ hv.1
    ·have e2:(jy cs off [.dD w xs])[o]? =(cs.set off .bad)[o]? :=by
      rw[←e1,gZ,gZ,if_neg (Ne.symm ho),if_neg (Ne.symm ho)]
     rw[e2]at hu;simpa using hcs o u y hu hy)
   simp only[List.set_set]at h5;rw[c1]at hw;refine⟨_,_,by rw[c1];simp only[List.length_singleton,nX,cond_true,hw],h5,by simp⟩
 ·rename_i u' hno;cases hb:(Nat.beq u.cells.length k&&Nat.ble (off+k) cs.length&&u.cells.all U.aL)with
  |false=>rw[hb]at hs;simp at hs
  |true=>
   rw[hb]at hs;simp only[cond_true,ay]at hs;subst hs;simp only[cm]at hb;have hk:u.cells.length=k:=bS hb.1.1;have hle:=ja hb.1.2;have hur:=GO hv hb.2;have hcl:=hur.cells;have hw:st.write (σ i) off v.cells=some (st.put (σ i) (.row (kT cs' off v.cells))):=rD g1 (by rw[←hcl.1];omega) (yu hcl hb.2);obtain⟨s1,s2⟩:=Si (off:=off) g2 g3 hcl.1 (fun o u y hu hy=>CR.bz (hcl.2 o u y hu hy)) (by omega);have h2:=(h.cy (Tg.kG i off k)).BG hlt (by simp only[hi];intro hh;cases hh) (ob:=.row (kT cs' off v.cells)) (o:=.row (jy cs off u.cells)) ⟨_,rfl,s1,s2⟩;refine⟨ω,_,by rw[←hcl.1,hb.1.1,hw];rfl,h2.NB _,by simp⟩
theorem La(h:Ok E σ Z ω s e st){w:Nat}{str:Bool}{u:U}{v:V}{ys:List (List U)}(hs:vz s w str u=some ys)(hv:TR σ Z ω s.h.length u v):
  ∃ cs,iG st w str v=some cs∧LU σ Z s.h.length ys.flatten cs∧tT v=some ys.length∧∀ r∈ys,r.length=w:=by
 cases str with
 |true=>
  cases u<;>simp only[vz,reduceCtorEq]at hs;rename_i b;cases hb:Nat.beq w 1 with
  |false=>rw[hb]at hs;simp at hs
  |true=>
   rw[hb]at hs;simp at hs;subst hs;have:w=1:=bS hb;subst this;obtain rfl:=TR.str hv;exact⟨_,by simp[iG],G3 b,by simp[tT,az],Bz b⟩
 |false=>
  have hs' :rowsOf s w u=some ys:=by cases u<;>exact hs
  obtain⟨cs,h1,h2,h3,h4⟩:=zZ h hs' hv;refine⟨cs,?_,h2,h3,h4⟩;cases v<;>simpa[iG]using h1
theorem G8{ys:List (List U)}(h:ys.all (fun r=>r.all U.aL&&U.bX 0 r&&Nat.beq r.length n)=true):ys.flatten.all U.aL=true∧U.bX 0 ys.flatten=true∧∀ r∈ys,r.length=n:=by
 induction ys with
 |nil=>exact⟨rfl,rfl,fun r hr=>by cases hr⟩
 |cons y ys ih=>
  simp only[List.all_cons,cm]at h;obtain⟨h1,h2,h3⟩:=ih h.2;have lows_app:∀ {a b:List U},U.bX 0 a=true→U.bX 0 b=true→U.bX 0 (a++b)=true:=by
   intro a
   induction a with
   |nil=>intro b _ hb;exact hb
   |cons x a iha=>intro b ha hb;simp only[U.bX,cm,List.cons_append]at ha⊢;exact⟨ha.1,iha ha.2 hb⟩
  refine⟨by simp only[List.flatten_cons,List.all_append,cm];exact⟨h.1.1.1,h1⟩,by simp only[List.flatten_cons];exact lows_app h.1.1.2 h2,fun r hr=> ?_⟩;rcases eB.1 hr with rfl|hr
  ·exact bS h.1.2
  ·exact h3 r hr
theorem PF(h:Ok E σ Z ω s e st){g:Tg}{I:G7}(hg:ω g=some I):I.b<st.next∧(∀ i,i<s.h.length→σ i≠I.b)∧Z I.b=none∧(∀ g' J,g'≠g→ω g' =some J→J.b≠I.b)∧(I.b<E.st.next→E.I I.b):=
 ⟨h.lt_next (h.pW g I hg),fun i hi=>h.sw i g I hi hg,h.wz g I hg,fun g' J hgg hJ hb=>hgg (h.jA g' g J I hJ hg hb),fun hlt=>Classical.byContradiction fun hno=>(h.out I.b hlt hno).2.2.1 g I hg rfl⟩
theorem Pq{a:List U}{row new:List V}{ys:List U}{off L:Nat}(h:LU σ Z 0 a ((row.drop off).take L))(hn:LU σ Z 0 ys new)(hl:off+L≤row.length)(hb:off+L+new.length≤row.length):
  LU σ Z 0 (a++ys) (((kT row (off+L) new).drop off).take (L+ys.length)):=by
 have e:((kT row (off+L) new).drop off).take (L+ys.length)=((row.drop off).take L)++new:=by
  unfold kT;rw[ow,List.drop_append];have e1:(List.take (off+L) row).length=off+L:=by simp;omega
  rw[e1,show off - (off+L)=0 by omega,List.drop_zero];have e2:(List.take (off+L) row).drop off=(row.drop off).take L:=by rw[List.drop_take];congr 1;omega
  rw[e2,List.take_append];have e3:((row.drop off).take L).length=L:=by simp;omega
  rw[e3,s9,pI (by omega)];rw[hn.1,List.take_left]
 rw[e];exact h.append hn
theorem XA{w f:Nat}{us:List U}:∀ {xs:List (List U)},(∀ r∈xs,r.length=w)→∀ {i:Nat} {r:List U},xs[i]? =some r→f+us.length≤w→(xs.set i (jy r f us)).flatten=jy xs.flatten (i*w+f) us:=by
 intro xs
 induction xs with
 |nil=>intro _ i r h;simp at h
 |cons x xs ih=>
  intro hw i r h hf;have hx:=hw x k7;cases i with
  |zero=>
   simp at h;subst h;simp only[List.set_cons_zero,List.flatten_cons,Nat.zero_mul,Nat.zero_add];unfold jy;rw[List.take_append_of_le_length (by omega),List.drop_append_of_le_length (by omega)];simp
  |succ i=>
   simp at h;simp only[List.set_cons_succ,List.flatten_cons,ih (fun r hr=>hw r (ki _ hr)) h hf,Nat.succ_mul];unfold jy;rw[show i*w+w+f=x.length+(i*w+f) by omega,List.take_append,pI (l:=x) (by omega),s9,show x.length+(i*w+f)+us.length=x.length+(i*w+f+us.length) by omega,List.drop_append (l₁:=x),tN (l:=x) (by omega),s9];simp
theorem A2{row vs:List V}{off p L:Nat}(h1:p+vs.length≤L)(h2:off+L≤row.length):((kT row (off+p) vs).drop off).take L=kT ((row.drop off).take L) p vs:=by
 apply List.ext_getElem?;intro j;unfold kT;rw[o3,td];by_cases hj:j<L
 ·rw[if_pos hj];by_cases ha:j<p
  ·rw[ow,ow,gD (by simp;omega),gD (by simp;omega),o3,o3,if_pos (by omega),if_pos ha,o3,if_pos hj,td]
  ·have e1:(row.take (off+p)).length=off+p:=by simp;omega
   have e2:(((row.drop off).take L).take p).length=p:=by simp;omega
   rw[ow,ow];have l1:∀ D:List V,(row.take (off+p)++(vs++D))[off+j]? =(vs++D)[j - p]? :=fun D=>by
    rw[gf (by omega),e1];congr 1;omega
   have l2:∀ D:List V,(((row.drop off).take L).take p++(vs++D))[j]? =(vs++D)[j - p]? :=fun D=>by
    rw[gf (by omega),e2]
   rw[l1,l2];by_cases hb:j - p<vs.length
   ·rw[gD hb,gD hb]
   ·rw[gf (by omega),gf (by omega),td,td,o3,if_pos (by omega),td];congr 1;omega
 ·rw[if_neg hj,List.getElem?_eq_none];simp;omega
theorem tA{d w bytes:Nat}{str:Bool}{g:Tg}{xs ys:List (List U)}{a x:V}{u:U}(h:Ok E σ Z ω s e st)(ha:OR σ Z ω g w xs a)(hx:TR σ Z ω s.h.length u x)(hs:vz s w str u=some ys)
  (hb1:Nat.ble ((xs.length+ys.length)*bytes) aW=true) (hb2:Nat.ble (xs.length+ys.length) aW=true) (hy:ys.all (fun r=>r.all U.aL&&U.bX 0 r&&Nat.beq r.length w)=true):
  ∃ ω' v st',qp st w bytes str a x=some (v,st')∧Ok E σ Z ω' ((s.kill g).kill (.t d)) e st'∧OR σ Z ω' (.t d) w (xs++ys) v:=by
 obtain⟨cs,c1,c2,c3,c4⟩:=La h hs hx;obtain⟨f1,f2,f3⟩:=G8 hy;have hone:=yu c2 f1;have hlu0:=c2.low f2;have hcl:cs.length=ys.length*w:=by rw[←c2.1,dB c4]
 have hbl1:=ja hb1;have hbl2:=ja hb2;have hk1:=h.kill g;unfold qp;rw[c1,c3];simp only[hone,cond_true];have hgr:∀ I,ω g=some I→g≠.r:=fun I hI hh=>by subst hh;rw[h.wr]at hI;cases hI
 -- a new row
 have fresh:∀ (ω1:Om) (st1:St) (old:List V),Ok E σ Z ω1 (s.kill g) e st1→LU σ Z 0 xs.flatten old→(∀ r∈xs,r.length=w)→
   ∃ ω',Ok E σ Z ω' ((s.kill g).kill (.t d)) e (st1.alloc (.row (old++cs)))∧OR σ Z ω' (.t d) w (xs++ys) (.slice st1.next 0 (xs.length+ys.length) (xs.length+ys.length) w false):=by
  intro ω1 st1 old ho hold hw;have hol:old.length=xs.length*w:=by rw[←hold.1,dB hw]
  have hwl:∀ r∈xs++ys,r.length=w:=fun r hr=>by
   rcases ic.1 hr with hr|hr
   ·exact hw r hr
   ·exact c4 r hr
  obtain⟨ω',k1,k2⟩:=ho.EG (d:=d) (w:=w) (cap:=xs.length+ys.length) (ex:=false) (xs:=xs++ys) (row:=old++cs) (by simp) (by rw[oC,hol,hcl,Nat.add_mul];exact aM _) hwl (by
   rw[List.flatten_append,pI (by rw[oC,hol,hcl,oC,Nat.add_mul];exact aM _)];exact hold.append hlu0)
  rw[oC]at k2;exact⟨ω',k1,k2⟩
 unfold OR at ha;split at ha
 ·rename_i hg;obtain⟨rfl,hv⟩:=ha;simp only[List.length_nil,Nat.zero_add]at hbl1 hbl2 hb1 hb2;cases hk0:Nat.beq ys.length 0 with
  |true=>
   have hy0:ys=[]:=pQ (bS hk0);subst hy0;obtain⟨ω',k1,k2,_⟩:=hk1.FM d;have hor:∀ v,v=.bu∨v=.bQ→OR σ Z ω' (.t d) w ([]++[]) v:=fun v hv=>by unfold OR;rw[k2];exact⟨rfl,hv⟩
   rcases hv with rfl|rfl
   ·exact⟨ω',_,_,by simp,k1,hor _ (.inl rfl)⟩
   ·exact⟨ω',_,_,by simp,k1,hor _ (.inr rfl)⟩
  |false=>
   obtain⟨ω',k1,k2⟩:=fresh ω st [] hk1 .nil (fun r hr=>by cases hr);simp only[List.nil_append,List.length_nil,Nat.zero_add]at k1 k2;rcases hv with rfl|rfl
   ·exact⟨ω',_,_,by simp only[hk0,cond_false,hb1,hb2,Bool.and_self,cond_true],k1,k2⟩
   ·exact⟨ω',_,_,by simp only[hk0,cond_false,hb1,hb2,Bool.and_self,cond_true],k1,k2⟩
 ·rename_i I hg;obtain⟨rfl,⟨rfl,rfl⟩,e1,e2,e3,e4⟩:=ha;obtain⟨n1,n2,n3,n4,n5⟩:=PF h hg;have hIr:=h.pW g I hg;have hcapw:I.xs.length*I.w≤I.cap*I.w:=o7 _ e1
  -- the tag is given up
  have hk2:=hk1.Ch (fJ g s) (hgr I hg) (o:=none) (fun J hJ=>by cases hJ);have hfree:∀ g' J,dM ω g none g' =some J→J.b≠I.b:=fun g' J hJ=>by
   by_cases hq:g' =g
   ·subst hq;rw[bw]at hJ;cases hJ
   ·rw[dF _ _ hq]at hJ;exact n4 g' J hq hJ
  simp only[nX,hb1,hb2,Bool.and_self,cond_true];cases hc:Nat.ble (I.xs.length+ys.length) I.cap with
  |true=>
   have hc' :=ja hc;simp only[cond_true];have hin:∀ (st1:St) (row' :List V),Ok E σ Z (dM ω g none) (s.kill g) e st1→st1.next=st.next→st1.get I.b=some (.row row')→row'.length=I.row.length→
     LU σ Z 0 (I.xs++ys).flatten ((row'.drop I.off).take ((I.xs++ys).length*I.w))→
     ∃ ω',Ok E σ Z ω' ((s.kill g).kill (.t d)) e st1∧OR σ Z ω' (.t d) I.w (I.xs++ys) (.slice I.b I.off (I.xs.length+ys.length) I.cap I.w I.ex):=by
    intro st1 row' ho hn hr hl hlu;refine⟨_,(ho.kill (.t d)).Ch (fJ _ _) (by simp) (o:=some ⟨I.b,I.off,I.cap,I.ex,I.w,row',I.xs++ys⟩) (fun J hJ=> ?_),?_⟩
    ·cases hJ;refine⟨hr,fun i hi=>n2 i (by rw[dL,dL]at hi;exact hi),n3,fun g' J' _ hJ' =>hfree g' J' hJ',fun b hb hbI hh=>hbI (hh▸n5 (by rw[show I.b=b from hh];exact hb)),fun i off hh=>by cases hh⟩
    ·unfold OR;rw[bw];refine⟨by simp,⟨rfl,rfl⟩,by simp;omega,by simp only[hl];exact e2,fun r hr=> ?_,hlu⟩;rcases ic.1 hr with hr|hr
     ·exact e3 r hr
     ·exact c4 r hr
   cases hk0:Nat.beq ys.length 0 with
   |true=>
    have hy0:ys=[]:=pQ (bS hk0);subst hy0;obtain⟨ω',k1,k2⟩:=hin st I.row hk2 rfl hIr rfl (by simpa using e4);exact⟨ω',.slice I.b I.off I.xs.length I.cap I.w I.ex,st,by simp only[cond_true],k1,by simpa using k2⟩
   |false=>
    have hfit:(I.xs.length+ys.length)*I.w≤I.cap*I.w:=o7 _ hc';rw[Nat.add_mul]at hfit;have hwr:=rD hIr (off:=I.off+I.xs.length*I.w) (vs:=cs) (by omega) hone;have hk3:=hk2.Nl n1 (fun i hi=>n2 i (by rw[dL]at hi;exact hi)) n3 hfree n5 (.row (kT I.row (I.off+I.xs.length*I.w) cs));obtain⟨ω',k1,k2⟩:=hin _ (kT I.row (I.off+I.xs.length*I.w) cs) hk3 rfl (by rw[St.eE,if_pos rfl]) (by simp[kT];omega) (by
     have:=Pq e4 hlu0 (by omega) (by omega);rw[List.flatten_append,oC,Nat.add_mul];rw[dB c4]at this;exact this)
    exact⟨ω',_,_,by simp only[cond_false,hwr],k1,k2⟩
  |false=>
   simp only[cond_false];have hsc:=oJ (cap:=I.cap) (ex:=I.ex) (eN hIr) (show I.off+I.xs.length*I.w≤I.row.length by omega);rw[hsc];cases hex:I.ex with
   |true=>
    obtain⟨ω',k1,k2⟩:=fresh _ st _ hk2 e4 e3;exact⟨ω',_,_,rfl,k1,k2⟩
   |false=>
    have hk3:=hk2.Nl n1 (fun i hi=>n2 i (by rw[dL]at hi;exact hi)) n3 hfree n5 .dead;obtain⟨ω',k1,k2⟩:=fresh _ _ _ hk3 e4 e3;exact⟨ω',_,_,rfl,k1,k2⟩
theorem qd4{i:Nat}:∀ {es:List (U×U×Nat)} {es' :List ME} {j:Nat} {k v:U} {k' v' :V},es.length=es'.length→
  (∀ (j:Nat) x y,es[j]? =some x→es'[j]? =some y→UR σ Z n x.1 y.key∧UR σ Z n x.2.1 y.val∧y.born=x.2.2)→UR σ Z n k k'→UR σ Z n v v'→
  (ox j (fun e=>(k,v,e.2.2)) es).length=(mc j (fun e=>{e with key:=k',val:=v'}) es').length∧
  ∀ (i:Nat) x y,(ox j (fun e=>(k,v,e.2.2)) es)[i]? =some x→(mc j (fun e=>{e with key:=k',val:=v'}) es')[i]? =some y→UR σ Z n x.1 y.key∧UR σ Z n x.2.1 y.val∧y.born=x.2.2:=by
 intro es
 induction es with
 |nil=>
  intro es' j k v k' v' hl hr hk hv;have:es' =[]:=pQ hl.symm;subst this;exact⟨by simp[ox,mc],fun i x y h=>by simp[ox]at h⟩
 |cons a es ih=>
  intro es' j k v k' v' hl hr hk hv;cases es' with
  |nil=>simp at hl
  |cons b es' =>
   have h0:=hr 0 a b rfl rfl;cases j with
   |zero=>
    refine⟨by simpa[ox,mc]using hl,fun i x y hx hy=> ?_⟩;cases i with
    |zero=>simp[ox]at hx;simp[mc]at hy;subst hx;subst hy;exact⟨hk,hv,h0.2.2⟩
    |succ i=>simp[ox]at hx;simp[mc]at hy;exact hr (i+1) x y (by simpa using hx) (by simpa using hy)
   |succ j=>
    obtain⟨h1,h2⟩:=ih (j:=j) (by simpa using hl) (fun i x y hx hy=>hr (i+1) x y (by simpa using hx) (by simpa using hy)) hk hv;refine⟨by simp[ox,mc,h1],fun i x y hx hy=> ?_⟩;cases i with
    |zero=>simp[ox]at hx;simp[mc]at hy;subst hx;subst hy;exact h0
    |succ i=>simp[ox]at hx;simp[mc]at hy;exact h2 i x y hx hy
theorem Uq:∀ {es:List (U×U×Nat)} {es' :List ME} {j:Nat},es.length=es'.length→
  (∀ (j:Nat) x y,es[j]? =some x→es'[j]? =some y→UR σ Z n x.1 y.key∧UR σ Z n x.2.1 y.val∧y.born=x.2.2)→
  (gr j es).length=(gP j es').length∧∀ (i:Nat) x y,(gr j es)[i]? =some x→(gP j es')[i]? =some y→UR σ Z n x.1 y.key∧UR σ Z n x.2.1 y.val∧y.born=x.2.2:=by
 intro es
 induction es with
 |nil=>
  intro es' j hl hr;have:es' =[]:=pQ hl.symm;subst this;exact⟨by simp[gr,gP],fun i x y h=>by simp[gr]at h⟩
 |cons a es ih=>
  intro es' j hl hr;cases es' with
  |nil=>simp at hl
  |cons b es' =>
   cases j with
   |zero=>exact⟨by simpa[gr,gP]using hl,fun i x y hx hy=>hr (i+1) x y (by simpa[gr]using hx) (by simpa[gP]using hy)⟩
   |succ j=>
    obtain⟨h1,h2⟩:=ih (j:=j) (by simpa using hl) (fun i x y hx hy=>hr (i+1) x y (by simpa using hx) (by simpa using hy));refine⟨by simp[gr,gP,h1],fun i x y hx hy=> ?_⟩;cases i with
    |zero=>simp[gr]at hx;simp[gP]at hy;subst hx;subst hy;exact hr 0 _ _ rfl rfl
    |succ i=>simp[gr]at hx;simp[gP]at hy;exact h2 i x y hx hy
theorem CL{off:Nat}{u:U}{v:V}{cs:List U}(h:Ok E σ Z ω s e st)(hv:TR σ Z ω s.h.length u v):
  ∃ Z' ω',Ok E σ Z' ω' (jR s off u cs).2 e st∧TR σ Z' ω' (jR s off u cs).2.h.length (jR s off u cs).1 v∧(jR s off u cs).2.h.length=s.h.length∧∀ b r,Z b=some r→Z' b=some r:=by
 unfold jR;split
 ·rename_i g w xs;split
  ·obtain⟨Z',ω',q1,q2,q3,q4,q5,q6⟩:=h.oB g;exact⟨Z',ω',q1,TR.bz (by rw[q6];exact hv.1.sl q2 q5),q6,q2⟩
  ·exact⟨Z,ω,h,hv,rfl,fun _ _ h=>h⟩
 ·exact⟨Z,ω,h,hv,rfl,fun _ _ h=>h⟩
theorem Pe{d:Nat}{o:xL}{u:U}(h:qm d s o=some (u,s'))(hk:Ok E σ Z ω s e st):
  ∃ Z' ω' v st',xV e st o.er=some (v,st')∧Ok E σ Z' ω' s' e st'∧TR σ Z' ω' s'.h.length u v∧s'.h.length=s.h.length∧∀ b r,Z b=some r→Z' b=some r:=by
 have hunit:∀ {Z' ω' n},TR σ Z' ω' n (.aP []) (.aP []):=fun {_ _ _}=>UR.aP rfl (fun j u v h=>by simp at h);cases o with
 |store k a x=>
  simp only[qm]at h;split at h
  ·rename_i i off u0 ha hx;split at h<;>try (simp at h;done)
   rename_i cs0 hi0;obtain⟨va,a1,a2⟩:=hk.cO ha;obtain⟨vx,x1,x2⟩:=hk.cO hx;obtain⟨hlt,rfl⟩:=TR.ptr a2;obtain⟨Z1,ω1,r1,r2,r3,r4⟩:=CL (off:=off) (cs:=cs0) hk x2;generalize jR s off u0 cs0=R at h r1 r2 r3;obtain⟨u1,t1⟩:=R;simp only at h r1 r2 r3;split at h<;>try (simp at h;done)
   rename_i cs hi;split at h<;>simp only[ay,aO,reduceCtorEq]at h;rename_i s1 hs;obtain⟨rfl,rfl⟩:=h;obtain⟨ω',st',k1,k2,k3⟩:=HW r1 hi r2 hs;exact⟨Z1,ω',.aP [],st',by simp only[xL.er,xV,a1,x1];exact k1,k2,hunit,k3.trans r3,r4⟩
  ·rename_i g i f u0 ha hx;split at h<;>try (simp at h;done)
   rename_i v1 s1 hesc;split at h<;>try (simp at h;done)
   rename_i w xs hc;split at h<;>try (simp at h;done)
   rename_i r hr;cases hb:(Nat.beq v1.cells.length k&&Nat.ble (f+k) r.length&&v1.cells.all U.aL&&v1.low 0)with
   |false=>rw[hb]at h;simp at h
   |true=>
    rw[hb]at h;simp only[cond_true,ay,aO]at h;obtain⟨rfl,rfl⟩:=h;simp only[cm]at hb;obtain⟨va,a1,⟨I,hg,rfl⟩,_⟩:=hk.cO ha;obtain⟨vx,x1,x2⟩:=hk.cO hx;have hesc2:∃ Z' ω',Ok E σ Z' ω' s1 e st∧UR σ Z' s.h.length v1 vx∧s1.h.length=s.h.length∧(∀ b r,Z b=some r→Z' b=some r)∧ω' g=some I:=by
     cases u0 with
     |own g0 w0 xs0=>
      simp only[esc,ay,aO]at hesc;obtain⟨rfl,rfl⟩:=hesc;obtain⟨Z',ω',q1,q2,q3,q4,q5,q6⟩:=hk.oB g0;refine⟨Z',ω',q1,x2.1.sl q2 q5,q6,q2,?_⟩;have hne:g≠g0:=fun hh=>by subst hh;rw[P7 q4]at hc;cases hc
      rw[q3 g hne];exact hg
     |bad=>simp[esc]at hesc
     |dD w0 xs0=>simp[esc]at hesc
     |cA g0 i0 f0=>simp[esc]at hesc
     |xX i0 o0 l0 w0=>simp[esc]at hesc
     |aP vs=>simp[esc]at hesc
     |_=>
      simp only[esc,ay,aO]at hesc;obtain⟨rfl,rfl⟩:=hesc;exact⟨Z,ω,hk,x2,rfl,fun _ _ h=>h,hg⟩
    obtain⟨Z',ω',q1,q2,q3,q4,q5⟩:=hesc2;obtain⟨vo,hor⟩:=Et q1 hc;unfold OR at hor;rw[q5]at hor;obtain⟨rfl,⟨rfl,rfl⟩,e1,e2,e3,e4⟩:=hor;have hrw:r.length=I.w:=e3 r (List.mem_of_getElem? hr);have hil:i<I.xs.length:=(cz.1 hr).1;have hkl:v1.cells.length=k:=bS hb.1.1.1;have hfk:=ja hb.1.1.2;have hcl:=q2.cells;have hcl0:LU σ Z' 0 v1.cells vx.cells:=(q2.low hb.2).cells;have hone:=yu hcl hb.1.2;have hIr:=q1.pW g I q5;have hcapw:I.xs.length*I.w≤I.cap*I.w:=o7 _ e1;have hiw:i*I.w+I.w≤I.xs.length*I.w:=by rw[←Nat.succ_mul];exact o7 _ hil
    have hwr:=rD hIr (off:=I.off+i*I.w+f) (vs:=vx.cells) (by rw[←hcl.1];omega) hone
    -- the elements,told anew
    have hup:=q1.D6 hc q5 (ys:=I.xs.set i (jy r f v1.cells)) (row' :=kT I.row (I.off+i*I.w+f) vx.cells) (by simp) (by have:=hcl.1;simp[kT];omega) (fun r' hr' =>by
     rcases List.mem_or_eq_of_mem_set hr' with hr' |rfl
     ·exact e3 r' hr'
     ·rw[HV (by omega)];exact hrw) (by
     rw[List.length_set,XA e3 hr (by omega),Nat.add_assoc I.off,A2 (by rw[←hcl.1];omega) (by omega)];exact IW e4 hcl0)
    refine⟨Z',_,.aP [],_,by simp only[xL.er,xV,a1,x1,←hcl.1,hkl,nX,cond_true,hwr],hup,hunit,?_,q4⟩;unfold Vs.mz;split
    ·simp only;unfold setCell;split<;>simp[q3]
    ·exact q3
  ·simp at h
 |mapUpdate kk m k x=>
  simp only[qm]at h;split at h<;>try (simp at h;done)
  rename_i i s1 hm;split at h<;>try (simp at h;done)
  rename_i ku s2 hkk;split at h<;>try (simp at h;done)
  rename_i v s3 hx;split at h<;>try (simp at h;done)
  rename_i es clock hi;obtain⟨Z1,ω1,vm,m1,m2,m3,m4,m5⟩:=hk.fC hm;obtain⟨Z2,ω2,vk,k1,k2,k3,k4,k5⟩:=m2.fC hkk;obtain⟨Z3,ω3,vx,x1,x2,x3,x4,x5⟩:=k2.fC hx;have hlen:s3.h.length=s.h.length:=by omega
  cases hp:bR kk ku with
  |false=>rw[hp]at h;simp at h
  |true=>
   rw[hp]at h;simp only[cond_true]at h;have hml:i<s.h.length∧vm=.map (σ i):=by cases m3;exact⟨‹_›,rfl⟩
   obtain⟨hlt,rfl⟩:=hml;obtain⟨es',g1,g2,g3⟩:=yY x2 hi;have k3' :UR σ Z3 s3.h.length ku vk:=k3.mono (by omega) (fun _ _=>rfl) x5;have x3' :UR σ Z3 s3.h.length v vx:=x3.mono (by omega) (fun _ _=>rfl) (fun _ _ h=>h);have hpk:=mu (TR.bz (ω:=ω3) k3') hp;split at h<;>try (simp at h;done)
   ·rename_i j uo hf;simp only[ay,aO]at h;obtain⟨rfl,rfl⟩:=h;obtain⟨r',f1,f2⟩:=uP (TR.bz (ω:=ω3) k3') g2 g3 hf;cases r' with
    |none=>exact f2.elim
    |some q=>
     obtain⟨j',b⟩:=q;obtain⟨rfl,_⟩:=f2;obtain⟨l1,l2⟩:=qd4 (i:=0) (j:=j) g2 g3 k3' x3';have:=x2.BG (i:=i) (o:=.map (ox j (fun e=>(ku,v,e.2.2)) es) clock) (ob:=.map (mc j (fun e=>{e with key:=vk,val:=vx}) es') clock) (by omega) (by rw[hi];intro hh;cases hh) ⟨_,rfl,l1,l2⟩;exact⟨Z3,ω3,.aP [],_,by simp only[xL.er,xV,m1,k1,x1,g1,hpk,cond_true,f1],this.NB _,hunit,by simp[hlen],fun b r hb=>x5 b r (k5 b r (m5 b r hb))⟩
   ·rename_i hf;simp only[ay,aO]at h;obtain⟨rfl,rfl⟩:=h;obtain⟨r',f1,f2⟩:=uP (TR.bz (ω:=ω3) k3') g2 g3 hf;cases r' with
    |some q=>exact f2.elim
    |none=>
     have:=x2.BG (i:=i) (o:=.map (es++[(ku,v,clock)]) (clock+1)) (ob:=.map (es'++[{key:=vk,val:=vx,born:=clock}]) (clock+1)) (by omega) (by rw[hi];intro hh;cases hh) ⟨_,rfl,by simp[g2],fun j x y hx hy=>by
      by_cases hj:j<es.length
      ·rw[gD hj]at hx;rw[gD (by omega)]at hy;exact g3 j x y hx hy
      ·rw[gf (by omega)]at hx hy;rw[←g2]at hy;cases hq:j - es.length with
       |zero=>rw[hq]at hx hy;simp at hx hy;subst hx;subst hy;exact⟨k3',x3',rfl⟩
       |succ m=>rw[hq]at hx;simp at hx⟩
     exact⟨Z3,ω3,.aP [],_,by simp only[xL.er,xV,m1,k1,x1,g1,hpk,cond_true,f1],this.NB _,hunit,by simp[hlen],fun b r hb=>x5 b r (k5 b r (m5 b r hb))⟩
 |delete kk m k=>
  simp only[qm]at h;split at h
  ·rename_i ku hm hkk;cases hp:bR kk ku with
   |false=>rw[hp]at h;simp at h
   |true=>
    rw[hp]at h;simp only[cond_true,ay,aO]at h;obtain⟨rfl,rfl⟩:=h;obtain⟨vm,m1,m2⟩:=hk.cO hm;obtain⟨vk,k1,k2⟩:=hk.cO hkk;obtain rfl:=TR.bK m2;exact⟨Z,ω,.aP [],st,by simp only[xL.er,xV,m1,k1,mu k2 hp,cond_true],hk,hunit,rfl,fun _ _ h=>h⟩
  ·rename_i i ku hm hkk;split at h<;>try (simp at h;done)
   rename_i es clock hi;cases hp:bR kk ku with
   |false=>rw[hp]at h;simp at h
   |true=>
    rw[hp]at h;simp only[cond_true]at h;obtain⟨vm,m1,m2⟩:=hk.cO hm;obtain⟨vk,k1,k2⟩:=hk.cO hkk;obtain⟨hlt,rfl⟩:=TR.map m2;obtain⟨es',g1,g2,g3⟩:=yY hk hi;have hpk:=mu k2 hp;split at h<;>try (simp at h;done)
    ·rename_i j uo hf;simp only[ay,aO]at h;obtain⟨rfl,rfl⟩:=h;obtain⟨r',f1,f2⟩:=uP k2 g2 g3 hf;cases r' with
     |none=>exact f2.elim
     |some q=>
      obtain⟨j',b⟩:=q;obtain⟨rfl,_⟩:=f2;obtain⟨l1,l2⟩:=Uq (j:=j) g2 g3;have:=hk.BG (i:=i) (o:=.map (gr j es) clock) (ob:=.map (gP j es') clock) hlt (by rw[hi];intro hh;cases hh) ⟨_,rfl,l1,l2⟩;exact⟨Z,ω,.aP [],_,by simp only[xL.er,xV,m1,k1,g1,hpk,cond_true,f1],this,hunit,by simp,fun _ _ h=>h⟩
    ·rename_i hf;simp only[ay,aO]at h;obtain⟨rfl,rfl⟩:=h;obtain⟨r',f1,f2⟩:=uP k2 g2 g3 hf;cases r' with
     |some q=>exact f2.elim
     |none=>exact⟨Z,ω,.aP [],st,by simp only[xL.er,xV,m1,k1,g1,hpk,cond_true,f1],hk,hunit,rfl,fun _ _ h=>h⟩
  ·simp at h
 |append w bytes str a x=>
  simp only[qm]at h;split at h<;>try (simp at h;done)
  rename_i ua ux ha hx;split at h<;>try (simp at h;done)
  rename_i ys hys;obtain⟨va,a1,a2⟩:=hk.cO ha;obtain⟨vx,x1,x2⟩:=hk.cO hx;split at h
  ·rename_i g w' xs;cases hb:(Nat.beq w' w&&Nat.ble ((xs.length+ys.length)*bytes) aW&&Nat.ble (xs.length+ys.length) aW&&ys.all (fun r=>r.all U.aL&&U.bX 0 r&&Nat.beq r.length w))with
   |false=>rw[hb]at h;simp at h
   |true=>
    rw[hb]at h;simp only[cond_true,ay,aO]at h;obtain⟨rfl,rfl⟩:=h;simp only[cm]at hb;have hww:w' =w:=bS hb.1.1.1;subst hww;obtain⟨ω',v,st',k1,k2,k3⟩:=tA (d:=d) hk a2.1 x2 hys hb.1.1.2 hb.1.2 hb.2;exact⟨Z,ω',v,st',by simp only[xL.er,xV,a1,x1];exact k1,k2,⟨k3,fun i off hh=>by cases hh⟩,by rw[dL,dL],fun _ _ h=>h⟩
  ·rename_i w';cases hb:(Nat.beq w' w&&Nat.ble (ys.length*bytes) aW&&Nat.ble ys.length aW&&ys.all (fun r=>r.all U.aL&&U.bX 0 r&&Nat.beq r.length w))with
   |false=>rw[hb]at h;simp at h
   |true=>
    rw[hb]at h;simp only[cond_true,ay,aO]at h;obtain⟨rfl,rfl⟩:=h;simp only[cm]at hb;have hww:w' =w:=bS hb.1.1.1;subst hww;have hor:OR σ Z ω .r w' [] va:=by
     have a3:UR σ Z s.h.length (.nl w') va:=a2;unfold OR;rw[hk.wr];cases a3 with
     |Ge=>exact⟨rfl,.inl rfl⟩
     |Ho=>exact⟨rfl,.inr rfl⟩
    obtain⟨ω',v,st',k1,k2,k3⟩:=tA (d:=d) hk hor x2 hys (by simpa using hb.1.1.2) (by simpa using hb.1.2) hb.2;exact⟨Z,ω',v,st',by simp only[xL.er,xV,a1,x1];exact k1,k2,⟨by simpa using k3,fun i off hh=>by cases hh⟩,by rw[dL,dL],fun _ _ h=>h⟩
  ·rename_i w' xs;cases hb:(Nat.beq w' w&&ys.isEmpty&&Nat.ble (xs.length*bytes) aW&&Nat.ble xs.length aW)with
   |false=>rw[hb]at h;simp at h
   |true=>
    rw[hb]at h;simp only[cond_true,ay,aO]at h;obtain⟨rfl,rfl⟩:=h;simp only[cm]at hb;have hww:w' =w:=bS hb.1.1.1;subst hww;have hy0:ys=[]:=by cases ys with|nil=>rfl|cons a r=>simp at hb
    subst hy0;obtain⟨cs,c1,c2,c3,c4⟩:=La hk hys x2;rw[List.flatten_nil]at c2;have hcs:=c2.eF;subst hcs;have hap:qp st w' bytes str va vx=some (va,st):=by
     unfold qp;rw[c1,c3];have a3:UR σ Z s.h.length (.sl w' xs) va:=a2;cases a3 with
     |slnil=>simp
     |zW=>simp
     |Cs hn hz hl hcap hr hv=>
      subst hn;simp[hb.1.2,hb.2,tD hcap]
     |Cn hn hl hr hv=>simp
    exact⟨Z,ω,va,st,by simp only[xL.er,xV,a1,x1];exact hap,hk,a2,rfl,fun _ _ h=>h⟩
  ·simp at h
 |copy w str a x=>
  simp only[qm]at h;split at h<;>try (simp at h;done)
  rename_i g w' xs ux ha hx;split at h<;>try (simp at h;done)
  rename_i ys hys;cases hb:(Nat.beq w' w&&(s.gI g).isSome&&ys.all (fun r=>r.all U.aL&&U.bX 0 r&&Nat.beq r.length w))with
  |false=>rw[hb]at h;simp at h
  |true=>
   rw[hb]at h;simp only[cond_true,ay,aO]at h;obtain⟨rfl,rfl⟩:=h;simp only[cm]at hb;have hww:w' =w:=bS hb.1.1;subst hww;obtain⟨va,a1,a2,a3⟩:=hk.cO ha;obtain⟨vx,x1,x2⟩:=hk.cO hx;obtain⟨cs,c1,c2,c3,c4⟩:=La hk hys x2;obtain⟨f1,f2,f3⟩:=G8 hb.2;have hone:=yu c2 f1;have hlu0:=c2.low f2;obtain⟨p0,hp0⟩:=Option.isSome_iff_exists.1 hb.1.2;unfold OR at a2;split at a2
   ·rename_i hg;obtain⟨rfl,hv⟩:=a2;have hupd:s.mz g w' (List.take 0 ys++List.drop ys.length [])=s.mz g w' []:=by simp
    -- nothing turns
    obtain⟨vo,hor⟩:=Et hk (g:=g) (w:=p0.1) (xs:=p0.2) hp0;have hx0:p0.2=[]:=by unfold OR at hor;rw[hg]at hor;exact hor.1
    have hOk:Ok E σ Z ω (s.mz g w' []) e st∧(s.mz g w' []).h.length=s.h.length:=by
     have henv:∀ t u,look (Env.mz g [] s.e) t=some u→∃ v,e.get t=some v∧TR σ Z ω s.h.length u v:=by
      intro t u hu;rw[Bm]at hu;cases hq:look s.e t with
      |none=>rw[hq]at hu;simp at hu
      |some x=>
       rw[hq]at hu;simp at hu;obtain⟨v,h1,h2⟩:=hk.env t x hq;refine⟨v,h1,?_⟩;subst hu;cases x with
       |own g' w2 xs2=>
        simp only[U.mz];by_cases hgg:g' =g
        ·subst hgg;rw[if_pos rfl];refine⟨?_,h2.2⟩;have h3:=h2.1;unfold OR at h3⊢;rw[hg]at h3⊢;exact⟨rfl,h3.2⟩
        ·rw[if_neg hgg];exact h2
       |_=>exact h2
     unfold Vs.mz;split
     ·rename_i i off;simp only[Vs.gI]at hp0;split at hp0<;>try (simp at hp0;done)
      rename_i cs' hi;split at hp0<;>try (simp at hp0;done)
      rename_i w0 xs0 hc0;have hlt:=(cz.1 hi).1;have hoff:=(cz.1 hc0).1;simp only[setCell,hi];refine⟨(hk.setEnv henv).setRow (cs:=cs') hi (by simp) fun o u u' v h1 h2 h3=> ?_,by simp⟩;rw[gZ]at h2;by_cases ho:off=o
      ·subst ho;rw[if_pos rfl,if_pos hoff]at h2;simp at h2;subst h2;rw[hc0]at h1;simp at h1;subst h1;have h4:OR σ Z ω (.c i off) w0 xs0 v:=h3;show OR σ Z ω (.c i off) w' [] v;unfold OR at h4⊢;rw[hg]at h4⊢;exact⟨rfl,h4.2⟩
      ·rw[if_neg ho,h1]at h2;simp at h2;subst h2;exact h3
     ·exact⟨hk.setEnv henv,rfl⟩
    have hcp:copyV st w' str va vx=some (.int .i64 0,st):=by
     unfold copyV;rw[c1,c3];rcases hv with rfl|rfl<;>rfl
    refine⟨Z,ω,.int .i64 0,st,by simp only[xL.er,xV,a1,x1];exact hcp,by simpa using hOk.1,?_,by simpa using hOk.2,fun _ _ h=>h⟩;have:((min ys.length ([]:List (List U)).length:Nat):Int)=0:=by simp
    rw[this];exact TR.bz (.int _ _)
   ·rename_i I hg;obtain⟨rfl,⟨rfl,rfl⟩,e1,e2,e3,e4⟩:=a2;have hIr:=hk.pW g I hg;have hcl:cs.length=ys.length*I.w:=by rw[←c2.1,dB c4]
    have hcapw:I.xs.length*I.w≤I.cap*I.w:=o7 _ e1;have hmin:min ys.length I.xs.length*I.w≤I.xs.length*I.w:=o7 _ (Nat.min_le_right _ _);have hmin2:min ys.length I.xs.length*I.w≤ys.length*I.w:=o7 _ (Nat.min_le_left _ _);have htl:(cs.take (min ys.length I.xs.length*I.w)).length=min ys.length I.xs.length*I.w:=by rw[List.length_take];omega
    have hwr:=rD hIr (off:=I.off) (vs:=cs.take (min ys.length I.xs.length*I.w)) (by rw[htl];omega) (by
     rw[qd]at hone⊢;exact fun v hv=>hone v (List.mem_of_mem_take hv))
    have hfl:(ys.take I.xs.length++I.xs.drop ys.length).flatten=jy I.xs.flatten 0 (ys.flatten.take (min ys.length I.xs.length*I.w)):=by
     unfold jy;rw[List.flatten_append,s7 c4,sO e3,List.take_zero,List.nil_append,List.length_take,dB c4];rw[Nat.zero_add,Nat.min_eq_left hmin2];rcases Nat.le_total ys.length I.xs.length with hle|hle
     ·rw[Nat.min_eq_left hle,pI (by rw[dB c4];exact o7 _ hle),pI (by rw[dB c4];exact aM _)]
     ·rw[Nat.min_eq_right hle,tN (by rw[dB e3];exact o7 _ hle),tN (by rw[dB e3];exact aM _)]
    have hup:=hk.D6 hp0 hg (ys:=ys.take I.xs.length++I.xs.drop ys.length) (row' :=kT I.row I.off (cs.take (min ys.length I.xs.length*I.w))) (by simp;omega) (by simp only[kT,oC,List.length_take,List.length_drop]at htl⊢;omega) (fun r hr=>by
     rcases ic.1 hr with hr|hr
     ·exact c4 r (List.mem_of_mem_take hr)
     ·exact e3 r (List.mem_of_mem_drop hr)) (by
     have hll:(ys.take I.xs.length++I.xs.drop ys.length).length=I.xs.length:=by simp;omega
     rw[hll,hfl];have:=A2 (row:=I.row) (vs:=cs.take (min ys.length I.xs.length*I.w)) (off:=I.off) (p:=0) (L:=I.xs.length*I.w) (by rw[htl];omega) (by omega);rw[Nat.add_zero]at this;rw[this];exact IW e4 (hlu0.take _))
    have hcp:copyV st I.w str (.slice I.b I.off I.xs.length I.cap I.w I.ex) vx=some (.int .i64 (min ys.length I.xs.length:Nat),st.put I.b (.row (kT I.row I.off (cs.take (min ys.length I.xs.length*I.w))))):=by
     unfold copyV;rw[c1,c3];simp only[nX,cond_true,hwr]
    refine⟨Z,_,_,_,by simp only[xL.er,xV,a1,x1];exact hcp,hup,TR.bz (.int _ _),?_,fun _ _ h=>h⟩;unfold Vs.mz;split
    ·simp only;unfold setCell;split<;>simp
    ·rfl
 |clear w z x=>simp[qm]at h
 |range x=>simp[qm]at h
end
end Go.RE
namespace Go.RE
def jY(m:Nat)(x:U×U×Nat):Bool:=x.1.low m&&x.2.1.low m
def Uo.low(m:Nat):Uo→Bool
 | .row cs=>U.bX m cs
 | .map es _=>es.all (jY m)
 | .iter (some j) _ _ _=>Nat.blt j m
 | .iter none _ _ _=>true
 | .gone=>true
structure Fl(s:Vs):Prop where
 le:s.fl≤s.h.length
 ob:∀ (i:Nat) o,s.h[i]? =some o→o.low (max (i+1) s.fl)=true
theorem mq{m:Nat}:∀ {us:List U},U.bX m us=true↔∀ u∈us,u.low m=true:=by
 intro us
 induction us with
 |nil=>simp[U.bX]
 |cons a r ih=>simp[U.bX,ih]
mutual
theorem gE{m k:Nat}(hm:m≤k):∀ {u:U},u.low m=true→u.low k=true
 | .ptr i _,h=>by simp only[U.low,Nat.blt,jC]at h⊢;omega
 | .map i,h=>by simp only[U.low,Nat.blt,jC]at h⊢;omega
 | .xX i _ _ _,h=>by simp only[U.low,Nat.blt,jC]at h⊢;omega
 | .own (.c i _) _ _,h=>by simp only[U.low,Nat.blt,jC]at h⊢;omega
 | .cA (.c i _) _ _,h=>by simp only[U.low,Nat.blt,jC]at h⊢;omega
 | .func _ a b,h=>by simp only[U.low,cm]at h⊢;exact⟨sR hm h.1,sR hm h.2⟩
 | .iface _ v,h=>by simp only[U.low]at h⊢;exact gE hm h
 | .agg a,h=>by simp only[U.low]at h⊢;exact sR hm h
 | .aP a,h=>by simp only[U.low]at h⊢;exact sR hm h
 | .bad,_=>rfl
 | .bool _,_=>rfl
 | .int _ _,_=>rfl
 | .str _,_=>rfl
 | .aT,_=>rfl
 | .bu,_=>rfl
 | .bK,_=>rfl
 | .cZ,_=>rfl
 | .aK,_=>rfl
 | .dI _ _,_=>rfl
 | .sl _ _,_=>rfl
 | .nl _,_=>rfl
 | .own (.t _) _ _,_=>rfl
 | .own .r _ _,_=>rfl
 | .cA (.t _) _ _,_=>rfl
 | .cA .r _ _,_=>rfl
 | .dD _ _,_=>rfl
theorem sR{m k:Nat}(hm:m≤k):∀ {us:List U},U.bX m us=true→U.bX k us=true
 |[],_=>rfl
 |u::us,h=>by simp only[U.bX,cm]at h⊢;exact⟨gE hm h.1,sR hm h.2⟩
end
mutual
theorem nj{m k:Nat}:∀ {u:U},u.low m=true→(u.shift k).low (m+k)=true
 | .ptr i _,h=>by simp only[U.shift,U.low,Nat.blt,jC]at h⊢;omega
 | .map i,h=>by simp only[U.shift,U.low,Nat.blt,jC]at h⊢;omega
 | .xX i _ _ _,h=>by simp only[U.shift,U.low,Nat.blt,jC]at h⊢;omega
 | .own (.c i _) _ _,h=>by simp only[U.shift,U.low,Nat.blt,jC]at h⊢;omega
 | .cA (.c i _) _ _,h=>by simp only[U.shift,U.low,Nat.blt,jC]at h⊢;omega
 | .func _ a b,h=>by simp only[U.shift,U.low,cm]at h⊢;exact⟨lJ h.1,lJ h.2⟩
 | .iface _ v,h=>by simp only[U.shift,U.low]at h⊢;exact nj h
 | .agg a,h=>by simp only[U.shift,U.low]at h⊢;exact lJ h
 | .aP a,h=>by simp only[U.shift,U.low]at h⊢;exact lJ h
 | .bad,_=>rfl
 | .bool _,_=>rfl
 | .int _ _,_=>rfl
 | .str _,_=>rfl
 | .aT,_=>rfl
 | .bu,_=>rfl
 | .bK,_=>rfl
 | .cZ,_=>rfl
 | .aK,_=>rfl
 | .dI _ _,_=>rfl
 | .sl _ _,_=>rfl
 | .nl _,_=>rfl
 | .own (.t _) _ _,_=>rfl
 | .own .r _ _,_=>rfl
 | .cA (.t _) _ _,_=>rfl
 | .cA .r _ _,_=>rfl
 | .dD _ _,_=>rfl
theorem lJ{m k:Nat}:∀ {us:List U},U.bX m us=true→U.bX (m+k) (U.fK k us)=true
 |[],_=>rfl
 |u::us,h=>by simp only[U.fK,U.bX,cm]at h⊢;exact⟨nj h.1,lJ h.2⟩
end
theorem Uo.gE{m k:Nat}(hm:m≤k){o:Uo}(h:o.low m=true):o.low k=true:=by
 cases o with
 |row cs=>exact sR hm h
 |map es c=>
  simp only[Uo.low,qd,jY,cm]at h⊢;exact fun x hx=>⟨RE.gE hm (h x hx).1,RE.gE hm (h x hx).2⟩
 |iter q a b c=>
  cases q with
  |none=>rfl
  |some j=>simp only[Uo.low,Nat.blt,jC]at h⊢;omega
 |gone=>rfl
theorem Uo.nj{m k:Nat}{o:Uo}(h:o.low m=true):(fW k o).low (m+k)=true:=by
 cases o with
 |row cs=>exact lJ h
 |map es c=>
  simp only[Uo.low,fW,qd,jY,cm,fh]at h⊢;rintro x ⟨y,hy,rfl⟩;exact⟨RE.nj (h y hy).1,RE.nj (h y hy).2⟩
 |iter q a b c=>
  cases q with
  |none=>rfl
  |some j=>simp only[fW,Option.map_some,Uo.low,Nat.blt,jC]at h⊢;omega
 |gone=>rfl
section
variable{E:vK}{σ:Sg}{Z:Zs}{ω:Om}{s s' :Vs}{e:PT V}{st:St}{n:Nat}
theorem yJ{a:List U}{b:List V}(hab:a.length=b.length)(hh:∀ (j:Nat) u v,a[j]? =some u→b[j]? =some v→u.low n=true):U.bX n a=true:=by
 rw[mq];intro u hu;obtain⟨j,hj,rfl⟩:=List.mem_iff_getElem.1 hu;exact hh j _ _ (dm hj) (dm (by omega))
theorem UR.mP{u:U}{v:V}(h:UR σ Z n u v):u.low n=true:=by
 induction h with
 |ptr h=>simp only[U.low,Nat.blt,jC];omega
 |map h=>simp only[U.low,Nat.blt,jC];omega
 |func h1 _ h2 _ ih1 ih2=>simp only[U.low,cm];exact⟨yJ ‹_› ih1,yJ ‹_› ih2⟩
 |iface _ ih=>exact ih
 |agg h _ ih=>exact yJ h ih
 |aP h _ ih=>exact yJ h ih
 |_=>rfl
theorem TR.mP{u:U}{v:V}(h:TR σ Z ω n u v):u.low n=true:=by
 cases u with
 |bad=>rfl
 |dD _ _=>rfl
 |own g w xs=>
  cases g with
  |c i o=>have:=h.2 i o rfl;simp only[U.low,Nat.blt,jC];omega
  |t d=>rfl
  |r=>rfl
 |cA g i f=>
  cases g with
  |c i o=>have:=h.2 i o rfl;simp only[U.low,Nat.blt,jC];omega
  |t d=>rfl
  |r=>rfl
 |xX i off len w=>have:=h.1;simp only[U.low,Nat.blt,jC];omega
 |_=>exact UR.mP h
theorem CR.mP{i off:Nat}{u:U}{v:V}(h:CR σ Z ω n i off u v):u.low n=true:=by
 cases u with
 |bad=>rfl
 |dD _ _=>rfl
 |_=>exact UR.mP h
theorem LU.mP{us:List U}{vs:List V}(h:LU σ Z n us vs):U.bX n us=true:=by
 rw[mq];intro u hu;obtain⟨j,hj,rfl⟩:=List.mem_iff_getElem.1 hu;exact(h.2 j _ _ (dm hj) (dm (by have:=h.1;omega))).mP
theorem Ok.HR(h:Ok E σ Z ω s e st){i:Nat}{o:Uo}(ho:s.h[i]? =some o):o.low s.h.length=true:=by
 have h1:=h.obj i o ho;cases o with
 |row cs=>
  obtain⟨cs',q1,q2,q3⟩:=h1;simp only[Uo.low];rw[mq];intro u hu;obtain⟨j,hj,rfl⟩:=List.mem_iff_getElem.1 hu;exact(q3 j _ _ (dm hj) (dm (by omega))).mP
 |map es c=>
  obtain⟨es',q1,q2,q3⟩:=h1;simp only[Uo.low,qd,jY,cm];intro u hu;obtain⟨j,hj,rfl⟩:=List.mem_iff_getElem.1 hu;have:=q3 j _ _ (dm hj) (dm (by omega));exact⟨this.1.mP,this.2.1.mP⟩
 |iter q a b c=>
  cases q with
  |none=>rfl
  |some j=>simp only[Uo.low,Nat.blt,jC];exact h1.2 j rfl
 |gone=>rfl
theorem Fl.env(h:Fl s)(E' :Env):Fl {s with e:=E'}:=⟨h.le,h.ob⟩
theorem Fl.set(h:Fl s){i:Nat}{o:Uo}(ho:o.low (max (i+1) s.fl)=true)(E' :Env):Fl {s with e:=E',h:=s.h.set i o}:=by
 refine⟨by simpa using h.le,fun j x hx=> ?_⟩;simp only at hx;rw[gZ]at hx;by_cases hj:i=j
 ·subst hj;rw[if_pos rfl]at hx;split at hx<;>simp at hx;subst hx;exact ho
 ·rw[if_neg hj]at hx;exact h.ob j x hx
theorem Fl.push(h:Fl s){o:Uo}(ho:o.low (s.h.length+1)=true)(E' :Env):Fl {s with e:=E',h:=s.h++[o]}:=by
 refine⟨by have:=h.le;simp;omega,fun j x hx=> ?_⟩;simp only at hx;rcases Nat.lt_or_ge j s.h.length with hj|hj
 ·rw[gD hj]at hx;exact h.ob j x hx
 ·rw[gf hj]at hx;have:j=s.h.length:=by
   have:=(cz.1 hx).1;simp at this;omega
  subst this;simp at hx;subst hx;exact Uo.gE (oE _ _) ho
theorem Fl.raise(h:Fl s){E' :Env}{H:List Uo}(hl:H.length=s.h.length)(hH:∀ (i:Nat) o,H[i]? =some o→o.low s.h.length=true):Fl {e:=E',h:=H,fl:=s.h.length}:=
 ⟨by simp[hl],fun i o ho=>Uo.gE (Nat.le_max_right _ _) (hH i o ho)⟩
theorem AD{m off:Nat}{cs:List U}{v:U}(h:U.bX m cs=true)(hv:v.low m=true):U.bX m (cs.set off v)=true:=by
 rw[mq]at h⊢;intro u hu;rcases List.mem_or_eq_of_mem_set hu with hu|rfl
 ·exact h u hu
 ·exact hv
theorem GP{m off:Nat}{cs vs:List U}(h:U.bX m cs=true)(hv:U.bX m vs=true):U.bX m (jy cs off vs)=true:=by
 rw[mq]at h hv⊢;intro u hu;unfold jy at hu;simp only[ic]at hu;rcases hu with(hu|hu)|hu
 ·exact h u (List.mem_of_mem_take hu)
 ·exact hv u hu
 ·exact h u (List.mem_of_mem_drop hu)
theorem Fl.setCell(h:Fl s){i off:Nat}{v:U}(hv:∀ m,v.low m=true)(E' :Env):Fl {s with e:=E',h:=setCell s.h i off v}:=by
 unfold RE.setCell;split
 ·rename_i cs hi;exact h.set (o:=.row (cs.set off v)) (AD (h.ob i _ hi) (hv _)) E'
 ·exact h.env E'
theorem Fl.kill(h:Fl s)(g:Tg):Fl (s.kill g):=by
 unfold Vs.kill;split
 ·exact h.setCell (fun _=>rfl) _
 ·exact h.env _
theorem Fl.oB(h:Fl s)(g:Tg):Fl (s.oB g):=by
 unfold Vs.oB;split
 ·split
  ·split
   ·rename_i i off _ cs hi _ w xs hc;exact h.set (o:=.row (cs.set off (.sl w xs))) (AD (h.ob _ _ hi) rfl) _
   ·exact h.env _
  ·exact h.env _
 ·exact h.env _
theorem Fl.mz(h:Fl s)(g:Tg)(w:Nat)(ys:List (List U)):Fl (s.mz g w ys):=by
 unfold Vs.mz;split
 ·exact h.setCell (fun _=>rfl) _
 ·exact h.env _
theorem Fl.esc(h:Fl s){u u' :U}(he:esc u s=some (u',s')):Fl s' :=by
 unfold RE.esc at he;split at he<;>simp only[ay,aO,reduceCtorEq]at he
 ·obtain⟨_,rfl⟩:=he;exact h.oB _
 ·obtain⟨_,rfl⟩:=he;exact h
theorem Fl.fC(h:Fl s){x:bB}{u' :U}(he:fC x s=some (u',s')):Fl s' :=by
 unfold RE.fC at he;split at he
 ·exact h.esc he
 ·simp at he
theorem Fl.fX:∀ {xs:List bB} {s s' :Vs} {us:List U},Fl s→fX xs s=some (us,s')→Fl s' :=by
 intro xs
 induction xs with
 |nil=>intro s s' us h he;simp[RE.fX]at he;obtain⟨_,rfl⟩:=he;exact h
 |cons x xs ih=>
  intro s s' us h he;simp only[RE.fX]at he;split at he
  ·rename_i v s1 h1;split at he<;>simp only[ay,aO,reduceCtorEq]at he;rename_i vs s2 h2;obtain⟨_,rfl⟩:=he;exact ih (h.fC h1) h2
  ·simp at he
theorem Fl.fill:∀ {parts:List (Nat×Nat×bB)} {s s' :Vs} {us cs:List U},Fl s→lp parts us s=some (cs,s')→Fl s' :=by
 intro parts
 induction parts with
 |nil=>intro s s' us cs h he;simp[lp]at he;obtain⟨_,rfl⟩:=he;exact h
 |cons p parts ih=>
  intro s s' us cs h he;obtain⟨off,size,x⟩:=p;simp only[lp]at he;split at he
  ·rename_i v s1 h1;cases hb:(Nat.beq v.cells.length size&&Nat.ble (off+v.cells.length) us.length)with
   |false=>rw[hb]at he;simp at he
   |true=>rw[hb]at he;exact ih (h.fC h1) he
  ·simp at he
end
end Go.RE
namespace Go.RE
section
variable{E:vK}{σ:Sg}{Z:Zs}{ω:Om}{s s' :Vs}{e:PT V}{st:St}{n:Nat}
theorem bG{α:Type}{b:Bool}{x:Option α}{y:α}(h:(bif b then x else none)=some y):b=true∧x=some y:=by
 cases b with
 |true=>exact⟨rfl,h⟩
 |false=>simp at h
theorem Qe{d w:Nat}{lo hi mx:Option bB}{v u:U}(h:kR d w lo hi mx v s=some (u,s'))(hf:Fl s):Fl s' :=by
 unfold kR at h;split at h
 ·obtain⟨_,h⟩:=bG h;split at h<;>try (simp at h;done)
  split at h<;>try (simp at h;done)
  split at h
  ·simp at h;obtain⟨_,rfl⟩:=h;exact hf
  ·split at h<;>try (simp at h;done)
   obtain⟨_,h⟩:=bG h;rename_i m _ _ _;cases hm:Nat.beq m 0 with
   |true=>rw[hm]at h;simp at h;obtain⟨_,rfl⟩:=h;exact hf.kill _
   |false=>rw[hm]at h;simp at h;obtain⟨_,rfl⟩:=h;exact hf
 ·obtain⟨_,h⟩:=bG h;split at h
  ·split at h<;>try (simp at h;done)
   split at h<;>try (simp at h;done)
   simp at h;obtain⟨_,rfl⟩:=h;exact(hf.kill _).kill _
  ·split at h<;>try (simp at h;done)
   simp at h;obtain⟨_,rfl⟩:=h;exact hf.kill _
 ·simp at h
theorem Ri{d:Nat}{o:ga}{u:U}(h:fA d s o=some (u,s'))(hf:Fl s):Fl s' :=by
 cases o with
 |fm t x=>
  simp only[fA]at h;split at h<;>simp only[ay,aO,reduceCtorEq]at h;rename_i v s1 h1;obtain⟨_,rfl⟩:=h;exact hf.fC h1
 |lP f a b=>
  simp only[fA]at h;split at h<;>try (simp at h;done)
  rename_i v s1 h1;split at h<;>simp only[ay,aO,reduceCtorEq]at h;rename_i v2 s2 h2;obtain⟨_,rfl⟩:=h;exact(hf.fX h1).fX h2
 |build z parts=>
  simp only[fA]at h;obtain⟨_,h⟩:=bG h;split at h<;>simp only[ay,aO,reduceCtorEq]at h;rename_i v s1 h1;obtain⟨_,rfl⟩:=h;exact hf.fill h1
 |slice w x lo hi mx=>
  simp only[fA]at h;split at h<;>try (simp at h;done)
  exact Qe h hf
 |aJ x=>
  simp only[fA]at h;split at h<;>simp only[ay,aO,reduceCtorEq]at h
  ·obtain⟨_,rfl⟩:=h;exact hf.kill _
  ·obtain⟨_,rfl⟩:=h;exact hf
 |ir n w x lo hi=>
  simp only[fA]at h;split at h<;>try (simp at h;done)
  split at h<;>try (simp at h;done)
  split at h<;>try (simp at h;done)
  split at h<;>try (simp at h;done)
  obtain⟨_,h⟩:=bG h;simp only[ay,aO]at h;obtain⟨_,rfl⟩:=h;exact hf
 |cap x=>simp[fA]at h
 |entry x=>
  simp only[fA]at h;split at h<;>try (simp at h;done)
  split at h<;>simp only[ay,aO,reduceCtorEq]at h;obtain⟨_,rfl⟩:=h;exact hf
 |indexAddr w x i=>
  simp only[fA]at h;split at h<;>try (simp at h;done)
  ·split at h<;>try (simp at h;done)
   split at h<;>try (simp at h;done)
   obtain⟨_,h⟩:=bG h;simp only[ay,aO]at h;obtain⟨_,rfl⟩:=h;exact hf
  ·split at h<;>try (simp at h;done)
   obtain⟨_,h⟩:=bG h;simp only[ay,aO]at h;obtain⟨_,rfl⟩:=h;exact hf
  ·split at h<;>try (simp at h;done)
   obtain⟨_,h⟩:=bG h;simp only[ay,aO]at h;obtain⟨_,rfl⟩:=h;exact hf
 |_=>
  simp only[fA]at h
  repeat' (first|(split at h)|(simp only[ay,aO,reduceCtorEq]at h))
  all_goals (obtain⟨_,rfl⟩:=h;exact hf)
theorem Qj(v:V)(h:v.mX.aL=true)(m:Nat):v.mX.low m=true:=by
 have h1:UR (fun _=>0) (fun _=>none) 0 v.mX v.er:=qa v (fun hh=>by rw[hh]at h;simp[U.aL]at h) (fun g w xs hh=>by rw[hh]at h;simp[U.aL]at h) (fun w xs hh=>by rw[hh]at h;simp[U.aL]at h);exact gE (kN _) h1.mP
theorem BS:∀ (vs:List V),(V.cY vs).all (fun u=>u.aL||u.qO)=true→∀ m,U.bX m (V.cY vs)=true
 |[],_,_=>rfl
 |v::vs,h,m=>by
  simp only[V.cY,List.all_cons,cm,Bool.or_eq_true]at h;simp only[V.cY,U.bX,cm];refine⟨?_,BS vs h.2 m⟩;rcases h.1 with hh|hh
  ·exact Qj v hh m
  ·cases hv:v.mX<;>rw[hv]at hh<;>simp[U.qO]at hh;rfl
theorem qf{m:Nat}{u:U}(h:u.low m=true):U.bX m u.cells=true:=by
 cases u<;>simp_all [U.cells,U.bX,U.low]
theorem RA{d:Nat}{o:Gb}{u:U}(h:yq d s o=some (u,s'))(hk:Ok E σ Z ω s e st)(hf:Fl s):Fl s' :=by
 cases o with
 |alloc z=>
  simp only[yq]at h;obtain⟨hc,h⟩:=bG h;simp only[ay,aO]at h;obtain⟨_,rfl⟩:=h;exact hf.push (o:=.row (V.cY z)) (BS z hc _) s.e
 |box x=>
  simp only[yq]at h;split at h<;>try (simp at h;done)
  ·simp only[ay,aO]at h;obtain⟨_,rfl⟩:=h;exact hf.push (o:=.row [.dD _ _]) rfl _
  ·rename_i v _ _ hx;obtain⟨_,h⟩:=bG h;simp only[ay,aO]at h;obtain⟨_,rfl⟩:=h;obtain⟨vx,_,x2⟩:=hk.cO hx;exact hf.push (o:=.row v.cells) (qf (gE (Nat.le_succ _) x2.mP)) s.e
 |buildSlice w len z parts=>
  simp only[yq]at h;split at h<;>try (simp at h;done)
  rename_i cs s1 h1;obtain⟨_,h1⟩:=bG h1;obtain⟨_,h⟩:=bG h;simp only[ay,aO]at h;obtain⟨_,rfl⟩:=h;exact(hf.fill h1).kill _
 |makeMap=>
  simp only[yq,ay,aO]at h;obtain⟨_,rfl⟩:=h;exact hf.push (o:=.map [] 0) rfl s.e
 |makeSlice w bytes z len cap=>
  simp only[yq]at h;split at h<;>try (simp at h;done)
  split at h<;>try (simp at h;done)
  split at h<;>try (simp at h;done)
  obtain⟨_,h⟩:=bG h;simp only[ay,aO]at h;obtain⟨_,rfl⟩:=h;exact hf.kill _
 |qs x=>
  simp only[yq]at h;split at h<;>simp only[ay,aO,reduceCtorEq]at h;obtain⟨_,rfl⟩:=h;exact hf.kill _
theorem O7{k i off:Nat}{v:U}{cs:List U}(hi:s.h[i]? =some (.row cs))(h:qi s k i off v cs=some s')(hk:Ok E σ Z ω s e st)(hv:v.low s.h.length=true)(hf:Fl s):Fl s' :=by
 unfold qi at h;split at h
 ·rename_i g w xs;obtain⟨_,h⟩:=bG h;split at h<;>simp only[ay,reduceCtorEq]at h;subst h;exact hf.set (o:=.row (cs.set off (.dD w xs))) (AD (hf.ob _ _ hi) rfl) _
 ·obtain⟨_,h⟩:=bG h;simp only[ay]at h;subst h;cases hl:v.low (i+1)with
  |true=>exact hf.set (o:=.row (jy cs off v.cells)) (GP (hf.ob _ _ hi) (qf (gE (oE _ _) hl))) _
  |false=>
   refine hf.raise (by simp) fun j o ho=> ?_;rw[gZ]at ho;split at ho
   ·split at ho<;>simp at ho;subst ho;exact GP (hk.HR hi) (qf hv)
   ·exact hk.HR ho
theorem Zx{m i:Nat}{f:U×U×Nat→U×U×Nat}(hfm:∀ x,jY m x=true→jY m (f x)=true):∀ {es:List (U×U×Nat)} {i:Nat},es.all (jY m)=true→(ox i f es).all (jY m)=true:=by
 intro es
 induction es with
 |nil=>intro i h;cases i<;>rfl
 |cons x es ih=>
  intro i h;simp only[List.all_cons,cm]at h;cases i with
  |zero=>simp only[ox,List.all_cons,cm];exact⟨hfm x h.1,h.2⟩
  |succ i=>simp only[ox,List.all_cons,cm];exact⟨h.1,ih h.2⟩
theorem Ph{m:Nat}:∀ {es:List (U×U×Nat)} {i:Nat},es.all (jY m)=true→(gr i es).all (jY m)=true:=by
 intro es
 induction es with
 |nil=>intro i h;cases i<;>rfl
 |cons x es ih=>
  intro i h;simp only[List.all_cons,cm]at h;cases i with
  |zero=>exact h.2
  |succ i=>simp only[gr,List.all_cons,cm];exact⟨h.1,ih h.2⟩
theorem Mh{kk:fD}{k:U}(h:bR kk k=true)(m:Nat):k.low m=true:=by
 unfold bR at h;cases k<;>simp[U.Pz]at h<;>rfl
theorem UX{i:Nat}{es es' :List (U×U×Nat)}{c c' :Nat}{v:U}(hi:s.h[i]? =some (.map es c))(hk:Ok E σ Z ω s e st)(hf:Fl s)(hv:v.low s.h.length=true)
  (hm:∀ m,v.low m=true→es.all (jY m)=true→es'.all (jY m)=true):Fl {s with h:=s.h.set i (.map es' c'),fl:=bif v.low (i+1)then s.fl else s.h.length}:=by
 cases hl:v.low (i+1)with
 |true=>exact hf.set (o:=.map es' c') (hm _ (gE (oE _ _) hl) (hf.ob _ _ hi)) _
 |false=>
  refine hf.raise (by simp) fun j o ho=> ?_;rw[gZ]at ho;split at ho
  ·split at ho<;>simp at ho;subst ho;exact hm _ hv (hk.HR hi)
  ·exact hk.HR ho
theorem qes{d:Nat}{o:xL}{u:U}(h:qm d s o=some (u,s'))(hk:Ok E σ Z ω s e st)(hf:Fl s):Fl s' :=by
 cases o with
 |store k a x=>
  simp only[qm]at h;split at h<;>try (simp at h;done)
  ·rename_i i off v ha hx;split at h<;>try (simp at h;done)
   rename_i cs0 hi0;obtain⟨vx,_,x2⟩:=hk.cO hx;obtain⟨Z1,ω1,r1,r2,r3,r4⟩:=CL (off:=off) (cs:=cs0) hk x2;have rf:Fl (jR s off v cs0).2:=by
    unfold jR;split
    ·split
     ·exact hf.oB _
     ·exact hf
    ·exact hf
   generalize jR s off v cs0=R at h r1 r2 r3 rf;obtain⟨u1,t1⟩:=R;simp only at h r1 r2 r3 rf;split at h<;>try (simp at h;done)
   rename_i cs hi;split at h<;>simp only[ay,aO,reduceCtorEq]at h;rename_i s1 hs;obtain⟨_,rfl⟩:=h;exact O7 hi hs r1 r2.mP rf
  ·split at h<;>try (simp at h;done)
   rename_i v s1 h1;split at h<;>try (simp at h;done)
   split at h<;>try (simp at h;done)
   obtain⟨_,h⟩:=bG h;simp only[ay,aO]at h;obtain⟨_,rfl⟩:=h;exact(hf.esc h1).mz _ _ _
 |mapUpdate kk m k x=>
  simp only[qm]at h;split at h<;>try (simp at h;done)
  rename_i i s1 h1;split at h<;>try (simp at h;done)
  rename_i k1 s2 h2;split at h<;>try (simp at h;done)
  rename_i v s3 h3;split at h<;>try (simp at h;done)
  rename_i es clock hi;obtain⟨hpk,h⟩:=bG h;obtain⟨Z1,ω1,_,_,k1,_,e1,_⟩:=hk.fC h1;obtain⟨Z2,ω2,_,_,k2,_,e2,_⟩:=k1.fC h2;obtain⟨Z3,ω3,vv,_,k3,u3,e3,_⟩:=k2.fC h3;have hv:v.low s3.h.length=true:=by rw[e3];exact u3.mP
  have hf3:=((hf.fC h1).fC h2).fC h3;split at h<;>simp only[ay,aO,reduceCtorEq]at h
  ·obtain⟨_,rfl⟩:=h;exact UX hi k3 hf3 hv fun m hm hes=>Zx (i:=0) (fun y hy=>by simp only[jY,cm];exact⟨Mh hpk m,hm⟩) hes
  ·obtain⟨_,rfl⟩:=h;exact UX hi k3 hf3 hv fun m hm hes=>by
    rw[List.all_append,hes];simp only[List.all_cons,List.all_nil,jY,Mh hpk m,hm,Bool.and_self]
 |delete kk m k=>
  simp only[qm]at h;split at h<;>try (simp at h;done)
  ·obtain⟨_,h⟩:=bG h;simp only[ay,aO]at h;obtain⟨_,rfl⟩:=h;exact hf
  ·split at h<;>try (simp at h;done)
   rename_i es clock hi;obtain⟨_,h⟩:=bG h;split at h<;>simp only[ay,aO,reduceCtorEq]at h
   ·obtain⟨_,rfl⟩:=h;exact hf.set (o:=.map (gr _ es) clock) (Ph (hf.ob _ _ hi)) s.e
   ·obtain⟨_,rfl⟩:=h;exact hf
 |append w bytes str a x=>
  simp only[qm]at h;split at h<;>try (simp at h;done)
  split at h<;>try (simp at h;done)
  split at h<;>try (simp at h;done)
  ·obtain⟨_,h⟩:=bG h;simp only[ay,aO]at h;obtain⟨_,rfl⟩:=h;exact(hf.kill _).kill _
  ·obtain⟨_,h⟩:=bG h;simp only[ay,aO]at h;obtain⟨_,rfl⟩:=h;exact(hf.kill _).kill _
  ·obtain⟨_,h⟩:=bG h;simp only[ay,aO]at h;obtain⟨_,rfl⟩:=h;exact hf
 |copy w str a x=>
  simp only[qm]at h;split at h<;>try (simp at h;done)
  split at h<;>try (simp at h;done)
  obtain⟨_,h⟩:=bG h;simp only[ay,aO]at h;obtain⟨_,rfl⟩:=h;exact hf.mz _ _ _
 |clear _ _ _=>simp[qm]at h
 |range _=>simp[qm]at h
theorem Fl.dV(h:Fl s)(d:Nat)(r:U):Fl (dV d r s).2:=by
 unfold RE.dV;split
 ·exact Fl.kill h (.t d)
 ·exact h
theorem Fl.bp:∀ {args:List U} {s:Vs},Fl s→Fl (bp args s):=by
 intro args
 induction args with
 |nil=>intro s h;exact h
 |cons a r ih=>
  intro s h;cases a<;>simp only[RE.bp]<;>first|exact ih h|exact ih (h.oB _)
theorem Fl.land(h:Fl s){hc:List Uo}{fc:Nat}(hh:Fl ⟨[],hc,fc⟩)(d:Nat)(r:U):Fl (rF d r hc fc s).2:=by
 unfold rF;split
 ·exact h.dV d r
 ·refine Fl.dV (s:={s with h:=s.h++hc.map (fW s.h.length),fl:=bif Nat.beq fc 0 then s.fl else s.h.length+fc}) ?_ d _;have hle:=h.le;have hle2:=hh.le;simp only at hle2;have hge:s.fl≤(bif Nat.beq fc 0 then s.fl else s.h.length+fc):=by
   cases Nat.beq fc 0 with
   |true=>exact aM _
   |false=>simp only[cond_false];omega
  have hge2:s.h.length+fc≤max s.h.length (bif Nat.beq fc 0 then s.fl else s.h.length+fc):=by
   cases hb:Nat.beq fc 0 with
   |true=>have:=bS hb;simp only[cond_true];omega
   |false=>simp only[cond_false];omega
  refine⟨?_,fun i o ho=> ?_⟩
  ·simp only[oC,List.length_map];cases hb:Nat.beq fc 0 with
   |true=>simp only[cond_true];omega
   |false=>simp only[cond_false];omega
  ·simp only at ho;rcases Nat.lt_or_ge i s.h.length with hi|hi
   ·rw[gD hi]at ho;exact Uo.gE (by simp only;omega) (h.ob i o ho)
   ·rw[gf hi,List.getElem?_map]at ho;cases hq:hc[i - s.h.length]? with
    |none=>rw[hq]at ho;simp at ho
    |some x=>
     rw[hq]at ho;simp only[Option.map_some,ay]at ho;subst ho;exact Uo.gE (by simp only;omega) (Uo.nj (k:=s.h.length) (hh.ob _ x hq))
end
end Go.RE
namespace Go.RE
def RR(σ:Sg)(Z:Zs)(ω:Om)(n:Nat)(r:U)(v:V):Prop:=
 match r with
 | .own .r w xs=>OR σ Z ω (.t 0) w xs v
 | .own _ _ _=>False
 |r=>UR σ Z n r v
def gq(σ:Sg)(ω:Om)(n:Nat):Nat→Prop:=fun b=>(∃ i,i<n∧σ i=b)∨∃ g I,ω g=some I∧I.b=b
def Zt(P:Nat→List V→St→(V→St→Prop)→Prop)(F:FU):Prop:=
 ∀ (f:Nat) (us:List U) (h:List Uo) (fl:Nat) (r:U) (h' :List Uo) (fl' :Nat),F f us h fl=some (r,h',fl')→
  ∀ (σ:Sg) (Z:Zs) (ω:Om) (st:St) (vs:List V),Ok ⟨h.length,σ,gq σ ω h.length,Z,st,fun i=>h[i]? =some .gone⟩ σ Z ω ⟨[],h,fl⟩ .e st→Fl ⟨[],h,fl⟩→(∀ d,ω (.t d)=none)→LU σ Z h.length us vs→
   P f vs st fun v st' =>Fl ⟨[],h',fl'⟩∧∃ σ' Z' ω',Ok ⟨h.length,σ,gq σ ω h.length,Z,st,fun i=>h[i]? =some .gone⟩ σ' Z' ω' ⟨[],h',fl'⟩ .e st'∧(∀ d,d≠0→ω' (.t d)=none)∧RR σ' Z' ω' h'.length r v
section
variable{E:vK}{σ:Sg}{Z:Zs}{ω:Om}{s s' :Vs}{e:PT V}{st:St}{n:Nat}
theorem UR.flat{Z2:Zs}{u:U}{v:V}(h:UR σ Z n u v)(hf:u.flat=true):UR σ Z2 n u v:=by
 have hl:∀ {a:List U},U.tq a=true→∀ (j:Nat) u,a[j]? =some u→u.flat=true:=by
  intro a
  induction a with
  |nil=>intro _ j u h;simp at h
  |cons x a ih=>
   intro h j u hu;simp only[U.tq,cm]at h;cases j with
   |zero=>simp at hu;subst hu;exact h.1
   |succ j=>exact ih h.2 j u (by simpa using hu)
 induction h with
 |bool b=>exact .bool b
 |int k x=>exact .int k x
 |str s=>exact .str s
 |aT=>exact .aT
 |bu=>exact .bu
 |bK=>exact .bK
 |cZ=>exact .cZ
 |aK=>exact .aK
 |ptr h=>exact .ptr h
 |map h=>exact .map h
 |iface h ih=>exact .iface (ih (by simpa[U.flat]using hf))
 |agg ha va ih=>exact .agg ha fun j u v h1 h2=>ih j u v h1 h2 (hl (by simpa[U.flat]using hf) j u h1)
 |aP ha va ih=>exact .aP ha fun j u v h1 h2=>ih j u v h1 h2 (hl (by simpa[U.flat]using hf) j u h1)
 |_=>simp[U.flat]at hf
theorem Ma:∀ {xs:List (List U)},U.rE xs=true→∀ (j:Nat) u,xs.flatten[j]? =some u→u.flat=true:=by
 have hl:∀ {a:List U},U.tq a=true→∀ u∈a,u.flat=true:=by
  intro a
  induction a with
  |nil=>intro _ u h;cases h
  |cons x a ih=>
   intro h u hu;simp only[U.tq,cm]at h;rcases eB.1 hu with rfl|hu
   ·exact h.1
   ·exact ih h.2 u hu
 intro xs
 induction xs with
 |nil=>intro _ j u h;simp at h
 |cons x xs ih=>
  intro h j u hu;simp only[U.rE,cm]at h;have hm:=List.mem_of_getElem? hu;rw[List.flatten_cons]at hm;rcases ic.1 hm with hm|hm
  ·exact hl h.1 u hm
  ·obtain⟨i,hi,rfl⟩:=List.mem_iff_getElem.1 hm;exact ih h.2 i _ (dm hi)
theorem OR.flat{σ2:Sg}{Z2:Zs}{ω2:Om}{g g2:Tg}{w:Nat}{xs:List (List U)}{v:V}(h:OR σ Z ω g w xs v)(hω:ω2 g2=ω g)(hf:U.rE xs=true):OR σ2 Z2 ω2 g2 w xs v:=by
 unfold OR at h⊢;rw[hω];split at h
 ·exact h
 ·refine⟨h.1,h.2.1,h.2.2.1,h.2.2.2.1,h.2.2.2.2.1,h.2.2.2.2.2.1,fun j u v hu hv=> ?_⟩;exact(((h.2.2.2.2.2.2 j u v hu hv).flat (Ma hf j u hu)).mono (aM 0) (fun i hi=>by omega) (fun _ _ h=>h))
theorem qH:∀ {args:List U} {s:Vs} {Z:Zs} {ω:Om},Ok E σ Z ω s e st→∃ Z' ω',Ok E σ Z' ω' (bp args s) e st∧(∀ b r,Z b=some r→Z' b=some r)∧(bp args s).h.length=s.h.length∧
  (∀ g,(∀ w xs,.own g w xs ∉ args)→ω' g=ω g)∧∀ g w xs I,.own g w xs∈args→ω g=some I→Z' I.b=some I.row:=by
 intro args
 induction args with
 |nil=>intro s Z ω h;exact⟨Z,ω,h,fun _ _ h=>h,rfl,fun _ _=>rfl,fun g w xs I hm=>by cases hm⟩
 |cons a args ih=>
  intro s Z ω h;cases a with
  |own g w xs=>
   simp only[bp];obtain⟨Z1,ω1,a1,a2,a3,a4,a5,a6⟩:=h.oB g;obtain⟨Z2,ω2,b1,b2,b3,b4,b5⟩:=ih a1;refine⟨Z2,ω2,b1,fun b r hb=>b2 b r (a2 b r hb),by omega,fun g' hg' => ?_,fun g' w' xs' I hm hI=> ?_⟩
   ·rw[b4 g' (fun w xs hm=>hg' w xs (ki _ hm)),a3 g' (fun hh=>hg' w xs (by rw[hh];exact k7))]
   ·by_cases hgg:g' =g
    ·subst hgg;exact b2 _ _ (a5 I hI)
    ·have hm' :U.own g' w' xs'∈args:=by
      rcases eB.1 hm with hh|hh
      ·cases hh;exact absurd rfl hgg
      ·exact hh
     exact b5 g' w' xs' I hm' (by rw[a3 g' hgg];exact hI)
  |_=>
   simp only[bp];obtain⟨Z2,ω2,b1,b2,b3,b4,b5⟩:=ih h;refine⟨Z2,ω2,b1,b2,b3,fun g' hg' =>b4 g' (fun w xs hm=>hg' w xs (ki _ hm)),fun g' w' xs' I hm hI=> ?_⟩;rcases eB.1 hm with hh|hh
   ·cases hh
   ·exact b5 g' w' xs' I hh hI
theorem yX{Z' :Zs}(hZ:∀ b r,Z b=some r→Z' b=some r):∀ {args us:List U} {vs:List V},kj args=some us→args.length=vs.length→(∀ (j:Nat) u v,args[j]? =some u→vs[j]? =some v→TR σ Z ω n u v)→
  (∀ g w xs I,.own g w xs∈args→ω g=some I→Z' I.b=some I.row)→LU σ Z' n us vs:=by
 intro args
 induction args with
 |nil=>intro us vs h hl _ _;simp[kj]at h;subst h;have:vs=[]:=pQ hl.symm;subst this;exact .nil
 |cons a args ih=>
  intro us vs h hl hr hI;cases vs with
  |nil=>simp at hl
  |cons v vs=>
   simp only[kj]at h;cases ha:ye a with
   |none=>rw[ha]at h;simp at h
   |some u=>
    rw[ha]at h;simp only at h;cases hb:kj args with
    |none=>rw[hb]at h;simp at h
    |some us' =>
     rw[hb]at h;simp only[ay]at h;subst h;refine LU.cons ?_ (ih hb (by simpa using hl) (fun j p q hp hq=>hr (j+1) p q (by simpa using hp) (by simpa using hq)) (fun g w xs I hm=>hI g w xs I (ki _ hm)));have h0:=hr 0 a v rfl rfl;cases a with
     |own g w xs=>
      simp[ye]at ha;subst ha;exact h0.1.sl hZ (fun I hg=>hI g w xs I k7 hg)
     |nl w=>
      simp[ye]at ha;subst ha;have h1:UR σ Z n (.nl w) v:=h0;cases h1 with
      |Ge=>exact .slnil
      |Ho=>exact .zW
     |bad=>simp[ye]at ha
     |dD _ _=>simp[ye]at ha
     |cA _ _ _=>simp[ye]at ha
     |xX _ _ _ _=>simp[ye]at ha
     |aP _=>simp[ye]at ha
     |_=>simp[ye]at ha;subst ha;exact UR.mono (aM _) (fun _ _=>rfl) hZ h0
noncomputable def Cb(ω:Om)(Z:Zs):Zs:=fun b=>open Classical in if h:∃ g I,ω g=some I∧I.b=b then some h.choose_spec.choose.row else Z b
theorem SG(h:Ok E σ Z ω s e st){g:Tg}{I:G7}(hg:ω g=some I):Cb ω Z I.b=some I.row:=by
 have hex:∃ g J,ω g=some J∧J.b=I.b:=⟨g,I,hg,rfl⟩;unfold Cb;rw[dif_pos hex];obtain⟨k1,k2⟩:=hex.choose_spec.choose_spec;have key:∀ g' J,ω g' =some J→J.b=I.b→J=I:=fun g' J hJ hb=>by
  have:=h.jA _ _ _ _ hJ hg hb;subst this;rw[hg]at hJ;cases hJ;rfl
 exact congrArg (fun J:G7=>some J.row) (key _ _ k1 k2)
theorem qdG(h:Ok E σ Z ω s e st){b:Nat}{r:List V}(hb:Z b=some r):Cb ω Z b=some r:=by
 unfold Cb;rw[dif_neg]
 ·exact hb
 ·rintro⟨g,I,hg,rfl⟩;rw[h.wz g I hg]at hb;cases hb
theorem Iw{b:Nat}{r:List V}(hb:Cb ω Z b=some r):Z b=some r∨∃ g I,ω g=some I∧I.b=b∧r=I.row:=by
 unfold Cb at hb;split at hb
 ·rename_i hex;simp at hb;exact .inr ⟨_,_,hex.choose_spec.choose_spec.1,hex.choose_spec.choose_spec.2,hb.symm⟩
 ·exact .inl hb
theorem Ok.iso(h:Ok E σ Z ω s e st){Z' :Zs}(hz:∀ b r,Z' b=some r→st.get b=some (.row r))(fl:Nat):Ok ⟨0,σ,gq σ (fun _=>none) 0,Z',st,fun i=>([]:List Uo)[i]? =some .gone⟩ σ Z' (fun _=>none) ⟨[],[],fl⟩ .e st:=
 ⟨fun t u hu=>by simp[look]at hu,fun i o ho=>by simp at ho,hz,fun g I hI=>by simp at hI,h.fresh,fun i j hi=>by simp at hi,fun g g' I I' hI=>by simp at hI,fun i g I hi=>by simp at hi,fun i hi=>by simp at hi,fun g I hI=>by simp at hI,fun i hi=>by simp at hi,rfl,fun i off I hI=>by simp at hI,aM _,fun i hi=>by simp at hi,fun b r hb=>hb,aM _,fun b hb _=>⟨rfl,fun i hi=>by simp at hi,fun g I hI=>by simp at hI,fun r hr=>hr⟩,fun i hi=>by simp at hi⟩
def qL(ω:Om):Om:=fun g=>match g with
 | .c i o=>ω (.c i o)
 |_=>none
theorem iu{g:Tg}{I:G7}(h:qL ω g=some I):ω g=some I∧∃ i o,g=.c i o:=by
 cases g with
 |c i o=>exact⟨h,i,o,rfl⟩
 |t d=>simp[qL]at h
 |r=>simp[qL]at h
theorem Ok.shared(h:Ok E σ Z ω s e st)(fl:Nat):Ok ⟨s.h.length,σ,gq σ (qL ω) s.h.length,Z,st,fun i=>s.h[i]? =some .gone⟩ σ Z (qL ω) ⟨[],s.h,fl⟩ .e st:=
 ⟨fun t u hu=>by simp[look]at hu,fun i o ho=>(h.obj i o ho).mono (aM _) (fun _ _=>rfl) (fun _ _ h=>h) (fun _=>rfl),h.tL,fun g I hI=>h.pW g I (iu hI).1,h.fresh,h.inj,fun g g' I I' hI hI' =>h.jA g g' I I' (iu hI).1 (iu hI').1,fun i g I hi hI=>h.sw i g I hi (iu hI).1,h.sz,fun g I hI=>h.wz g I (iu hI).1,h.sb,rfl,fun i off I hI=>h.wc i off I hI,aM _,fun i hi=>rfl,fun b r hb=>hb,aM _,fun b hb hbI=>⟨rfl,fun i hi hh=>hbI (.inl ⟨i,hi,hh⟩),fun g I hI hh=>hbI (.inr ⟨g,I,hI,hh⟩),fun r hr=>hr⟩,fun i hi=>⟨(cz.1 hi).1,hi,rfl⟩⟩
theorem Ok.J5(h:Ok E σ Z ω s e st){σ' :Sg}{Z' :Zs}{ω' :Om}{h' :List Uo}{fl' :Nat}{st' :St}{r:U}{v:V}{d:Nat}
  (hb:Ok ⟨s.h.length,σ,gq σ (qL ω) s.h.length,Z,st,fun i=>s.h[i]? =some .gone⟩ σ' Z' ω' ⟨[],h',fl'⟩ .e st') (ht:∀ d,d≠0→ω' (.t d)=none) (hr:RR σ' Z' ω' h'.length r v):
  ∃ ω2,Ok E σ' Z' ω2 (dV d r {e:=Env.cy Tg.NV s.e,h:=h',fl:=fl'}).2 e st'∧TR σ' Z' ω2 (dV d r {e:=Env.cy Tg.NV s.e,h:=h',fl:=fl'}).2.h.length (dV d r {e:=Env.cy Tg.NV s.e,h:=h',fl:=fl'}).1 v∧
   (dV d r {e:=Env.cy Tg.NV s.e,h:=h',fl:=fl'}).2.h=h' :=by
 have hn0:s.h.length≤h'.length:=hb.n0;have hσ:∀ i,i<s.h.length→σ' i=σ i:=hb.sig;have hZ:∀ b r,Z b=some r→Z' b=some r:=hb.zz
 -- what is not handed on stays
 have hout:∀ b,b<st.next→¬gq σ (qL ω) s.h.length b→st'.get b=st.get b∧(∀ i,i<h'.length→σ' i≠b)∧(∀ g I,ω' g=some I→I.b≠b)∧(∀ r,Z' b=some r→Z b=some r):=fun b hb1 hb2=>hb.out b hb1 hb2
 have hT:∀ x I,ω (.t x)=some I→I.b<st.next∧¬gq σ (qL ω) s.h.length I.b:=fun x I hI=>⟨h.lt_next (h.pW _ I hI),by
  rintro(⟨i,hi,hh⟩|⟨g,J,hJ,hh⟩)
  ·exact h.sw i _ I hi hI hh
  ·obtain⟨j1,i,o,rfl⟩:=iu hJ;have:=h.jA _ _ _ _ j1 hI hh;cases this⟩
 -- the tags
 let ω2:Om:=fun g=>match g with
  | .t x=>ω (.t x)
  | .c i o=>ω' (.c i o)
  | .r=>none
 have hc2:∀ g I,ω2 g=some I→(∃ x,g=.t x∧ω (.t x)=some I)∨(∃ i o,g=.c i o∧ω' (.c i o)=some I):=fun g I hI=>by
  cases g with
  |t x=>exact .inl ⟨x,rfl,hI⟩
  |c i o=>exact .inr ⟨i,o,rfl,hI⟩
  |r=>cases hI
 have hOk:Ok E σ' Z' ω2 {e:=Env.cy Tg.NV s.e,h:=h',fl:=fl'} e st' :=by
  refine⟨fun t u hu=> ?_,fun i o ho=>(hb.obj i o ho).mono (aM _) (fun _ _=>rfl) (fun _ _ h=>h) (fun _=>rfl),hb.tL,fun g I hI=> ?_,hb.fresh,hb.inj,fun g1 g2 I1 I2 h1 h2 hbb=> ?_,fun i g I hi hI=> ?_,hb.sz,fun g I hI=> ?_,hb.sb,rfl,fun i off I hI=>hb.wc i off I hI,Nat.le_trans h.n0 hn0,fun i hi=>by rw[hσ i (o4 hi h.n0)];exact h.sig i hi,fun b r hbr=>hZ b r (h.zz b r hbr),Nat.le_trans h.nx hb.nx,fun b hb1 hb2=> ?_,fun i hi=>⟨(h.gn i hi).1,(hb.gn i (h.gn i hi).2.1).2.1,(hb.gn i (h.gn i hi).2.1).2.2.trans (h.gn i hi).2.2⟩⟩
  ·rw[rL]at hu;cases hq:look s.e t with
   |none=>rw[hq]at hu;simp at hu
   |some x=>
    rw[hq]at hu;simp at hu;subst hu;obtain⟨v,h1,h2⟩:=h.env t x hq;refine⟨v,h1,?_⟩;cases x with
    |own g w xs=>
     simp only[U.cy];cases g with
     |t x=>exact h2.mono hn0 hσ hZ (fun g hg=>by simp[U.tag,Tg.NV,U.cy]at hg;subst hg;rfl)
     |c i o=>trivial
     |r=>
      refine h2.mono hn0 hσ hZ (fun g hg=> ?_);simp[U.tag,Tg.NV,U.cy]at hg;subst hg;exact h.wr.symm
    |cA g i f=>
     simp only[U.cy];cases g with
     |t x=>exact h2.mono hn0 hσ hZ (fun g hg=>by simp[U.tag,Tg.NV,U.cy]at hg;subst hg;rfl)
     |c i o=>trivial
     |r=>
      refine h2.mono hn0 hσ hZ (fun g hg=> ?_);simp[U.tag,Tg.NV,U.cy]at hg;subst hg;exact h.wr.symm
    |_=>exact h2.mono hn0 hσ hZ (fun g hg=>by simp[U.tag,U.cy]at hg)
  ·rcases hc2 g I hI with⟨x,rfl,hx⟩|⟨i,o,rfl,hx⟩
   ·obtain⟨k1,k2⟩:=hT x I hx;rw[(hout _ k1 k2).1];exact h.pW _ I hx
   ·exact hb.pW _ I hx
  ·rcases hc2 g1 I1 h1 with⟨x,rfl,hx⟩|⟨i,o,rfl,hx⟩<;>rcases hc2 g2 I2 h2 with⟨y,rfl,hy⟩|⟨j,p,rfl,hy⟩
   ·exact h.jA _ _ _ _ hx hy hbb
   ·obtain⟨k1,k2⟩:=hT x I1 hx;exact absurd hbb.symm ((hout _ k1 k2).2.2.1 _ _ hy)
   ·obtain⟨k1,k2⟩:=hT y I2 hy;exact absurd hbb ((hout _ k1 k2).2.2.1 _ _ hx)
   ·exact hb.jA _ _ _ _ hx hy hbb
  ·rcases hc2 g I hI with⟨x,rfl,hx⟩|⟨j,o,rfl,hx⟩
   ·obtain⟨k1,k2⟩:=hT x I hx;exact(hout _ k1 k2).2.1 i hi
   ·exact hb.sw i _ I hi hx
  ·rcases hc2 g I hI with⟨x,rfl,hx⟩|⟨j,o,rfl,hx⟩
   ·obtain⟨k1,k2⟩:=hT x I hx;cases hz:Z' I.b with
    |none=>rfl
    |some r=>have:=(hout _ k1 k2).2.2.2 r hz;rw[h.wz _ I hx]at this;cases this
   ·exact hb.wz _ I hx
  ·obtain⟨k1,k2,k3,k4⟩:=h.out b hb1 hb2;have hni:¬gq σ (qL ω) s.h.length b:=by
    rintro(⟨i,hi,hh⟩|⟨g,J,hJ,hh⟩)
    ·exact k2 i hi hh
    ·exact k3 g J (iu hJ).1 hh
   obtain⟨q1,q2,q3,q4⟩:=hout b (o4 hb1 h.nx) hni;refine⟨by rw[q1,k1],q2,fun g I hI=> ?_,fun r hr=>k4 r (q4 r hr)⟩;rcases hc2 g I hI with⟨x,rfl,hx⟩|⟨j,o,rfl,hx⟩
   ·exact k3 _ I hx
   ·exact q3 _ I hx
 -- what comes back
 unfold dV;split
 ·rename_i w xs;have hor:OR σ' Z' ω' (.t 0) w xs v:=hr;have hk:=hOk.kill (.t d);refine⟨_,hk.Ch (fJ _ _) (by simp) (o:=ω' (.t 0)) (fun J hJ=> ?_),?_,rfl⟩
  ·refine⟨hb.pW _ J hJ,fun i hi=>hb.sw i _ J hi hJ,hb.wz _ J hJ,fun g' I' hg' hI' hbb=> ?_,fun b hb1 hb2=> ?_,fun i off hh=>by cases hh⟩
   ·rcases hc2 g' I' hI' with⟨x,rfl,hx⟩|⟨j,o,rfl,hx⟩
    ·obtain⟨k1,k2⟩:=hT x I' hx;exact(hout _ k1 k2).2.2.1 _ _ hJ hbb.symm
    ·have:=hb.jA _ _ _ _ hx hJ hbb;cases this
   ·obtain⟨k1,k2,k3,k4⟩:=h.out b hb1 hb2;have hni:¬gq σ (qL ω) s.h.length b:=by
     rintro(⟨i,hi,hh⟩|⟨g,J,hJ,hh⟩)
     ·exact k2 i hi hh
     ·exact k3 g J (iu hJ).1 hh
    exact(hout b (o4 hb1 h.nx) hni).2.2.1 _ _ hJ
  ·refine⟨?_,fun i off hh=>by cases hh⟩;unfold OR at hor⊢;rw[bw];exact hor
 ·rename_i hno;refine⟨ω2,hOk,?_,rfl⟩;cases r with
  |own g w xs=>
   cases g with
   |r=>exact absurd rfl (hno w xs)
   |t x=>exact hr.elim
   |c i o=>exact hr.elim
  |_=>exact TR.bz hr
end
end Go.RE
