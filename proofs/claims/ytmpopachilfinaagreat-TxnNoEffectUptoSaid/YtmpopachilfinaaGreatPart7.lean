/- A part of a proof. -/
import Derived.Test.YtmpopachilfinaaGreatPart6
set_option linter.unusedVariables false
set_option linter.unusedSimpArgs false
set_option linter.constructorNameAsVariable false
namespace Go.RE
def Step.er:Step→Step
 | .small i o=> .small i o.er
 | .bl i o=> .bl i o.er
def lB(x:Nat×aG):Nat×aG:=(x.1,x.2.er)
theorem BL(o:aG):o.er.small=o.small:=by
 obtain⟨d,op,g,p⟩:=o;cases op<;>rfl
theorem BK(o:aG):o.er.aT=o.aT:=rfl
theorem Jr:∀ (ops:List aG) (i:Nat),bx (fR ops) i=(bx ops i).map lB:=by
 intro ops
 induction ops with
 |nil=>intro i;rfl
 |cons o r ih=>intro i;simp only[fR,bx,ih,ct];rfl
theorem Ju:∀ (ops:List aG),(fR ops).length=ops.length:=by
 intro ops
 induction ops with
 |nil=>rfl
 |cons o r ih=>simp[fR,ih]
theorem P4:∀ (l:List (Nat×aG)) (done:Nat) (left:List (Nat×aG)) (acc:List Step),eU (l.map lB) done (left.map lB) (acc.map Step.er)=((eU l done left acc).1.map lB,(eU l done left acc).2.1,(eU l done left acc).2.2.map Step.er):=by
 intro l
 induction l with
 |nil=>intro done left acc;simp[eU]
 |cons x l ih=>
  intro done left acc;obtain⟨i,o⟩:=x;simp only[ct,lB,eU,BL,BK];cases o.small&&within o.aT done with
  |true=>simp only[cond_true];exact ih _ left (.small i o::acc)
  |false=>simp only[cond_false];exact ih done ((i,o)::left) acc
theorem Ty:∀ (l pre:List (Nat×aG)),eW (pre.map lB) (l.map lB)=(eW pre l).map fun x=>(x.1,x.2.1.er,x.2.2.map lB):=by
 intro l
 induction l with
 |nil=>intro pre;simp[eW]
 |cons x l ih=>
  intro pre;obtain⟨i,o⟩:=x;simp only[ct,lB,eW,BL];cases o.small with
  |true=>simp only[cond_true];exact ih ((i,o)::pre)
  |false=>simp[lB]
theorem Tn:∀ {n:Nat} {todo:List (Nat×aG)} {done:Nat} {l:List Step},sched n todo done=some l→sched n (todo.map lB) done=some (l.map Step.er):=by
 intro n
 induction n with
 |zero=>intro _ _ _ h;simp[sched]at h
 |succ n ih=>
  intro todo done l h;simp only[sched]at h⊢;have ha:=P4 todo done [] [];simp only[jY]at ha;rw[ha];generalize eU todo done [] []=R at h⊢;obtain⟨t,d,tk⟩:=R;simp only at h⊢;have hs:=Ty t [];simp only[jY]at hs;rw[hs];cases hq:eW [] t with
  |none=>
   rw[hq]at h;simp only[FA];cases t with
   |nil=>simp at h⊢;subst h;rw[List.map_reverse]
   |cons a b=>simp at h
  |some x=>
   obtain⟨i,o,rest⟩:=x;rw[hq]at h;simp only[kP,BK]at h⊢;have hall:(rest.map lB).all (fun x=>x.2.small||Nat.testBit x.2.aT i)=rest.all (fun x=>x.2.small||Nat.testBit x.2.aT i):=by
    rw[PV];congr 1;funext x;simp[lB,BL,BK]
   rw[hall];cases hb:(within o.aT d&&rest.all fun x=>x.2.small||Nat.testBit x.2.aT i)with
   |false=>rw[hb]at h;simp at h
   |true=>
    rw[hb]at h;simp only[cond_true]at h⊢;cases hr:sched n rest (Nat.lor d (2 ^ i))with
    |none=>rw[hr]at h;simp at h
    |some r=>
     rw[hr]at h;simp only[ag]at h;subst h;rw[ih hr];simp[Step.er]
section
variable{C:Nat→Option cq}{M:qn}{Q:nu}{F:FU}
variable{E:q9}{σ σ' :Sg}{Z Z' :Zs}{ω:Om}{s s' :Vs}{e:PT V}{st st' :St}{n m:Nat}
def KR(σ:Sg)(Z:Zs)(n:Nat)(R:Nat×gv×PT V×V):Rk→Prop
 | .ok=>∀ st2:St,(∀ b r,Z b=some r→st2.row b=some r)→cZ R.2.2.1 st2 R.2.1=some R.2.2.2
 | .ld i k off u=>i<n∧(∀ st2:St,cZ R.2.2.1 st2 R.2.1=(match st2.row (σ i)with|some cs=>eG k cs off|none=>none))∧(U.same u u=true→UR σ Z n u R.2.2.2)
 | .no=>True
theorem KR.mono{R:Nat×gv×PT V×V}{k:Rk}(hn:n≤m)(hσ:∀ i,i<n→σ' i=σ i)(hZ:∀ b r,Z b=some r→Z' b=some r)(h:KR σ Z n R k):KR σ' Z' m R k:=by
 cases k with
 |ok=>exact fun st2 h2=>h st2 fun b r hb=>h2 b r (hZ b r hb)
 |ld i q off u=>exact⟨iC h.1 hn,fun st2=>by rw[hσ i h.1];exact h.2.1 st2,fun hu=>(h.2.2 hu).mono hn hσ hZ⟩
 |no=>trivial
inductive RL(σ:Sg)(Z:Zs)(n:Nat)(st:St):List (Nat×Rk)→fN→Prop
 |nil:RL σ Z n st [] []
 |cons {i:Nat} {k:Rk} {op:gv} {env:PT V} {v:V} {few:List (Nat×Rk)} {aj:fN} (h1:cZ env st op=some v) (h2:KR σ Z n (i,op,env,v) k) (h:RL σ Z n st few aj):RL σ Z n st ((i,k)::few) ((i,op,env,v)::aj)
theorem RL.mono{few:List (Nat×Rk)}{aj:fN}(hn:n≤m)(hσ:∀ i,i<n→σ' i=σ i)(hZ:∀ b r,Z b=some r→Z' b=some r)(hst:∀ b x,st.get b=some x→st'.get b=some x)(h:RL σ Z n st few aj):RL σ' Z' m st' few aj:=by
 induction h with
 |nil=>exact .nil
 |cons h1 h2 _ ih=>exact .cons (IJ hst h1) (h2.mono hn hσ hZ) ih
mutual
theorem E4:∀ {u u' :U},U.same u u' =true→U.same u u=true
 | .bool a,u',h=>by simp[U.same]
 | .int k a,u',h=>by simp[U.same]
 | .str a,u',h=>by simp[U.same]
 | .br,_,_=>rfl
 | .bS,_,_=>rfl
 | .dJ,_,_=>rfl
 | .di,_,_=>rfl
 | .ptr a b,_,_=>by simp[U.same]
 | .map a,_,_=>by simp[U.same]
 | .agg a,u',h=>by
  cases u' <;>simp[U.same]at h;simp only[U.same];exact Cs h
 | .bB,_,h=>by simp[U.same]at h
 | .bad,_,h=>by simp[U.same]at h
 | .eR _ _,_,h=>by simp[U.same]at h
 | .sl _ _,_,h=>by simp[U.same]at h
 | .own _ _ _,_,h=>by simp[U.same]at h
 | .bJ _ _,_,h=>by simp[U.same]at h
 | .bI _ _ _,_,h=>by simp[U.same]at h
 | .zw _ _ _ _,_,h=>by simp[U.same]at h
 | .func _ _ _,_,h=>by simp[U.same]at h
 | .iface _ _,_,h=>by simp[U.same]at h
 | .aZ _,_,h=>by simp[U.same]at h
theorem Cs:∀ {a b:List U},U.mN a b=true→U.mN a a=true
 |[],_,_=>rfl
 |x::a,[],h=>by simp[U.mN]at h
 |x::a,y::b,h=>by
  simp only[U.mN,aI]at h⊢;exact⟨E4 h.1,Cs h.2⟩
end
theorem RL.stay{few:List (Nat×Rk)}{aj:fN}{p:Nat}{r:Prop}(h:RL σ Z n st few aj)(hgo:r):recheck st p aj r∧RL σ Z n st (gx p few) (dV p aj):=by
 induction h with
 |nil=>exact⟨hgo,.nil⟩
 | @cons i k op env v few aj h1 h2 h ih=>
  obtain⟨ih1,ih2⟩:=ih;simp only[recheck,gx,dV,mw];cases hb:Nat.testBit p i with
  |true=>simp only[cond_true,xR];exact⟨ih1,ih2⟩
  |false=>
   simp only[cond_false,KH,if_true,h1];exact⟨⟨rfl,ih1⟩,.cons h1 h2 ih2⟩
theorem RL.check{few:List (Nat×Rk)}{aj:fN}{p:Nat}{r:Prop}(hk:Ok E σ Z ω s e st')(h:RL σ Z s.h.length st few aj)(hc:pW s p few=true)(hgo:r):recheck st' p aj r∧RL σ Z s.h.length st' (gx p few) (dV p aj):=by
 induction h with
 |nil=>exact⟨hgo,.nil⟩
 | @cons i k op env v few aj h1 hK h ih=>
  simp only[pW,aI]at hc;obtain⟨ih1,ih2⟩:=ih hc.2;simp only[recheck,gx,dV,mw];cases hb:Nat.testBit p i with
  |true=>simp only[cond_true,xR];exact⟨ih1,ih2⟩
  |false=>
   simp only[cond_false,KH,if_true];have hev:cZ env st' op=some v:=by
    have hc1:=hc.1;rw[hb]at hc1;simp only[Fx]at hc1;cases k with
    |ok=>exact hK st' hk.qZ
    |no=>simp[Rk.holds]at hc1
    |ld q kk off u=>
     simp only[Rk.holds]at hc1;split at hc1<;>try (simp at hc1;done)
     rename_i cs hi;split at hc1<;>try (simp at hc1;done)
     rename_i u' hl;obtain⟨k1,k2,k3⟩:=hK;obtain⟨cs',v',w1,w2,w3⟩:=Ca hk hi hl;have hur:UR σ Z s.h.length u' v' :=by
      cases u' with
      |own g w xs=>cases u<;>simp[U.same]at hc1
      |bad=>cases u<;>simp[U.same]at hc1
      |bJ w xs=>cases u<;>simp[U.same]at hc1
      |bI g a b=>cases u<;>simp[U.same]at hc1
      |zw a b c d=>cases u<;>simp[U.same]at hc1
      |view a b c d=>cases u<;>simp[U.same]at hc1
      |dB=>cases u<;>simp[U.same]at hc1
      |_=>exact w3
     have hvv:=(k3 (E4 hc1)).same hur hc1;have:=k2 st';simp only at this hvv;rw[this,w1];simp only;rw[w2,hvv]
   rw[hev];exact⟨⟨rfl,ih1⟩,.cons hev hK ih2⟩
def Hun(σ:Sg)(n:Nat)(st st' :St)(hid:List Nat×List (Nat×Nat)):Prop:=
 (∀ j,j∈hid.1→j<n→st'.get (σ j)=st.get (σ j))∧∀ x,x∈hid.2→∃ r r',st'.row (σ x.1)=some r∧st.row (σ x.1)=some r'∧r[x.2]? =r'[x.2]?
theorem RL.qdp{few:List (Nat×Rk)}{aj:fN}{p:Nat}{r:Prop}{hid:List Nat×List (Nat×Nat)}{st0:St}{σ0:Sg}{n0:Nat}(hk:Ok E σ Z ω s e st')(h:RL σ Z s.h.length st0 few aj)(h0:RL σ0 Z' n0 st0 few aj)(hc:qz s p few=some hid)
  (hh:Hun σ0 n0 st0 st' hid) (hgo:r):recheck st' p aj r∧RL σ Z s.h.length st' (gx p few) (dV p aj):=by
 induction h generalizing hid with
 |nil=>exact⟨hgo,.nil⟩
 | @cons i k op env v few aj h1 hK h ih=>
  cases h0 with
  |cons g1 g2 g3=>
  simp only[qz]at hc;simp only[recheck,gx,dV,mw];cases hb:Nat.testBit p i with
  |true=>
   rw[hb]at hc;simp only[Bool.true_or,cond_true]at hc;obtain⟨ih1,ih2⟩:=ih g3 hc hh;simp only[cond_true,xR];exact⟨ih1,ih2⟩
  |false=>
   rw[hb]at hc;simp only[Fx]at hc;simp only[cond_false,KH,if_true];cases hr:k.holds s with
   |true=>
    rw[hr]at hc;simp only[cond_true]at hc;obtain⟨ih1,ih2⟩:=ih g3 hc hh;have hone:=RL.check (few:=[(i,k)]) (aj:=[(i,op,env,v)]) (p:=p) (r:=True) hk (.cons h1 hK .nil) (by simp only[pW,hb,hr];rfl) trivial;have hev:cZ env st' op=some v:=by
     have h2:=hone.2;simp only[gx,dV,mw,List.filter_nil,hb,cond_false,KH,if_true]at h2;cases h2 with
     |cons a b c=>exact a
    rw[hev];exact⟨⟨rfl,ih1⟩,.cons hev hK ih2⟩
   |false=>
    rw[hr]at hc;simp only[cond_false]at hc;split at hc<;>try (simp at hc;done)
    rename_i j q off u;split at hc<;>simp only[ag,reduceCtorEq]at hc;rename_i l hl;subst hc;have hcase:(Lk j q off u l=(l.1,(j,off)::l.2)∧q=none)∨Lk j q off u l=(j::l.1,l.2):=by
     unfold Lk;cases hq:(q.isNone&&(u.NO||u.qdQ))with
     |true=>
      simp only[aI]at hq;exact .inl ⟨rfl,by cases q with|none=>rfl|some _=>simp at hq⟩
     |false=>exact .inr rfl
    have hh' :Hun σ0 n0 st0 st' l:=by
     rcases hcase with⟨e,_⟩|e
     ·rw[e]at hh;exact⟨hh.1,fun x hx=>hh.2 x (eu _ hx)⟩
     ·rw[e]at hh;exact⟨fun x hx=>hh.1 x (eu _ hx),hh.2⟩
    obtain⟨ih1,ih2⟩:=ih g3 hl hh';have hev:cZ env st' op=some v:=by
     obtain⟨k1,k2,k3⟩:=g2;have e1:=k2 st';have e2:=k2 st0;simp only at e1 e2;rcases hcase with⟨e,rfl⟩|e
     ·rw[e]at hh;obtain⟨ra,rb,q1,q2,q3⟩:=hh.2 (j,off) cB;rw[q1]at e1;rw[q2]at e2;rw[e1];rw[e2]at h1;simp only[eG]at h1⊢;rw[q3];exact h1
     ·rw[e]at hh;have e3:st'.row (σ0 j)=st0.row (σ0 j):=by unfold St.row;rw[hh.1 j cB k1]
      rw[e1,e3,←e2];exact h1
    rw[hev];exact⟨⟨rfl,ih1⟩,.cons hev hK ih2⟩
theorem Ok.qhE(h:Ok E σ Z ω s e st)(j:Nat):Ok E σ Z ω {s with h:=s.h.set j .gone} e st:=by
 have hl:(s.h.set j .gone).length=s.h.length:=oU;refine⟨fun t u hu=>by rw[hl];exact h.env t u hu,fun i o ho=> ?_,h.qZ,h.mq,h.fresh,by rw[hl];exact h.inj,h.ic,by rw[hl];exact h.sw,by rw[hl];exact h.sz,h.wz,by rw[hl];exact h.sb,h.Bn,by rw[hl];exact h.wc,by rw[hl];exact h.n0,h.sig,h.zz,h.nx,by rw[hl];exact h.out,fun i hi=> ?_,h.yg.2.set fun off cs e=>by cases e⟩
 ·rw[hl];simp only at ho;rw[b9]at ho;by_cases hj:j=i
  ·rw[if_pos hj]at ho;split at ho
   ·simp at ho;subst ho;trivial
   ·cases ho
  ·rw[if_neg hj]at ho;exact h.obj i o ho
 ·obtain⟨q1,q2,q3⟩:=h.gn i hi;refine⟨q1,?_,q3⟩;rw[b9];split
  ·subst j;rw[if_pos (aH.1 q2).1]
  ·exact q2
theorem IZ:∀ (l:List Nat) (h:List Uo),(gw l h).length=h.length:=by
 intro l
 induction l with
 |nil=>intro h;rfl
 |cons j l ih=>intro h;simp only[gw,ih,oU]
theorem F9:∀ (l:List Nat) (h:List Uo) (i:Nat),h[i]? =some .gone→(gw l h)[i]? =some .gone:=by
 intro l
 induction l with
 |nil=>intro h i hi;exact hi
 |cons j l ih=>
  intro h i hi;refine ih _ i ?_;rw[b9];split
  ·subst j;rw[if_pos (aH.1 hi).1]
  ·exact hi
theorem I3:∀ (l:List Nat) (h:List Uo) (i:Nat),i∈l→i<h.length→(gw l h)[i]? =some .gone:=by
 intro l
 induction l with
 |nil=>intro h i hi;cases hi
 |cons j l ih=>
  intro h i hi hlt;rcases bT.1 hi with rfl|hi
  ·refine F9 l _ i ?_;rw[b9,if_pos rfl,if_pos hlt]
  ·exact ih _ i hi (by simpa using hlt)
theorem Ok.qdO:∀ (l:List Nat) {s:Vs},Ok E σ Z ω s e st→Ok E σ Z ω {s with h:=gw l s.h} e st:=by
 intro l
 induction l with
 |nil=>intro s h;exact h
 |cons j l ih=>intro s h;exact ih (h.qhE j)
theorem Fl.qdO:∀ (l:List Nat) {s:Vs},Fl s→Fl {s with h:=gw l s.h}:=by
 intro l
 induction l with
 |nil=>intro s h;exact h
 |cons j l ih=>intro s h;exact ih (h.set (i:=j) (o:=.gone) rfl s.e)
theorem zC(hF:Yu (dz C M) F){f:Nat}{args:List U}{vs:List V}{hid:List Nat×List (Nat×Nat)}(h:Ok E σ Z ω s e st)(hF0:Fl s)
  (hl:args.length=vs.length) (ha:∀ (j:Nat) u v,args[j]? =some u→vs[j]? =some v→TR σ Z ω s.h.length u v) (hc:mJ F f args s hid=true):
  dz C M f vs st fun v st' =>Hun σ s.h.length st st' hid:=by
 unfold mJ at hc;split at hc<;>try (simp at hc;done)
 rename_i us hus;split at hc<;>try (simp at hc;done)
 rename_i R hcall;obtain⟨r,h',fl'⟩:=R;obtain⟨Z1,ω1,b1,b2,b3,b4,b5⟩:=qy (args:=args) (tc hus) h;have hlu:LU σ Z1 s.h.length us vs:=Aq b2 hus hl ha b5;have hs:(gw hid.1 (aJ args s).h).length=s.h.length:=by rw[IZ];exact b3
 have hsh:=(b1.qdO hid.1).shared hid.2 (aJ args s).fl;refine nw ?_ (hF f us _ _ r h' fl' hcall σ Z1 (pU hid.2 ω1) st vs hsh (((hF0.aJ.qdO hid.1).mF hid.2 [])) (fun _=>tJ trivial) (by rw[nc,hs];exact hlu));rintro v st' ⟨k0,σ',Z',ω',k1,k2,k3⟩;refine⟨fun j hj hlt=> ?_,fun x hx=> ?_⟩
 ·have h0:=I3 hid.1 (aJ args s).h j hj (by rw[b3];exact hlt);have h1:(eN hid.2 (gw hid.1 (aJ args s).h))[j]? =some .gone:=by rw[r7 hid.2 (fun cs hh=>by rw[h0]at hh;cases hh)];exact h0
  have hg:=k1.gn j h1;have hsig:σ' j=σ j:=k1.sig j hg.1;rw[←hsig];refine hg.2.2.trans ?_;rw[hsig]
 ·have hx' :=fF.1 hc x hx;simp only[mD]at hx';split at hx' <;>try (cases hx';done)
  rename_i cs hcs;split at hx' <;>try (cases hx';done)
  rename_i hle;obtain⟨⟨_,hin⟩,ra,rb,k4,k5,k6⟩:=k1.yg.2 x.1 x.2 cs hcs hle;have hsig:σ' x.1=σ x.1:=k1.sig x.1 hin;exact⟨ra,rb,by rw[←hsig];exact iZ k4,iZ k5,k6⟩
theorem IU(hF:Yu (dz C M) F){o:j7}{p:Nat}{few:List (Nat×Rk)}{hid:List Nat×List (Nat×Nat)}{t:Vs}(hh:qz t p few=some hid)(h:h9 M Q F s t o p few=true)(hk:Ok E σ Z ω s e st)(hfl:Fl s):
  ∃ N,dN M (bY C M N) e st o.er fun v st' =>Hun σ s.h.length st st' hid:=by
 unfold h9 at h;rw[hh]at h;simp only at h;split at h<;>try (simp at h;done)
 ·rename_i f args;split at h<;>try (simp at h;done)
  rename_i g first captured vs hf ha
  split at h<;>try (simp at h;done)
  rename_i hq hqa;simp only[aI]at h;obtain⟨_,h⟩:=h;obtain⟨vf,f1,f2⟩:=hk.cW hf;obtain⟨first',captured',rfl,l1,l2⟩:=TR.func f2;obtain⟨vs',a1,a2,a3⟩:=hk.nW ha;obtain⟨N,hN⟩:=zC hF hk hfl (vs:=first'++vs'++captured') (by simp[l1.1,l2.1,a2]) (by
   intro j u v hu hv;rw[gD]at hu hv;by_cases h1:j<first.length
   ·rw[bG h1]at hu;rw[bG (by rw[←l1.1];exact h1)]at hv;exact TR.bE (l1.2 j u v hu hv)
   ·rw[dh (by omega)]at hu;rw[dh (by rw[←l1.1];omega),←l1.1]at hv;by_cases h2:j - first.length<vs.length
    ·rw[bG h2]at hu;rw[bG (by omega)]at hv;exact a3 _ u v hu hv
    ·rw[dh (by omega)]at hu;rw[dh (by omega),←a2]at hv;exact TR.bE (l2.2 _ u v hu hv)) h
  exact⟨N,by simp only[j7.er,dN,f1,a1];exact hN⟩
 ·rename_i name x args;split at h<;>try (simp at h;done)
  rename_i t0 u0 vs hx ha;split at h<;>try (simp at h;done)
  rename_i f hm;obtain⟨vx,x1,x2⟩:=hk.cW hx;obtain⟨v',rfl,x3⟩:=TR.iface x2;obtain⟨vs',a1,a2,a3⟩:=hk.nW ha;obtain⟨N,hN⟩:=zC hF hk hfl (vs:=v' ::vs') (by simp[a2]) (fun j u v hu hv=>by
   cases j with
   |zero=>simp at hu hv;subst hu;subst hv;exact TR.bE x3
   |succ j=>exact a3 j u v (by simpa using hu) (by simpa using hv)) h
  exact⟨N,by simp only[j7.er,dN,x1,a1,hm];exact hN⟩
theorem QC(o:gv):o.er.impure=o.impure:=by
 cases o with
 |len k x=>
  match k with
  |0=>rfl
  |1=>rfl
  |2=>rfl
  |k+3=>rfl
 |_=>rfl
theorem EG{F F' :Nat→List V→St→(V→St→Prop)→Prop}(hF:Rm F F'){M:qn}:∀ {l:List Step} {env:PT V} {s:St} {aj:fN} {k k' :PT V→St→Prop},(∀ e s,k e s→k' e s)→kV M F l env s aj k→kV M F' l env s aj k' :=by
 intro l
 induction l with
 |nil=>intro env s aj k k' hk h;exact hk _ _ h
 |cons x r ih=>
  intro env s aj k k' hk h;cases x with
  |small i o=>
   simp only[kV]at h⊢;split at h
   ·split at h
    ·split at h
     ·exact ih hk h
     ·exact h.elim
    ·split at h
     ·exact ih hk h
     ·exact h.elim
    ·exact h.elim
   ·exact ih hk h
   ·exact h.elim
  |bl i o=>
   simp only[kV]at h⊢;split at h
   ·exact dS hF (fun v s h=>eS (fun h=>ih hk h) h) h
   ·exact ih hk h
   ·exact h.elim
theorem ZL{d:Nat}{o:gv}{u:U}(h:gm d s o=some (u,s'))(hk:Ok E σ Z ω s e st){v:V}(hv:cZ e st o.er=some v)(hu:TR σ Z ω s.h.length u v)(i:Nat):KR σ Z s.h.length (i,o.er,e,v) (uF s o u):=by
 cases o with
 |load n x=>
  simp only[uF];split
  ·rename_i j off hx;obtain⟨vx,x1,x2⟩:=hk.cW hx;obtain⟨hlt,rfl⟩:=TR.ptr x2;refine⟨hlt,fun st2=>by simp only[gv.er,cZ,x1];cases st2.row (σ j)<;>rfl,fun hs=> ?_⟩;cases u with
   |own g w xs=>simp[U.same]at hs
   |bad=>simp[U.same]at hs
   |bJ w xs=>simp[U.same]at hs
   |bI g a b=>simp[U.same]at hs
   |zw a b c d=>simp[U.same]at hs
   |view a b c d=>simp[U.same]at hs
   |dB=>simp[U.same]at hs
   |_=>exact hu
  ·rename_i row off hx;obtain⟨vx,x1,x2⟩:=hk.cW hx;intro st2 hst2;simp only[gv.er,cZ,x1]at hv⊢;cases x2 with
   |jS hz hr hv' =>
    simp only[(hk.qZ _ _ hz)]at hv;simp only[(hst2 _ _ hz)];exact hv
   |jR hr hv' =>exact hv
  ·trivial
 |toStr x=>
  simp only[uF];split
  ·rename_i w xs hx;obtain⟨vx,x1,x2⟩:=hk.cW hx;intro st2 hst2;simp only[gv.er,cZ,x1]at hv⊢;have hsc:∀ cs,bN st 1 vx=some cs→bN st2 1 vx=some cs:=by
    intro cs hcs;have x3:UR σ Z s.h.length (.sl w xs) vx:=x2;cases x3 with
    |slnil=>exact hcs
    |Ak=>exact hcs
    |AL hn hz hl hcap hr hv' =>
     simp only[bN,(hk.qZ _ _ hz)]at hcs;simp only[bN,(hst2 _ _ hz)];exact hcs
    |Eh hn hl hr hv' =>exact hcs
   cases hq:bN st 1 vx with
   |none=>rw[hq]at hv;simp at hv
   |some cs=>rw[hq]at hv;rw[hsc cs hq];exact hv
  ·trivial
 |_=>exact trivial
theorem GC(hF:Yu (dz C M) F)(hQ:QOK (dz C M) Q):∀ {l:List Step} {σ:Sg} {Z:Zs} {ω:Om} {s s' :Vs} {e:PT V} {st:St} {few:List (Nat×Rk)} {aj:fN},bX M Q F l s few=some s'→Ok E σ Z ω s e st→Fl s→RL σ Z s.h.length st few aj→
  ∃ N,kV M (bY C M N) (l.map Step.er) e st aj fun e' st' =>DY E s' e' st' :=by
 intro l
 induction l with
 |nil=>
  intro σ Z ω s s' e st few aj h hk hfl hr;simp only[bX,ag]at h;subst h;exact⟨0,hfl,σ,Z,ω,hk⟩
 |cons x r ih=>
  intro σ Z ω s s' e st few aj h hk hfl hr;have hunit:Ok E σ Z ω {s with e:=js (match x with| .small _ o=>o.dst| .bl _ o=>o.dst) (.aZ []) s.e} (fI (match x with| .small _ o=>o.dst| .bl _ o=>o.dst) (.aZ []) e) st:=hk.put (UR.aZ rfl (fun j u v h=>by simp at h));cases x with
  |small i o=>
   simp only[bX]at h;cases hg:iO o.guard s.e with
   |none=>rw[hg]at h;simp at h
   |some b=>
    rw[hg]at h;have hgr:bW (aG.er o).guard e=some b:=BX hk hg;cases b with
    |false=>
     simp only at h;obtain⟨N,hN⟩:=ih h hunit (hfl.env _) hr;exact⟨N,by simp only[ct,Step.er,kV,hgr];exact hN⟩
    |true=>
     simp only at h;cases hc:lu M Q F s o.dst o.op with
     |none=>rw[hc]at h;simp at h
     |some p=>
      obtain⟨u,s1⟩:=p;rw[hc]at h;simp only at h;cases hop:o.op with
      |s so=>
       rw[hop]at hc h;simp only[lu]at hc;simp only at h;obtain⟨Z',ω',v,h1,h2,h3,h4,h5⟩:=EX hc hk;have hr2:RL σ Z' s1.h.length st few aj:=hr.mono (by omega) (fun _ _=>rfl) h5 (fun _ _ h=>h);have hrecs:RL σ Z' s1.h.length st (bif so.impure then(i,uF s so u)::few else few) (bif so.er.impure then(i,so.er,e,v)::aj else aj):=by
        rw[QC];cases so.impure with
        |false=>exact hr2
        |true=>
         refine .cons h1 ?_ hr2
         -- what is read was told before
         have hkr:KR σ Z s.h.length (i,so.er,e,v) (uF s so u)∨True:=.inr trivial;cases so with
         |load n y=>
          simp only[gm]at hc;have hs1:s1=s:=by
           split at hc
           ·split at hc<;>try (simp at hc;done)
            split at hc<;>simp only[ag,ay,reduceCtorEq]at hc;exact hc.2.symm
           ·split at hc<;>simp only[ag,ay,reduceCtorEq]at hc;exact hc.2.symm
           ·split at hc<;>try (simp at hc;done)
            split at hc<;>try (simp at hc;done)
            split at hc<;>simp only[ag,ay,reduceCtorEq]at hc;exact hc.2.symm
           ·simp at hc
          subst hs1;simp only[uF];split
          ·rename_i j off hx;obtain⟨vx,x1,x2⟩:=h2.cW hx;obtain⟨hlt,rfl⟩:=TR.ptr x2;refine⟨hlt,fun st2=>by simp only[gv.er,cZ,x1];cases st2.row (σ j)<;>rfl,fun hs=> ?_⟩;cases u with
           |own g w xs=>simp[U.same]at hs
           |bad=>simp[U.same]at hs
           |bJ w xs=>simp[U.same]at hs
           |bI g a b=>simp[U.same]at hs
           |zw a b c d=>simp[U.same]at hs
           |view a b c d=>simp[U.same]at hs
           |dB=>simp[U.same]at hs
           |_=>exact h3
          ·rename_i row off hx;obtain⟨vx,x1,x2⟩:=h2.cW hx;intro st2 hst2;simp only[gv.er,cZ,x1]at h1⊢;cases x2 with
           |jS hz hr' hv' =>
            simp only[(h2.qZ _ _ hz)]at h1;simp only[(hst2 _ _ hz)];exact h1
           |jR hr' hv' =>exact h1
          ·trivial
         |toStr y=>
          have hs1:s1=s:=by
           simp only[gm]at hc;split at hc<;>try (simp at hc;done)
           split at hc<;>try (simp at hc;done)
           split at hc<;>simp only[ag,ay,reduceCtorEq]at hc;exact hc.2.symm
          subst hs1;exact ZL hc h2 h1 h3 i
         |_=>trivial
       obtain⟨N,hN⟩:=ih h (h2.put h3) ((S7 hc hfl).env _) hrecs;refine⟨N,?_⟩;have hoe:(aG.er o).op=.s so.er:=by simp[aG.er,hop,j7.er]
       simp only[ct,Step.er,kV,hgr,hoe,h1];exact hN
      |m mo=>
       rw[hop]at hc h;simp only[lu]at hc;simp only at h;obtain⟨σ',Z',ω',ob,f,h1,h2,h3,h4,h5,h6⟩:=EW hc hk;obtain⟨N,hN⟩:=ih h (h2.put h3) ((S6 hc hk hfl).env _) (hr.mono h4 h5 h6 fun b x hb=>by rw[St.dU,if_neg (by have:=hk.lt_next hb;omega)];exact hb);refine⟨N,?_⟩;have hoe:(aG.er o).op=.m mo.er:=by simp[aG.er,hop,j7.er]
       simp only[ct,Step.er,kV,hgr,hoe,h1];exact hN
      |_=>rw[hop]at h;simp at h
  |bl i o=>
   simp only[bX]at h;cases hg:iO o.guard s.e with
   |none=>rw[hg]at h;simp at h
   |some b=>
    rw[hg]at h;have hgr:bW (aG.er o).guard e=some b:=BX hk hg;cases b with
    |false=>
     simp only at h;obtain⟨N,hN⟩:=ih h hunit (hfl.env _) hr;exact⟨N,by simp only[ct,Step.er,kV,hgr];exact hN⟩
    |true=>
     simp only at h;cases hc:lu M Q F s o.dst o.op with
     |none=>rw[hc]at h;simp at h
     |some p=>
      obtain⟨u,s1⟩:=p;rw[hc]at h;simp only at h;cases hb:(fJ Q s o.op||pW s1 o.aT few||h9 M Q F s s1 o.op o.aT few)with
      |false=>rw[hb]at h;simp at h
      |true=>
       rw[hb]at h;simp only[cond_true]at h;obtain⟨N0,hN0⟩:=EV hF hQ hc hk hfl
       -- what lies where it qhg not come to
       have hfr:∃ N1,dN M (bY C M N1) e st o.op.er fun v st' =>∀ hid,(fJ Q s o.op||pW s1 o.aT few)=false→qz s1 o.aT few=some hid→Hun σ s.h.length st st' hid:=by
        cases hq:(fJ Q s o.op||pW s1 o.aT few)with
        |true=>exact⟨N0,dS (cg (ak _)) (fun v st' _ hid hh=>by cases hh) hN0⟩
        |false=>
         rw[hq,Fx]at hb;cases hh:qz s1 o.aT few with
         |none=>exact⟨N0,dS (cg (ak _)) (fun v st' _ hid _ hh=>by cases hh) hN0⟩
         |some hid=>
          obtain⟨N1,hN1⟩:=IU hF hh hb hk hfl;exact⟨N1,dS (cg (ak _)) (fun v st' h hid' _ hh=>by cases hh;exact h) hN1⟩
       obtain⟨N1,hN1⟩:=hfr;have hN:=BQ (Ew (C:=C) (M:=M) (n:=max N0 N1)) (dS (cg (jW N0 N1)) (fun _ _ h=>h) hN0) (dS (cg (qi N0 N1)) (fun _ _ h=>h) hN1);generalize max N0 N1=N at hN;have h2:dN M (bY C M N) e st o.op.er fun v st' =>∃ m,recheck st' o.aT aj (kV M (bY C M m) (r.map Step.er) (fI o.dst v e) st' (dV o.aT aj) fun e' st' =>DY E s' e' st'):=by
        refine dS (cg (ak N)) (fun v st' hv=> ?_) hN;obtain⟨⟨k0,σ',Z',ω',k1,k2,k3,k4,k5,k6⟩,hid0⟩:=hv;refine wF (K:=fun m=>kV M (bY C M m) (r.map Step.er) (fI o.dst v e) st' (dV o.aT aj) fun e' st' =>DY E s' e' st') ?_;have hr1:RL σ' Z' s1.h.length st few aj:=hr.mono k3 k4 k5 (fun _ _ h=>h);have fin:∀ {st2:St},RL σ' Z' s1.h.length st' (gx o.aT few) (dV o.aT aj)→∃ m,kV M (bY C M m) (r.map Step.er) (fI o.dst v e) st' (dV o.aT aj) fun e' st' =>DY E s' e' st' :=fun hrl=>ih h (k1.put k2) (k0.env _) hrl;cases hq:fJ Q s o.op with
        |true=>
         have hr2:RL σ' Z' s1.h.length st' few aj:=hr.mono k3 k4 k5 (fun b x hbx=>by rw[k6 hq b (hk.lt_next hbx)];exact hbx);have hst:=hr2.stay (p:=o.aT) trivial;exact eS (fun _=>fin (st2:=st') hst.2) hst.1
        |false=>
         cases hro:pW s1 o.aT few with
         |true=>
          have hst:=RL.check k1 hr1 hro trivial;exact eS (fun _=>fin (st2:=st') hst.2) hst.1
         |false=>
          cases hh:qz s1 o.aT few with
          |none=>
           rw[hq,hro]at hb;simp[h9,hh]at hb
          |some hid=>
           have hst:=RL.qdp k1 hr1 hr hh (hid0 hid (by rw[hq,hro];rfl) hh) trivial;exact eS (fun _=>fin (st2:=st') hst.2) hst.1
       obtain⟨m,_,hm⟩:=wq (K:=fun m v st' =>recheck st' o.aT aj (kV M (bY C M m) (r.map Step.er) (fI o.dst v e) st' (dV o.aT aj) fun e' st' =>DY E s' e' st')) (fun a b hab=>cg hab) (fun f args s K hK h=>uS hK h)
        (fun a b v s hab h=>eS (fun h=>EG (cg hab) (fun _ _ h=>h) h) h) h2
       exact⟨m,by simp only[ct,Step.er,kV,hgr];exact hm⟩
theorem IF(hF:Yu (dz C M) F)(hQ:QOK (dz C M) Q){ops:List aG}{l:List Step}(hl:sched (ops.length+1) (bx ops 0) 0=some l)(h:bX M Q F l s []=some s')(hk:Ok E σ Z ω s e st)(hfl:Fl s):
  ∃ N,gz C M N (.draw (fR ops)) e st fun ex e' st' =>ex=.normal∧DY E s' e' st' :=by
 obtain⟨N,hN⟩:=GC hF hQ h hk hfl .nil;refine⟨N+1,Qr (steps:=l.map Step.er) ?_ (EG (cg (ak _)) (fun _ _ h=>⟨rfl,h⟩) hN)⟩;have:=Tn hl;rw[Ju,Jr];exact this
end
end Go.RE
namespace Go.RE
section
variable{E:q9}{σ:Sg}{Z:Zs}{ω ω' :Om}{s s' :Vs}{e e2:PT V}{st:St}{n m:Nat}
theorem Ok.reω(h:Ok E σ Z ω s e st){bk:Tg→Tg}(hb:∀ g I,ω' g=some I→ω (bk g)=some I)(hi:∀ g g' I I',ω' g=some I→ω' g' =some I'→bk g=bk g'→g=g')
  (hr:ω' .r=none) (hwa:WA E ω') (hc:∀ i off,ω' (.c i off)=ω (.c i off)) {E' :Env} (he:∀ t u,look E' t=some u→∃ v,e2.get t=some v∧TR σ Z ω' s.h.length u v):Ok E σ Z ω' {s with e:=E'} e2 st:=
 ⟨he,fun i o ho=>(h.obj i o ho).mono (ak _) (fun _ _=>rfl) (fun _ _ h=>h) (fun off=>hc i off),h.qZ,fun g I hI=>h.mq _ I (hb g I hI),h.fresh,h.inj,fun g g' I I' h1 h2 hbb=>hi g g' I I' h1 h2 (h.ic _ _ _ _ (hb g I h1) (hb g' I' h2) hbb),fun i g I hi hI=>h.sw i _ I hi (hb g I hI),h.sz,fun g I hI=>h.wz _ I (hb g I hI),h.sb,⟨hr,hwa⟩,fun i off I hI=>h.wc i off I (by rw[←hc];exact hI),h.n0,h.sig,h.zz,h.nx,fun b hb1 hb2=>by
   obtain⟨k1,k2,k3,k4⟩:=h.out b hb1 hb2;exact⟨k1,k2,fun g I hI=>k3 _ I (hb g I hI),k4⟩,h.yg⟩
theorem UR.cut{u:U}{v:V}(h:UR σ Z n u v)(hl:u.low m=true):UR σ Z m u v:=by
 have hls:∀ {a:List U},U.bZ m a=true→∀ (j:Nat) u,a[j]? =some u→u.low m=true:=fun h j u hu=>lW.1 h u (oT hu)
 induction h with
 |bool b=>exact .bool b
 |int k x=>exact .int k x
 |str s=>exact .str s
 |br=>exact .br
 |bB=>exact .bB
 |bS=>exact .bS
 |dJ=>exact .dJ
 |di=>exact .di
 |ptr h=>exact .ptr (by simp only[U.low,Nat.blt,ez]at hl;omega)
 |map h=>exact .map (by simp only[U.low,Nat.blt,ez]at hl;omega)
 |jS h1 h2 h3 _=>exact .jS h1 h2 h3
 |jR h1 h2 _=>exact .jR h1 h2
 |slnil=>exact .slnil
 |Ak=>exact .Ak
 |Ec=>exact .Ec
 |EU=>exact .EU
 |AL h1 h2 h3 h4 h5 h6 _=>exact .AL h1 h2 h3 h4 h5 h6
 |Eh h1 h2 h3 h4 _=>exact .Eh h1 h2 h3 h4
 |func h1 h2 h3 h4 i1 i2=>
  simp only[U.low,aI]at hl;exact .func h1 h2 (fun j u v a b=>i1 j u v a b (hls hl.1 j u a)) (fun j u v a b=>i2 j u v a b (hls hl.2 j u a))
 |iface h ih=>exact .iface (ih hl)
 |agg h1 h2 ih=>exact .agg h1 fun j u v a b=>ih j u v a b (hls (by simpa only[U.low]using hl) j u a)
 |aZ h1 h2 ih=>exact .aZ h1 fun j u v a b=>ih j u v a b (hls (by simpa only[U.low]using hl) j u a)
theorem TR.cut{u:U}{v:V}(h:TR σ Z ω n u v)(hl:u.low m=true)(hω:∀ g,u.tag=some g→ω' g=ω g):TR σ Z ω' m u v:=by
 cases u with
 |bad=>trivial
 |bJ _ _=>trivial
 |own g w xs=>exact⟨h.1.mono (fun _ _ h=>h) (hω g rfl),fun i off e=>by subst e;simp only[U.low,Nat.blt,ez]at hl;omega⟩
 |bI g i f=>
  obtain⟨⟨I,h1,h2⟩,h3⟩:=h;exact⟨⟨I,by rw[hω g rfl];exact h1,h2⟩,fun i off e=>by subst e;simp only[U.low,Nat.blt,ez]at hl;omega⟩
 |view g lo len w=>exact⟨h.1.mono (hω g rfl),fun i off e=>by subst e;simp only[U.low,Nat.blt,ez]at hl;omega⟩
 |dB=>trivial
 |zw i off len w=>obtain⟨h1,cap,h2,h3⟩:=h;exact⟨by simp only[U.low,Nat.blt,ez]at hl;omega,cap,h2,h3⟩
 |_=>exact UR.cut h hl
theorem CR.cut{i off:Nat}{u:U}{v:V}(h:CR σ Z ω n i off u v)(hl:u.low m=true)(hω:ω' (.c i off)=ω (.c i off)):CR σ Z ω' m i off u v:=by
 cases u with
 |bad=>trivial
 |dB=>trivial
 |bJ w xs=>exact OR.mono (fun _ _ h=>h) hω h
 |_=>exact UR.cut h hl
theorem OB.cut{i:Nat}{o:Uo}{ob:Option Ob}(h:OB σ Z ω n i o ob)(hl:o.low m=true)(hω:∀ off,ω' (.c i off)=ω (.c i off)):OB σ Z ω' m i o ob:=by
 cases o with
 |row cs=>
  obtain⟨cs',h1,h2,h3⟩:=h;exact⟨cs',h1,h2,fun off u v a b=>(h3 off u v a b).cut (lW.1 hl u (oT a)) (hω off)⟩
 |map es c=>
  obtain⟨es',h1,h2,h3⟩:=h;refine⟨es',h1,h2,fun j x y a b=> ?_⟩;simp only[Uo.low,fF,jF,aI]at hl;have:=hl x (oT a);exact⟨(h3 j x y a b).1.cut this.1,(h3 j x y a b).2.1.cut this.2,(h3 j x y a b).2.2⟩
 |iter q a b c=>exact⟨h.1,fun j hj=>by subst hj;simp only[Uo.low,Nat.blt,ez]at hl;omega⟩
 |gone=>trivial
def below(m:Nat)(ω:Om):Om:=fun g=>match g with
 | .c i off=>if i<m then ω (.c i off)else none
 |g=>ω g
theorem kR{g:Tg}{I:oW}(h:below m ω g=some I):ω g=some I:=by
 unfold below at h;split at h
 ·split at h
  ·exact h
  ·cases h
 ·exact h
theorem QK:∀ {ev:Env},Jl n ev=true→∀ t u,look ev t=some u→u.low n=true:=by
 intro ev
 induction ev with
 |nil=>intro _ t u h;simp[look]at h
 |cons x r ih=>
  intro h t u hu;obtain⟨k,v⟩:=x;simp only[Jl,aI]at h;simp only[look]at hu;cases hb:Nat.beq k t with
  |true=>rw[hb]at hu;simp at hu;subst hu;exact h.1
  |false=>rw[hb]at hu;exact ih h.2 t u hu
theorem Fl.cut(h:Fl s)(n:Nat):Fl {s with h:=RE.cut n s.fl s.h}:=by
 refine⟨?_,fun i o ho=> ?_⟩
 ·have:=h.le;simp only[RE.cut,iD];omega
 ·simp only[RE.cut]at ho;rw[fU]at ho;split at ho
  ·exact h.ob i o ho
  ·cases ho
theorem Ok.cut(h:Ok E σ Z ω s e st)(hf:Fl s)(hn:E.n≤n)(hl:∀ t u,look s.e t=some u→u.low n=true):∃ ω',Ok E σ Z ω' {s with h:=RE.cut n s.fl s.h} e st∧(∀ d,ω' (.t d)=ω (.t d))∧∀ i off,i<(RE.cut n s.fl s.h).length→ω' (.c i off)=ω (.c i off):=by
 by_cases hle:s.h.length≤max n s.fl
 ·have e1:RE.cut n s.fl s.h=s.h:=by unfold RE.cut;exact gu hle
  refine⟨ω,?_,fun _=>rfl,fun _ _ _=>rfl⟩;rw[e1];exact h
 ·have hlen:(RE.cut n s.fl s.h).length=max n s.fl:=by simp only[RE.cut,iD];omega
  generalize hm:max n s.fl=m at hlen hle;have hmn:n≤m:=by omega
  have hget:∀ (i:Nat) o,(RE.cut n s.fl s.h)[i]? =some o→s.h[i]? =some o:=fun i o ho=>by
   unfold RE.cut at ho;rw[fU]at ho;split at ho
   ·exact ho
   ·cases ho
  refine⟨below m ω,⟨fun t u hu=> ?_,fun i o ho=> ?_,h.qZ,fun g I hI=>h.mq g I (kR hI),h.fresh,fun i j hi hj=>h.inj i j (by rw[hlen]at hi;omega) (by rw[hlen]at hj;omega),fun g g' I I' h1 h2=>h.ic g g' I I' (kR h1) (kR h2),fun i g I hi hI=>h.sw i g I (by rw[hlen]at hi;omega) (kR hI),fun i hi=>h.sz i (by rw[hlen]at hi;omega),fun g I hI=>h.wz g I (kR hI),fun i hi=>h.sb i (by rw[hlen]at hi;omega),⟨h.wr,h.Bn.2.up rfl⟩,fun i off I hI=> ?_,?_,h.sig,h.zz,h.nx,fun b hb1 hb2=> ?_,fun i hi=> ?_,fun i off cs h1 h2=>h.yg.2 i off cs (hget i _ h1) h2⟩,fun _=>rfl,fun i off hi=> ?_⟩
  ·obtain⟨v,h1,h2⟩:=h.env t u hu;have hlow:=iP hmn (hl t u hu);refine⟨v,h1,?_⟩;rw[hlen];refine h2.cut hlow fun g hg=> ?_;unfold below;split
   ·rename_i i off;rw[if_pos];cases u with
    |own g w xs=>simp[U.tag]at hg;subst hg;simp only[U.low,Nat.blt,ez]at hlow;omega
    |bI g a b=>simp[U.tag]at hg;subst hg;simp only[U.low,Nat.blt,ez]at hlow;omega
    |view g a b c=>simp[U.tag]at hg;subst hg;simp only[U.low,Nat.blt,ez]at hlow;omega
    |_=>simp[U.tag]at hg
   ·rfl
  ·have hi:i<m:=by have:=(aH.1 ho).1;rw[hlen]at this;exact this
   rw[hlen];refine(h.obj i o (hget i o ho)).cut (Uo.iP (by omega) (hf.ob i o (hget i o ho))) fun off=> ?_;simp only[below,if_pos hi]
  ·rw[hlen];simp only[below]at hI;split at hI
   ·assumption
   ·cases hI
  ·rw[hlen];have:=h.n0;omega
  ·obtain⟨k1,k2,k3,k4⟩:=h.out b hb1 hb2;exact⟨k1,fun i hi=>k2 i (by rw[hlen]at hi;omega),fun g I hI=>k3 g I (kR hI),k4⟩
  ·obtain⟨k1,k2,k3⟩:=h.gn i hi;exact⟨k1,by unfold RE.cut;rw[fU,if_pos (by omega)];exact k2,k3⟩
  ·rw[hlen]at hi;simp only[below,if_pos hi]
def N8(ω:Om)(κ:Nat→Option Nat):Om:=fun g=>match g with
 | .c i off=>ω (.c i off)
 | .t x=>(match κ x with|some y=>ω (.t y)|none=>none)
 | .r=>none
 | .a=>ω .a
def Tg.fix:Tg→Prop
 | .c _ _=>True
 | .a=>True
 |_=>False
theorem Lt{ω:Om}(hr:ω .r=none):∀ {L:List Nat} {ev:Env},(∀ t u,look ev t=some u→∃ v,e.get t=some v∧TR σ Z ω n u v)→
  ∃ κ:Nat→Option Nat,(∀ t t' y,κ t=some y→κ t' =some y→t=t')∧(∀ t y,κ t=some y→∃ x w xs,look ev x=some (.own (.t y) w xs))∧
   ∀ t u,look (dH L ev) t=some u→(∀ g,u.tag=some g→g=.t t∨g.fix)∧∃ v,e.get t=some v∧TR σ Z (N8 ω κ) n u v:=by
 intro L
 induction L with
 |nil=>intro ev h;exact⟨fun _=>none,fun t t' y hh _=>by simp at hh,fun t y hh=>by simp at hh,fun t u hu=>by simp[dH,look]at hu⟩
 |cons t ts ih=>
  intro ev h;have hkill:∀ g,∀ x u,look (Env.kill g ev) x=some u→∃ v,e.get x=some v∧TR σ Z ω n u v:=fun g x u hu=>by
   rw[lg]at hu;cases hq:look ev x with
   |none=>rw[hq]at hu;simp at hu
   |some y=>
    rw[hq]at hu;simp at hu;obtain⟨v,h1,h2⟩:=h x y hq;rcases(nM hu).2 with rfl|rfl
    ·exact⟨v,h1,h2⟩
    ·exact⟨v,h1,trivial⟩
  -- one that has no tag of its own
  have other:∀ u0,look ev t=some u0→∀ u1 ev',(∀ v,TR σ Z ω n u0 v→∀ κ,κ t=none→TR σ Z (N8 ω κ) n u1 v)→(∀ g,u1.tag=some g→g=.t t∨g.fix)→(∀ x u,look ev' x=some u→∃ v,e.get x=some v∧TR σ Z ω n u v)→
    (∀ x u,look ev' x=some u→u.tag.isSome=true→look ev x=some u)→
    ∃ κ:Nat→Option Nat,(∀ t t' y,κ t=some y→κ t' =some y→t=t')∧(∀ t y,κ t=some y→∃ x w xs,look ev x=some (.own (.t y) w xs))∧
     ∀ x u,look ((t,u1)::dH ts ev') x=some u→(∀ g,u.tag=some g→g=.t x∨g.fix)∧∃ v,e.get x=some v∧TR σ Z (N8 ω κ) n u v:=by
   intro u0 h0 u1 ev' htr htag hev hsub;obtain⟨κ,a1,a2,a3⟩:=ih hev;refine⟨fun x=>if x=t then none else κ x,fun x x' y hx hx' => ?_,fun x y hx=> ?_,fun x u hu=> ?_⟩
   ·have hx:(if x=t then none else κ x)=some y:=hx;have hx' :(if x' =t then none else κ x')=some y:=hx';split at hx
    ·cases hx
    split at hx'
    ·cases hx'
    exact a1 x x' y hx hx'
   ·have hx:(if x=t then none else κ x)=some y:=hx;split at hx
    ·cases hx
    obtain⟨z,w,xs,hz⟩:=a2 x y hx;exact⟨z,w,xs,hsub z _ hz rfl⟩
   ·simp only[look]at hu;cases hb:Nat.beq t x with
    |true=>
     rw[hb]at hu;simp at hu;subst hu;have:=aU hb;subst this;obtain⟨v,h1,h2⟩:=h t u0 h0;exact⟨htag,v,h1,htr v h2 _ (by simp)⟩
    |false=>
     rw[hb]at hu;obtain⟨b1,v,b2,b3⟩:=a3 x u hu;have hne:x≠t:=fun hh=>by subst hh;simp at hb
     refine⟨b1,v,b2,b3.mono (ak _) (fun _ _=>rfl) (fun _ _ h=>h) fun g hg=> ?_⟩;rcases b1 g hg with rfl|hfx
     ·simp only[N8,if_neg hne]
     ·cases g<;>first|rfl|exact hfx.elim
  have hself:∀ x u,look ev x=some u→u.tag.isSome=true→look ev x=some u:=fun _ _ h _=>h;have hselfk:∀ g x u,look (Env.kill g ev) x=some u→u.tag.isSome=true→look ev x=some u:=fun g x u hu ht=>by
   rw[lg]at hu;cases hq:look ev x with
   |none=>rw[hq]at hu;simp at hu
   |some y=>
    rw[hq]at hu;simp at hu;rcases(nM hu).2 with rfl|rfl
    ·rfl
    ·simp[U.tag]at ht
  cases h0:look ev t with
  |none=>
   obtain⟨κ,a1,a2,a3⟩:=ih h;exact⟨κ,a1,a2,fun x u hu=>a3 x u (by simpa only[dH,h0]using hu)⟩
  |some u0=>
   cases u0 with
   |own g w xs=>
    cases g with
    |t g=>
     simp only[dH,h0];obtain⟨κ,a1,a2,a3⟩:=ih (hkill (.t g));have hnog:∀ x,κ x≠some g:=fun x hx=>by
      obtain⟨z,w,xs,hz⟩:=a2 x g hx;rw[lg]at hz;cases hq:look ev z with
      |none=>rw[hq]at hz;simp at hz
      |some y=>
       rw[hq]at hz;simp at hz;exact(nM hz).1 rfl
     refine⟨fun x=>if x=t then some g else κ x,fun x x' y hx hx' => ?_,fun x y hx=> ?_,fun x u hu=> ?_⟩
     ·simp only at hx hx';by_cases h1:x=t<;>by_cases h2:x' =t
      ·rw[h1,h2]
      ·rw[if_pos h1]at hx;rw[if_neg h2]at hx';cases hx;exact absurd hx' (hnog x')
      ·rw[if_neg h1]at hx;rw[if_pos h2]at hx';cases hx';exact absurd hx (hnog x)
      ·rw[if_neg h1]at hx;rw[if_neg h2]at hx';exact a1 x x' y hx hx'
     ·simp only at hx;split at hx
      ·cases hx;exact⟨t,w,xs,h0⟩
      ·obtain⟨z,w,xs,hz⟩:=a2 x y hx;exact⟨z,w,xs,hselfk _ z _ hz rfl⟩
     ·simp only[look]at hu;cases hb:Nat.beq t x with
      |true=>
       rw[hb]at hu;simp at hu;subst hu;have:=aU hb;subst this;obtain⟨v,h1,h2⟩:=h t _ h0;refine⟨fun g' hg' =>by simp[U.tag]at hg';exact .inl hg'.symm,v,h1,OR.to h2.1 (fun _ _ h=>h) ?_,fun i off hh=>by cases hh⟩;simp only[N8,if_true]
      |false=>
       rw[hb]at hu;obtain⟨b1,v,b2,b3⟩:=a3 x u hu;have hne:x≠t:=fun hh=>by subst hh;simp at hb
       refine⟨b1,v,b2,b3.mono (ak _) (fun _ _=>rfl) (fun _ _ h=>h) fun g hg=> ?_⟩;rcases b1 g hg with rfl|hfx
       ·simp only[N8,if_neg hne]
       ·cases g<;>first|rfl|exact hfx.elim
    |r=>
     simp only[dH,h0];refine other _ h0 _ _ (fun v hv κ hκ=>⟨OR.to hv.1 (fun _ _ h=>h) ?_,fun i off hh=>by cases hh⟩) (fun g' hg' =>by simp[U.tag]at hg';exact .inl hg'.symm) (hkill .r) (hselfk .r);simp only[N8,hκ];exact hr.symm
    |c i off=>
     simp only[dH,h0];exact other _ h0 _ _ (fun v hv κ hκ=>TR.mono (ak _) (fun _ _=>rfl) (fun _ _ h=>h) (fun g hg=>by simp[U.tag]at hg;subst hg;rfl) hv) (fun g' hg' =>by simp[U.tag]at hg';exact .inr (hg'▸trivial)) h hself
    |a=>
     simp only[dH,h0];exact other _ h0 _ _ (fun v hv κ hκ=>TR.mono (ak _) (fun _ _=>rfl) (fun _ _ h=>h) (fun g hg=>by simp[U.tag]at hg;subst hg;rfl) hv) (fun g' hg' =>by simp[U.tag]at hg';exact .inr (hg'▸trivial)) h hself
   |bI g i f=>
    cases g with
    |t g=>
     simp only[dH,h0];exact other _ h0 _ _ (fun v hv κ hκ=>trivial) (fun g' hg' =>by simp[U.tag]at hg') h hself
    |r=>
     simp only[dH,h0];exact other _ h0 _ _ (fun v hv κ hκ=>trivial) (fun g' hg' =>by simp[U.tag]at hg') h hself
    |c j off=>
     simp only[dH,h0];exact other _ h0 _ _ (fun v hv κ hκ=>TR.mono (ak _) (fun _ _=>rfl) (fun _ _ h=>h) (fun g hg=>by simp[U.tag]at hg;subst hg;rfl) hv) (fun g' hg' =>by simp[U.tag]at hg';exact .inr (hg'▸trivial)) h hself
    |a=>
     simp only[dH,h0];exact other _ h0 _ _ (fun v hv κ hκ=>TR.mono (ak _) (fun _ _=>rfl) (fun _ _ h=>h) (fun g hg=>by simp[U.tag]at hg;subst hg;rfl) hv) (fun g' hg' =>by simp[U.tag]at hg';exact .inr (hg'▸trivial)) h hself
   |view g i f l=>
    cases g with
    |t g=>
     simp only[dH,h0];exact other _ h0 _ _ (fun v hv κ hκ=>trivial) (fun g' hg' =>by simp[U.tag]at hg') h hself
    |r=>
     simp only[dH,h0];exact other _ h0 _ _ (fun v hv κ hκ=>trivial) (fun g' hg' =>by simp[U.tag]at hg') h hself
    |c j off=>
     simp only[dH,h0];exact other _ h0 _ _ (fun v hv κ hκ=>TR.mono (ak _) (fun _ _=>rfl) (fun _ _ h=>h) (fun g hg=>by simp[U.tag]at hg;subst hg;rfl) hv) (fun g' hg' =>by simp[U.tag]at hg';exact .inr (hg'▸trivial)) h hself
    |a=>
     simp only[dH,h0];exact other _ h0 _ _ (fun v hv κ hκ=>TR.mono (ak _) (fun _ _=>rfl) (fun _ _ h=>h) (fun g hg=>by simp[U.tag]at hg;subst hg;rfl) hv) (fun g' hg' =>by simp[U.tag]at hg';exact .inr (hg'▸trivial)) h hself
   |_=>
    simp only[dH,h0];exact other _ h0 _ _ (fun v hv κ hκ=>TR.mono (ak _) (fun _ _=>rfl) (fun _ _ h=>h) (fun g hg=>by simp[U.tag]at hg) hv) (fun g' hg' =>by simp[U.tag]at hg') h hself
theorem ZK(hf:Fl s)(h:Ok E σ Z ω s e st)(hn:E.n≤n)(L:List Nat):DY E (keep L n s) e st:=by
 obtain⟨κ,a1,a2,a3⟩:=Lt (L:=L) h.wr h.env;have h1:Ok E σ Z (N8 ω κ) {s with e:=dH L s.e} e st:=by
  refine h.reω (ω' :=N8 ω κ) (E' :=dH L s.e) (bk:=fun g=>match g with| .t x=>(match κ x with|some y=> .t y|none=> .r)|g=>g) (fun g I hI=> ?_) (fun g g' I I' h1 h2 hbb=> ?_) rfl (h.Bn.2.up rfl) (fun _ _=>rfl) (fun t u hu=>(a3 t u hu).2)
  ·cases g with
   |t x=>
    simp only[N8]at hI⊢;cases hx:κ x with
    |none=>rw[hx]at hI;cases hI
    |some y=>rw[hx]at hI;exact hI
   |c i off=>exact hI
   |a=>exact hI
   |r=>cases hI
  ·cases g with
   |t x=>
    simp only[N8]at h1;cases hx:κ x with
    |none=>rw[hx]at h1;cases h1
    |some y=>
     simp only[hx]at hbb;cases g' with
     |t x' =>
      simp only[N8]at h2;cases hx' :κ x' with
      |none=>rw[hx']at h2;cases h2
      |some y' =>
       simp only[hx']at hbb;cases hbb;rw[a1 x x' y hx hx']
     |c i off=>cases hbb
     |a=>cases hbb
     |r=>cases hbb
   |a=>
    cases g' with
    |t x' =>
     simp only[N8]at h2;cases hx' :κ x' with
     |none=>rw[hx']at h2;cases h2
     |some y' =>simp only[hx']at hbb;cases hbb
    |c j o=>cases hbb
    |a=>rfl
    |r=>cases h2
   |c i off=>
    cases g' with
    |t x' =>
     simp only[N8]at h2;cases hx' :κ x' with
     |none=>rw[hx']at h2;cases h2
     |some y' =>simp only[hx']at hbb;cases hbb
    |c j o=>simpa using hbb
    |a=>cases hbb
    |r=>cases h2
   |r=>cases h1
 have hf1:Fl {s with e:=dH L s.e}:=hf.env _;unfold keep;simp only;cases hl:Jl n (dH L s.e)with
 |false=>exact⟨hf1,σ,Z,_,h1⟩
 |true=>
  simp only[cond_true];obtain⟨ω',k1,_⟩:=h1.cut hf1 hn (QK hl);exact⟨hf1.cut n,σ,Z,ω',k1⟩
end
end Go.RE
namespace Go.RE
section
variable{E:q9}{σ:Sg}{Z:Zs}{ω ω' :Om}{s s' :Vs}{e e2:PT V}{st:St}{n m:Nat}
theorem Z8(h:Ok E σ Z ω s e st){r:vN}{u:U}(hr:JF s r=some u):∃ v,Eg e st r=some v∧TR σ Z ω s.h.length u v:=by
 cases r with
 |t k=>exact h.env k u hr
 |cell a k=>
  simp only[JF]at hr;split at hr<;>try (simp at hr;done)
  rename_i i off ha;split at hr<;>try (simp at hr;done)
  rename_i cs hi;obtain⟨va,h1,h2⟩:=h.env a _ ha;obtain⟨_,rfl⟩:=TR.ptr h2;obtain⟨cs',v,w1,w2,w3⟩:=Ca h hi hr;exact⟨v,by simp only[Eg,h1,w1];exact w2,w3⟩
theorem JG(h:Ok E σ Z ω s e st):∀ {rs:List vN} {us:List U},rq s rs=some us→∃ vs,vw e st rs=some vs∧us.length=vs.length∧∀ (j:Nat) u v,us[j]? =some u→vs[j]? =some v→TR σ Z ω s.h.length u v:=by
 intro rs
 induction rs with
 |nil=>intro us hr;simp[rq]at hr;subst hr;exact⟨[],rfl,rfl,fun j u v hu=>by simp at hu⟩
 |cons r rs ih=>
  intro us hr;simp only[rq]at hr;split at hr<;>try (simp at hr;done)
  rename_i u hu;split at hr<;>simp only[ag,reduceCtorEq]at hr;rename_i us' hus;subst hr;obtain⟨v,h1,h2⟩:=Z8 h hu;obtain⟨vs,k1,k2,k3⟩:=ih hus;refine⟨v::vs,by simp only[vw,h1,k1],by simp[k2],fun j x y hx hy=> ?_⟩;cases j with
  |zero=>simp at hx hy;subst hx;subst hy;exact h2
  |succ j=>exact k3 j x y (by simpa using hx) (by simpa using hy)
theorem NA(H:List Uo)(fl:Nat):(cut n fl H).length=min (max n fl) H.length:=by simp only[cut,iD]
theorem NZ{u:U}{a b:Nat}(ha:u.low a=true)(hb:u.low b=true){c:Nat}(hc:a≤c∨b≤c):u.low c=true:=by
 rcases hc with hc|hc
 ·exact iP hc ha
 ·exact iP hc hb
theorem Ok.Ld{H:List Uo}{fl:Nat}(h:Ok E σ Z ω ⟨[],H,fl⟩ .e st)(hf:Fl ⟨[],H,fl⟩)(hn:E.n≤n)(b:Bool):
  ∃ ω',Ok E σ Z ω' ⟨[],bif b then RE.cut n fl H else H,fl⟩ .e st∧(∀ d,ω' (.t d)=ω (.t d))∧Fl ⟨[],bif b then RE.cut n fl H else H,fl⟩:=by
 cases b with
 |false=>exact⟨ω,h,fun _=>rfl,hf⟩
 |true=>
  obtain⟨ω',k1,k2,_⟩:=h.cut hf hn (fun t u hu=>by simp[look]at hu);exact⟨ω',k1,k2,hf.cut n⟩
theorem qdI{H:List Uo}{fl:Nat}{u:U}(hu:u.low H.length=true):u.low (bif u.low n then cut n fl H else H).length=true:=by
 cases hl:u.low n with
 |false=>exact hu
 |true=>
  simp only[cond_true,NA];exact NZ hl hu (by omega)
theorem Zt{H:List Uo}{fl:Nat}{us:List U}(hu:U.bZ H.length us=true):U.bZ (bif U.bZ n us then cut n fl H else H).length us=true:=by
 cases hl:U.bZ n us with
 |false=>exact hu
 |true=>
  simp only[cond_true,NA];rw[lW]at hu hl⊢;exact fun u hm=>NZ (hl u hm) (hu u hm) (by omega)
def Zr(ω:Om)(g:Option Tg):Om:=fun x=>match x with
 | .c i off=>ω (.c i off)
 | .t 0=>(match g with|some g=>ω g|none=>none)
 |_=>none
theorem Ok.S0(h:Ok E σ Z ω s e st){g:Option Tg}(hA:E.A=none)(hg:∀ i off,g≠some (.c i off)):Ok E σ Z (Zr ω g) ⟨[],s.h,s.fl⟩ .e st:=by
 refine h.reω (ω' :=Zr ω g) (E' :=[]) (bk:=fun x=>match x with| .t 0=>(match g with|some g=>g|none=> .r)|x=>x) (fun x I hI=> ?_) (fun x y I J hI hJ hb=> ?_) rfl (by unfold WA;rw[hA];rfl) (fun _ _=>rfl) (fun t u hu=>by simp[look]at hu)
 ·cases x with
  |c i off=>exact hI
  |r=>cases hI
  |a=>cases hI
  |t d=>
   cases d with
   |zero=>
    simp only[Zr]at hI⊢;cases g with
    |none=>cases hI
    |some g=>exact hI
   |succ d=>cases hI
 ·cases x with
  |r=>cases hI
  |a=>cases hI
  |c i off=>
   cases y with
   |r=>cases hJ
   |a=>cases hJ
   |c j o=>simpa using hb
   |t d=>
    cases d with
    |zero=>
     cases g with
     |none=>cases hJ
     |some g=>simp only at hb;exact absurd (by rw[hb]) (hg i off)
    |succ d=>cases hJ
  |t d=>
   cases d with
   |succ d=>cases hI
   |zero=>
    cases y with
    |r=>cases hJ
    |a=>cases hJ
    |t d2=>
     cases d2 with
     |zero=>rfl
     |succ d2=>cases hJ
    |c j o=>
     cases g with
     |none=>cases hI
     |some g=>simp only at hb;exact absurd (by rw[hb]) (hg j o)
theorem Lb(g:Option Tg):∀ d,d≠0→Zr ω g (.t d)=none:=by
 intro d hd;cases d with
 |zero=>exact absurd rfl hd
 |succ d=>rfl
theorem Lj:∀ {vs us:List U},uE false vs=some us→iq vs=some us∧∀ i off w xs,.own (.c i off) w xs ∉ vs:=by
 intro vs
 induction vs with
 |nil=>intro us h;simp[uE]at h;subst h;exact⟨rfl,fun i off w xs hm=>by cases hm⟩
 |cons v vs ih=>
  intro us h;simp only[uE]at h;split at h<;>try (simp at h;done)
  rename_i u hu;split at h<;>simp only[ag,reduceCtorEq]at h;rename_i us' hus;subst h;obtain⟨k1,k2⟩:=ih hus;have hv:uv v=some u∧∀ i off w xs,v≠.own (.c i off) w xs:=by
   cases v with
   |own g w xs=>cases g<;>first|(simp[U.j5]at hu;done)|(simp[U.j5]at hu;subst hu;exact⟨rfl,fun i off w xs hh=>by cases hh⟩)
   |bad=>simp[U.j5]at hu
   |bJ _ _=>simp[U.j5]at hu
   |bI _ _ _=>simp[U.j5]at hu
   |zw _ _ _ _=>simp[U.j5]at hu
   |view _ _ _ _=>simp[U.j5]at hu
   |dB=>simp[U.j5]at hu
   |aZ _=>simp[U.j5]at hu
   |_=>simp[U.j5]at hu;subst hu;exact⟨rfl,fun i off w xs hh=>by cases hh⟩
  refine⟨by simp only[iq,hv.1,k1],fun i off w xs hm=> ?_⟩;rcases bT.1 hm with hh|hh
  ·exact hv.2 i off w xs hh.symm
  ·exact k2 i off w xs hh
theorem qaL{g:Tg}(hg:∀ i off,g≠.c i off):(s.mS g).h=s.h∧(s.mS g).fl=s.fl:=by
 cases g with
 |c i off=>exact absurd rfl (hg i off)
 |t d=>exact⟨rfl,rfl⟩
 |r=>exact⟨rfl,rfl⟩
 |a=>exact⟨rfl,rfl⟩
theorem QA:∀ {vs:List U} {s:Vs},(∀ i off w xs,.own (.c i off) w xs ∉ vs)→(aJ vs s).h=s.h∧(aJ vs s).fl=s.fl:=by
 intro vs
 induction vs with
 |nil=>intro s _;exact⟨rfl,rfl⟩
 |cons v vs ih=>
  intro s h;have h2:∀ i off w xs,.own (.c i off) w xs ∉ vs:=fun i off w xs hm=>h i off w xs (eu _ hm);cases v with
  |own g w xs=>
   simp only[aJ];have hg:∀ i off,g≠.c i off:=fun i off hh=>by subst hh;exact h i off w xs cB
   obtain⟨a,b⟩:=ih (s:=s.mS g) h2;obtain⟨c,d⟩:=qaL (s:=s) hg;exact⟨a.trans c,b.trans d⟩
  |_=>simp only[aJ];exact ih h2
theorem F0(n:Nat)(h:List Uo):(Iq n h).length=h.length:=by
 unfold Iq;simp only[gX,iD,oS,List.length_dropLast,uO];have:((h.drop n).getLast?.toList).length=if h.length≤n then 0 else 1:=by
  cases hd:h.drop n with
  |nil=>
   have:=congrArg List.length hd;simp at this;rw[if_pos (by omega)];rfl
  |cons a r=>
   have:=congrArg List.length hd;simp at this;rw[if_neg (by omega),List.getLast?_cons];rfl
 rw[this];split<;>omega
theorem Av(n:Nat)(h:List Uo)(i:Nat)(o:Uo)(ho:(Iq n h)[i]? =some o):o=.gone∨h[i]? =some o:=by
 unfold Iq at ho;rw[gD]at ho;by_cases hi:i<(h.take n).length
 ·rw[bG hi,fU]at ho;split at ho
  ·exact .inr ho
  ·cases ho
 ·rw[dh (by omega)]at ho;by_cases hj:i - (h.take n).length<((h.drop n).dropLast.map fun _=>Uo.gone).length
  ·rw[bG hj,gE]at ho;cases hx:(h.drop n).dropLast[i - (h.take n).length]? with
   |none=>rw[hx]at ho;simp at ho
   |some x=>rw[hx]at ho;simp at ho;exact .inl ho.symm
  ·rw[dh (by omega)]at ho;cases hd:h.drop n with
   |nil=>rw[hd]at ho;simp at ho
   |cons a r=>
    have hlen:=congrArg List.length hd;simp at hlen;rw[hd,List.getLast?_cons]at ho;simp only[oS,List.length_dropLast,hd,fV,iD]at hj ho;have hmin:min n h.length=n:=by omega
    rw[hmin]at hj ho;rw[iD,hmin]at hi;have hz:i - n - (r.length+1 - 1)=0:=by
     cases hk:i - n - (r.length+1 - 1)with
     |zero=>rfl
     |succ k=>rw[hk]at ho;simp at ho
    rw[hz]at ho;simp at ho;right;have hi2:i=n+r.length:=by omega
    have h1:h[i]? =(h.drop n)[r.length]? :=by rw[jX,hi2]
    rw[h1,hd,←ho];cases r with
    |nil=>rfl
    |cons b r' =>simp[List.getLastD_eq_getLast?,List.getLast?_eq_getElem?]
theorem Ok.gc{h:List Uo}{fl:Nat}{e:PT V}(n:Nat)(hk:Ok E σ Z ω ⟨[],h,fl⟩ e st):Ok E σ Z ω ⟨[],Iq n h,fl⟩ e st:=by
 have hl:=F0 n h;refine⟨fun t u hu=>by simp[look]at hu,fun i o ho=> ?_,hk.qZ,hk.mq,hk.fresh,fun i j hi hj=>hk.inj i j (by simpa[hl]using hi) (by simpa[hl]using hj),hk.ic,fun i g I hi=>hk.sw i g I (by simpa[hl]using hi),fun i hi=>hk.sz i (by simpa[hl]using hi),hk.wz,fun i hi=>hk.sb i (by simpa[hl]using hi),hk.Bn,fun i off I hI=>by have:=hk.wc i off I hI;simpa[hl]using this,by have:=hk.n0;simpa[hl]using this,hk.sig,hk.zz,hk.nx,fun b hb hI=> ?_,fun i hG=> ?_,hk.yg.2.sub fun i off cs h1 h2=> ?_⟩
 ·rcases Av n h i o ho with rfl|h1
  ·trivial
  ·have:=hk.obj i o h1;simpa[hl]using this
 ·obtain⟨a,b2,c,d⟩:=hk.out b hb hI;exact⟨a,fun i hi=>b2 i (by simpa[hl]using hi),c,d⟩
 ·obtain⟨a,b,c⟩:=hk.gn i hG;refine⟨a,?_,c⟩;have hlt:i<(Iq n h).length:=by rw[hl];exact(aH.1 b).1
  have hs:(Iq n h)[i]? =some (Iq n h)[i]:=aQ hlt;rcases Av n h i _ hs with h1|h1
  ·show(Iq n h)[i]? =_;rw[hs,h1]
  ·have b' :h[i]? =some .gone:=b;rw[b']at h1;show(Iq n h)[i]? =_;rw[hs];exact h1.symm
 ·rcases Av n h i _ h1 with h3|h3
  ·cases h3
  ·exact⟨cs,h3,h2⟩
theorem Fl.gc{h:List Uo}{fl:Nat}(n:Nat)(hf:Fl ⟨[],h,fl⟩):Fl ⟨[],Iq n h,fl⟩:=by
 refine⟨by have:=hf.le;simpa[F0]using this,fun i o ho=> ?_⟩;rcases Av n h i o ho with rfl|h1
 ·rfl
 ·exact hf.ob i o h1
theorem tq{fn:aC}{r:U}{h' :List Uo}{fl' :Nat}(h:Ok E σ Z ω s e st)(hf:Fl s)(hA:E.A=none)(hn:E.n≤n)(hr:D6 n fn s=some (r,h',fl')):
  ∃ v,cI e st fn.results=some v∧Fl ⟨[],h',fl'⟩∧∃ σ' Z' ω',Ok E σ' Z' ω' ⟨[],h',fl'⟩ .e st∧(∀ d,d≠0→ω' (.t d)=none)∧RR σ' Z' ω' h'.length r v:=by
 unfold D6 at hr;split at hr
 ·rename_i u0 hu0;obtain⟨vs,v1,v2,v3⟩:=JG h hu0;have:∃ v,vs=[v]:=by
   cases vs with
   |nil=>simp at v2
   |cons v vs=>cases vs with|nil=>exact⟨v,rfl⟩|cons a b=>simp at v2
  obtain⟨v,rfl⟩:=this;have htr:=v3 0 u0 v rfl rfl;have hres:cI e st fn.results=some v:=by simp only[cI,v1]
  refine⟨v,hres,?_⟩;split at hr<;>simp only[ag,ay,reduceCtorEq]at hr;rename_i r0 hg;obtain⟨rfl,rfl,rfl⟩:=hr
  -- what has no tag
  have plain:∀ {s1:Vs} {Z1:Zs} {ω1:Om},Ok E σ Z1 ω1 s1 e st→s1.h=s.h→s1.fl=s.fl→UR σ Z1 s.h.length r0 v→(∀ w xs,r0≠.own .r w xs)→
    Fl ⟨[],bif r0.low n then cut n s.fl s.h else s.h,s.fl⟩∧∃ σ' Z' ω',Ok E σ' Z' ω' ⟨[],bif r0.low n then cut n s.fl s.h else s.h,s.fl⟩ .e st∧(∀ d,d≠0→ω' (.t d)=none)∧RR σ' Z' ω' (bif r0.low n then cut n s.fl s.h else s.h).length r0 v:=by
   intro s1 Z1 ω1 h1 e1 e2 hur hno;have h2:=h1.S0 (g:=none) hA (fun _ _ hh=>by cases hh);rw[e1,e2]at h2;obtain⟨ω3,k1,k2,k3⟩:=h2.Ld (hf.env []) hn (r0.low n);refine⟨k3,σ,Z1,ω3,k1,fun d hd=>by rw[k2];exact Lb _ d hd,?_⟩;have hcut:=hur.cut (qdI (n:=n) (fl:=s.fl) hur.nQ);cases r0 with
   |own g w xs=>cases hur
   |_=>exact hcut
  cases u0 with
  |own g w xs=>
   have hgc:∀ i off,g≠.c i off:=fun i off hh=>by subst hh;simp[U.j5]at hg
   have hgg:some (bif fn.own then U.own .r w xs else .sl w xs)=some r0:=by
    cases g with
    |c i off=>exact absurd rfl (hgc i off)
    |t d=>simpa[U.j5]using hg
    |r=>simpa[U.j5]using hg
    |a=>simp[U.j5]at hg
   simp only[ag]at hgg;cases how:fn.own with
   |true=>
    rw[how]at hgg;simp only[cond_true]at hgg;subst hgg;have h2:=h.S0 (g:=some g) hA (fun i off hh=>by cases hh;exact absurd rfl (hgc i off));obtain⟨ω3,k1,k2,k3⟩:=h2.Ld (hf.env []) hn ((U.own .r w xs).low n);refine⟨k3,σ,Z,ω3,k1,fun d hd=>by rw[k2];exact Lb _ d hd,?_⟩;exact OR.to htr.1 (fun _ _ h=>h) (k2 0)
   |false=>
    rw[how]at hgg;simp only[cond_false]at hgg;subst hgg;obtain⟨Z',ω2,k1,k2,k3,k4,k5,k6⟩:=h.mS g (by rintro rfl;simp[U.j5]at hg);obtain⟨e1,e2⟩:=qaL (s:=s) hgc;exact plain k1 e1 e2 (htr.1.sl k2 k5) (fun w xs hh=>by cases hh)
  |bad=>simp[U.j5]at hg
  |bJ _ _=>simp[U.j5]at hg
  |bI _ _ _=>simp[U.j5]at hg
  |zw _ _ _ _=>simp[U.j5]at hg
  |view _ _ _ _=>simp[U.j5]at hg
  |dB=>simp[U.j5]at hg
  |aZ _=>simp[U.j5]at hg
  |nl w=>
   simp[U.j5]at hg;subst hg;have h1:UR σ Z s.h.length (.nl w) v:=htr;exact plain h rfl rfl (by cases h1 with|Ec=>exact .slnil|EU=>exact .Ak) (fun w xs hh=>by cases hh)
  |_=>
   simp[U.j5]at hg;subst hg;exact plain h rfl rfl htr (fun w xs hh=>by cases hh)
 ·rename_i us hno hus;obtain⟨vs,v1,v2,v3⟩:=JG h hus;have hres:cI e st fn.results=some (.aZ vs):=by
   simp only[cI,v1];cases vs with
   |nil=>rfl
   |cons v vs=>
    cases vs with
    |nil=>
     cases us with
     |nil=>simp at v2
     |cons u us=>cases us with|nil=>exact absurd rfl (hno u)|cons a b=>simp at v2
    |cons a b=>rfl
  refine⟨_,hres,?_⟩;split at hr<;>simp only[ag,ay,reduceCtorEq]at hr;rename_i ys hg;obtain⟨rfl,rfl,rfl⟩:=hr;obtain⟨g1,g2⟩:=Lj hg;obtain⟨Z1,ω1,b1,b2,b3,b4,b5⟩:=qy (args:=us) (tc g1) h;obtain⟨e1,e2⟩:=QA (s:=s) g2;have hlu:LU σ Z1 s.h.length ys vs:=Aq b2 g1 v2 v3 b5;have h2:=b1.S0 (g:=none) hA (fun _ _ hh=>by cases hh);rw[e1,e2]at h2;obtain⟨ω3,k1,k2,k3⟩:=h2.Ld (hf.env []) hn (U.bZ n ys);have hur:UR σ Z1 s.h.length (.aZ ys) (.aZ vs):=UR.aZ hlu.1 hlu.2;have hcut:=hur.cut (by simp only[U.low];exact Zt (n:=n) (fl:=s.fl) hlu.nQ);have hom:∀ d,d≠0→ω3 (.t d)=none:=fun d hd=>by rw[k2];exact Lb _ d hd
  cases hlo:U.bZ n ys with
  |true=>
   rw[hlo]at k1 k3 hcut;exact⟨k3,σ,Z1,ω3,k1,hom,hcut⟩
  |false=>
   rw[hlo]at k1 k3 hcut;cases fn.own with
   |true=>exact⟨k3,σ,Z1,ω3,k1,hom,hcut⟩
   |false=>
    simp only[cond_false]at k1 k3 hcut⊢;refine⟨k3.gc n,σ,Z1,ω3,k1.gc n,hom,?_⟩;rw[F0];exact hcut
 ·simp at hr
end
end Go.RE
namespace Go.RE
def YX(P:Nat→List V→St→(V→St→Prop)→Prop)(f:Nat)(p:List U→List Uo→Nat→Option (U×List Uo×Nat)):Prop:=
 ∀ (us:List U) (h:List Uo) (fl:Nat) (r:U) (h' :List Uo) (fl' :Nat),p us h fl=some (r,h',fl')→
  ∀ (σ:Sg) (Z:Zs) (ω:Om) (st:St) (vs:List V),Ok ⟨h.length,σ,gd σ ω h.length,Z,st,fun i=>h[i]? =some .gone,none,jJ h⟩ σ Z ω ⟨[],h,fl⟩ .e st→Fl ⟨[],h,fl⟩→(∀ d,ω (.t d)=none)→LU σ Z h.length us vs→
   P f vs st fun v st' =>Fl ⟨[],h',fl'⟩∧∃ σ' Z' ω',Ok ⟨h.length,σ,gd σ ω h.length,Z,st,fun i=>h[i]? =some .gone,none,jJ h⟩ σ' Z' ω' ⟨[],h',fl'⟩ .e st'∧(∀ d,d≠0→ω' (.t d)=none)∧RR σ' Z' ω' h'.length r v
structure lQ(C:Nat→Option cq)(M:qn)(VF:Nat→Option aC)(Q:nu)(Pm:Pms):Prop where
 code:∀ f fn,VF f=some fn→C f=some ⟨fn.ntmps,fn.results,fn.body.er⟩
 muts:QOK (dz C M) Q
 Jx:∀ f p,Pm f=some p→YX (dz C M) f p
section
variable{C:Nat→Option cq}{M:qn}{VF:Nat→Option aC}{Q:nu}{Pm:Pms}
variable{E:q9}{σ:Sg}{Z:Zs}{ω:Om}{s s' :Vs}{e:PT V}{st:St}{n m:Nat}
def ZJ(E:q9)(K:Ex→Vs→Prop):Ex→PT V→St→Prop:=fun ex e' st' =>∃ s',K ex s'∧DY E s' e' st'
theorem E1{α:Type}{P:α→Prop}{x:α}(h:pick P=some x):P x:=by
 unfold pick at h;split at h
 ·rename_i hh;simp only[ag]at h;subst h;exact hh.choose_spec
 ·cases h
theorem Fc{N:Nat}{c:aq}{K1:Ex→PT V→St→Prop}{K:Nat→Ex→PT V→St→Prop}(hK:∀ a b e env s,a≤b→K a e env s→K b e env s)(h:gz C M N c e st K1)(h2:∀ ex e' st',K1 ex e' st'→∃ m,K m ex e' st'):∃ m,gz C M m c e st (K m):=by
 obtain⟨m,_,hm⟩:=IG hK (cu (ak N) h2 h);exact⟨m,hm⟩
theorem DY.keep{E:q9}{s:Vs}(h:DY E s e st)(L:List Nat)(hn:E.n≤n):DY E (keep L n s) e st:=by
 obtain⟨hf,σ,Z,ω,hk⟩:=h;exact ZK hf hk hn L
theorem yh:∀ {us:List U} {i t:Nat} {u:U},look (mK us i) t=some u→i≤t∧us[t - i]? =some u:=by
 intro us
 induction us with
 |nil=>intro i t u h;simp[mK,look]at h
 |cons a r ih=>
  intro i t u h;simp only[mK,look]at h;cases hb:Nat.beq i t with
  |true=>
   rw[hb]at h;have:=aU hb;subst this;simp at h;subst h;exact⟨ak _,by simp⟩
  |false=>
   rw[hb]at h;obtain⟨h1,h2⟩:=ih h;refine⟨by omega,?_⟩;rw[show t - i=(t - (i+1))+1 by omega];simpa using h2
theorem R2{es:List (U×U×Nat)}{es' :List ME}(hl:es.length=es'.length)(hr:∀ (j:Nat) e e',es[j]? =some e→es'[j]? =some e'→UR σ Z n e.1 e'.key∧UR σ Z n e.2.1 e'.val∧e'.born=e.2.2){since:Nat}{seen:List Nat}:
  ∀ (i:Nat) (c:Option ME),(ep es' since seen)[i]? =some c→∃ c0,c0∈uT es since seen∧(match c0,c with
   |none,none=>True
   |some a,some b=>UR σ Z n a.1 b.key∧UR σ Z n a.2.1 b.val∧b.born=a.2.2
   |_,_=>False):=by
 -- the lists,side by side
 have pair:∀ {es:List (U×U×Nat)} {es' :List ME},es.length=es'.length→(∀ (j:Nat) e e',es[j]? =some e→es'[j]? =some e'→UR σ Z n e.1 e'.key∧UR σ Z n e.2.1 e'.val∧e'.born=e.2.2)→∀ p:Nat→Bool,(es.filter fun e=>p e.2.2).length=(es'.filter fun e=>p e.born).length∧∀ (j:Nat) e e',(es.filter fun e=>p e.2.2)[j]? =some e→(es'.filter fun e=>p e.born)[j]? =some e'→UR σ Z n e.1 e'.key∧UR σ Z n e.2.1 e'.val∧e'.born=e.2.2:=by
  intro es
  induction es with
  |nil=>
   intro es' hl _ p;have:es' =[]:=fT hl.symm;subst this;exact⟨rfl,fun j e e' he=>by simp at he⟩
  |cons a es ih=>
   intro es' hl hr p;cases es' with
   |nil=>simp at hl
   |cons a' es' =>
    have h0:=hr 0 a a' rfl rfl;obtain⟨i1,i2⟩:=ih (by simpa using hl) (fun j x y hx hy=>hr (j+1) x y (by simpa using hx) (by simpa using hy)) p;rw[mw,mw,h0.2.2];cases p a.2.2 with
    |false=>exact⟨i1,i2⟩
    |true=>
     refine⟨by simp[i1],fun j x y hx hy=> ?_⟩;cases j with
     |zero=>simp at hx hy;subst hx;subst hy;exact h0
     |succ j=>exact i2 j x y (by simpa using hx) (by simpa using hy)
 obtain⟨a1,a2⟩:=pair hl hr (fun b=> !seen.contains b);obtain⟨b1,b2⟩:=pair a1 a2 (fun b=>Nat.blt b since);obtain⟨c1,c2⟩:=pair a1 a2 (fun b=>Nat.ble since b);intro i c hc;unfold ep at hc;unfold uT;simp only at hc⊢;have hm:=oT hc;rw[eH]at hm;rcases hm with hm|hm
 ·have he:(List.filter (fun e=>Nat.blt e.born since) (List.filter (fun e=> !seen.contains e.born) es')).isEmpty=true:=by
   cases hq:(List.filter (fun e=>Nat.blt e.born since) (List.filter (fun e=> !seen.contains e.born) es')).isEmpty with
   |true=>rfl
   |false=>rw[hq]at hm;simp at hm
  rw[he]at hm;simp at hm;subst hm;refine⟨none,List.mem_append_left _ ?_,trivial⟩;have:(List.filter (fun e=>Nat.blt e.2.2 since) (List.filter (fun e=> !seen.contains e.2.2) es)).isEmpty=true:=by
   rw[PE,b1,←PE];exact he
  rw[this];simp
 ·rw[cD]at hm;obtain⟨x,hx,rfl⟩:=hm;rw[eH]at hx;have get:∀ {A:List (U×U×Nat)} {B:List ME},A.length=B.length→(∀ (j:Nat) e e',A[j]? =some e→B[j]? =some e'→UR σ Z n e.1 e'.key∧UR σ Z n e.2.1 e'.val∧e'.born=e.2.2)→x∈B→∃ a∈A,UR σ Z n a.1 x.key∧UR σ Z n a.2.1 x.val∧x.born=a.2.2:=by
   intro A B hAB hr hx;obtain⟨j,hj,rfl⟩:=s6.1 hx;exact⟨A[j]'(by omega),xP _,hr j _ _ (aQ (by omega)) (aQ hj)⟩
  rcases hx with hx|hx
  ·obtain⟨a,ha,hr⟩:=get b1 b2 hx;exact⟨some a,Yr _ (cD.2 ⟨a,List.mem_append_left _ ha,rfl⟩),hr⟩
  ·obtain⟨a,ha,hr⟩:=get c1 c2 hx;exact⟨some a,Yr _ (cD.2 ⟨a,Yr _ ha,rfl⟩),hr⟩
theorem LJ{dst:Option Nat}{x:bO}{k:Vs→Prop}{F:Nat→List V→St→(V→St→Prop)→Prop}(hok:DY E s e st)(h:iQ s dst x k):
  dN M F e st (.next x.er) fun v st' =>∃ t,k t∧DY E t (fI dst v e) st' :=by
 obtain⟨hf,σ,Z,ω,hk⟩:=hok;unfold iQ at h;split at h<;>try exact h.elim
 rename_i q hx;obtain⟨vx,x1,x2⟩:=hk.cW hx;obtain⟨hlt,rfl⟩:=TR.ptr x2;have hfalse:TR σ Z ω s.h.length (.aZ [.bool false]) (.aZ [.bool false]):=UR.aZ rfl (LU.cons (.bool false) .nil).2;simp only[dN,x1];split at h<;>try exact h.elim
 ·rename_i since seen last hq;obtain⟨g1,g2⟩:=hk.obj q _ hq;simp only[qw,g1,FA];exact⟨_,h,hf.env _,σ,Z,ω,hk.put hfalse⟩
 ·rename_i j since seen last hq;split at h<;>try exact h.elim
  rename_i es clock hj;obtain⟨hst,hall⟩:=h;obtain⟨g1,g2⟩:=hk.obj q _ hq;obtain⟨es',m1,m2,m3⟩:=hk.obj j _ hj;have hst' :(!seen.isEmpty&& !es'.isEmpty&&es'.all (fun e=>Nat.ble last e.born))=false:=by
   have e1:es'.isEmpty=es.isEmpty:=by cases es<;>cases es' <;>simp at m2⊢
   have e2:es'.all (fun e=>Nat.ble last e.born)=es.all (fun e=>Nat.ble last e.2.2):=by
    clear hst hall hj m1
    induction es generalizing es' with
    |nil=>have:es' =[]:=fT m2.symm;subst this;rfl
    |cons a es ih=>
     cases es' with
     |nil=>simp at m2
     |cons a' es' =>
      simp only[kG];rw[(m3 0 a a' rfl rfl).2.2,ih es' (by simpa using m2) (fun j x y hx hy=>m3 (j+1) x y (by simpa using hx) (by simpa using hy)) (by cases es<;>cases es' <;>simp at m2⊢)]
   rw[e1,e2];exact hst
  simp only[qw,g1,kP,m1,hst',cond_false];intro i hi;have hc:=aQ hi;rw[hc];obtain⟨c0,c1,c2⟩:=R2 m2 m3 i _ hc;have hk0:=hall c0 c1;generalize (ep es' since seen)[i]=c at c2;cases c with
  |none=>
   cases c0 with
   |some a=>exact c2.elim
   |none=>exact⟨_,hk0,hf.env _,σ,Z,ω,hk.put hfalse⟩
  |some b=>
   cases c0 with
   |none=>exact c2.elim
   |some a=>
    obtain⟨r1,r2,r3⟩:=c2;have hput:=hk.E2 (i:=q) (o:=.iter (some j) since (seen++[a.2.2]) clock) (ob:=.gA (some (σ j)) since (seen++[b.born]) clock) hlt (by rw[hq];intro hh;cases hh) ⟨by rw[r3];rfl,fun j' hj' =>by cases hj';exact g2 j rfl⟩;refine⟨_,hk0,hf.set (o:=.iter (some j) since (seen++[a.2.2]) clock) ?_ _,σ,Z,ω,hput.put (UR.aZ rfl (LU.cons (.bool true) (LU.cons ?_ (LU.cons ?_ .nil))).2)⟩
    ·have:=hf.ob q _ hq;simpa only[Uo.low]using this
    ·simpa using r1
    ·simpa using r2
theorem sound(T:lQ C M VF Q Pm):∀ n,Yu (dz C M) (vF VF M Q Pm n)∧
  (∀ {fn:aC} {c:aq} {E:q9} {s:Vs} {K:Ex→Vs→Prop} {e:PT V} {st:St},vC VF M Q Pm n fn c s K→DY E s e st→∃ N,gz C M N c.er e st (ZJ E K))∧
  (∀ {fn:aC} {id:Nat} {b:aq} {m:Nat} {E:q9} {s:Vs} {K:Ex→Vs→Prop} {e:PT V} {st:St},vL VF M Q Pm n fn id b m s K→E.n≤m→DY E s e st→∃ N,gz C M N (.loop b.er) e st (pe id (ZJ E K))):=by
 intro n
 induction n with
 |zero=>
  refine⟨fun f us h fl r h' fl' hh=> ?_,fun hh=> ?_,fun hh=> ?_⟩
  ·simp[vF]at hh
  ·simp[vC]at hh
  ·simp[vL]at hh
 |succ n ih=>
  obtain⟨ihF,ihC,ihL⟩:=ih;refine⟨?_,?_,?_⟩
  ·-- a function
   intro f us h fl r h' fl' hh σ Z ω st vs hk hfl ht hlu;simp only[vF]at hh;split at hh
   ·rename_i p hp;exact T.Jx f p hp us h fl r h' fl' hh σ Z ω st vs hk hfl ht hlu
   ·split at hh<;>try (simp at hh;done)
    rename_i fn hfn;obtain⟨hb,hh⟩:=aO hh;have hc:=E1 hh;have hlen:vs.length≤fn.ntmps:=by have:=dY hb;have:=hlu.1;omega
    have hinit:DY ⟨h.length,σ,gd σ ω h.length,Z,st,fun i=>h[i]? =some .gone,none,jJ h⟩ ⟨mK us 0,h,fl⟩ (cK vs 0 .e) st:=by
     refine⟨hfl.env _,σ,Z,ω,hk.setEnv fun t u hu=> ?_⟩;obtain⟨_,hu2⟩:=yh hu;simp only[PG]at hu2;obtain⟨ht1,_⟩:=aH.1 hu2;have hv:=aQ (l:=vs) (i:=t) (by have:=hlu.1;omega);refine⟨_,?_,TR.bE (hlu.2 t u _ hu2 hv)⟩;rw[fO,if_pos ⟨bU _,by have:=hlu.1;omega⟩];exact hv
    obtain⟨N,hN⟩:=ihC hc hinit;refine⟨N,?_⟩;rw[rN (T.code f fn hfn) (by exact hlen)];refine cu (ak _) ?_ hN;rintro ex' e' st' ⟨s',hK,hf',σ',Z',ω',hk'⟩;cases ex' with
    |exit i=>exact hK.elim
    |normal=>
     obtain⟨v,r1,r2,r3⟩:=tq hk' hf' rfl (ak _) hK;rw[k8];simp only[r1];exact⟨r2,r3⟩
    |ret=>
     obtain⟨v,r1,r2,r3⟩:=tq hk' hf' rfl (ak _) hK;rw[oH];simp only[r1];exact⟨r2,r3⟩
  ·-- code
   intro fn c E s K e st hh hok;have hn0:E.n≤s.h.length:=by obtain⟨_,σ,Z,ω,hk⟩:=hok;exact hk.n0
   -- a block of any code
   have blk:∀ {id:Nat} {b:aq},vC VF M Q Pm n fn b s (kB fn id s.h.length K)→∃ N,gz C M N (aq.block id b.er) e st (ZJ E K):=by
    intro id b hh;obtain⟨N,hN⟩:=ihC hh hok;refine⟨N+1,?_⟩;rw[tj];refine cu (ak _) ?_ hN;rintro ex' e' st' ⟨t,hK,h2⟩;cases ex' with
    |normal=>exact⟨_,hK,h2.keep _ hn0⟩
    |ret=>exact⟨_,hK,h2⟩
    |exit i=>
     unfold pe;simp only[kB]at hK;cases hb:Nat.beq i id with
     |true=>rw[hb]at hK;simp only[hb,cond_true];exact⟨_,hK,h2.keep _ hn0⟩
     |false=>rw[hb]at hK;simp only[hb,cond_false];exact⟨_,hK,h2⟩
   cases c with
   |skip=>exact⟨1,by rw[aq.er,BO];exact⟨s,hh,hok⟩⟩
   |ret=>exact⟨1,by rw[aq.er,FT];exact⟨s,hh,hok⟩⟩
   |exit i=>exact⟨1,by rw[aq.er,II];exact⟨s,hh,hok⟩⟩
   |region ops=>
    have hh:kK M Q (vF VF M Q Pm n) s K ops:=hh;have plain:∀ {ops:List aG} {s:Vs} {e:PT V} {st:St},DY E s e st→iR K (gU M Q (vF VF M Q Pm n) ops s)→∃ N,fm M (bY C M N) (fR ops) e st fun e' st' =>ZJ E K .normal e' st' :=by
     intro ops s e st hok hh;obtain⟨hfl,σ,Z,ω,hk⟩:=hok;cases hs:gU M Q (vF VF M Q Pm n) ops s with
     |none=>rw[hs]at hh;exact hh.elim
     |some s1=>
      rw[hs]at hh;obtain⟨N,hN⟩:=LM ihF T.muts hs hk hfl;exact⟨N,nD (cg (ak _)) (fun e s h=>⟨s1,hh,h⟩) hN⟩
    unfold kK at hh;split at hh
    ·rename_i dst x p ops _;have h1:=LJ (M:=M) (F:=bY C M 0) hok hh;have h2:dN M (bY C M 0) e st (.next x.er) fun v st' =>∃ m,fm M (bY C M m) (fR ops) (fI dst v e) st' fun e' st' =>ZJ E K .normal e' st' :=by
      refine dS (cg (ak 0)) (fun v st' ⟨t,ht,hokt⟩=> ?_) h1;exact plain hokt ht
     obtain⟨m,_,hm⟩:=wq (K:=fun m v st' =>fm M (bY C M m) (fR ops) (fI dst v e) st' fun e' st' =>ZJ E K .normal e' st') (fun a b hab=>cg hab) (fun f args s K hK h=>uS hK h)
      (fun a b v s hab h=>nD (cg hab) (fun _ _ h=>h) h) h2
     refine⟨m+1,?_⟩;rw[aq.er,jH];simp only[fR,fm,aG.er,j7.er,bW];exact hm
    ·obtain⟨N,hN⟩:=plain hok hh;exact⟨N+1,by rw[aq.er,jH];exact hN⟩
   |draw ops=>
    have hh:lT M Q (vF VF M Q Pm n) s K (sched (ops.length+1) (bx ops 0) 0):=hh;cases hl:sched (ops.length+1) (bx ops 0) 0 with
    |none=>rw[hl]at hh;exact hh.elim
    |some l=>
     rw[hl]at hh;simp only[lT]at hh;obtain⟨hfl,σ,Z,ω,hk⟩:=hok;cases hs:bX M Q (vF VF M Q Pm n) l s []with
     |none=>rw[hs]at hh;exact hh.elim
     |some s1=>
      rw[hs]at hh;obtain⟨N,hN⟩:=IF ihF T.muts hl hs hk hfl;refine⟨N,cu (ak _) ?_ hN⟩;rintro ex e' st' ⟨rfl,h2⟩;exact⟨s1,hh,h2⟩
   |seq a b=>
    have hh:vC VF M Q Pm n fn a s (fun ex s=>match ex with
     | .normal=>vC VF M Q Pm n fn b s K
     |ex=>K ex s):=hh
    obtain⟨N,hN⟩:=ihC hh hok;obtain⟨m,hm⟩:=Fc (K:=fun m=>Gd C M m b.er (ZJ E K)) (fun x y ex e s hxy h=>by
     cases ex with
     |normal=>exact cu hxy (fun _ _ _ h=>h) h
     |ret=>exact h
     |exit i=>exact h) hN (by
     rintro ex' e' st' ⟨t,hK,h2⟩;cases ex' with
     |normal=>exact ihC hK h2
     |exit i=>exact⟨0,t,hK,h2⟩
     |ret=>exact⟨0,t,hK,h2⟩)
    exact⟨m+1,by rw[aq.er,qv];exact hm⟩
   |cond x a b=>
    simp only[vC]at hh;split at hh<;>try exact hh.elim
    ·rename_i hx;obtain⟨N,hN⟩:=ihC hh hok;obtain⟨hfl,σ,Z,ω,hk⟩:=hok;obtain⟨vx,x1,x2⟩:=hk.cW hx;obtain rfl:=TR.bool x2;exact⟨N+1,by rw[aq.er,BM x1,if_pos rfl];exact hN⟩
    ·rename_i hx;obtain⟨N,hN⟩:=ihC hh hok;obtain⟨hfl,σ,Z,ω,hk⟩:=hok;obtain⟨vx,x1,x2⟩:=hk.cW hx;obtain rfl:=TR.bool x2;exact⟨N+1,by rw[aq.er,BM x1,if_neg (by simp)];exact hN⟩
   |block id b=>
    cases b with
    |loop b=>
     simp only[vC]at hh;obtain⟨N,hN⟩:=ihL hh hn0 (hok.keep _ hn0);exact⟨N+1,by rw[aq.er,tj,aq.er];exact hN⟩
    |_=>simp only[vC]at hh;exact blk hh
   |loop b=>simp[vC]at hh
   |bad=>simp[vC]at hh
   |wB a b=>simp[vC]at hh
  ·-- a loop
   intro fn id b m E s K e st hh hm hok;simp only[vL]at hh;obtain⟨N,hN⟩:=ihC hh hok;obtain⟨k,hkk⟩:=Fc (K:=fun k=>Gd C M k (.loop b.er) (pe id (ZJ E K))) (fun x y ex e s hxy h=>by
    cases ex with
    |normal=>exact cu hxy (fun _ _ _ h=>h) h
    |ret=>exact h
    |exit i=>exact h) hN (by
    rintro ex' e' st' ⟨t,hK,h2⟩;cases ex' with
    |normal=>exact ihL hK hm (h2.keep _ hm)
    |ret=>exact⟨0,t,hK,h2⟩
    |exit i=>
     refine⟨0,?_⟩;show pe id (ZJ E K) (.exit i) e' st';unfold pe;simp only[kB]at hK;cases hb:Nat.beq i id with
     |true=>rw[hb]at hK;simp only[hb,cond_true];exact⟨_,hK,h2.keep _ hm⟩
     |false=>rw[hb]at hK;simp only[hb,cond_false];exact⟨t,hK,h2⟩)
   exact⟨k+1,hkk⟩
end
end Go.RE
namespace Go.RE
open Classical in
noncomputable def sup{α:Type}(a:Nat→Option α):Option α:=if h:∃ x n,a n=some x then some h.choose else none
def Up{α:Type}(a:Nat→Option α):Prop:=∀ n m x,n≤m→a n=some x→a m=some x
theorem qal{α:Type}{a:Nat→Option α}(hm:Up a){x:α}:sup a=some x↔∃ n,a n=some x:=by
 unfold sup;constructor
 ·intro h;split at h
  ·rename_i hh;simp only[ag]at h;obtain⟨n,hn⟩:=hh.choose_spec;exact⟨n,by rw[←h];exact hn⟩
  ·cases h
 ·rintro⟨n,hn⟩;have hh:∃ x n,a n=some x:=⟨x,n,hn⟩;rw[dif_pos hh];obtain⟨m,h2⟩:=hh.choose_spec;have h3:=hm n (max n m) x (jW _ _) hn;have h4:=hm m (max n m) _ (qi _ _) h2;rw[h3]at h4;exact h4.symm
def xS(F F' :FU):Prop:=∀ f us h fl R,F f us h fl=some R→F' f us h fl=some R
section
variable{M:qn}{Q:nu}{F F' :FU}{s:Vs}
theorem Bz(hF:xS F F'){ld:Bool}{d f:Nat}{args:List U}{x:U×Vs}(h:j9 ld F d f args s=some x):j9 ld F' d f args s=some x:=by
 unfold j9 at h⊢;split at h
 ·rename_i us hus;simp only;cases hl:U.bZ 0 us with
  |true=>
   rw[hl]at h;simp only[cond_true]at h⊢;cases hc:F f us [] 0 with
   |none=>rw[hc]at h;cases h
   |some R=>rw[hc]at h;rw[hF _ _ _ _ _ hc];exact h
  |false=>
   rw[hl]at h;simp only[cond_false]at h⊢;cases ld with
   |true=>
    simp only[cond_true]at h⊢;cases hc:F f us (eN (iy (aJ args s).h (aJ args s).e) (aJ args s).h) (aJ args s).fl with
    |none=>rw[hc]at h;cases h
    |some R=>rw[hc]at h;rw[hF _ _ _ _ _ hc];exact h
   |false=>
    simp only[cond_false]at h⊢;cases hc:F f us (aJ args s).h (aJ args s).fl with
    |none=>rw[hc]at h;cases h
    |some R=>rw[hc]at h;rw[hF _ _ _ _ _ hc];exact h
 ·cases h
theorem Zc(hF:xS F F'){d f:Nat}{args:List U}{x:U×Vs}(h:Ag Q F s d f args=some x):Ag Q F' s d f args=some x:=by
 unfold Ag at h⊢;split at h
 ·split at h
  ·exact h
  ·exact Bz hF h
 ·exact Bz hF h
theorem yq(hF:xS F F'){dst:Option Nat}{o:j7}{x:U×Vs}(h:lu M Q F s dst o=some x):lu M Q F' s dst o=some x:=by
 cases o with
 |call f args=>
  simp only[lu]at h⊢;split at h
  ·split at h
   ·rename_i q hq;(try simp only[hq]);exact h
   ·rename_i hq
    (try simp only[hq])
    split at h
    ·rename_i q hqa;(try simp only[hqa]);exact h
    ·rename_i hqa;(try simp only[hqa]);exact Zc hF h
  ·cases h
 |invoke name y args=>
  simp only[lu]at h⊢;split at h
  ·split at h
   ·rename_i q hq;(try simp only[hq]);exact Bz hF h
   ·cases h
  ·cases h
 |h o=>cases o<;>exact h
 |_=>exact h
theorem AF(hF:xS F F'):∀ {ops:List aG} {s s' :Vs},gU M Q F ops s=some s'→gU M Q F' ops s=some s' :=by
 intro ops
 induction ops with
 |nil=>intro s s' h;exact h
 |cons o r ih=>
  intro s s' h;simp only[gU]at h⊢;split at h
  ·split at h
   ·rename_i v s1 hc;rw[yq hF hc];exact ih h
   ·cases h
  ·exact ih h
  ·cases h
theorem Iz(hF:xS F F'){f:Nat}{args:List U}{hid:List Nat×List (Nat×Nat)}(h:mJ F f args s hid=true):mJ F' f args s hid=true:=by
 unfold mJ at h⊢;split at h
 ·rename_i us hus
  try simp only
  split at h
  ·rename_i R hR;rw[hF _ _ _ _ _ hR];exact h
  ·cases h
 ·cases h
theorem EI(hF:xS F F'){t:Vs}{o:j7}{p:Nat}{aj:List (Nat×Rk)}(h:h9 M Q F s t o p aj=true):h9 M Q F' s t o p aj=true:=by
 unfold h9 at h⊢;split at h
 ·rename_i hid hh
  try simp only[hh]
  split at h
  ·split at h
   ·split at h
    ·rename_i hq hqa
     (try simp only[hq,hqa])
     simp only[aI]at h⊢;exact⟨h.1,Iz hF h.2⟩
    ·cases h
   ·cases h
  ·split at h
   ·split at h
    ·rename_i hm;(try simp only[hm]);exact Iz hF h
    ·cases h
   ·cases h
  ·cases h
 ·cases h
theorem RU{a b c:Bool}(hab:a=true→b=true)(h:(c||a)=true):(c||b)=true:=by
 cases c with
 |true=>rfl
 |false=>exact hab h
theorem yA(hF:xS F F'):∀ {l:List Step} {s s' :Vs} {aj:List (Nat×Rk)},bX M Q F l s aj=some s'→bX M Q F' l s aj=some s' :=by
 intro l
 induction l with
 |nil=>intro s s' aj h;exact h
 |cons x r ih=>
  intro s s' aj h;cases x with
  |small i o=>
   simp only[bX]at h⊢;split at h
   ·split at h
    ·rename_i v s1 hc;rw[yq hF hc];simp only;split at h
     ·exact ih h
     ·exact ih h
     ·cases h
    ·cases h
   ·exact ih h
   ·cases h
  |bl i o=>
   simp only[bX]at h⊢;split at h
   ·split at h
    ·rename_i v s1 hc;rw[yq hF hc];simp only;obtain⟨hb,h⟩:=aO h;rw[RU (EI hF) hb];exact ih h
    ·cases h
   ·exact ih h
   ·cases h
structure Bq(Fn:Nat→FU)(G:FU):Prop where
 up:∀ n m,n≤m→xS (Fn n) (Fn m)
 lim:∀ f us h fl R,G f us h fl=some R↔∃ n,Fn n f us h fl=some R
variable{Fn:Nat→FU}{G:FU}
theorem Bq.le(hG:Bq Fn G)(n:Nat):xS (Fn n) G:=fun f us h fl R hh=>(hG.lim f us h fl R).2 ⟨n,hh⟩
theorem xZ(hG:Bq Fn G){ld:Bool}{d f:Nat}{args:List U}{x:U×Vs}(h:j9 ld G d f args s=some x):∃ n,j9 ld (Fn n) d f args s=some x:=by
 unfold j9 at h⊢;split at h
 ·rename_i us hus;simp only;cases hl:U.bZ 0 us with
  |true=>
   rw[hl]at h;simp only[cond_true]at h⊢;cases hc:G f us [] 0 with
   |none=>rw[hc]at h;cases h
   |some R=>
    rw[hc]at h;obtain⟨n,hn⟩:=(hG.lim _ _ _ _ _).1 hc;exact⟨n,by rw[hn];exact h⟩
  |false=>
   rw[hl]at h;simp only[cond_false]at h⊢;cases ld with
   |true=>
    simp only[cond_true]at h⊢;cases hc:G f us (eN (iy (aJ args s).h (aJ args s).e) (aJ args s).h) (aJ args s).fl with
    |none=>rw[hc]at h;cases h
    |some R=>
     rw[hc]at h;obtain⟨n,hn⟩:=(hG.lim _ _ _ _ _).1 hc;exact⟨n,by rw[hn];exact h⟩
   |false=>
    simp only[cond_false]at h⊢;cases hc:G f us (aJ args s).h (aJ args s).fl with
    |none=>rw[hc]at h;cases h
    |some R=>
     rw[hc]at h;obtain⟨n,hn⟩:=(hG.lim _ _ _ _ _).1 hc;exact⟨n,by rw[hn];exact h⟩
 ·cases h
theorem RT(hG:Bq Fn G){d f:Nat}{args:List U}{x:U×Vs}(h:Ag Q G s d f args=some x):∃ n,Ag Q (Fn n) s d f args=some x:=by
 unfold Ag at h⊢;split at h
 ·split at h
  ·exact⟨0,h⟩
  ·exact xZ hG h
 ·exact xZ hG h
theorem Gj(hG:Bq Fn G){dst:Option Nat}{o:j7}{x:U×Vs}(h:lu M Q G s dst o=some x):∃ n,lu M Q (Fn n) s dst o=some x:=by
 cases o with
 |call f args=>
  simp only[lu]at h⊢;split at h
  ·split at h
   ·rename_i q hq;(try simp only[hq]);exact⟨0,h⟩
   ·rename_i hq
    (try simp only[hq])
    split at h
    ·rename_i q hqa;(try simp only[hqa]);exact⟨0,h⟩
    ·rename_i hqa;(try simp only[hqa]);exact RT hG h
  ·cases h
 |invoke name y args=>
  simp only[lu]at h⊢;split at h
  ·split at h
   ·rename_i q hq;(try simp only[hq]);exact xZ hG h
   ·cases h
  ·cases h
 |h o=>cases o<;>exact⟨0,h⟩
 |_=>exact⟨0,h⟩
theorem Eu(hG:Bq Fn G){f:Nat}{args:List U}{hid:List Nat×List (Nat×Nat)}(h:mJ G f args s hid=true):∃ n,mJ (Fn n) f args s hid=true:=by
 unfold mJ at h⊢;split at h
 ·rename_i us hus
  try simp only
  split at h
  ·rename_i R hR;obtain⟨n,hn⟩:=(hG.lim _ _ _ _ _).1 hR;exact⟨n,by rw[hn];exact h⟩
  ·cases h
 ·cases h
theorem Lh(hG:Bq Fn G){t:Vs}{o:j7}{p:Nat}{aj:List (Nat×Rk)}(h:h9 M Q G s t o p aj=true):∃ n,h9 M Q (Fn n) s t o p aj=true:=by
 unfold h9 at h⊢;split at h
 ·rename_i hid hh
  try simp only[hh]
  split at h
  ·split at h
   ·split at h
    ·rename_i hq hqa
     (try simp only[hq,hqa])
     simp only[aI]at h;obtain⟨n,hn⟩:=Eu hG h.2;exact⟨n,by simp only[aI];exact⟨h.1,hn⟩⟩
    ·cases h
   ·cases h
  ·split at h
   ·split at h
    ·rename_i hm;(try simp only[hm]);exact Eu hG h
    ·cases h
   ·cases h
  ·cases h
 ·cases h
theorem Zd(hG:Bq Fn G){t:Vs}{o:j7}{p:Nat}{aj:List (Nat×Rk)}{c:Bool}(h:(c||h9 M Q G s t o p aj)=true):∃ n,(c||h9 M Q (Fn n) s t o p aj)=true:=by
 cases c with
 |true=>exact⟨0,rfl⟩
 |false=>exact Lh hG h
theorem S9(hG:Bq Fn G):∀ {ops:List aG} {s s' :Vs},gU M Q G ops s=some s'→∃ n,gU M Q (Fn n) ops s=some s' :=by
 intro ops
 induction ops with
 |nil=>intro s s' h;exact⟨0,h⟩
 |cons o r ih=>
  intro s s' h;simp only[gU]at h⊢;split at h
  ·split at h
   ·rename_i v s1 hc;obtain⟨a,ha⟩:=Gj hG hc;obtain⟨b,hb⟩:=ih h;refine⟨max a b,?_⟩;rw[yq (hG.up _ _ (jW a b)) ha];exact AF (hG.up _ _ (qi a b)) hb
   ·cases h
  ·exact ih h
  ·cases h
theorem L7(hG:Bq Fn G):∀ {l:List Step} {s s' :Vs} {aj:List (Nat×Rk)},bX M Q G l s aj=some s'→∃ n,bX M Q (Fn n) l s aj=some s' :=by
 intro l
 induction l with
 |nil=>intro s s' aj h;exact⟨0,h⟩
 |cons x r ih=>
  intro s s' aj h;cases x with
  |small i o=>
   simp only[bX]at h⊢;split at h
   ·split at h
    ·rename_i v s1 hc;obtain⟨a,ha⟩:=Gj hG hc;have fin:∀ {s2:Vs} {aj:List (Nat×Rk)},bX M Q G r s2 aj=some s'→∃ n,lu M Q (Fn n) s o.dst o.op=some (v,s1)∧bX M Q (Fn n) r s2 aj=some s' :=fun h=>by
      obtain⟨b,hb⟩:=ih h;exact⟨max a b,yq (hG.up _ _ (jW a b)) ha,yA (hG.up _ _ (qi a b)) hb⟩
     split at h
     ·obtain⟨n,h1,h2⟩:=fin h;exact⟨n,by rw[h1];exact h2⟩
     ·obtain⟨n,h1,h2⟩:=fin h;exact⟨n,by rw[h1];exact h2⟩
     ·cases h
    ·cases h
   ·exact ih h
   ·cases h
  |bl i o=>
   simp only[bX]at h⊢;split at h
   ·split at h
    ·rename_i v s1 hc;obtain⟨hb,h⟩:=aO h;obtain⟨a,ha⟩:=Gj hG hc;obtain⟨b,hb2⟩:=ih h;obtain⟨c,hc2⟩:=Zd hG hb;refine⟨max (max a b) c,?_⟩;rw[yq (hG.up _ _ (j0 (jW a b) (jW (max a b) c))) ha];simp only[RU (EI (hG.up _ _ (qi (max a b) c))) hc2,cond_true];exact yA (hG.up _ _ (j0 (qi a b) (jW (max a b) c))) hb2
    ·cases h
   ·exact ih h
   ·cases h
end
section
variable{VF:Nat→Option aC}{M:qn}{Q:nu}{Pm:Pms}
theorem tL{K K' :Ex→Vs→Prop}(hK:∀ ex t,K ex t→K' ex t){o:Option Vs}(h:iR K o):iR K' o:=by
 cases o with
 |none=>exact h
 |some t=>exact hK _ _ h
theorem AI{K:Ex→Vs→Prop}{o o' :Option Vs}(ho:∀ t,o=some t→o' =some t)(h:iR K o):iR K o' :=by
 cases o with
 |none=>exact h.elim
 |some t=>rw[ho t rfl];exact h
theorem Ci{s:Vs}{dst:Option Nat}{q j since:Nat}{seen:List Nat}{clock:Nat}{k k' :Vs→Prop}(hk:∀ t,k t→k' t){c:Option (U×U×Nat)}(h:Jp s dst q j since seen clock k c):Jp s dst q j since seen clock k' c:=by
 cases c<;>exact hk _ h
theorem nU{s:Vs}{dst:Option Nat}{x:bO}{k k' :Vs→Prop}(hk:∀ t,k t→k' t)(h:iQ s dst x k):iQ s dst x k' :=by
 unfold iQ at h⊢;split at h<;>try exact h.elim
 split at h<;>try exact h.elim
 ·exact hk _ h
 ·split at h<;>try exact h.elim
  exact⟨h.1,fun c hc=>Ci hk (h.2 c hc)⟩
theorem QM{s:Vs}{dst:Option Nat}{x:bO}{k k' :Vs→Prop}(h:iQ s dst x k)(h' :iQ s dst x k'):iQ s dst x fun t=>k t∧k' t:=by
 unfold iQ at h h'⊢;split at h<;>try exact h.elim
 rename_i q hx;simp only[hx]at h';split at h<;>try exact h.elim
 ·rename_i hq;simp only[hq]at h';exact⟨h,h'⟩
 ·rename_i hq;simp only[hq]at h';split at h<;>try exact h.elim
  rename_i hm;simp only[hm]at h';refine⟨h.1,fun c hc=> ?_⟩;have a:=h.2 c hc;have b:=h'.2 c hc;cases c<;>exact⟨a,b⟩
theorem R1(es:List (U×U×Nat))(since:Nat)(seen:List Nat):∃ c,c∈uT es since seen:=by
 unfold uT;simp only;cases h:(List.filter (fun e=>Nat.blt e.2.2 since) (List.filter (fun e=> !seen.contains e.2.2) es))with
 |nil=>exact⟨none,by simp⟩
 |cons a r=>exact⟨some a,by simp⟩
theorem SZ{s:Vs}{dst:Option Nat}{x:bO}{k:Vs→Prop}(h:iQ s dst x k):∃ t,k t:=by
 unfold iQ at h;split at h<;>try exact h.elim
 split at h<;>try exact h.elim
 ·exact⟨_,h⟩
 ·split at h<;>try exact h.elim
  rename_i j since seen last _ _ es clock _;obtain⟨c,hc⟩:=R1 es since seen;have:=h.2 c hc;cases c<;>exact⟨_,this⟩
theorem SN{α:Type}{Q:α→Nat→Prop}(hm:∀ i a b,a≤b→Q i a→Q i b):∀ {l:List α},(∀ i∈l,∃ m,Q i m)→∃ m,∀ i∈l,Q i m:=by
 intro l
 induction l with
 |nil=>intro _;exact⟨0,fun i hi=>by cases hi⟩
 |cons a l ih=>
  intro h;obtain⟨m,h1⟩:=ih fun i hi=>h i (eu _ hi);obtain⟨k,h2⟩:=h a cB;refine⟨max m k,fun i hi=> ?_⟩;rcases bT.1 hi with rfl|hi
  ·exact hm _ _ _ (qi _ _) h2
  ·exact hm _ _ _ (jW _ _) (h1 i hi)
theorem Cj{s:Vs}{dst:Option Nat}{x:bO}{k:Nat→Vs→Prop}(hk:∀ a b t,a≤b→k a t→k b t)(h:iQ s dst x fun t=>∃ m,k m t):∃ m,iQ s dst x (k m):=by
 unfold iQ at h;split at h<;>try exact h.elim
 rename_i q hx;split at h<;>try exact h.elim
 ·rename_i since seen last hq;obtain⟨m,hm⟩:=h;exact⟨m,by unfold iQ;simp only[hx,hq];exact hm⟩
 ·rename_i j since seen last hq;split at h<;>try exact h.elim
  rename_i es clock hj;obtain⟨h1,h2⟩:=h;obtain⟨m,hm⟩:=SN (Q:=fun c m=>Jp s dst q j since seen clock (k m) c) (fun c a b hab hh=>Ci (fun t ht=>hk a b t hab ht) hh) (fun c hc=>by
   have:=h2 c hc;cases c with
   |none=>exact this
   |some e=>exact this)
  exact⟨m,by unfold iQ;simp only[hx,hq,hj];exact⟨h1,hm⟩⟩
theorem AJ{F F' :FU}(hF:xS F F'){K K' :Ex→Vs→Prop}(hK:∀ ex t,K ex t→K' ex t){s:Vs}{ops:List aG}(h:kK M Q F s K ops):kK M Q F' s K' ops:=by
 unfold kK at h⊢;split at h
 ·exact nU (fun t ht=>tL hK (AI (fun t h=>AF hF h) ht)) h
 ·exact tL hK (AI (fun t h=>AF hF h) h)
theorem vT{F F' :FU}(hF:xS F F'){K K' :Ex→Vs→Prop}(hK:∀ ex t,K ex t→K' ex t){s:Vs}{l:Option (List Step)}(h:lT M Q F s K l):lT M Q F' s K' l:=by
 cases l with
 |none=>exact h.elim
 |some l=>exact tL hK (AI (fun t h=>yA hF h) h)
theorem oG{fn:aC}{id n:Nat}{K K' :Ex→Vs→Prop}(hK:∀ ex t,K ex t→K' ex t){ex:Ex}{t:Vs}(h:kB fn id n K ex t):kB fn id n K' ex t:=by
 cases ex with
 |normal=>exact hK _ _ h
 |ret=>exact hK _ _ h
 |exit i=>
  simp only[kB]at h⊢;cases hb:Nat.beq i id with
  |true=>rw[hb]at h;exact hK _ _ h
  |false=>rw[hb]at h;exact hK _ _ h
theorem Lr{fn:aC}{id n:Nat}{K K' :Ex→Vs→Prop}{ex:Ex}{t:Vs}(h:kB fn id n K ex t)(h' :kB fn id n K' ex t):kB fn id n (fun ex t=>K ex t∧K' ex t) ex t:=by
 cases ex with
 |normal=>exact⟨h,h'⟩
 |ret=>exact⟨h,h'⟩
 |exit i=>
  simp only[kB]at h h'⊢;cases hb:Nat.beq i id with
  |true=>rw[hb]at h h';exact⟨h,h'⟩
  |false=>rw[hb]at h h';exact⟨h,h'⟩
theorem SF{fn:aC}{id n:Nat}{K:Ex→Vs→Prop}{ex:Ex}{t:Vs}(h:kB fn id n K ex t):∃ ex t,K ex t:=by
 cases ex with
 |normal=>exact⟨_,_,h⟩
 |ret=>exact⟨_,_,h⟩
 |exit i=>
  simp only[kB]at h;cases hb:Nat.beq i id with
  |true=>rw[hb]at h;exact⟨_,_,h⟩
  |false=>rw[hb]at h;exact⟨_,_,h⟩
theorem SE{fn:aC}{id n:Nat}{K:Nat→Ex→Vs→Prop}{ex:Ex}{t:Vs}(h:kB fn id n (fun ex t=>∃ m,K m ex t) ex t):∃ m,kB fn id n (K m) ex t:=by
 cases ex with
 |normal=>exact h
 |ret=>exact h
 |exit i=>
  simp only[kB]at h⊢;cases hb:Nat.beq i id with
  |true=>rw[hb]at h;exact h
  |false=>rw[hb]at h;exact h
theorem Th{F:FU}{K K' :Ex→Vs→Prop}{s:Vs}{ops:List aG}(h:kK M Q F s K ops)(h' :kK M Q F s K' ops):kK M Q F s (fun ex t=>K ex t∧K' ex t) ops:=by
 have key:∀ o:Option Vs,iR K o→iR K' o→iR (fun ex t=>K ex t∧K' ex t) o:=fun o h h' =>by
  cases o with
  |none=>exact h.elim
  |some u=>exact⟨h,h'⟩
 cases ops with
 |nil=>exact key (gU M Q F [] s) h h'
 |cons o r=>
  obtain⟨dst,op,g,p⟩:=o;cases op with
  |next x=>
   cases g with
   |none=>
    have h1:iQ s dst x fun t=>iR K (gU M Q F r t):=h;have h2:iQ s dst x fun t=>iR K' (gU M Q F r t):=h';have h3:iQ s dst x fun t=>iR (fun ex t=>K ex t∧K' ex t) (gU M Q F r t):=nU (fun t ht=>key _ ht.1 ht.2) (QM h1 h2);exact h3
   |some g=>exact key _ h h'
  |_=>exact key _ h h'
theorem jO:∀ n,(∀ {fn:aC} {c:aq} {s:Vs} {K K' :Ex→Vs→Prop},(∀ ex t,K ex t→K' ex t)→vC VF M Q Pm n fn c s K→vC VF M Q Pm n fn c s K')∧
  ∀ {fn:aC} {id:Nat} {b:aq} {m:Nat} {s:Vs} {K K' :Ex→Vs→Prop},(∀ ex t,K ex t→K' ex t)→vL VF M Q Pm n fn id b m s K→vL VF M Q Pm n fn id b m s K' :=by
 intro n
 induction n with
 |zero=>exact⟨fun _ h=>by simp[vC]at h,fun _ h=>by simp[vL]at h⟩
 |succ n ih=>
  obtain⟨ihC,ihL⟩:=ih;refine⟨fun {fn c s K K'} hK h=> ?_,fun {fn id b m s K K'} hK h=> ?_⟩
  ·cases c with
   |skip=>exact hK _ _ h
   |ret=>exact hK _ _ h
   |exit i=>exact hK _ _ h
   |region ops=>exact AJ (fun _ _ _ _ _ h=>h) hK h
   |draw ops=>exact vT (fun _ _ _ _ _ h=>h) hK h
   |seq a b=>
    simp only[vC]at h⊢;refine ihC (fun ex t ht=> ?_) h;cases ex with
    |normal=>exact ihC hK ht
    |ret=>exact hK _ _ ht
    |exit i=>exact hK _ _ ht
   |cond x a b=>
    simp only[vC]at h⊢;split at h<;>try exact h.elim
    ·rename_i hx;(try simp only[hx]);exact ihC hK h
    ·rename_i hx;(try simp only[hx]);exact ihC hK h
   |block id b=>
    cases b with
    |loop b=>simp only[vC]at h⊢;exact ihL hK h
    |_=>simp only[vC]at h⊢;exact ihC (fun ex t ht=>oG hK ht) h
   |loop b=>simp[vC]at h
   |bad=>simp[vC]at h
   |wB a b=>simp[vC]at h
  ·simp only[vL]at h⊢;refine ihC (fun ex t ht=> ?_) h;cases ex with
   |normal=>exact ihL hK ht
   |ret=>exact oG hK ht
   |exit i=>exact oG hK ht
theorem qju:∀ n,(∀ {fn:aC} {c:aq} {s:Vs} {K K' :Ex→Vs→Prop},vC VF M Q Pm n fn c s K→vC VF M Q Pm n fn c s K'→vC VF M Q Pm n fn c s fun ex t=>K ex t∧K' ex t)∧
  ∀ {fn:aC} {id:Nat} {b:aq} {m:Nat} {s:Vs} {K K' :Ex→Vs→Prop},vL VF M Q Pm n fn id b m s K→vL VF M Q Pm n fn id b m s K'→vL VF M Q Pm n fn id b m s fun ex t=>K ex t∧K' ex t:=by
 intro n
 induction n with
 |zero=>exact⟨fun h _=>by simp[vC]at h,fun h _=>by simp[vL]at h⟩
 |succ n ih=>
  obtain⟨ihC,ihL⟩:=ih;have mC:=fun {fn c s K K'}=>(jO (VF:=VF) (M:=M) (Q:=Q) (Pm:=Pm) n).1 (fn:=fn) (c:=c) (s:=s) (K:=K) (K' :=K');refine⟨fun {fn c s K K'} h h' => ?_,fun {fn id b m s K K'} h h' => ?_⟩
  ·cases c with
   |skip=>exact⟨h,h'⟩
   |ret=>exact⟨h,h'⟩
   |exit i=>exact⟨h,h'⟩
   |region ops=>
    have h:kK M Q (vF VF M Q Pm n) s K ops:=h;have h' :kK M Q (vF VF M Q Pm n) s K' ops:=h';exact Th h h'
   |draw ops=>
    have h:lT M Q (vF VF M Q Pm n) s K (sched (ops.length+1) (bx ops 0) 0):=h;have h' :lT M Q (vF VF M Q Pm n) s K' (sched (ops.length+1) (bx ops 0) 0):=h';show lT M Q (vF VF M Q Pm n) s _ (sched (ops.length+1) (bx ops 0) 0);generalize sched (ops.length+1) (bx ops 0) 0=l at h h'⊢;cases l with
    |none=>exact h.elim
    |some l=>
     simp only[lT]at h h'⊢;generalize bX M Q (vF VF M Q Pm n) l s []=o at h h'⊢;cases o with
     |none=>exact h.elim
     |some u=>exact⟨h,h'⟩
   |seq a b=>
    simp only[vC]at h h'⊢;refine mC (fun ex t ht=> ?_) (ihC h h');cases ex with
    |normal=>exact ihC ht.1 ht.2
    |ret=>exact ht
    |exit i=>exact ht
   |cond x a b=>
    simp only[vC]at h h'⊢;split at h<;>try exact h.elim
    ·rename_i hx;(try simp only[hx]at h');(try simp only[hx]);exact ihC h h'
    ·rename_i hx;(try simp only[hx]at h');(try simp only[hx]);exact ihC h h'
   |block id b=>
    cases b with
    |loop b=>simp only[vC]at h h'⊢;exact ihL h h'
    |_=>simp only[vC]at h h'⊢;exact mC (fun ex t ht=>Lr ht.1 ht.2) (ihC h h')
   |loop b=>simp[vC]at h
   |bad=>simp[vC]at h
   |wB a b=>simp[vC]at h
  ·simp only[vL]at h h'⊢;refine mC (fun ex t ht=> ?_) (ihC h h');cases ex with
   |normal=>exact ihL ht.1 ht.2
   |ret=>exact Lr ht.1 ht.2
   |exit i=>exact Lr ht.1 ht.2
theorem qlS:∀ n,(∀ {fn:aC} {c:aq} {s:Vs} {K:Ex→Vs→Prop},vC VF M Q Pm n fn c s K→∃ ex t,K ex t)∧
  ∀ {fn:aC} {id:Nat} {b:aq} {m:Nat} {s:Vs} {K:Ex→Vs→Prop},vL VF M Q Pm n fn id b m s K→∃ ex t,K ex t:=by
 intro n
 induction n with
 |zero=>exact⟨fun h=>by simp[vC]at h,fun h=>by simp[vL]at h⟩
 |succ n ih=>
  obtain⟨ihC,ihL⟩:=ih;have reg:∀ {K:Ex→Vs→Prop} {o:Option Vs},iR K o→∃ ex t,K ex t:=fun {K o} h=>by
   cases o with
   |none=>exact h.elim
   |some u=>exact⟨_,_,h⟩
  refine⟨fun {fn c s K} h=> ?_,fun {fn id b m s K} h=> ?_⟩
  ·cases c with
   |skip=>exact⟨_,_,h⟩
   |ret=>exact⟨_,_,h⟩
   |exit i=>exact⟨_,_,h⟩
   |region ops=>
    have h:kK M Q (vF VF M Q Pm n) s K ops:=h;unfold kK at h;split at h
    ·obtain⟨t,ht⟩:=SZ h;exact reg ht
    ·exact reg h
   |draw ops=>
    have h:lT M Q (vF VF M Q Pm n) s K (sched (ops.length+1) (bx ops 0) 0):=h;generalize sched (ops.length+1) (bx ops 0) 0=l at h;cases l with
    |none=>exact h.elim
    |some l=>exact reg h
   |seq a b=>
    simp only[vC]at h;obtain⟨ex,t,ht⟩:=ihC h;cases ex with
    |normal=>exact ihC ht
    |ret=>exact⟨_,_,ht⟩
    |exit i=>exact⟨_,_,ht⟩
   |cond x a b=>
    simp only[vC]at h;split at h<;>try exact h.elim
    ·exact ihC h
    ·exact ihC h
   |block id b=>
    cases b with
    |loop b=>simp only[vC]at h;exact ihL h
    |_=>simp only[vC]at h;obtain⟨ex,t,ht⟩:=ihC h;exact SF ht
   |loop b=>simp[vC]at h
   |bad=>simp[vC]at h
   |wB a b=>simp[vC]at h
  ·simp only[vL]at h;obtain⟨ex,t,ht⟩:=ihC h;cases ex with
   |normal=>exact ihL ht
   |ret=>exact SF ht
   |exit i=>exact SF ht
theorem Ya{n:Nat}{fn:aC}{c:aq}{s:Vs}{k:Nat}{R R' :U×List Uo×Nat}(h:vC VF M Q Pm n fn c s (kE k fn R))(h' :vC VF M Q Pm n fn c s (kE k fn R')):R=R' :=by
 obtain⟨ex,t,h1,h2⟩:=(qlS n).1 ((qju n).1 h h');cases ex with
 |exit i=>exact h1.elim
 |normal=>simp only[kE]at h1 h2;rw[h1]at h2;simpa using h2
 |ret=>simp only[kE]at h1 h2;rw[h1]at h2;simpa using h2
theorem N7{α:Type}{P:α→Prop}{x:α}(hx:P x)(hu:∀ y,P y→x=y):pick P=some x:=by
 unfold pick;have hh:∃ x,P x:=⟨x,hx⟩;rw[dif_pos hh];exact congrArg some (hu _ hh.choose_spec).symm
theorem Nw:∀ n,xS (vF VF M Q Pm n) (vF VF M Q Pm (n+1))∧(∀ {fn:aC} {c:aq} {s:Vs} {K:Ex→Vs→Prop},vC VF M Q Pm n fn c s K→vC VF M Q Pm (n+1) fn c s K)∧
  ∀ {fn:aC} {id:Nat} {b:aq} {m:Nat} {s:Vs} {K:Ex→Vs→Prop},vL VF M Q Pm n fn id b m s K→vL VF M Q Pm (n+1) fn id b m s K:=by
 intro n
 induction n with
 |zero=>exact⟨fun f us h fl R hh=>by simp[vF]at hh,fun h=>by simp[vC]at h,fun h=>by simp[vL]at h⟩
 |succ n ih=>
  obtain⟨ihF,ihC,ihL⟩:=ih;refine⟨fun f us h fl R hh=> ?_,fun {fn c s K} h=> ?_,fun {fn id b m s K} h=> ?_⟩
  ·rw[vF]at hh⊢;split at hh
   ·rename_i p hp;(try simp only[hp]);exact hh
   ·rename_i hp
    (try simp only[hp])
    split at hh
    ·cases hh
    ·rename_i fn hfn
     (try simp only[hfn])
     obtain⟨hb,hh⟩:=aO hh;rw[hb];simp only[cond_true];have h1:=ihC (E1 (P:=fun R=>vC VF M Q Pm n fn fn.body ⟨mK us 0,h,fl⟩ (kE h.length fn R)) hh);exact N7 h1 fun y hy=>Ya h1 hy
  ·cases c with
   |skip=>exact h
   |ret=>exact h
   |exit i=>exact h
   |region ops=>exact AJ ihF (fun _ _ h=>h) h
   |draw ops=>exact vT ihF (fun _ _ h=>h) h
   |seq a b=>
    rw[vC]at h⊢;refine ihC ((jO n).1 (fun ex t ht=> ?_) h);cases ex with
    |normal=>exact ihC ht
    |ret=>exact ht
    |exit i=>exact ht
   |cond x a b=>
    rw[vC]at h⊢;split at h<;>try exact h.elim
    ·rename_i hx;(try simp only[hx]);exact ihC h
    ·rename_i hx;(try simp only[hx]);exact ihC h
   |block id b=>
    cases b with
    |loop b=>simp only[vC]at h⊢;exact ihL h
    |_=>simp only[vC]at h;first|(simp only[vC]at h⊢;exact ihC h)|exact ihC h
   |loop b=>simp[vC]at h
   |bad=>simp[vC]at h
   |wB a b=>simp[vC]at h
  ·rw[vL]at h⊢;refine ihC ((jO n).1 (fun ex t ht=> ?_) h);cases ex with
   |normal=>exact ihL ht
   |ret=>exact ht
   |exit i=>exact ht
theorem Kq{n m:Nat}(h:n≤m):xS (vF VF M Q Pm n) (vF VF M Q Pm m):=by
 induction h with
 |refl=>exact fun _ _ _ _ _ h=>h
 |step _ ih=>exact fun f us h fl R hh=>(Nw _).1 _ _ _ _ _ (ih _ _ _ _ _ hh)
theorem qcY{n m:Nat}(h:n≤m){fn:aC}{c:aq}{s:Vs}{K:Ex→Vs→Prop}(hx:vC VF M Q Pm n fn c s K):vC VF M Q Pm m fn c s K:=by
 induction h with
 |refl=>exact hx
 |step _ ih=>exact(Nw _).2.1 ih
theorem qcZ{n m:Nat}(h:n≤m){fn:aC}{id:Nat}{b:aq}{k:Nat}{s:Vs}{K:Ex→Vs→Prop}(hx:vL VF M Q Pm n fn id b k s K):vL VF M Q Pm m fn id b k s K:=by
 induction h with
 |refl=>exact hx
 |step _ ih=>exact(Nw _).2.2 ih
theorem Yb:∀ n,(∀ {fn:aC} {c:aq} {s:Vs} {K:Nat→Ex→Vs→Prop},(∀ a b ex t,a≤b→K a ex t→K b ex t)→vC VF M Q Pm n fn c s (fun ex t=>∃ m,K m ex t)→∃ m,n≤m∧vC VF M Q Pm m fn c s (K m))∧
  ∀ {fn:aC} {id:Nat} {b:aq} {k:Nat} {s:Vs} {K:Nat→Ex→Vs→Prop},(∀ a b ex t,a≤b→K a ex t→K b ex t)→vL VF M Q Pm n fn id b k s (fun ex t=>∃ m,K m ex t)→∃ m,n≤m∧vL VF M Q Pm m fn id b k s (K m):=by
 intro n
 induction n with
 |zero=>exact⟨fun _ h=>by simp[vC]at h,fun _ h=>by simp[vL]at h⟩
 |succ n ih=>
  obtain⟨ihC,ihL⟩:=ih;refine⟨fun {fn c s K} hK h=> ?_,fun {fn id b k s K} hK h=> ?_⟩
  ·have up:∀ {m:Nat},n≤m→vC VF M Q Pm (m+1) fn c s (K m)→∃ m,n+1≤m∧vC VF M Q Pm m fn c s (K m):=fun {m} hm h=>
    ⟨m+1,by omega,(jO _).1 (fun ex t ht=>hK _ _ _ _ (xQ _) ht) h⟩
   have now:∀ {ex t},(∃ m,K m ex t)→∃ m,n≤m∧K m ex t:=fun⟨m,hm⟩=>⟨max n m,jW _ _,hK _ _ _ _ (qi _ _) hm⟩;have reg:∀ {o:Option Vs},iR (fun ex t=>∃ m,K m ex t) o→∃ m,n≤m∧iR (K m) o:=fun {o} h=>by
    cases o with
    |none=>exact h.elim
    |some u=>exact now h
   have regm:∀ a b (o:Option Vs),a≤b→iR (K a) o→iR (K b) o:=fun a b o hab h=>tL (fun ex t ht=>hK a b ex t hab ht) h;cases c with
   |skip=>obtain⟨m,h1,h2⟩:=now h;exact up h1 h2
   |ret=>obtain⟨m,h1,h2⟩:=now h;exact up h1 h2
   |exit i=>obtain⟨m,h1,h2⟩:=now h;exact up h1 h2
   |region ops=>
    have h:kK M Q (vF VF M Q Pm n) s (fun ex t=>∃ m,K m ex t) ops:=h;have key:∃ m,n≤m∧kK M Q (vF VF M Q Pm n) s (K m) ops:=by
     unfold kK at h⊢;split at h
     ·obtain⟨m,hm⟩:=Cj (k:=fun m t=>iR (K m) (gU M Q (vF VF M Q Pm n) _ t)) (fun a b t hab ht=>regm a b _ hab ht) (nU (fun t ht=>let⟨m,_,hm⟩:=reg ht;⟨m,hm⟩) h);exact⟨max n m,jW _ _,nU (fun t ht=>regm _ _ _ (qi _ _) ht) hm⟩
     ·rename_i hno;obtain⟨m,h1,h2⟩:=reg h;exact⟨m,h1,h2⟩
    obtain⟨m,h1,h2⟩:=key;exact up h1 (AJ (Kq h1) (fun _ _ h=>h) h2)
   |draw ops=>
    have h:lT M Q (vF VF M Q Pm n) s (fun ex t=>∃ m,K m ex t) (sched (ops.length+1) (bx ops 0) 0):=h;have key:∃ m,n≤m∧lT M Q (vF VF M Q Pm n) s (K m) (sched (ops.length+1) (bx ops 0) 0):=by
     generalize sched (ops.length+1) (bx ops 0) 0=l at h⊢;cases l with
     |none=>exact h.elim
     |some l=>exact reg h
    obtain⟨m,h1,h2⟩:=key;exact up h1 (vT (Kq h1) (fun _ _ h=>h) h2)
   |seq a b=>
    rw[vC]at h;obtain⟨m,h1,h2⟩:=ihC (K:=fun m ex t=>match ex with| .normal=>vC VF M Q Pm m fn b t (K m)|ex=>K m ex t) (fun x y ex t hxy ht=>by
     cases ex with
     |normal=>exact(jO _).1 (fun ex t ht=>hK _ _ _ _ hxy ht) (qcY hxy ht)
     |ret=>exact hK _ _ _ _ hxy ht
     |exit i=>exact hK _ _ _ _ hxy ht) ((jO n).1 (fun ex t ht=>by
     cases ex with
     |normal=>obtain⟨m,_,hm⟩:=ihC hK ht;exact⟨m,hm⟩
     |ret=>exact ht
     |exit i=>exact ht) h)
    exact up h1 (by rw[vC];exact h2)
   |cond x a b=>
    rw[vC]at h;split at h<;>try exact h.elim
    ·rename_i hx;obtain⟨m,h1,h2⟩:=ihC hK h;exact up h1 (by rw[vC];simp only[hx];exact h2)
    ·rename_i hx;obtain⟨m,h1,h2⟩:=ihC hK h;exact up h1 (by rw[vC];simp only[hx];exact h2)
   |block id b=>
    have blk:∀ {b:aq},vC VF M Q Pm n fn b s (kB fn id s.h.length fun ex t=>∃ m,K m ex t)→∃ m,n≤m∧vC VF M Q Pm m fn b s (kB fn id s.h.length (K m)):=fun {b} h=>
     ihC (K:=fun m=>kB fn id s.h.length (K m)) (fun x y ex t hxy ht=>oG (fun ex t ht=>hK _ _ _ _ hxy ht) ht) ((jO n).1 (fun ex t ht=>SE ht) h)
    cases b with
    |loop b=>simp only[vC]at h;obtain⟨m,h1,h2⟩:=ihL hK h;exact up h1 (by simp only[vC];exact h2)
    |_=>simp only[vC]at h;obtain⟨m,h1,h2⟩:=blk h;exact up h1 (by simp only[vC];exact h2)
   |loop b=>simp[vC]at h
   |bad=>simp[vC]at h
   |wB a b=>simp[vC]at h
  ·rw[vL]at h;obtain⟨m,h1,h2⟩:=ihC (K:=fun m ex t=>match ex with| .normal=>vL VF M Q Pm m fn id b k (keep (fn.head id) k t) (K m)|ex=>kB fn id k (K m) ex t) (fun x y ex t hxy ht=>by
    cases ex with
    |normal=>exact(jO _).2 (fun ex t ht=>hK _ _ _ _ hxy ht) (qcZ hxy ht)
    |ret=>exact oG (fun ex t ht=>hK _ _ _ _ hxy ht) ht
    |exit i=>exact oG (fun ex t ht=>hK _ _ _ _ hxy ht) ht) ((jO n).1 (fun ex t ht=>by
    cases ex with
    |normal=>obtain⟨m,_,hm⟩:=ihL hK ht;exact⟨m,hm⟩
    |ret=>exact SE ht
    |exit i=>exact SE ht) h)
   exact⟨m+1,by omega,by rw[vL];exact(jO _).1 (fun ex t ht=>by
    cases ex with
    |normal=>exact(jO _).2 (fun ex t ht=>hK _ _ _ _ (xQ _) ht) ht
    |ret=>exact oG (fun ex t ht=>hK _ _ _ _ (xQ _) ht) ht
    |exit i=>exact oG (fun ex t ht=>hK _ _ _ _ (xQ _) ht) ht) h2⟩
variable(VF M Q Pm)
noncomputable def gF:FU:=fun f us h fl=>sup fun n=>vF VF M Q Pm n f us h fl
def gC(fn:aC)(c:aq)(s:Vs)(K:Ex→Vs→Prop):Prop:=∃ n,vC VF M Q Pm n fn c s K
def gL(fn:aC)(id:Nat)(b:aq)(k:Nat)(s:Vs)(K:Ex→Vs→Prop):Prop:=∃ n,vL VF M Q Pm n fn id b k s K
variable{VF M Q Pm}
theorem IY:Bq (vF VF M Q Pm) (gF VF M Q Pm):=⟨fun n m h=>Kq h,fun f us h fl R=>qal (fun n m x hnm hx=>Kq hnm _ _ _ _ _ hx)⟩
theorem Sr{C:Nat→Option cq}(T:lQ C M VF Q Pm):Yu (dz C M) (gF VF M Q Pm):=by
 intro f us h fl r h' fl' hh;obtain⟨n,hn⟩:=(IY.lim _ _ _ _ _).1 hh;exact(sound T n).1 f us h fl r h' fl' hn
variable{fn:aC}{s:Vs}{K:Ex→Vs→Prop}
@[simp] theorem qjK:gC VF M Q Pm fn .skip s K=K .normal s:=propext ⟨fun⟨n,h⟩=>by cases n with|zero=>simp[vC]at h|succ n=>exact h,fun h=>⟨1,h⟩⟩
@[simp] theorem qky:gC VF M Q Pm fn .ret s K=K .ret s:=propext ⟨fun⟨n,h⟩=>by cases n with|zero=>simp[vC]at h|succ n=>exact h,fun h=>⟨1,h⟩⟩
@[simp] theorem qjJ{i:Nat}:gC VF M Q Pm fn (.exit i) s K=K (.exit i) s:=propext ⟨fun⟨n,h⟩=>by cases n with|zero=>simp[vC]at h|succ n=>exact h,fun h=>⟨1,h⟩⟩
theorem JC{ops:List aG}(h:iR K (gU M Q (gF VF M Q Pm) ops s)):∃ n,iR K (gU M Q (vF VF M Q Pm n) ops s):=by
 cases ho:gU M Q (gF VF M Q Pm) ops s with
 |none=>rw[ho]at h;exact h.elim
 |some t=>rw[ho]at h;obtain⟨n,hn⟩:=S9 IY ho;exact⟨n,by rw[hn];exact h⟩
theorem QB{ops:List aG}:gC VF M Q Pm fn (.region ops) s K=kK M Q (gF VF M Q Pm) s K ops:=by
 refine propext ⟨fun⟨n,h⟩=> ?_,fun h=> ?_⟩
 ·cases n with
  |zero=>simp[vC]at h
  |succ n=>exact AJ (IY.le n) (fun _ _ h=>h) h
 ·have key:∃ n,kK M Q (vF VF M Q Pm n) s K ops:=by
   unfold kK at h⊢;split at h
   ·exact Cj (k:=fun m t=>iR K (gU M Q (vF VF M Q Pm m) _ t)) (fun a b t hab ht=>AI (fun t h=>AF (Kq hab) h) ht) (nU (fun t ht=>JC ht) h)
   ·exact JC h
  obtain⟨n,hn⟩:=key;exact⟨n+1,hn⟩
theorem Zz{ops:List aG}:gC VF M Q Pm fn (.draw ops) s K=lT M Q (gF VF M Q Pm) s K (sched (ops.length+1) (bx ops 0) 0):=by
 refine propext ⟨fun⟨n,h⟩=> ?_,fun h=> ?_⟩
 ·cases n with
  |zero=>simp[vC]at h
  |succ n=>exact vT (IY.le n) (fun _ _ h=>h) h
 ·have key:∃ n,lT M Q (vF VF M Q Pm n) s K (sched (ops.length+1) (bx ops 0) 0):=by
   generalize sched (ops.length+1) (bx ops 0) 0=l at h⊢;cases l with
   |none=>exact h.elim
   |some l=>
    simp only[lT]at h⊢;cases ho:bX M Q (gF VF M Q Pm) l s []with
    |none=>rw[ho]at h;exact h.elim
    |some t=>rw[ho]at h;obtain⟨n,hn⟩:=L7 IY ho;exact⟨n,by rw[hn];exact h⟩
  obtain⟨n,hn⟩:=key;exact⟨n+1,hn⟩
variable(VF M Q Pm)in
def gV(fn:aC)(b:aq)(K:Ex→Vs→Prop)(ex:Ex)(t:Vs):Prop:=
 match ex with
 | .normal=>gC VF M Q Pm fn b t K
 |ex=>K ex t
theorem qdM{a b:aq}:gC VF M Q Pm fn (.seq a b) s K=gC VF M Q Pm fn a s (gV VF M Q Pm fn b K):=by
 refine propext ⟨fun⟨n,h⟩=> ?_,fun⟨n,h⟩=> ?_⟩
 ·cases n with
  |zero=>simp[vC]at h
  |succ n=>
   rw[vC]at h;refine⟨n,(jO n).1 (fun ex t ht=> ?_) h⟩;cases ex with
   |normal=>exact⟨n,ht⟩
   |ret=>exact ht
   |exit i=>exact ht
 ·obtain⟨m,_,hm⟩:=(Yb n).1 (K:=fun m ex t=>match ex with| .normal=>vC VF M Q Pm m fn b t K|ex=>K ex t) (fun x y ex t hxy ht=>by
   cases ex with
   |normal=>exact qcY hxy ht
   |ret=>exact ht
   |exit i=>exact ht) ((jO n).1 (fun ex t ht=>by
   cases ex with
   |normal=>exact ht
   |ret=>exact⟨0,ht⟩
   |exit i=>exact⟨0,ht⟩) h)
  exact⟨m+1,by rw[vC];exact hm⟩
variable(VF M Q Pm)in
def R8(fn:aC)(a b:aq)(s:Vs)(K:Ex→Vs→Prop):Option U→Prop
 |some (.bool true)=>gC VF M Q Pm fn a s K
 |some (.bool false)=>gC VF M Q Pm fn b s K
 |_=>False
theorem Zy{x:bO}{a b:aq}:gC VF M Q Pm fn (.cond x a b) s K=R8 VF M Q Pm fn a b s K (cA s.e x):=by
 refine propext ⟨fun⟨n,h⟩=> ?_,fun h=> ?_⟩
 ·cases n with
  |zero=>simp[vC]at h
  |succ n=>
   rw[vC]at h;split at h<;>try exact h.elim
   ·rename_i hx;(try rw[hx]);exact⟨n,h⟩
   ·rename_i hx;(try rw[hx]);exact⟨n,h⟩
 ·unfold R8 at h;split at h<;>try exact h.elim
  ·rename_i hx;obtain⟨n,h⟩:=h;exact⟨n+1,by rw[vC];(try simp only[hx]);exact h⟩
  ·rename_i hx;obtain⟨n,h⟩:=h;exact⟨n+1,by rw[vC];(try simp only[hx]);exact h⟩
theorem ZA{id:Nat}{b:aq}:gC VF M Q Pm fn (.block id (.loop b)) s K=gL VF M Q Pm fn id b s.h.length (keep (fn.head id) s.h.length s) K:=by
 refine propext ⟨fun⟨n,h⟩=> ?_,fun⟨n,h⟩=>⟨n+1,by simp only[vC];exact h⟩⟩;cases n with
 |zero=>simp[vC]at h
 |succ n=>simp only[vC]at h;exact⟨n,h⟩
def aq.Lp:aq→Bool
 | .loop _=>true
 |_=>false
theorem Kp{n id:Nat}{b:aq}(hb:b.Lp=false):vC VF M Q Pm (n+1) fn (.block id b) s K=vC VF M Q Pm n fn b s (kB fn id s.h.length K):=by
 cases b with
 |loop b=>simp[aq.Lp]at hb
 |_=>simp only[vC]
theorem BW{id:Nat}{b:aq}(hb:b.Lp=false):gC VF M Q Pm fn (.block id b) s K=gC VF M Q Pm fn b s (kB fn id s.h.length K):=by
 refine propext ⟨fun⟨n,h⟩=> ?_,fun⟨n,h⟩=>⟨n+1,by rw[Kp hb];exact h⟩⟩;cases n with
 |zero=>simp[vC]at h
 |succ n=>rw[Kp hb]at h;exact⟨n,h⟩
variable(VF M Q Pm)in
def Z9(fn:aC)(id:Nat)(b:aq)(k:Nat)(K:Ex→Vs→Prop)(ex:Ex)(t:Vs):Prop:=
 match ex with
 | .normal=>gL VF M Q Pm fn id b k (keep (fn.head id) k t) K
 |ex=>kB fn id k K ex t
theorem ai{id k:Nat}{b b' :aq}(hb:b=b'):gL VF M Q Pm fn id b k s K=gC VF M Q Pm fn b' s (Z9 VF M Q Pm fn id b k K):=by
 subst hb;refine propext ⟨fun⟨n,h⟩=> ?_,fun⟨n,h⟩=> ?_⟩
 ·cases n with
  |zero=>simp[vL]at h
  |succ n=>
   rw[vL]at h;refine⟨n,(jO n).1 (fun ex t ht=> ?_) h⟩;cases ex with
   |normal=>exact⟨n,ht⟩
   |ret=>exact ht
   |exit i=>exact ht
 ·obtain⟨m,_,hm⟩:=(Yb n).1 (K:=fun m ex t=>match ex with| .normal=>vL VF M Q Pm m fn id b k (keep (fn.head id) k t) K|ex=>kB fn id k K ex t) (fun x y ex t hxy ht=>by
   cases ex with
   |normal=>exact qcZ hxy ht
   |ret=>exact ht
   |exit i=>exact ht) ((jO n).1 (fun ex t ht=>by
   cases ex with
   |normal=>exact ht
   |ret=>exact⟨0,ht⟩
   |exit i=>exact⟨0,ht⟩) h)
  exact⟨m+1,by rw[vL];exact hm⟩
theorem IX{f:Nat}{us:List U}{h:List Uo}{fl:Nat}{R:U×List Uo×Nat}(hp:Pm f=none)(hf:VF f=some fn)(ha:Nat.ble us.length fn.ntmps=true)(hR:gC VF M Q Pm fn fn.body ⟨mK us 0,h,fl⟩ (kE h.length fn R)):gF VF M Q Pm f us h fl=some R:=by
 obtain⟨n,hn⟩:=hR;refine(IY.lim _ _ _ _ _).2 ⟨n+1,?_⟩;rw[vF,hp];simp only[hf,ha,cond_true];exact N7 hn fun y hy=>Ya hn hy
theorem Au{f:Nat}{us:List U}{h:List Uo}{fl:Nat}{p:List U→List Uo→Nat→Option (U×List Uo×Nat)}(hp:Pm f=some p):gF VF M Q Pm f us h fl=p us h fl:=by
 ext x;constructor
 ·intro hh;obtain⟨n,hn⟩:=(IY.lim _ _ _ _ _).1 hh;cases n with
  |zero=>simp[vF]at hn
  |succ n=>rw[vF,hp]at hn;exact hn
 ·intro hh;exact(IY.lim _ _ _ _ _).2 ⟨1,by rw[vF,hp];exact hh⟩
end
end Go.RE
