/- A part of a proof. -/
import Derived.Test.YtmpopachilfinaaGreatPart6
set_option linter.unusedVariables false
set_option linter.unusedSimpArgs false
set_option linter.constructorNameAsVariable false
namespace Go.RE
def Step.er:Step→Step
 | .small i o=> .small i o.er
 | .aZ i o=> .aZ i o.er
def kG(x:Nat×aF):Nat×aF:=(x.1,x.2.er)
theorem Av(o:aF):o.er.small=o.small:=by
 obtain⟨d,op,g,p⟩:=o;cases op<;>rfl
theorem Au(o:aF):o.er.aQ=o.aQ:=rfl
theorem HB:∀ (ops:List aF) (i:Nat),bt (fH ops) i=(bt ops i).map kG:=by
 intro ops
 induction ops with
 |nil=>intro i;rfl
 |cons o r ih=>intro i;simp only[fH,bt,ih,List.map_cons];rfl
theorem HE:∀ (ops:List aF),(fH ops).length=ops.length:=by
 intro ops
 induction ops with
 |nil=>rfl
 |cons o r ih=>simp[fH,ih]
theorem Ng:∀ (l:List (Nat×aF)) (done:Nat) (left:List (Nat×aF)) (acc:List Step),eE (l.map kG) done (left.map kG) (acc.map Step.er)=((eE l done left acc).1.map kG,(eE l done left acc).2.1,(eE l done left acc).2.2.map Step.er):=by
 intro l
 induction l with
 |nil=>intro done left acc;simp[eE]
 |cons x l ih=>
  intro done left acc;obtain⟨i,o⟩:=x;simp only[List.map_cons,kG,eE,Av,Au];cases o.small&&within o.aQ done with
  |true=>simp only[cond_true];exact ih _ left (.small i o::acc)
  |false=>simp only[cond_false];exact ih done ((i,o)::left) acc
theorem QD:∀ (l pre:List (Nat×aF)),eL (pre.map kG) (l.map kG)=(eL pre l).map fun x=>(x.1,x.2.1.er,x.2.2.map kG):=by
 intro l
 induction l with
 |nil=>intro pre;simp[eL]
 |cons x l ih=>
  intro pre;obtain⟨i,o⟩:=x;simp only[List.map_cons,kG,eL,Av];cases o.small with
  |true=>simp only[cond_true];exact ih ((i,o)::pre)
  |false=>simp[kG]
theorem Qq:∀ {n:Nat} {todo:List (Nat×aF)} {done:Nat} {l:List Step},sched n todo done=some l→sched n (todo.map kG) done=some (l.map Step.er):=by
 intro n
 induction n with
 |zero=>intro _ _ _ h;simp[sched]at h
 |succ n ih=>
  intro todo done l h;simp only[sched]at h⊢;have ha:=Ng todo done [] [];simp only[List.map_nil]at ha;rw[ha];generalize eE todo done [] []=R at h⊢;obtain⟨t,d,tk⟩:=R;simp only at h⊢;have hs:=QD t [];simp only[List.map_nil]at hs;rw[hs];cases hq:eL [] t with
  |none=>
   rw[hq]at h;simp only[Option.map_none];cases t with
   |nil=>simp at h⊢;subst h;rw[List.map_reverse]
   |cons a b=>simp at h
  |some x=>
   obtain⟨i,o,rest⟩:=x;rw[hq]at h;simp only[Option.map_some,Au]at h⊢;have hall:(rest.map kG).all (fun x=>x.2.small||Nat.testBit x.2.aQ i)=rest.all (fun x=>x.2.small||Nat.testBit x.2.aQ i):=by
    rw[List.all_map];congr 1;funext x;simp[kG,Av,Au]
   rw[hall];cases hb:(within o.aQ d&&rest.all fun x=>x.2.small||Nat.testBit x.2.aQ i)with
   |false=>rw[hb]at h;simp at h
   |true=>
    rw[hb]at h;simp only[cond_true]at h⊢;cases hr:sched n rest (Nat.lor d (2 ^ i))with
    |none=>rw[hr]at h;simp at h
    |some r=>
     rw[hr]at h;simp only[ai]at h;subst h;rw[ih hr];simp[Step.er]
section
variable{C:Nat→Option b8}{M:oV}{Q:mE}{F:FU}
variable{E:qe}{σ σ' :Sg}{Z Z' :Zs}{ω:Om}{s s' :Vs}{e:PT V}{st st' :St}{n m:Nat}
def KR(σ:Sg)(Z:Zs)(n:Nat)(R:Nat×fR×PT V×V):Rk→Prop
 | .ok=>∀ st2:St,(∀ b r,Z b=some r→st2.row b=some r)→cK R.2.2.1 st2 R.2.1=some R.2.2.2
 | .ld i k off u=>i<n∧(∀ st2:St,cK R.2.2.1 st2 R.2.1=(match st2.row (σ i)with|some cs=>dW k cs off|none=>none))∧(U.same u u=true→UR σ Z n u R.2.2.2)
 | .no=>True
theorem KR.mono{R:Nat×fR×PT V×V}{k:Rk}(hn:n≤m)(hσ:∀ i,i<n→σ' i=σ i)(hZ:∀ b r,Z b=some r→Z' b=some r)(h:KR σ Z n R k):KR σ' Z' m R k:=by
 cases k with
 |ok=>exact fun st2 h2=>h st2 fun b r hb=>h2 b r (hZ b r hb)
 |ld i q off u=>exact⟨mg h.1 hn,fun st2=>by rw[hσ i h.1];exact h.2.1 st2,fun hu=>(h.2.2 hu).mono hn hσ hZ⟩
 |no=>trivial
inductive RL(σ:Sg)(Z:Zs)(n:Nat)(st:St):List (Nat×Rk)→fC→Prop
 |nil:RL σ Z n st [] []
 |cons {i:Nat} {k:Rk} {op:fR} {env:PT V} {v:V} {few:List (Nat×Rk)} {ah:fC} (h1:cK env st op=some v) (h2:KR σ Z n (i,op,env,v) k) (h:RL σ Z n st few ah):RL σ Z n st ((i,k)::few) ((i,op,env,v)::ah)
theorem RL.mono{few:List (Nat×Rk)}{ah:fC}(hn:n≤m)(hσ:∀ i,i<n→σ' i=σ i)(hZ:∀ b r,Z b=some r→Z' b=some r)(hst:∀ b x,st.get b=some x→st'.get b=some x)(h:RL σ Z n st few ah):RL σ' Z' m st' few ah:=by
 induction h with
 |nil=>exact .nil
 |cons h1 h2 _ ih=>exact .cons (GR hst h1) (h2.mono hn hσ hZ) ih
mutual
theorem DA:∀ {u u' :U},U.same u u' =true→U.same u u=true
 | .bool a,u',h=>by simp[U.same]
 | .int k a,u',h=>by simp[U.same]
 | .str a,u',h=>by simp[U.same]
 | .bA,_,_=>rfl
 | .bO,_,_=>rfl
 | .dy,_,_=>rfl
 | .cU,_,_=>rfl
 | .ptr a b,_,_=>by simp[U.same]
 | .map a,_,_=>by simp[U.same]
 | .agg a,u',h=>by
  cases u' <;>simp[U.same]at h;simp only[U.same];exact Bc h
 | .bu,_,h=>by simp[U.same]at h
 | .bad,_,h=>by simp[U.same]at h
 | .eu _ _,_,h=>by simp[U.same]at h
 | .sl _ _,_,h=>by simp[U.same]at h
 | .own _ _ _,_,h=>by simp[U.same]at h
 | .bE _ _,_,h=>by simp[U.same]at h
 | .bD _ _ _,_,h=>by simp[U.same]at h
 | .xW _ _ _ _,_,h=>by simp[U.same]at h
 | .func _ _ _,_,h=>by simp[U.same]at h
 | .iface _ _,_,h=>by simp[U.same]at h
 | .aX _,_,h=>by simp[U.same]at h
theorem Bc:∀ {a b:List U},U.lX a b=true→U.lX a a=true
 |[],_,_=>rfl
 |x::a,[],h=>by simp[U.lX]at h
 |x::a,y::b,h=>by
  simp only[U.lX,bC]at h⊢;exact⟨DA h.1,Bc h.2⟩
end
theorem RL.stay{few:List (Nat×Rk)}{ah:fC}{p:Nat}{r:Prop}(h:RL σ Z n st few ah)(hgo:r):recheck st p ah r∧RL σ Z n st (fT p few) (dK p ah):=by
 induction h with
 |nil=>exact⟨hgo,.nil⟩
 | @cons i k op env v few ah h1 h2 h ih=>
  obtain⟨ih1,ih2⟩:=ih;simp only[recheck,fT,dK,List.filter_cons];cases hb:Nat.testBit p i with
  |true=>simp only[cond_true,Bool.not_true];exact⟨ih1,ih2⟩
  |false=>
   simp only[cond_false,Bool.not_false,if_true,h1];exact⟨⟨rfl,ih1⟩,.cons h1 h2 ih2⟩
theorem RL.check{few:List (Nat×Rk)}{ah:fC}{p:Nat}{r:Prop}(hk:Ok E σ Z ω s e st')(h:RL σ Z s.h.length st few ah)(hc:oI s p few=true)(hgo:r):recheck st' p ah r∧RL σ Z s.h.length st' (fT p few) (dK p ah):=by
 induction h with
 |nil=>exact⟨hgo,.nil⟩
 | @cons i k op env v few ah h1 hK h ih=>
  simp only[oI,bC]at hc;obtain⟨ih1,ih2⟩:=ih hc.2;simp only[recheck,fT,dK,List.filter_cons];cases hb:Nat.testBit p i with
  |true=>simp only[cond_true,Bool.not_true];exact⟨ih1,ih2⟩
  |false=>
   simp only[cond_false,Bool.not_false,if_true];have hev:cK env st' op=some v:=by
    have hc1:=hc.1;rw[hb]at hc1;simp only[Bool.false_or]at hc1;cases k with
    |ok=>exact hK st' hk.qc
    |no=>simp[Rk.holds]at hc1
    |ld q kk off u=>
     simp only[Rk.holds]at hc1;split at hc1<;>try (simp at hc1;done)
     rename_i cs hi;split at hc1<;>try (simp at hc1;done)
     rename_i u' hl;obtain⟨k1,k2,k3⟩:=hK;obtain⟨cs',v',w1,w2,w3⟩:=AS hk hi hl;have hur:UR σ Z s.h.length u' v' :=by
      cases u' with
      |own g w xs=>cases u<;>simp[U.same]at hc1
      |bad=>cases u<;>simp[U.same]at hc1
      |bE w xs=>cases u<;>simp[U.same]at hc1
      |bD g a b=>cases u<;>simp[U.same]at hc1
      |xW a b c d=>cases u<;>simp[U.same]at hc1
      |view a b c d=>cases u<;>simp[U.same]at hc1
      |de=>cases u<;>simp[U.same]at hc1
      |_=>exact w3
     have hvv:=(k3 (DA hc1)).same hur hc1;have:=k2 st';simp only at this hvv;rw[this,w1];simp only;rw[w2,hvv]
   rw[hev];exact⟨⟨rfl,ih1⟩,.cons hev hK ih2⟩
def Hun(σ:Sg)(n:Nat)(st st' :St)(hid:List Nat×List (Nat×Nat)):Prop:=
 (∀ j,j∈hid.1→j<n→st'.get (σ j)=st.get (σ j))∧∀ x,x∈hid.2→∃ r r',st'.row (σ x.1)=some r∧st.row (σ x.1)=some r'∧r[x.2]? =r'[x.2]?
theorem RL.qav{few:List (Nat×Rk)}{ah:fC}{p:Nat}{r:Prop}{hid:List Nat×List (Nat×Nat)}{st0:St}{σ0:Sg}{n0:Nat}(hk:Ok E σ Z ω s e st')(h:RL σ Z s.h.length st0 few ah)(h0:RL σ0 Z' n0 st0 few ah)(hc:pG s p few=some hid)
  (hh:Hun σ0 n0 st0 st' hid) (hgo:r):recheck st' p ah r∧RL σ Z s.h.length st' (fT p few) (dK p ah):=by
 induction h generalizing hid with
 |nil=>exact⟨hgo,.nil⟩
 | @cons i k op env v few ah h1 hK h ih=>
  cases h0 with
  |cons g1 g2 g3=>
  simp only[pG]at hc;simp only[recheck,fT,dK,List.filter_cons];cases hb:Nat.testBit p i with
  |true=>
   rw[hb]at hc;simp only[Bool.true_or,cond_true]at hc;obtain⟨ih1,ih2⟩:=ih g3 hc hh;simp only[cond_true,Bool.not_true];exact⟨ih1,ih2⟩
  |false=>
   rw[hb]at hc;simp only[Bool.false_or]at hc;simp only[cond_false,Bool.not_false,if_true];cases hr:k.holds s with
   |true=>
    rw[hr]at hc;simp only[cond_true]at hc;obtain⟨ih1,ih2⟩:=ih g3 hc hh;have hone:=RL.check (few:=[(i,k)]) (ah:=[(i,op,env,v)]) (p:=p) (r:=True) hk (.cons h1 hK .nil) (by simp only[oI,hb,hr];rfl) trivial;have hev:cK env st' op=some v:=by
     have h2:=hone.2;simp only[fT,dK,List.filter_cons,List.filter_nil,hb,cond_false,Bool.not_false,if_true]at h2;cases h2 with
     |cons a b c=>exact a
    rw[hev];exact⟨⟨rfl,ih1⟩,.cons hev hK ih2⟩
   |false=>
    rw[hr]at hc;simp only[cond_false]at hc;split at hc<;>try (simp at hc;done)
    rename_i j q off u;split at hc<;>simp only[ai,reduceCtorEq]at hc;rename_i l hl;subst hc;have hcase:(Jg j q off u l=(l.1,(j,off)::l.2)∧q=none)∨Jg j q off u l=(j::l.1,l.2):=by
     unfold Jg;cases hq:(q.isNone&&(u.LH||u.qaV))with
     |true=>
      simp only[bC]at hq;exact .inl ⟨rfl,by cases q with|none=>rfl|some _=>simp at hq⟩
     |false=>exact .inr rfl
    have hh' :Hun σ0 n0 st0 st' l:=by
     rcases hcase with⟨e,_⟩|e
     ·rw[e]at hh;exact⟨hh.1,fun x hx=>hh.2 x (gB _ hx)⟩
     ·rw[e]at hh;exact⟨fun x hx=>hh.1 x (gB _ hx),hh.2⟩
    obtain⟨ih1,ih2⟩:=ih g3 hl hh';have hev:cK env st' op=some v:=by
     obtain⟨k1,k2,k3⟩:=g2;have e1:=k2 st';have e2:=k2 st0;simp only at e1 e2;rcases hcase with⟨e,rfl⟩|e
     ·rw[e]at hh;obtain⟨ra,rb,q1,q2,q3⟩:=hh.2 (j,off) eU;rw[q1]at e1;rw[q2]at e2;rw[e1];rw[e2]at h1;simp only[dW]at h1⊢;rw[q3];exact h1
     ·rw[e]at hh;have e3:st'.row (σ0 j)=st0.row (σ0 j):=by unfold St.row;rw[hh.1 j eU k1]
      rw[e1,e3,←e2];exact h1
    rw[hev];exact⟨⟨rfl,ih1⟩,.cons hev hK ih2⟩
theorem Ok.qeI(h:Ok E σ Z ω s e st)(j:Nat):Ok E σ Z ω {s with h:=s.h.set j .gone} e st:=by
 have hl:(s.h.set j .gone).length=s.h.length:=List.length_set;refine⟨fun t u hu=>by rw[hl];exact h.env t u hu,fun i o ho=> ?_,h.qc,h.lF,h.fresh,by rw[hl];exact h.inj,h.gJ,by rw[hl];exact h.sw,by rw[hl];exact h.sz,h.wz,by rw[hl];exact h.sb,h.zW,by rw[hl];exact h.wc,by rw[hl];exact h.n0,h.sig,h.zz,h.nx,by rw[hl];exact h.out,fun i hi=> ?_,h.wE.2.set fun off cs e=>by cases e⟩
 ·rw[hl];simp only at ho;rw[eM]at ho;by_cases hj:j=i
  ·rw[if_pos hj]at ho;split at ho
   ·simp at ho;subst ho;trivial
   ·cases ho
  ·rw[if_neg hj]at ho;exact h.obj i o ho
 ·obtain⟨q1,q2,q3⟩:=h.gn i hi;refine⟨q1,?_,q3⟩;rw[eM];split
  ·subst j;rw[if_pos (bn.1 q2).1]
  ·exact q2
theorem G5:∀ (l:List Nat) (h:List Uo),(fS l h).length=h.length:=by
 intro l
 induction l with
 |nil=>intro h;rfl
 |cons j l ih=>intro h;simp only[fS,ih,List.length_set]
theorem Ee:∀ (l:List Nat) (h:List Uo) (i:Nat),h[i]? =some .gone→(fS l h)[i]? =some .gone:=by
 intro l
 induction l with
 |nil=>intro h i hi;exact hi
 |cons j l ih=>
  intro h i hi;refine ih _ i ?_;rw[eM];split
  ·subst j;rw[if_pos (bn.1 hi).1]
  ·exact hi
theorem G6:∀ (l:List Nat) (h:List Uo) (i:Nat),i∈l→i<h.length→(fS l h)[i]? =some .gone:=by
 intro l
 induction l with
 |nil=>intro h i hi;cases hi
 |cons j l ih=>
  intro h i hi hlt;rcases dM.1 hi with rfl|hi
  ·refine Ee l _ i ?_;rw[eM,if_pos rfl,if_pos hlt]
  ·exact ih _ i hi (by simpa using hlt)
theorem Ok.qaT:∀ (l:List Nat) {s:Vs},Ok E σ Z ω s e st→Ok E σ Z ω {s with h:=fS l s.h} e st:=by
 intro l
 induction l with
 |nil=>intro s h;exact h
 |cons j l ih=>intro s h;exact ih (h.qeI j)
theorem Fl.qaT:∀ (l:List Nat) {s:Vs},Fl s→Fl {s with h:=fS l s.h}:=by
 intro l
 induction l with
 |nil=>intro s h;exact h
 |cons j l ih=>intro s h;exact ih (h.set (i:=j) (o:=.gone) rfl s.e)
theorem x7(hF:Vz (cZ C M) F){f:Nat}{args:List U}{vs:List V}{hid:List Nat×List (Nat×Nat)}(h:Ok E σ Z ω s e st)(hF0:Fl s)
  (hl:args.length=vs.length) (ha:∀ (j:Nat) u v,args[j]? =some u→vs[j]? =some v→TR σ Z ω s.h.length u v) (hc:lR F f args s hid=true):
  cZ C M f vs st fun v st' =>Hun σ s.h.length st st' hid:=by
 unfold lR at hc;split at hc<;>try (simp at hc;done)
 rename_i us hus;split at hc<;>try (simp at hc;done)
 rename_i R hcall;obtain⟨r,h',fl'⟩:=R;obtain⟨Z1,ω1,b1,b2,b3,b4,b5⟩:=pE (args:=args) (rF hus) h;have hlu:LU σ Z1 s.h.length us vs:=yN b2 hus hl ha b5;have hs:(fS hid.1 (aH args s).h).length=s.h.length:=by rw[G5];exact b3
 have hsh:=(b1.qaT hid.1).shared hid.2 (aH args s).fl;refine mG ?_ (hF f us _ _ r h' fl' hcall σ Z1 (oG hid.2 ω1) st vs hsh (((hF0.aH.qaT hid.1).lM hid.2 [])) (fun _=>rY trivial) (by rw[mh,hs];exact hlu));rintro v st' ⟨k0,σ',Z',ω',k1,k2,k3⟩;refine⟨fun j hj hlt=> ?_,fun x hx=> ?_⟩
 ·have h0:=G6 hid.1 (aH args s).h j hj (by rw[b3];exact hlt);have h1:(dZ hid.2 (fS hid.1 (aH args s).h))[j]? =some .gone:=by rw[qH hid.2 (fun cs hh=>by rw[h0]at hh;cases hh)];exact h0
  have hg:=k1.gn j h1;have hsig:σ' j=σ j:=k1.sig j hg.1;rw[←hsig];refine hg.2.2.trans ?_;rw[hsig]
 ·have hx' :=jr.1 hc x hx;simp only[lJ]at hx';split at hx' <;>try (cases hx';done)
  rename_i cs hcs;split at hx' <;>try (cases hx';done)
  rename_i hle;obtain⟨⟨_,hin⟩,ra,rb,k4,k5,k6⟩:=k1.wE.2 x.1 x.2 cs hcs hle;have hsig:σ' x.1=σ x.1:=k1.sig x.1 hin;exact⟨ra,rb,by rw[←hsig];exact iG k4,iG k5,k6⟩
theorem G1(hF:Vz (cZ C M) F){o:jF}{p:Nat}{few:List (Nat×Rk)}{hid:List Nat×List (Nat×Nat)}{t:Vs}(hh:pG t p few=some hid)(h:gI M Q F s t o p few=true)(hk:Ok E σ Z ω s e st)(hfl:Fl s):
  ∃ N,dF M (bV C M N) e st o.er fun v st' =>Hun σ s.h.length st st' hid:=by
 unfold gI at h;rw[hh]at h;simp only at h;split at h<;>try (simp at h;done)
 ·rename_i f args;split at h<;>try (simp at h;done)
  rename_i g first captured vs hf ha
  split at h<;>try (simp at h;done)
  rename_i hq hqa;simp only[bC]at h;obtain⟨_,h⟩:=h;obtain⟨vf,f1,f2⟩:=hk.cI hf;obtain⟨first',captured',rfl,l1,l2⟩:=TR.func f2;obtain⟨vs',a1,a2,a3⟩:=hk.nj ha;obtain⟨N,hN⟩:=x7 hF hk hfl (vs:=first'++vs'++captured') (by simp[l1.1,l2.1,a2]) (by
   intro j u v hu hv;rw[kN]at hu hv;by_cases h1:j<first.length
   ·rw[cw h1]at hu;rw[cw (by rw[←l1.1];exact h1)]at hv;exact TR.bB (l1.2 j u v hu hv)
   ·rw[eZ (by omega)]at hu;rw[eZ (by rw[←l1.1];omega),←l1.1]at hv;by_cases h2:j - first.length<vs.length
    ·rw[cw h2]at hu;rw[cw (by omega)]at hv;exact a3 _ u v hu hv
    ·rw[eZ (by omega)]at hu;rw[eZ (by omega),←a2]at hv;exact TR.bB (l2.2 _ u v hu hv)) h
  exact⟨N,by simp only[jF.er,dF,f1,a1];exact hN⟩
 ·rename_i name x args;split at h<;>try (simp at h;done)
  rename_i t0 u0 vs hx ha;split at h<;>try (simp at h;done)
  rename_i f hm;obtain⟨vx,x1,x2⟩:=hk.cI hx;obtain⟨v',rfl,x3⟩:=TR.iface x2;obtain⟨vs',a1,a2,a3⟩:=hk.nj ha;obtain⟨N,hN⟩:=x7 hF hk hfl (vs:=v' ::vs') (by simp[a2]) (fun j u v hu hv=>by
   cases j with
   |zero=>simp at hu hv;subst hu;subst hv;exact TR.bB x3
   |succ j=>exact a3 j u v (by simpa using hu) (by simpa using hv)) h
  exact⟨N,by simp only[jF.er,dF,x1,a1,hm];exact hN⟩
theorem NN(o:fR):o.er.impure=o.impure:=by
 cases o with
 |len k x=>
  match k with
  |0=>rfl
  |1=>rfl
  |2=>rfl
  |k+3=>rfl
 |_=>rfl
theorem Df{F F' :Nat→List V→St→(V→St→Prop)→Prop}(hF:Ou F F'){M:oV}:∀ {l:List Step} {env:PT V} {s:St} {ah:fC} {k k' :PT V→St→Prop},(∀ e s,k e s→k' e s)→j6 M F l env s ah k→j6 M F' l env s ah k' :=by
 intro l
 induction l with
 |nil=>intro env s ah k k' hk h;exact hk _ _ h
 |cons x r ih=>
  intro env s ah k k' hk h;cases x with
  |small i o=>
   simp only[j6]at h⊢;split at h
   ·split at h
    ·split at h
     ·exact ih hk h
     ·exact h.elim
    ·split at h
     ·exact ih hk h
     ·exact h.elim
    ·exact h.elim
   ·exact ih hk h
   ·exact h.elim
  |aZ i o=>
   simp only[j6]at h⊢;split at h
   ·exact dI hF (fun v s h=>ez (fun h=>ih hk h) h) h
   ·exact ih hk h
   ·exact h.elim
theorem WS{d:Nat}{o:fR}{u:U}(h:fQ d s o=some (u,s'))(hk:Ok E σ Z ω s e st){v:V}(hv:cK e st o.er=some v)(hu:TR σ Z ω s.h.length u v)(i:Nat):KR σ Z s.h.length (i,o.er,e,v) (sX s o u):=by
 cases o with
 |load n x=>
  simp only[sX];split
  ·rename_i j off hx;obtain⟨vx,x1,x2⟩:=hk.cI hx;obtain⟨hlt,rfl⟩:=TR.ptr x2;refine⟨hlt,fun st2=>by simp only[fR.er,cK,x1];cases st2.row (σ j)<;>rfl,fun hs=> ?_⟩;cases u with
   |own g w xs=>simp[U.same]at hs
   |bad=>simp[U.same]at hs
   |bE w xs=>simp[U.same]at hs
   |bD g a b=>simp[U.same]at hs
   |xW a b c d=>simp[U.same]at hs
   |view a b c d=>simp[U.same]at hs
   |de=>simp[U.same]at hs
   |_=>exact hu
  ·rename_i row off hx;obtain⟨vx,x1,x2⟩:=hk.cI hx;intro st2 hst2;simp only[fR.er,cK,x1]at hv⊢;cases x2 with
   |jy hz hr hv' =>
    simp only[(hk.qc _ _ hz)]at hv;simp only[(hst2 _ _ hz)];exact hv
   |jw hr hv' =>exact hv
  ·trivial
 |toStr x=>
  simp only[sX];split
  ·rename_i w xs hx;obtain⟨vx,x1,x2⟩:=hk.cI hx;intro st2 hst2;simp only[fR.er,cK,x1]at hv⊢;have hsc:∀ cs,bG st 1 vx=some cs→bG st2 1 vx=some cs:=by
    intro cs hcs;have x3:UR σ Z s.h.length (.sl w xs) vx:=x2;cases x3 with
    |slnil=>exact hcs
    |yI=>exact hcs
    |zd hn hz hl hcap hr hv' =>
     simp only[bG,(hk.qc _ _ hz)]at hcs;simp only[bG,(hst2 _ _ hz)];exact hcs
    |CN hn hl hr hv' =>exact hcs
   cases hq:bG st 1 vx with
   |none=>rw[hq]at hv;simp at hv
   |some cs=>rw[hq]at hv;rw[hsc cs hq];exact hv
  ·trivial
 |_=>exact trivial
theorem EI(hF:Vz (cZ C M) F)(hQ:QOK (cZ C M) Q):∀ {l:List Step} {σ:Sg} {Z:Zs} {ω:Om} {s s' :Vs} {e:PT V} {st:St} {few:List (Nat×Rk)} {ah:fC},bU M Q F l s few=some s'→Ok E σ Z ω s e st→Fl s→RL σ Z s.h.length st few ah→
  ∃ N,j6 M (bV C M N) (l.map Step.er) e st ah fun e' st' =>CA E s' e' st' :=by
 intro l
 induction l with
 |nil=>
  intro σ Z ω s s' e st few ah h hk hfl hr;simp only[bU,ai]at h;subst h;exact⟨0,hfl,σ,Z,ω,hk⟩
 |cons x r ih=>
  intro σ Z ω s s' e st few ah h hk hfl hr;have hunit:Ok E σ Z ω {s with e:=iT (match x with| .small _ o=>o.dst| .aZ _ o=>o.dst) (.aX []) s.e} (fu (match x with| .small _ o=>o.dst| .aZ _ o=>o.dst) (.aX []) e) st:=hk.put (UR.aX rfl (fun j u v h=>by simp at h));cases x with
  |small i o=>
   simp only[bU]at h;cases hg:iq o.guard s.e with
   |none=>rw[hg]at h;simp at h
   |some b=>
    rw[hg]at h;have hgr:bT (aF.er o).guard e=some b:=AH hk hg;cases b with
    |false=>
     simp only at h;obtain⟨N,hN⟩:=ih h hunit (hfl.env _) hr;exact⟨N,by simp only[List.map_cons,Step.er,j6,hgr];exact hN⟩
    |true=>
     simp only at h;cases hc:kD M Q F s o.dst o.op with
     |none=>rw[hc]at h;simp at h
     |some p=>
      obtain⟨u,s1⟩:=p;rw[hc]at h;simp only at h;cases hop:o.op with
      |s so=>
       rw[hop]at hc h;simp only[kD]at hc;simp only at h;obtain⟨Z',ω',v,h1,h2,h3,h4,h5⟩:=Du hc hk;have hr2:RL σ Z' s1.h.length st few ah:=hr.mono (by omega) (fun _ _=>rfl) h5 (fun _ _ h=>h);have hrecs:RL σ Z' s1.h.length st (bif so.impure then(i,sX s so u)::few else few) (bif so.er.impure then(i,so.er,e,v)::ah else ah):=by
        rw[NN];cases so.impure with
        |false=>exact hr2
        |true=>
         refine .cons h1 ?_ hr2
         -- what is read was told before
         have hkr:KR σ Z s.h.length (i,so.er,e,v) (sX s so u)∨True:=.inr trivial;cases so with
         |load n y=>
          simp only[fQ]at hc;have hs1:s1=s:=by
           split at hc
           ·split at hc<;>try (simp at hc;done)
            split at hc<;>simp only[ai,aL,reduceCtorEq]at hc;exact hc.2.symm
           ·split at hc<;>simp only[ai,aL,reduceCtorEq]at hc;exact hc.2.symm
           ·split at hc<;>try (simp at hc;done)
            split at hc<;>try (simp at hc;done)
            split at hc<;>simp only[ai,aL,reduceCtorEq]at hc;exact hc.2.symm
           ·simp at hc
          subst hs1;simp only[sX];split
          ·rename_i j off hx;obtain⟨vx,x1,x2⟩:=h2.cI hx;obtain⟨hlt,rfl⟩:=TR.ptr x2;refine⟨hlt,fun st2=>by simp only[fR.er,cK,x1];cases st2.row (σ j)<;>rfl,fun hs=> ?_⟩;cases u with
           |own g w xs=>simp[U.same]at hs
           |bad=>simp[U.same]at hs
           |bE w xs=>simp[U.same]at hs
           |bD g a b=>simp[U.same]at hs
           |xW a b c d=>simp[U.same]at hs
           |view a b c d=>simp[U.same]at hs
           |de=>simp[U.same]at hs
           |_=>exact h3
          ·rename_i row off hx;obtain⟨vx,x1,x2⟩:=h2.cI hx;intro st2 hst2;simp only[fR.er,cK,x1]at h1⊢;cases x2 with
           |jy hz hr' hv' =>
            simp only[(h2.qc _ _ hz)]at h1;simp only[(hst2 _ _ hz)];exact h1
           |jw hr' hv' =>exact h1
          ·trivial
         |toStr y=>
          have hs1:s1=s:=by
           simp only[fQ]at hc;split at hc<;>try (simp at hc;done)
           split at hc<;>try (simp at hc;done)
           split at hc<;>simp only[ai,aL,reduceCtorEq]at hc;exact hc.2.symm
          subst hs1;exact WS hc h2 h1 h3 i
         |_=>trivial
       obtain⟨N,hN⟩:=ih h (h2.put h3) ((Qb hc hfl).env _) hrecs;refine⟨N,?_⟩;have hoe:(aF.er o).op=.s so.er:=by simp[aF.er,hop,jF.er]
       simp only[List.map_cons,Step.er,j6,hgr,hoe,h1];exact hN
      |m mo=>
       rw[hop]at hc h;simp only[kD]at hc;simp only at h;obtain⟨σ',Z',ω',ob,f,h1,h2,h3,h4,h5,h6⟩:=Dt hc hk;obtain⟨N,hN⟩:=ih h (h2.put h3) ((Qa hc hk hfl).env _) (hr.mono h4 h5 h6 fun b x hb=>by rw[St.dJ,if_neg (by have:=hk.lt_next hb;omega)];exact hb);refine⟨N,?_⟩;have hoe:(aF.er o).op=.m mo.er:=by simp[aF.er,hop,jF.er]
       simp only[List.map_cons,Step.er,j6,hgr,hoe,h1];exact hN
      |_=>rw[hop]at h;simp at h
  |aZ i o=>
   simp only[bU]at h;cases hg:iq o.guard s.e with
   |none=>rw[hg]at h;simp at h
   |some b=>
    rw[hg]at h;have hgr:bT (aF.er o).guard e=some b:=AH hk hg;cases b with
    |false=>
     simp only at h;obtain⟨N,hN⟩:=ih h hunit (hfl.env _) hr;exact⟨N,by simp only[List.map_cons,Step.er,j6,hgr];exact hN⟩
    |true=>
     simp only at h;cases hc:kD M Q F s o.dst o.op with
     |none=>rw[hc]at h;simp at h
     |some p=>
      obtain⟨u,s1⟩:=p;rw[hc]at h;simp only at h;cases hb:(fA Q s o.op||oI s1 o.aQ few||gI M Q F s s1 o.op o.aQ few)with
      |false=>rw[hb]at h;simp at h
      |true=>
       rw[hb]at h;simp only[cond_true]at h;obtain⟨N0,hN0⟩:=Ds hF hQ hc hk hfl
       -- what lies where it Wo not come to
       have hfr:∃ N1,dF M (bV C M N1) e st o.op.er fun v st' =>∀ hid,(fA Q s o.op||oI s1 o.aQ few)=false→pG s1 o.aQ few=some hid→Hun σ s.h.length st st' hid:=by
        cases hq:(fA Q s o.op||oI s1 o.aQ few)with
        |true=>exact⟨N0,dI (bY (aq _)) (fun v st' _ hid hh=>by cases hh) hN0⟩
        |false=>
         rw[hq,Bool.false_or]at hb;cases hh:pG s1 o.aQ few with
         |none=>exact⟨N0,dI (bY (aq _)) (fun v st' _ hid _ hh=>by cases hh) hN0⟩
         |some hid=>
          obtain⟨N1,hN1⟩:=G1 hF hh hb hk hfl;exact⟨N1,dI (bY (aq _)) (fun v st' h hid' _ hh=>by cases hh;exact h) hN1⟩
       obtain⟨N1,hN1⟩:=hfr;have hN:=AA (C5 (C:=C) (M:=M) (n:=max N0 N1)) (dI (bY (oT N0 N1)) (fun _ _ h=>h) hN0) (dI (bY (Nat.le_max_right N0 N1)) (fun _ _ h=>h) hN1);generalize max N0 N1=N at hN;have h2:dF M (bV C M N) e st o.op.er fun v st' =>∃ m,recheck st' o.aQ ah (j6 M (bV C M m) (r.map Step.er) (fu o.dst v e) st' (dK o.aQ ah) fun e' st' =>CA E s' e' st'):=by
        refine dI (bY (aq N)) (fun v st' hv=> ?_) hN;obtain⟨⟨k0,σ',Z',ω',k1,k2,k3,k4,k5,k6⟩,hid0⟩:=hv;refine uH (K:=fun m=>j6 M (bV C M m) (r.map Step.er) (fu o.dst v e) st' (dK o.aQ ah) fun e' st' =>CA E s' e' st') ?_;have hr1:RL σ' Z' s1.h.length st few ah:=hr.mono k3 k4 k5 (fun _ _ h=>h);have fin:∀ {st2:St},RL σ' Z' s1.h.length st' (fT o.aQ few) (dK o.aQ ah)→∃ m,j6 M (bV C M m) (r.map Step.er) (fu o.dst v e) st' (dK o.aQ ah) fun e' st' =>CA E s' e' st' :=fun hrl=>ih h (k1.put k2) (k0.env _) hrl;cases hq:fA Q s o.op with
        |true=>
         have hr2:RL σ' Z' s1.h.length st' few ah:=hr.mono k3 k4 k5 (fun b x hbx=>by rw[k6 hq b (hk.lt_next hbx)];exact hbx);have hst:=hr2.stay (p:=o.aQ) trivial;exact ez (fun _=>fin (st2:=st') hst.2) hst.1
        |false=>
         cases hro:oI s1 o.aQ few with
         |true=>
          have hst:=RL.check k1 hr1 hro trivial;exact ez (fun _=>fin (st2:=st') hst.2) hst.1
         |false=>
          cases hh:pG s1 o.aQ few with
          |none=>
           rw[hq,hro]at hb;simp[gI,hh]at hb
          |some hid=>
           have hst:=RL.qav k1 hr1 hr hh (hid0 hid (by rw[hq,hro];rfl) hh) trivial;exact ez (fun _=>fin (st2:=st') hst.2) hst.1
       obtain⟨m,_,hm⟩:=uy (K:=fun m v st' =>recheck st' o.aQ ah (j6 M (bV C M m) (r.map Step.er) (fu o.dst v e) st' (dK o.aQ ah) fun e' st' =>CA E s' e' st')) (fun a b hab=>bY hab) (fun f args s K hK h=>tc hK h)
        (fun a b v s hab h=>ez (fun h=>Df (bY hab) (fun _ _ h=>h) h) h) h2
       exact⟨m,by simp only[List.map_cons,Step.er,j6,hgr];exact hm⟩
theorem GO(hF:Vz (cZ C M) F)(hQ:QOK (cZ C M) Q){ops:List aF}{l:List Step}(hl:sched (ops.length+1) (bt ops 0) 0=some l)(h:bU M Q F l s []=some s')(hk:Ok E σ Z ω s e st)(hfl:Fl s):
  ∃ N,fV C M N (.draw (fH ops)) e st fun ex e' st' =>ex=.normal∧CA E s' e' st' :=by
 obtain⟨N,hN⟩:=EI hF hQ h hk hfl .nil;refine⟨N+1,NF (steps:=l.map Step.er) ?_ (Df (bY (aq _)) (fun _ _ h=>⟨rfl,h⟩) hN)⟩;have:=Qq hl;rw[HE,HB];exact this
end
end Go.RE
namespace Go.RE
section
variable{E:qe}{σ:Sg}{Z:Zs}{ω ω' :Om}{s s' :Vs}{e e2:PT V}{st:St}{n m:Nat}
theorem Ok.reω(h:Ok E σ Z ω s e st){bk:Tg→Tg}(hb:∀ g I,ω' g=some I→ω (bk g)=some I)(hi:∀ g g' I I',ω' g=some I→ω' g' =some I'→bk g=bk g'→g=g')
  (hr:ω' .r=none) (hwa:WA E ω') (hc:∀ i off,ω' (.c i off)=ω (.c i off)) {E' :Env} (he:∀ t u,look E' t=some u→∃ v,e2.get t=some v∧TR σ Z ω' s.h.length u v):Ok E σ Z ω' {s with e:=E'} e2 st:=
 ⟨he,fun i o ho=>(h.obj i o ho).mono (aq _) (fun _ _=>rfl) (fun _ _ h=>h) (fun off=>hc i off),h.qc,fun g I hI=>h.lF _ I (hb g I hI),h.fresh,h.inj,fun g g' I I' h1 h2 hbb=>hi g g' I I' h1 h2 (h.gJ _ _ _ _ (hb g I h1) (hb g' I' h2) hbb),fun i g I hi hI=>h.sw i _ I hi (hb g I hI),h.sz,fun g I hI=>h.wz _ I (hb g I hI),h.sb,⟨hr,hwa⟩,fun i off I hI=>h.wc i off I (by rw[←hc];exact hI),h.n0,h.sig,h.zz,h.nx,fun b hb1 hb2=>by
   obtain⟨k1,k2,k3,k4⟩:=h.out b hb1 hb2;exact⟨k1,k2,fun g I hI=>k3 _ I (hb g I hI),k4⟩,h.wE⟩
theorem UR.cut{u:U}{v:V}(h:UR σ Z n u v)(hl:u.low m=true):UR σ Z m u v:=by
 have hls:∀ {a:List U},U.bW m a=true→∀ (j:Nat) u,a[j]? =some u→u.low m=true:=fun h j u hu=>k7.1 h u (List.mem_of_getElem? hu)
 induction h with
 |bool b=>exact .bool b
 |int k x=>exact .int k x
 |str s=>exact .str s
 |bA=>exact .bA
 |bu=>exact .bu
 |bO=>exact .bO
 |dy=>exact .dy
 |cU=>exact .cU
 |ptr h=>exact .ptr (by simp only[U.low,Nat.blt,gv]at hl;omega)
 |map h=>exact .map (by simp only[U.low,Nat.blt,gv]at hl;omega)
 |jy h1 h2 h3 _=>exact .jy h1 h2 h3
 |jw h1 h2 _=>exact .jw h1 h2
 |slnil=>exact .slnil
 |yI=>exact .yI
 |CJ=>exact .CJ
 |Dr=>exact .Dr
 |zd h1 h2 h3 h4 h5 h6 _=>exact .zd h1 h2 h3 h4 h5 h6
 |CN h1 h2 h3 h4 _=>exact .CN h1 h2 h3 h4
 |func h1 h2 h3 h4 i1 i2=>
  simp only[U.low,bC]at hl;exact .func h1 h2 (fun j u v a b=>i1 j u v a b (hls hl.1 j u a)) (fun j u v a b=>i2 j u v a b (hls hl.2 j u a))
 |iface h ih=>exact .iface (ih hl)
 |agg h1 h2 ih=>exact .agg h1 fun j u v a b=>ih j u v a b (hls (by simpa only[U.low]using hl) j u a)
 |aX h1 h2 ih=>exact .aX h1 fun j u v a b=>ih j u v a b (hls (by simpa only[U.low]using hl) j u a)
theorem TR.cut{u:U}{v:V}(h:TR σ Z ω n u v)(hl:u.low m=true)(hω:∀ g,u.tag=some g→ω' g=ω g):TR σ Z ω' m u v:=by
 cases u with
 |bad=>trivial
 |bE _ _=>trivial
 |own g w xs=>exact⟨h.1.mono (fun _ _ h=>h) (hω g rfl),fun i off e=>by subst e;simp only[U.low,Nat.blt,gv]at hl;omega⟩
 |bD g i f=>
  obtain⟨⟨I,h1,h2⟩,h3⟩:=h;exact⟨⟨I,by rw[hω g rfl];exact h1,h2⟩,fun i off e=>by subst e;simp only[U.low,Nat.blt,gv]at hl;omega⟩
 |view g lo len w=>exact⟨h.1.mono (hω g rfl),fun i off e=>by subst e;simp only[U.low,Nat.blt,gv]at hl;omega⟩
 |de=>trivial
 |xW i off len w=>obtain⟨h1,cap,h2,h3⟩:=h;exact⟨by simp only[U.low,Nat.blt,gv]at hl;omega,cap,h2,h3⟩
 |_=>exact UR.cut h hl
theorem CR.cut{i off:Nat}{u:U}{v:V}(h:CR σ Z ω n i off u v)(hl:u.low m=true)(hω:ω' (.c i off)=ω (.c i off)):CR σ Z ω' m i off u v:=by
 cases u with
 |bad=>trivial
 |de=>trivial
 |bE w xs=>exact OR.mono (fun _ _ h=>h) hω h
 |_=>exact UR.cut h hl
theorem OB.cut{i:Nat}{o:Uo}{ob:Option Ob}(h:OB σ Z ω n i o ob)(hl:o.low m=true)(hω:∀ off,ω' (.c i off)=ω (.c i off)):OB σ Z ω' m i o ob:=by
 cases o with
 |row cs=>
  obtain⟨cs',h1,h2,h3⟩:=h;exact⟨cs',h1,h2,fun off u v a b=>(h3 off u v a b).cut (k7.1 hl u (List.mem_of_getElem? a)) (hω off)⟩
 |map es c=>
  obtain⟨es',h1,h2,h3⟩:=h;refine⟨es',h1,h2,fun j x y a b=> ?_⟩;simp only[Uo.low,jr,je,bC]at hl;have:=hl x (List.mem_of_getElem? a);exact⟨(h3 j x y a b).1.cut this.1,(h3 j x y a b).2.1.cut this.2,(h3 j x y a b).2.2⟩
 |iter q a b c=>exact⟨h.1,fun j hj=>by subst hj;simp only[Uo.low,Nat.blt,gv]at hl;omega⟩
 |gone=>trivial
def below(m:Nat)(ω:Om):Om:=fun g=>match g with
 | .c i off=>if i<m then ω (.c i off)else none
 |g=>ω g
theorem jZ{g:Tg}{I:oa}(h:below m ω g=some I):ω g=some I:=by
 unfold below at h;split at h
 ·split at h
  ·exact h
  ·cases h
 ·exact h
theorem NV:∀ {ev:Env},Hv n ev=true→∀ t u,look ev t=some u→u.low n=true:=by
 intro ev
 induction ev with
 |nil=>intro _ t u h;simp[look]at h
 |cons x r ih=>
  intro h t u hu;obtain⟨k,v⟩:=x;simp only[Hv,bC]at h;simp only[look]at hu;cases hb:Nat.beq k t with
  |true=>rw[hb]at hu;simp at hu;subst hu;exact h.1
  |false=>rw[hb]at hu;exact ih h.2 t u hu
theorem Fl.cut(h:Fl s)(n:Nat):Fl {s with h:=RE.cut n s.fl s.h}:=by
 refine⟨?_,fun i o ho=> ?_⟩
 ·have:=h.le;simp only[RE.cut,List.length_take];omega
 ·simp only[RE.cut]at ho;rw[jP]at ho;split at ho
  ·exact h.ob i o ho
  ·cases ho
theorem Ok.cut(h:Ok E σ Z ω s e st)(hf:Fl s)(hn:E.n≤n)(hl:∀ t u,look s.e t=some u→u.low n=true):∃ ω',Ok E σ Z ω' {s with h:=RE.cut n s.fl s.h} e st∧(∀ d,ω' (.t d)=ω (.t d))∧∀ i off,i<(RE.cut n s.fl s.h).length→ω' (.c i off)=ω (.c i off):=by
 by_cases hle:s.h.length≤max n s.fl
 ·have e1:RE.cut n s.fl s.h=s.h:=by unfold RE.cut;exact jU hle
  refine⟨ω,?_,fun _=>rfl,fun _ _ _=>rfl⟩;rw[e1];exact h
 ·have hlen:(RE.cut n s.fl s.h).length=max n s.fl:=by simp only[RE.cut,List.length_take];omega
  generalize hm:max n s.fl=m at hlen hle;have hmn:n≤m:=by omega
  have hget:∀ (i:Nat) o,(RE.cut n s.fl s.h)[i]? =some o→s.h[i]? =some o:=fun i o ho=>by
   unfold RE.cut at ho;rw[jP]at ho;split at ho
   ·exact ho
   ·cases ho
  refine⟨below m ω,⟨fun t u hu=> ?_,fun i o ho=> ?_,h.qc,fun g I hI=>h.lF g I (jZ hI),h.fresh,fun i j hi hj=>h.inj i j (by rw[hlen]at hi;omega) (by rw[hlen]at hj;omega),fun g g' I I' h1 h2=>h.gJ g g' I I' (jZ h1) (jZ h2),fun i g I hi hI=>h.sw i g I (by rw[hlen]at hi;omega) (jZ hI),fun i hi=>h.sz i (by rw[hlen]at hi;omega),fun g I hI=>h.wz g I (jZ hI),fun i hi=>h.sb i (by rw[hlen]at hi;omega),⟨h.wr,h.zW.2.up rfl⟩,fun i off I hI=> ?_,?_,h.sig,h.zz,h.nx,fun b hb1 hb2=> ?_,fun i hi=> ?_,fun i off cs h1 h2=>h.wE.2 i off cs (hget i _ h1) h2⟩,fun _=>rfl,fun i off hi=> ?_⟩
  ·obtain⟨v,h1,h2⟩:=h.env t u hu;have hlow:=ir hmn (hl t u hu);refine⟨v,h1,?_⟩;rw[hlen];refine h2.cut hlow fun g hg=> ?_;unfold below;split
   ·rename_i i off;rw[if_pos];cases u with
    |own g w xs=>simp[U.tag]at hg;subst hg;simp only[U.low,Nat.blt,gv]at hlow;omega
    |bD g a b=>simp[U.tag]at hg;subst hg;simp only[U.low,Nat.blt,gv]at hlow;omega
    |view g a b c=>simp[U.tag]at hg;subst hg;simp only[U.low,Nat.blt,gv]at hlow;omega
    |_=>simp[U.tag]at hg
   ·rfl
  ·have hi:i<m:=by have:=(bn.1 ho).1;rw[hlen]at this;exact this
   rw[hlen];refine(h.obj i o (hget i o ho)).cut (Uo.ir (by omega) (hf.ob i o (hget i o ho))) fun off=> ?_;simp only[below,if_pos hi]
  ·rw[hlen];simp only[below]at hI;split at hI
   ·assumption
   ·cases hI
  ·rw[hlen];have:=h.n0;omega
  ·obtain⟨k1,k2,k3,k4⟩:=h.out b hb1 hb2;exact⟨k1,fun i hi=>k2 i (by rw[hlen]at hi;omega),fun g I hI=>k3 g I (jZ hI),k4⟩
  ·obtain⟨k1,k2,k3⟩:=h.gn i hi;exact⟨k1,by unfold RE.cut;rw[jP,if_pos (by omega)];exact k2,k3⟩
  ·rw[hlen]at hi;simp only[below,if_pos hi]
def L1(ω:Om)(κ:Nat→Option Nat):Om:=fun g=>match g with
 | .c i off=>ω (.c i off)
 | .t x=>(match κ x with|some y=>ω (.t y)|none=>none)
 | .r=>none
 | .a=>ω .a
def Tg.fix:Tg→Prop
 | .c _ _=>True
 | .a=>True
 |_=>False
theorem Jp{ω:Om}(hr:ω .r=none):∀ {L:List Nat} {ev:Env},(∀ t u,look ev t=some u→∃ v,e.get t=some v∧TR σ Z ω n u v)→
  ∃ κ:Nat→Option Nat,(∀ t t' y,κ t=some y→κ t' =some y→t=t')∧(∀ t y,κ t=some y→∃ x w xs,look ev x=some (.own (.t y) w xs))∧
   ∀ t u,look (di L ev) t=some u→(∀ g,u.tag=some g→g=.t t∨g.fix)∧∃ v,e.get t=some v∧TR σ Z (L1 ω κ) n u v:=by
 intro L
 induction L with
 |nil=>intro ev h;exact⟨fun _=>none,fun t t' y hh _=>by simp at hh,fun t y hh=>by simp at hh,fun t u hu=>by simp[di,look]at hu⟩
 |cons t ts ih=>
  intro ev h;have hkill:∀ g,∀ x u,look (Env.kill g ev) x=some u→∃ v,e.get x=some v∧TR σ Z ω n u v:=fun g x u hu=>by
   rw[kr]at hu;cases hq:look ev x with
   |none=>rw[hq]at hu;simp at hu
   |some y=>
    rw[hq]at hu;simp at hu;obtain⟨v,h1,h2⟩:=h x y hq;rcases(mV hu).2 with rfl|rfl
    ·exact⟨v,h1,h2⟩
    ·exact⟨v,h1,trivial⟩
  -- one that has no tag of its own
  have other:∀ u0,look ev t=some u0→∀ u1 ev',(∀ v,TR σ Z ω n u0 v→∀ κ,κ t=none→TR σ Z (L1 ω κ) n u1 v)→(∀ g,u1.tag=some g→g=.t t∨g.fix)→(∀ x u,look ev' x=some u→∃ v,e.get x=some v∧TR σ Z ω n u v)→
    (∀ x u,look ev' x=some u→u.tag.isSome=true→look ev x=some u)→
    ∃ κ:Nat→Option Nat,(∀ t t' y,κ t=some y→κ t' =some y→t=t')∧(∀ t y,κ t=some y→∃ x w xs,look ev x=some (.own (.t y) w xs))∧
     ∀ x u,look ((t,u1)::di ts ev') x=some u→(∀ g,u.tag=some g→g=.t x∨g.fix)∧∃ v,e.get x=some v∧TR σ Z (L1 ω κ) n u v:=by
   intro u0 h0 u1 ev' htr htag hev hsub;obtain⟨κ,a1,a2,a3⟩:=ih hev;refine⟨fun x=>if x=t then none else κ x,fun x x' y hx hx' => ?_,fun x y hx=> ?_,fun x u hu=> ?_⟩
   ·have hx:(if x=t then none else κ x)=some y:=hx;have hx' :(if x' =t then none else κ x')=some y:=hx';split at hx
    ·cases hx
    split at hx'
    ·cases hx'
    exact a1 x x' y hx hx'
   ·have hx:(if x=t then none else κ x)=some y:=hx;split at hx
    ·cases hx
    obtain⟨z,w,xs,hz⟩:=a2 x y hx;exact⟨z,w,xs,hsub z _ hz rfl⟩
   ·simp only[look]at hu;cases hb:Nat.beq t x with
    |true=>
     rw[hb]at hu;simp at hu;subst hu;have:=bR hb;subst this;obtain⟨v,h1,h2⟩:=h t u0 h0;exact⟨htag,v,h1,htr v h2 _ (by simp)⟩
    |false=>
     rw[hb]at hu;obtain⟨b1,v,b2,b3⟩:=a3 x u hu;have hne:x≠t:=fun hh=>by subst hh;simp at hb
     refine⟨b1,v,b2,b3.mono (aq _) (fun _ _=>rfl) (fun _ _ h=>h) fun g hg=> ?_⟩;rcases b1 g hg with rfl|hfx
     ·simp only[L1,if_neg hne]
     ·cases g<;>first|rfl|exact hfx.elim
  have hself:∀ x u,look ev x=some u→u.tag.isSome=true→look ev x=some u:=fun _ _ h _=>h;have hselfk:∀ g x u,look (Env.kill g ev) x=some u→u.tag.isSome=true→look ev x=some u:=fun g x u hu ht=>by
   rw[kr]at hu;cases hq:look ev x with
   |none=>rw[hq]at hu;simp at hu
   |some y=>
    rw[hq]at hu;simp at hu;rcases(mV hu).2 with rfl|rfl
    ·rfl
    ·simp[U.tag]at ht
  cases h0:look ev t with
  |none=>
   obtain⟨κ,a1,a2,a3⟩:=ih h;exact⟨κ,a1,a2,fun x u hu=>a3 x u (by simpa only[di,h0]using hu)⟩
  |some u0=>
   cases u0 with
   |own g w xs=>
    cases g with
    |t g=>
     simp only[di,h0];obtain⟨κ,a1,a2,a3⟩:=ih (hkill (.t g));have hnog:∀ x,κ x≠some g:=fun x hx=>by
      obtain⟨z,w,xs,hz⟩:=a2 x g hx;rw[kr]at hz;cases hq:look ev z with
      |none=>rw[hq]at hz;simp at hz
      |some y=>
       rw[hq]at hz;simp at hz;exact(mV hz).1 rfl
     refine⟨fun x=>if x=t then some g else κ x,fun x x' y hx hx' => ?_,fun x y hx=> ?_,fun x u hu=> ?_⟩
     ·simp only at hx hx';by_cases h1:x=t<;>by_cases h2:x' =t
      ·rw[h1,h2]
      ·rw[if_pos h1]at hx;rw[if_neg h2]at hx';cases hx;exact absurd hx' (hnog x')
      ·rw[if_neg h1]at hx;rw[if_pos h2]at hx';cases hx';exact absurd hx (hnog x)
      ·rw[if_neg h1]at hx;rw[if_neg h2]at hx';exact a1 x x' y hx hx'
     ·simp only at hx;split at hx
      ·cases hx;exact⟨t,w,xs,h0⟩
      ·obtain⟨z,w,xs,hz⟩:=a2 x y hx;exact⟨z,w,xs,hselfk _ z _ hz rfl⟩
     ·simp only[look]at hu;cases hb:Nat.beq t x with
      |true=>
       rw[hb]at hu;simp at hu;subst hu;have:=bR hb;subst this;obtain⟨v,h1,h2⟩:=h t _ h0;refine⟨fun g' hg' =>by simp[U.tag]at hg';exact .inl hg'.symm,v,h1,OR.to h2.1 (fun _ _ h=>h) ?_,fun i off hh=>by cases hh⟩;simp only[L1,if_true]
      |false=>
       rw[hb]at hu;obtain⟨b1,v,b2,b3⟩:=a3 x u hu;have hne:x≠t:=fun hh=>by subst hh;simp at hb
       refine⟨b1,v,b2,b3.mono (aq _) (fun _ _=>rfl) (fun _ _ h=>h) fun g hg=> ?_⟩;rcases b1 g hg with rfl|hfx
       ·simp only[L1,if_neg hne]
       ·cases g<;>first|rfl|exact hfx.elim
    |r=>
     simp only[di,h0];refine other _ h0 _ _ (fun v hv κ hκ=>⟨OR.to hv.1 (fun _ _ h=>h) ?_,fun i off hh=>by cases hh⟩) (fun g' hg' =>by simp[U.tag]at hg';exact .inl hg'.symm) (hkill .r) (hselfk .r);simp only[L1,hκ];exact hr.symm
    |c i off=>
     simp only[di,h0];exact other _ h0 _ _ (fun v hv κ hκ=>TR.mono (aq _) (fun _ _=>rfl) (fun _ _ h=>h) (fun g hg=>by simp[U.tag]at hg;subst hg;rfl) hv) (fun g' hg' =>by simp[U.tag]at hg';exact .inr (hg'▸trivial)) h hself
    |a=>
     simp only[di,h0];exact other _ h0 _ _ (fun v hv κ hκ=>TR.mono (aq _) (fun _ _=>rfl) (fun _ _ h=>h) (fun g hg=>by simp[U.tag]at hg;subst hg;rfl) hv) (fun g' hg' =>by simp[U.tag]at hg';exact .inr (hg'▸trivial)) h hself
   |bD g i f=>
    cases g with
    |t g=>
     simp only[di,h0];exact other _ h0 _ _ (fun v hv κ hκ=>trivial) (fun g' hg' =>by simp[U.tag]at hg') h hself
    |r=>
     simp only[di,h0];exact other _ h0 _ _ (fun v hv κ hκ=>trivial) (fun g' hg' =>by simp[U.tag]at hg') h hself
    |c j off=>
     simp only[di,h0];exact other _ h0 _ _ (fun v hv κ hκ=>TR.mono (aq _) (fun _ _=>rfl) (fun _ _ h=>h) (fun g hg=>by simp[U.tag]at hg;subst hg;rfl) hv) (fun g' hg' =>by simp[U.tag]at hg';exact .inr (hg'▸trivial)) h hself
    |a=>
     simp only[di,h0];exact other _ h0 _ _ (fun v hv κ hκ=>TR.mono (aq _) (fun _ _=>rfl) (fun _ _ h=>h) (fun g hg=>by simp[U.tag]at hg;subst hg;rfl) hv) (fun g' hg' =>by simp[U.tag]at hg';exact .inr (hg'▸trivial)) h hself
   |view g i f l=>
    cases g with
    |t g=>
     simp only[di,h0];exact other _ h0 _ _ (fun v hv κ hκ=>trivial) (fun g' hg' =>by simp[U.tag]at hg') h hself
    |r=>
     simp only[di,h0];exact other _ h0 _ _ (fun v hv κ hκ=>trivial) (fun g' hg' =>by simp[U.tag]at hg') h hself
    |c j off=>
     simp only[di,h0];exact other _ h0 _ _ (fun v hv κ hκ=>TR.mono (aq _) (fun _ _=>rfl) (fun _ _ h=>h) (fun g hg=>by simp[U.tag]at hg;subst hg;rfl) hv) (fun g' hg' =>by simp[U.tag]at hg';exact .inr (hg'▸trivial)) h hself
    |a=>
     simp only[di,h0];exact other _ h0 _ _ (fun v hv κ hκ=>TR.mono (aq _) (fun _ _=>rfl) (fun _ _ h=>h) (fun g hg=>by simp[U.tag]at hg;subst hg;rfl) hv) (fun g' hg' =>by simp[U.tag]at hg';exact .inr (hg'▸trivial)) h hself
   |_=>
    simp only[di,h0];exact other _ h0 _ _ (fun v hv κ hκ=>TR.mono (aq _) (fun _ _=>rfl) (fun _ _ h=>h) (fun g hg=>by simp[U.tag]at hg) hv) (fun g' hg' =>by simp[U.tag]at hg') h hself
theorem WR(hf:Fl s)(h:Ok E σ Z ω s e st)(hn:E.n≤n)(L:List Nat):CA E (keep L n s) e st:=by
 obtain⟨κ,a1,a2,a3⟩:=Jp (L:=L) h.wr h.env;have h1:Ok E σ Z (L1 ω κ) {s with e:=di L s.e} e st:=by
  refine h.reω (ω' :=L1 ω κ) (E' :=di L s.e) (bk:=fun g=>match g with| .t x=>(match κ x with|some y=> .t y|none=> .r)|g=>g) (fun g I hI=> ?_) (fun g g' I I' h1 h2 hbb=> ?_) rfl (h.zW.2.up rfl) (fun _ _=>rfl) (fun t u hu=>(a3 t u hu).2)
  ·cases g with
   |t x=>
    simp only[L1]at hI⊢;cases hx:κ x with
    |none=>rw[hx]at hI;cases hI
    |some y=>rw[hx]at hI;exact hI
   |c i off=>exact hI
   |a=>exact hI
   |r=>cases hI
  ·cases g with
   |t x=>
    simp only[L1]at h1;cases hx:κ x with
    |none=>rw[hx]at h1;cases h1
    |some y=>
     simp only[hx]at hbb;cases g' with
     |t x' =>
      simp only[L1]at h2;cases hx' :κ x' with
      |none=>rw[hx']at h2;cases h2
      |some y' =>
       simp only[hx']at hbb;cases hbb;rw[a1 x x' y hx hx']
     |c i off=>cases hbb
     |a=>cases hbb
     |r=>cases hbb
   |a=>
    cases g' with
    |t x' =>
     simp only[L1]at h2;cases hx' :κ x' with
     |none=>rw[hx']at h2;cases h2
     |some y' =>simp only[hx']at hbb;cases hbb
    |c j o=>cases hbb
    |a=>rfl
    |r=>cases h2
   |c i off=>
    cases g' with
    |t x' =>
     simp only[L1]at h2;cases hx' :κ x' with
     |none=>rw[hx']at h2;cases h2
     |some y' =>simp only[hx']at hbb;cases hbb
    |c j o=>simpa using hbb
    |a=>cases hbb
    |r=>cases h2
   |r=>cases h1
 have hf1:Fl {s with e:=di L s.e}:=hf.env _;unfold keep;simp only;cases hl:Hv n (di L s.e)with
 |false=>exact⟨hf1,σ,Z,_,h1⟩
 |true=>
  simp only[cond_true];obtain⟨ω',k1,_⟩:=h1.cut hf1 hn (NV hl);exact⟨hf1.cut n,σ,Z,ω',k1⟩
end
end Go.RE
namespace Go.RE
section
variable{E:qe}{σ:Sg}{Z:Zs}{ω ω' :Om}{s s' :Vs}{e e2:PT V}{st:St}{n m:Nat}
theorem Xa(h:Ok E σ Z ω s e st){r:tX}{u:U}(hr:HP s r=some u):∃ v,CM e st r=some v∧TR σ Z ω s.h.length u v:=by
 cases r with
 |t k=>exact h.env k u hr
 |cell a k=>
  simp only[HP]at hr;split at hr<;>try (simp at hr;done)
  rename_i i off ha;split at hr<;>try (simp at hr;done)
  rename_i cs hi;obtain⟨va,h1,h2⟩:=h.env a _ ha;obtain⟨_,rfl⟩:=TR.ptr h2;obtain⟨cs',v,w1,w2,w3⟩:=AS h hi hr;exact⟨v,by simp only[CM,h1,w1];exact w2,w3⟩
theorem HQ(h:Ok E σ Z ω s e st):∀ {rs:List tX} {us:List U},qj s rs=some us→∃ vs,tH e st rs=some vs∧us.length=vs.length∧∀ (j:Nat) u v,us[j]? =some u→vs[j]? =some v→TR σ Z ω s.h.length u v:=by
 intro rs
 induction rs with
 |nil=>intro us hr;simp[qj]at hr;subst hr;exact⟨[],rfl,rfl,fun j u v hu=>by simp at hu⟩
 |cons r rs ih=>
  intro us hr;simp only[qj]at hr;split at hr<;>try (simp at hr;done)
  rename_i u hu;split at hr<;>simp only[ai,reduceCtorEq]at hr;rename_i us' hus;subst hr;obtain⟨v,h1,h2⟩:=Xa h hu;obtain⟨vs,k1,k2,k3⟩:=ih hus;refine⟨v::vs,by simp only[tH,h1,k1],by simp[k2],fun j x y hx hy=> ?_⟩;cases j with
  |zero=>simp at hx hy;subst hx;subst hy;exact h2
  |succ j=>exact k3 j x y (by simpa using hx) (by simpa using hy)
theorem Lq(H:List Uo)(fl:Nat):(cut n fl H).length=min (max n fl) H.length:=by simp only[cut,List.length_take]
theorem LS{u:U}{a b:Nat}(ha:u.low a=true)(hb:u.low b=true){c:Nat}(hc:a≤c∨b≤c):u.low c=true:=by
 rcases hc with hc|hc
 ·exact ir hc ha
 ·exact ir hc hb
theorem Ok.Ja{H:List Uo}{fl:Nat}(h:Ok E σ Z ω ⟨[],H,fl⟩ .e st)(hf:Fl ⟨[],H,fl⟩)(hn:E.n≤n)(b:Bool):
  ∃ ω',Ok E σ Z ω' ⟨[],bif b then RE.cut n fl H else H,fl⟩ .e st∧(∀ d,ω' (.t d)=ω (.t d))∧Fl ⟨[],bif b then RE.cut n fl H else H,fl⟩:=by
 cases b with
 |false=>exact⟨ω,h,fun _=>rfl,hf⟩
 |true=>
  obtain⟨ω',k1,k2,_⟩:=h.cut hf hn (fun t u hu=>by simp[look]at hu);exact⟨ω',k1,k2,hf.cut n⟩
theorem qaN{H:List Uo}{fl:Nat}{u:U}(hu:u.low H.length=true):u.low (bif u.low n then cut n fl H else H).length=true:=by
 cases hl:u.low n with
 |false=>exact hu
 |true=>
  simp only[cond_true,Lq];exact LS hl hu (by omega)
theorem Wx{H:List Uo}{fl:Nat}{us:List U}(hu:U.bW H.length us=true):U.bW (bif U.bW n us then cut n fl H else H).length us=true:=by
 cases hl:U.bW n us with
 |false=>exact hu
 |true=>
  simp only[cond_true,Lq];rw[k7]at hu hl⊢;exact fun u hm=>LS (hl u hm) (hu u hm) (by omega)
def Ww(ω:Om)(g:Option Tg):Om:=fun x=>match x with
 | .c i off=>ω (.c i off)
 | .t 0=>(match g with|some g=>ω g|none=>none)
 |_=>none
theorem Ok.P5(h:Ok E σ Z ω s e st){g:Option Tg}(hA:E.A=none)(hg:∀ i off,g≠some (.c i off)):Ok E σ Z (Ww ω g) ⟨[],s.h,s.fl⟩ .e st:=by
 refine h.reω (ω' :=Ww ω g) (E' :=[]) (bk:=fun x=>match x with| .t 0=>(match g with|some g=>g|none=> .r)|x=>x) (fun x I hI=> ?_) (fun x y I J hI hJ hb=> ?_) rfl (by unfold WA;rw[hA];rfl) (fun _ _=>rfl) (fun t u hu=>by simp[look]at hu)
 ·cases x with
  |c i off=>exact hI
  |r=>cases hI
  |a=>cases hI
  |t d=>
   cases d with
   |zero=>
    simp only[Ww]at hI⊢;cases g with
    |none=>cases hI
    |some g=>exact hI
   |succ d=>cases hI
 ·cases x with
  |r=>cases hI
  |a=>cases hI
  |c i off=>
   cases y with
   |r=>cases hJ
   |a=>cases hJ
   |c j o=>simpa using hb
   |t d=>
    cases d with
    |zero=>
     cases g with
     |none=>cases hJ
     |some g=>simp only at hb;exact absurd (by rw[hb]) (hg i off)
    |succ d=>cases hJ
  |t d=>
   cases d with
   |succ d=>cases hI
   |zero=>
    cases y with
    |r=>cases hJ
    |a=>cases hJ
    |t d2=>
     cases d2 with
     |zero=>rfl
     |succ d2=>cases hJ
    |c j o=>
     cases g with
     |none=>cases hI
     |some g=>simp only at hb;exact absurd (by rw[hb]) (hg j o)
theorem I9(g:Option Tg):∀ d,d≠0→Ww ω g (.t d)=none:=by
 intro d hd;cases d with
 |zero=>exact absurd rfl hd
 |succ d=>rfl
theorem Jf:∀ {vs us:List U},sW false vs=some us→gM vs=some us∧∀ i off w xs,.own (.c i off) w xs ∉ vs:=by
 intro vs
 induction vs with
 |nil=>intro us h;simp[sW]at h;subst h;exact⟨rfl,fun i off w xs hm=>by cases hm⟩
 |cons v vs ih=>
  intro us h;simp only[sW]at h;split at h<;>try (simp at h;done)
  rename_i u hu;split at h<;>simp only[ai,reduceCtorEq]at h;rename_i us' hus;subst h;obtain⟨k1,k2⟩:=ih hus;have hv:sM v=some u∧∀ i off w xs,v≠.own (.c i off) w xs:=by
   cases v with
   |own g w xs=>cases g<;>first|(simp[U.jD]at hu;done)|(simp[U.jD]at hu;subst hu;exact⟨rfl,fun i off w xs hh=>by cases hh⟩)
   |bad=>simp[U.jD]at hu
   |bE _ _=>simp[U.jD]at hu
   |bD _ _ _=>simp[U.jD]at hu
   |xW _ _ _ _=>simp[U.jD]at hu
   |view _ _ _ _=>simp[U.jD]at hu
   |de=>simp[U.jD]at hu
   |aX _=>simp[U.jD]at hu
   |_=>simp[U.jD]at hu;subst hu;exact⟨rfl,fun i off w xs hh=>by cases hh⟩
  refine⟨by simp only[gM,hv.1,k1],fun i off w xs hm=> ?_⟩;rcases dM.1 hm with hh|hh
  ·exact hv.2 i off w xs hh.symm
  ·exact k2 i off w xs hh
theorem XP{g:Tg}(hg:∀ i off,g≠.c i off):(s.lY g).h=s.h∧(s.lY g).fl=s.fl:=by
 cases g with
 |c i off=>exact absurd rfl (hg i off)
 |t d=>exact⟨rfl,rfl⟩
 |r=>exact⟨rfl,rfl⟩
 |a=>exact⟨rfl,rfl⟩
theorem NL:∀ {vs:List U} {s:Vs},(∀ i off w xs,.own (.c i off) w xs ∉ vs)→(aH vs s).h=s.h∧(aH vs s).fl=s.fl:=by
 intro vs
 induction vs with
 |nil=>intro s _;exact⟨rfl,rfl⟩
 |cons v vs ih=>
  intro s h;have h2:∀ i off w xs,.own (.c i off) w xs ∉ vs:=fun i off w xs hm=>h i off w xs (gB _ hm);cases v with
  |own g w xs=>
   simp only[aH];have hg:∀ i off,g≠.c i off:=fun i off hh=>by subst hh;exact h i off w xs eU
   obtain⟨a,b⟩:=ih (s:=s.lY g) h2;obtain⟨c,d⟩:=XP (s:=s) hg;exact⟨a.trans c,b.trans d⟩
  |_=>simp only[aH];exact ih h2
theorem Ed(n:Nat)(h:List Uo):(Gx n h).length=h.length:=by
 unfold Gx;simp only[lG,List.length_take,List.length_map,List.length_dropLast,List.length_drop];have:((h.drop n).getLast?.toList).length=if h.length≤n then 0 else 1:=by
  cases hd:h.drop n with
  |nil=>
   have:=congrArg List.length hd;simp at this;rw[if_pos (by omega)];rfl
  |cons a r=>
   have:=congrArg List.length hd;simp at this;rw[if_neg (by omega),List.getLast?_cons];rfl
 rw[this];split<;>omega
theorem yR(n:Nat)(h:List Uo)(i:Nat)(o:Uo)(ho:(Gx n h)[i]? =some o):o=.gone∨h[i]? =some o:=by
 unfold Gx at ho;rw[kN]at ho;by_cases hi:i<(h.take n).length
 ·rw[cw hi,jP]at ho;split at ho
  ·exact .inr ho
  ·cases ho
 ·rw[eZ (by omega)]at ho;by_cases hj:i - (h.take n).length<((h.drop n).dropLast.map fun _=>Uo.gone).length
  ·rw[cw hj,List.getElem?_map]at ho;cases hx:(h.drop n).dropLast[i - (h.take n).length]? with
   |none=>rw[hx]at ho;simp at ho
   |some x=>rw[hx]at ho;simp at ho;exact .inl ho.symm
  ·rw[eZ (by omega)]at ho;cases hd:h.drop n with
   |nil=>rw[hd]at ho;simp at ho
   |cons a r=>
    have hlen:=congrArg List.length hd;simp at hlen;rw[hd,List.getLast?_cons]at ho;simp only[List.length_map,List.length_dropLast,hd,List.length_cons,List.length_take]at hj ho;have hmin:min n h.length=n:=by omega
    rw[hmin]at hj ho;rw[List.length_take,hmin]at hi;have hz:i - n - (r.length+1 - 1)=0:=by
     cases hk:i - n - (r.length+1 - 1)with
     |zero=>rfl
     |succ k=>rw[hk]at ho;simp at ho
    rw[hz]at ho;simp at ho;right;have hi2:i=n+r.length:=by omega
    have h1:h[i]? =(h.drop n)[r.length]? :=by rw[qd,hi2]
    rw[h1,hd,←ho];cases r with
    |nil=>rfl
    |cons b r' =>simp[List.getLastD_eq_getLast?,List.getLast?_eq_getElem?]
theorem Ok.gc{h:List Uo}{fl:Nat}{e:PT V}(n:Nat)(hk:Ok E σ Z ω ⟨[],h,fl⟩ e st):Ok E σ Z ω ⟨[],Gx n h,fl⟩ e st:=by
 have hl:=Ed n h;refine⟨fun t u hu=>by simp[look]at hu,fun i o ho=> ?_,hk.qc,hk.lF,hk.fresh,fun i j hi hj=>hk.inj i j (by simpa[hl]using hi) (by simpa[hl]using hj),hk.gJ,fun i g I hi=>hk.sw i g I (by simpa[hl]using hi),fun i hi=>hk.sz i (by simpa[hl]using hi),hk.wz,fun i hi=>hk.sb i (by simpa[hl]using hi),hk.zW,fun i off I hI=>by have:=hk.wc i off I hI;simpa[hl]using this,by have:=hk.n0;simpa[hl]using this,hk.sig,hk.zz,hk.nx,fun b hb hI=> ?_,fun i hG=> ?_,hk.wE.2.sub fun i off cs h1 h2=> ?_⟩
 ·rcases yR n h i o ho with rfl|h1
  ·trivial
  ·have:=hk.obj i o h1;simpa[hl]using this
 ·obtain⟨a,b2,c,d⟩:=hk.out b hb hI;exact⟨a,fun i hi=>b2 i (by simpa[hl]using hi),c,d⟩
 ·obtain⟨a,b,c⟩:=hk.gn i hG;refine⟨a,?_,c⟩;have hlt:i<(Gx n h).length:=by rw[hl];exact(bn.1 b).1
  have hs:(Gx n h)[i]? =some (Gx n h)[i]:=bL hlt;rcases yR n h i _ hs with h1|h1
  ·show(Gx n h)[i]? =_;rw[hs,h1]
  ·have b' :h[i]? =some .gone:=b;rw[b']at h1;show(Gx n h)[i]? =_;rw[hs];exact h1.symm
 ·rcases yR n h i _ h1 with h3|h3
  ·cases h3
  ·exact⟨cs,h3,h2⟩
theorem Fl.gc{h:List Uo}{fl:Nat}(n:Nat)(hf:Fl ⟨[],h,fl⟩):Fl ⟨[],Gx n h,fl⟩:=by
 refine⟨by have:=hf.le;simpa[Ed]using this,fun i o ho=> ?_⟩;rcases yR n h i o ho with rfl|h1
 ·rfl
 ·exact hf.ob i o h1
theorem rM{fn:az}{r:U}{h' :List Uo}{fl' :Nat}(h:Ok E σ Z ω s e st)(hf:Fl s)(hA:E.A=none)(hn:E.n≤n)(hr:CF n fn s=some (r,h',fl')):
  ∃ v,cu e st fn.results=some v∧Fl ⟨[],h',fl'⟩∧∃ σ' Z' ω',Ok E σ' Z' ω' ⟨[],h',fl'⟩ .e st∧(∀ d,d≠0→ω' (.t d)=none)∧RR σ' Z' ω' h'.length r v:=by
 unfold CF at hr;split at hr
 ·rename_i u0 hu0;obtain⟨vs,v1,v2,v3⟩:=HQ h hu0;have:∃ v,vs=[v]:=by
   cases vs with
   |nil=>simp at v2
   |cons v vs=>cases vs with|nil=>exact⟨v,rfl⟩|cons a b=>simp at v2
  obtain⟨v,rfl⟩:=this;have htr:=v3 0 u0 v rfl rfl;have hres:cu e st fn.results=some v:=by simp only[cu,v1]
  refine⟨v,hres,?_⟩;split at hr<;>simp only[ai,aL,reduceCtorEq]at hr;rename_i r0 hg;obtain⟨rfl,rfl,rfl⟩:=hr
  -- what has no tag
  have plain:∀ {s1:Vs} {Z1:Zs} {ω1:Om},Ok E σ Z1 ω1 s1 e st→s1.h=s.h→s1.fl=s.fl→UR σ Z1 s.h.length r0 v→(∀ w xs,r0≠.own .r w xs)→
    Fl ⟨[],bif r0.low n then cut n s.fl s.h else s.h,s.fl⟩∧∃ σ' Z' ω',Ok E σ' Z' ω' ⟨[],bif r0.low n then cut n s.fl s.h else s.h,s.fl⟩ .e st∧(∀ d,d≠0→ω' (.t d)=none)∧RR σ' Z' ω' (bif r0.low n then cut n s.fl s.h else s.h).length r0 v:=by
   intro s1 Z1 ω1 h1 e1 e2 hur hno;have h2:=h1.P5 (g:=none) hA (fun _ _ hh=>by cases hh);rw[e1,e2]at h2;obtain⟨ω3,k1,k2,k3⟩:=h2.Ja (hf.env []) hn (r0.low n);refine⟨k3,σ,Z1,ω3,k1,fun d hd=>by rw[k2];exact I9 _ d hd,?_⟩;have hcut:=hur.cut (qaN (n:=n) (fl:=s.fl) hur.mY);cases r0 with
   |own g w xs=>cases hur
   |_=>exact hcut
  cases u0 with
  |own g w xs=>
   have hgc:∀ i off,g≠.c i off:=fun i off hh=>by subst hh;simp[U.jD]at hg
   have hgg:some (bif fn.own then U.own .r w xs else .sl w xs)=some r0:=by
    cases g with
    |c i off=>exact absurd rfl (hgc i off)
    |t d=>simpa[U.jD]using hg
    |r=>simpa[U.jD]using hg
    |a=>simp[U.jD]at hg
   simp only[ai]at hgg;cases how:fn.own with
   |true=>
    rw[how]at hgg;simp only[cond_true]at hgg;subst hgg;have h2:=h.P5 (g:=some g) hA (fun i off hh=>by cases hh;exact absurd rfl (hgc i off));obtain⟨ω3,k1,k2,k3⟩:=h2.Ja (hf.env []) hn ((U.own .r w xs).low n);refine⟨k3,σ,Z,ω3,k1,fun d hd=>by rw[k2];exact I9 _ d hd,?_⟩;exact OR.to htr.1 (fun _ _ h=>h) (k2 0)
   |false=>
    rw[how]at hgg;simp only[cond_false]at hgg;subst hgg;obtain⟨Z',ω2,k1,k2,k3,k4,k5,k6⟩:=h.lY g (by rintro rfl;simp[U.jD]at hg);obtain⟨e1,e2⟩:=XP (s:=s) hgc;exact plain k1 e1 e2 (htr.1.sl k2 k5) (fun w xs hh=>by cases hh)
  |bad=>simp[U.jD]at hg
  |bE _ _=>simp[U.jD]at hg
  |bD _ _ _=>simp[U.jD]at hg
  |xW _ _ _ _=>simp[U.jD]at hg
  |view _ _ _ _=>simp[U.jD]at hg
  |de=>simp[U.jD]at hg
  |aX _=>simp[U.jD]at hg
  |nl w=>
   simp[U.jD]at hg;subst hg;have h1:UR σ Z s.h.length (.nl w) v:=htr;exact plain h rfl rfl (by cases h1 with|CJ=>exact .slnil|Dr=>exact .yI) (fun w xs hh=>by cases hh)
  |_=>
   simp[U.jD]at hg;subst hg;exact plain h rfl rfl htr (fun w xs hh=>by cases hh)
 ·rename_i us hno hus;obtain⟨vs,v1,v2,v3⟩:=HQ h hus;have hres:cu e st fn.results=some (.aX vs):=by
   simp only[cu,v1];cases vs with
   |nil=>rfl
   |cons v vs=>
    cases vs with
    |nil=>
     cases us with
     |nil=>simp at v2
     |cons u us=>cases us with|nil=>exact absurd rfl (hno u)|cons a b=>simp at v2
    |cons a b=>rfl
  refine⟨_,hres,?_⟩;split at hr<;>simp only[ai,aL,reduceCtorEq]at hr;rename_i ys hg;obtain⟨rfl,rfl,rfl⟩:=hr;obtain⟨g1,g2⟩:=Jf hg;obtain⟨Z1,ω1,b1,b2,b3,b4,b5⟩:=pE (args:=us) (rF g1) h;obtain⟨e1,e2⟩:=NL (s:=s) g2;have hlu:LU σ Z1 s.h.length ys vs:=yN b2 g1 v2 v3 b5;have h2:=b1.P5 (g:=none) hA (fun _ _ hh=>by cases hh);rw[e1,e2]at h2;obtain⟨ω3,k1,k2,k3⟩:=h2.Ja (hf.env []) hn (U.bW n ys);have hur:UR σ Z1 s.h.length (.aX ys) (.aX vs):=UR.aX hlu.1 hlu.2;have hcut:=hur.cut (by simp only[U.low];exact Wx (n:=n) (fl:=s.fl) hlu.mY);have hom:∀ d,d≠0→ω3 (.t d)=none:=fun d hd=>by rw[k2];exact I9 _ d hd
  cases hlo:U.bW n ys with
  |true=>
   rw[hlo]at k1 k3 hcut;exact⟨k3,σ,Z1,ω3,k1,hom,hcut⟩
  |false=>
   rw[hlo]at k1 k3 hcut;cases fn.own with
   |true=>exact⟨k3,σ,Z1,ω3,k1,hom,hcut⟩
   |false=>
    simp only[cond_false]at k1 k3 hcut⊢;refine⟨k3.gc n,σ,Z1,ω3,k1.gc n,hom,?_⟩;rw[Ed];exact hcut
 ·simp at hr
end
end Go.RE
namespace Go.RE
def V4(P:Nat→List V→St→(V→St→Prop)→Prop)(f:Nat)(p:List U→List Uo→Nat→Option (U×List Uo×Nat)):Prop:=
 ∀ (us:List U) (h:List Uo) (fl:Nat) (r:U) (h' :List Uo) (fl' :Nat),p us h fl=some (r,h',fl')→
  ∀ (σ:Sg) (Z:Zs) (ω:Om) (st:St) (vs:List V),Ok ⟨h.length,σ,fN σ ω h.length,Z,st,fun i=>h[i]? =some .gone,none,jh h⟩ σ Z ω ⟨[],h,fl⟩ .e st→Fl ⟨[],h,fl⟩→(∀ d,ω (.t d)=none)→LU σ Z h.length us vs→
   P f vs st fun v st' =>Fl ⟨[],h',fl'⟩∧∃ σ' Z' ω',Ok ⟨h.length,σ,fN σ ω h.length,Z,st,fun i=>h[i]? =some .gone,none,jh h⟩ σ' Z' ω' ⟨[],h',fl'⟩ .e st'∧(∀ d,d≠0→ω' (.t d)=none)∧RR σ' Z' ω' h'.length r v
structure kS(C:Nat→Option b8)(M:oV)(VF:Nat→Option az)(Q:mE)(Pm:XH):Prop where
 code:∀ f fn,VF f=some fn→C f=some ⟨fn.ntmps,fn.results,fn.body.er⟩
 muts:QOK (cZ C M) Q
 HH:∀ f p,Pm f=some p→V4 (cZ C M) f p
section
variable{C:Nat→Option b8}{M:oV}{VF:Nat→Option az}{Q:mE}{Pm:XH}
variable{E:qe}{σ:Sg}{Z:Zs}{ω:Om}{s s' :Vs}{e:PT V}{st:St}{n m:Nat}
def WQ(E:qe)(K:Ex→Vs→Prop):Ex→PT V→St→Prop:=fun ex e' st' =>∃ s',K ex s'∧CA E s' e' st'
theorem Dx{α:Type}{P:α→Prop}{x:α}(h:pick P=some x):P x:=by
 unfold pick at h;split at h
 ·rename_i hh;simp only[ai]at h;subst h;exact hh.choose_spec
 ·cases h
theorem DH{N:Nat}{c:aj}{K1:Ex→PT V→St→Prop}{K:Nat→Ex→PT V→St→Prop}(hK:∀ a b e env s,a≤b→K a e env s→K b e env s)(h:fV C M N c e st K1)(h2:∀ ex e' st',K1 ex e' st'→∃ m,K m ex e' st'):∃ m,fV C M m c e st (K m):=by
 obtain⟨m,_,hm⟩:=GP hK (cc (aq N) h2 h);exact⟨m,hm⟩
theorem CA.keep{E:qe}{s:Vs}(h:CA E s e st)(L:List Nat)(hn:E.n≤n):CA E (keep L n s) e st:=by
 obtain⟨hf,σ,Z,ω,hk⟩:=h;exact WR hf hk hn L
theorem wF:∀ {us:List U} {i t:Nat} {u:U},look (lT us i) t=some u→i≤t∧us[t - i]? =some u:=by
 intro us
 induction us with
 |nil=>intro i t u h;simp[lT,look]at h
 |cons a r ih=>
  intro i t u h;simp only[lT,look]at h;cases hb:Nat.beq i t with
  |true=>
   rw[hb]at h;have:=bR hb;subst this;simp at h;subst h;exact⟨aq _,by simp⟩
  |false=>
   rw[hb]at h;obtain⟨h1,h2⟩:=ih h;refine⟨by omega,?_⟩;rw[show t - i=(t - (i+1))+1 by omega];simpa using h2
theorem O5{es:List (U×U×Nat)}{es' :List ME}(hl:es.length=es'.length)(hr:∀ (j:Nat) e e',es[j]? =some e→es'[j]? =some e'→UR σ Z n e.1 e'.key∧UR σ Z n e.2.1 e'.val∧e'.born=e.2.2){since:Nat}{seen:List Nat}:
  ∀ (i:Nat) (c:Option ME),(dQ es' since seen)[i]? =some c→∃ c0,c0∈td es since seen∧(match c0,c with
   |none,none=>True
   |some a,some b=>UR σ Z n a.1 b.key∧UR σ Z n a.2.1 b.val∧b.born=a.2.2
   |_,_=>False):=by
 -- the lists,side by side
 have pair:∀ {es:List (U×U×Nat)} {es' :List ME},es.length=es'.length→(∀ (j:Nat) e e',es[j]? =some e→es'[j]? =some e'→UR σ Z n e.1 e'.key∧UR σ Z n e.2.1 e'.val∧e'.born=e.2.2)→∀ p:Nat→Bool,(es.filter fun e=>p e.2.2).length=(es'.filter fun e=>p e.born).length∧∀ (j:Nat) e e',(es.filter fun e=>p e.2.2)[j]? =some e→(es'.filter fun e=>p e.born)[j]? =some e'→UR σ Z n e.1 e'.key∧UR σ Z n e.2.1 e'.val∧e'.born=e.2.2:=by
  intro es
  induction es with
  |nil=>
   intro es' hl _ p;have:es' =[]:=jq hl.symm;subst this;exact⟨rfl,fun j e e' he=>by simp at he⟩
  |cons a es ih=>
   intro es' hl hr p;cases es' with
   |nil=>simp at hl
   |cons a' es' =>
    have h0:=hr 0 a a' rfl rfl;obtain⟨i1,i2⟩:=ih (by simpa using hl) (fun j x y hx hy=>hr (j+1) x y (by simpa using hx) (by simpa using hy)) p;rw[List.filter_cons,List.filter_cons,h0.2.2];cases p a.2.2 with
    |false=>exact⟨i1,i2⟩
    |true=>
     refine⟨by simp[i1],fun j x y hx hy=> ?_⟩;cases j with
     |zero=>simp at hx hy;subst hx;subst hy;exact h0
     |succ j=>exact i2 j x y (by simpa using hx) (by simpa using hy)
 obtain⟨a1,a2⟩:=pair hl hr (fun b=> !seen.contains b);obtain⟨b1,b2⟩:=pair a1 a2 (fun b=>Nat.blt b since);obtain⟨c1,c2⟩:=pair a1 a2 (fun b=>Nat.ble since b);intro i c hc;unfold dQ at hc;unfold td;simp only at hc⊢;have hm:=List.mem_of_getElem? hc;rw[gd]at hm;rcases hm with hm|hm
 ·have he:(List.filter (fun e=>Nat.blt e.born since) (List.filter (fun e=> !seen.contains e.born) es')).isEmpty=true:=by
   cases hq:(List.filter (fun e=>Nat.blt e.born since) (List.filter (fun e=> !seen.contains e.born) es')).isEmpty with
   |true=>rfl
   |false=>rw[hq]at hm;simp at hm
  rw[he]at hm;simp at hm;subst hm;refine⟨none,List.mem_append_left _ ?_,trivial⟩;have:(List.filter (fun e=>Nat.blt e.2.2 since) (List.filter (fun e=> !seen.contains e.2.2) es)).isEmpty=true:=by
   rw[List.isEmpty_iff_length_eq_zero,b1,←List.isEmpty_iff_length_eq_zero];exact he
  rw[this];simp
 ·rw[eR]at hm;obtain⟨x,hx,rfl⟩:=hm;rw[gd]at hx;have get:∀ {A:List (U×U×Nat)} {B:List ME},A.length=B.length→(∀ (j:Nat) e e',A[j]? =some e→B[j]? =some e'→UR σ Z n e.1 e'.key∧UR σ Z n e.2.1 e'.val∧e'.born=e.2.2)→x∈B→∃ a∈A,UR σ Z n a.1 x.key∧UR σ Z n a.2.1 x.val∧x.born=a.2.2:=by
   intro A B hAB hr hx;obtain⟨j,hj,rfl⟩:=List.mem_iff_getElem.1 hx;exact⟨A[j]'(by omega),List.getElem_mem _,hr j _ _ (bL (by omega)) (bL hj)⟩
  rcases hx with hx|hx
  ·obtain⟨a,ha,hr⟩:=get b1 b2 hx;exact⟨some a,List.mem_append_right _ (eR.2 ⟨a,List.mem_append_left _ ha,rfl⟩),hr⟩
  ·obtain⟨a,ha,hr⟩:=get c1 c2 hx;exact⟨some a,List.mem_append_right _ (eR.2 ⟨a,List.mem_append_right _ ha,rfl⟩),hr⟩
theorem JC{dst:Option Nat}{x:bH}{k:Vs→Prop}{F:Nat→List V→St→(V→St→Prop)→Prop}(hok:CA E s e st)(h:iu s dst x k):
  dF M F e st (.next x.er) fun v st' =>∃ t,k t∧CA E t (fu dst v e) st' :=by
 obtain⟨hf,σ,Z,ω,hk⟩:=hok;unfold iu at h;split at h<;>try exact h.elim
 rename_i q hx;obtain⟨vx,x1,x2⟩:=hk.cI hx;obtain⟨hlt,rfl⟩:=TR.ptr x2;have hfalse:TR σ Z ω s.h.length (.aX [.bool false]) (.aX [.bool false]):=UR.aX rfl (LU.cons (.bool false) .nil).2;simp only[dF,x1];split at h<;>try exact h.elim
 ·rename_i since seen last hq;obtain⟨g1,g2⟩:=hk.obj q _ hq;simp only[pq,g1,Option.map_none];exact⟨_,h,hf.env _,σ,Z,ω,hk.put hfalse⟩
 ·rename_i j since seen last hq;split at h<;>try exact h.elim
  rename_i es clock hj;obtain⟨hst,hall⟩:=h;obtain⟨g1,g2⟩:=hk.obj q _ hq;obtain⟨es',m1,m2,m3⟩:=hk.obj j _ hj;have hst' :(!seen.isEmpty&& !es'.isEmpty&&es'.all (fun e=>Nat.ble last e.born))=false:=by
   have e1:es'.isEmpty=es.isEmpty:=by cases es<;>cases es' <;>simp at m2⊢
   have e2:es'.all (fun e=>Nat.ble last e.born)=es.all (fun e=>Nat.ble last e.2.2):=by
    clear hst hall hj m1
    induction es generalizing es' with
    |nil=>have:es' =[]:=jq m2.symm;subst this;rfl
    |cons a es ih=>
     cases es' with
     |nil=>simp at m2
     |cons a' es' =>
      simp only[List.all_cons];rw[(m3 0 a a' rfl rfl).2.2,ih es' (by simpa using m2) (fun j x y hx hy=>m3 (j+1) x y (by simpa using hx) (by simpa using hy)) (by cases es<;>cases es' <;>simp at m2⊢)]
   rw[e1,e2];exact hst
  simp only[pq,g1,Option.map_some,m1,hst',cond_false];intro i hi;have hc:=bL hi;rw[hc];obtain⟨c0,c1,c2⟩:=O5 m2 m3 i _ hc;have hk0:=hall c0 c1;generalize (dQ es' since seen)[i]=c at c2;cases c with
  |none=>
   cases c0 with
   |some a=>exact c2.elim
   |none=>exact⟨_,hk0,hf.env _,σ,Z,ω,hk.put hfalse⟩
  |some b=>
   cases c0 with
   |none=>exact c2.elim
   |some a=>
    obtain⟨r1,r2,r3⟩:=c2;have hput:=hk.Dy (i:=q) (o:=.iter (some j) since (seen++[a.2.2]) clock) (ob:=.fZ (some (σ j)) since (seen++[b.born]) clock) hlt (by rw[hq];intro hh;cases hh) ⟨by rw[r3];rfl,fun j' hj' =>by cases hj';exact g2 j rfl⟩;refine⟨_,hk0,hf.set (o:=.iter (some j) since (seen++[a.2.2]) clock) ?_ _,σ,Z,ω,hput.put (UR.aX rfl (LU.cons (.bool true) (LU.cons ?_ (LU.cons ?_ .nil))).2)⟩
    ·have:=hf.ob q _ hq;simpa only[Uo.low]using this
    ·simpa using r1
    ·simpa using r2
theorem sound(T:kS C M VF Q Pm):∀ n,Vz (cZ C M) (vF VF M Q Pm n)∧
  (∀ {fn:az} {c:aj} {E:qe} {s:Vs} {K:Ex→Vs→Prop} {e:PT V} {st:St},vC VF M Q Pm n fn c s K→CA E s e st→∃ N,fV C M N c.er e st (WQ E K))∧
  (∀ {fn:az} {id:Nat} {b:aj} {m:Nat} {E:qe} {s:Vs} {K:Ex→Vs→Prop} {e:PT V} {st:St},vL VF M Q Pm n fn id b m s K→E.n≤m→CA E s e st→∃ N,fV C M N (.loop b.er) e st (oh id (WQ E K))):=by
 intro n
 induction n with
 |zero=>
  refine⟨fun f us h fl r h' fl' hh=> ?_,fun hh=> ?_,fun hh=> ?_⟩
  ·simp[vF]at hh
  ·simp[vC]at hh
  ·simp[vL]at hh
 |succ n ih=>
  obtain⟨ihF,ihC,ihL⟩:=ih;refine⟨?_,?_,?_⟩
  ·-- a function
   intro f us h fl r h' fl' hh σ Z ω st vs hk hfl ht hlu;simp only[vF]at hh;split at hh
   ·rename_i p hp;exact T.HH f p hp us h fl r h' fl' hh σ Z ω st vs hk hfl ht hlu
   ·split at hh<;>try (simp at hh;done)
    rename_i fn hfn;obtain⟨hb,hh⟩:=aM hh;have hc:=Dx hh;have hlen:vs.length≤fn.ntmps:=by have:=gb hb;have:=hlu.1;omega
    have hinit:CA ⟨h.length,σ,fN σ ω h.length,Z,st,fun i=>h[i]? =some .gone,none,jh h⟩ ⟨lT us 0,h,fl⟩ (cA vs 0 .e) st:=by
     refine⟨hfl.env _,σ,Z,ω,hk.setEnv fun t u hu=> ?_⟩;obtain⟨_,hu2⟩:=wF hu;simp only[Nat.sub_zero]at hu2;obtain⟨ht1,_⟩:=bn.1 hu2;have hv:=bL (l:=vs) (i:=t) (by have:=hlu.1;omega);refine⟨_,?_,TR.bB (hlu.2 t u _ hu2 hv)⟩;rw[fD,if_pos ⟨dS _,by have:=hlu.1;omega⟩];exact hv
    obtain⟨N,hN⟩:=ihC hc hinit;refine⟨N,?_⟩;rw[qv (T.code f fn hfn) (by exact hlen)];refine cc (aq _) ?_ hN;rintro ex' e' st' ⟨s',hK,hf',σ',Z',ω',hk'⟩;cases ex' with
    |exit i=>exact hK.elim
    |normal=>
     obtain⟨v,r1,r2,r3⟩:=rM hk' hf' rfl (aq _) hK;rw[ki];simp only[r1];exact⟨r2,r3⟩
    |ret=>
     obtain⟨v,r1,r2,r3⟩:=rM hk' hf' rfl (aq _) hK;rw[nM];simp only[r1];exact⟨r2,r3⟩
  ·-- code
   intro fn c E s K e st hh hok;have hn0:E.n≤s.h.length:=by obtain⟨_,σ,Z,ω,hk⟩:=hok;exact hk.n0
   -- a block of any code
   have blk:∀ {id:Nat} {b:aj},vC VF M Q Pm n fn b s (kB fn id s.h.length K)→∃ N,fV C M N (aj.block id b.er) e st (WQ E K):=by
    intro id b hh;obtain⟨N,hN⟩:=ihC hh hok;refine⟨N+1,?_⟩;rw[rL];refine cc (aq _) ?_ hN;rintro ex' e' st' ⟨t,hK,h2⟩;cases ex' with
    |normal=>exact⟨_,hK,h2.keep _ hn0⟩
    |ret=>exact⟨_,hK,h2⟩
    |exit i=>
     unfold oh;simp only[kB]at hK;cases hb:Nat.beq i id with
     |true=>rw[hb]at hK;simp only[hb,cond_true];exact⟨_,hK,h2.keep _ hn0⟩
     |false=>rw[hb]at hK;simp only[hb,cond_false];exact⟨_,hK,h2⟩
   cases c with
   |skip=>exact⟨1,by rw[aj.er,Ay];exact⟨s,hh,hok⟩⟩
   |ret=>exact⟨1,by rw[aj.er,D7];exact⟨s,hh,hok⟩⟩
   |exit i=>exact⟨1,by rw[aj.er,GQ];exact⟨s,hh,hok⟩⟩
   |region ops=>
    have hh:jT M Q (vF VF M Q Pm n) s K ops:=hh;have plain:∀ {ops:List aF} {s:Vs} {e:PT V} {st:St},CA E s e st→iy K (gx M Q (vF VF M Q Pm n) ops s)→∃ N,eV M (bV C M N) (fH ops) e st fun e' st' =>WQ E K .normal e' st' :=by
     intro ops s e st hok hh;obtain⟨hfl,σ,Z,ω,hk⟩:=hok;cases hs:gx M Q (vF VF M Q Pm n) ops s with
     |none=>rw[hs]at hh;exact hh.elim
     |some s1=>
      rw[hs]at hh;obtain⟨N,hN⟩:=JF ihF T.muts hs hk hfl;exact⟨N,mM (bY (aq _)) (fun e s h=>⟨s1,hh,h⟩) hN⟩
    unfold jT at hh;split at hh
    ·rename_i dst x p ops _;have h1:=JC (M:=M) (F:=bV C M 0) hok hh;have h2:dF M (bV C M 0) e st (.next x.er) fun v st' =>∃ m,eV M (bV C M m) (fH ops) (fu dst v e) st' fun e' st' =>WQ E K .normal e' st' :=by
      refine dI (bY (aq 0)) (fun v st' ⟨t,ht,hokt⟩=> ?_) h1;exact plain hokt ht
     obtain⟨m,_,hm⟩:=uy (K:=fun m v st' =>eV M (bV C M m) (fH ops) (fu dst v e) st' fun e' st' =>WQ E K .normal e' st') (fun a b hab=>bY hab) (fun f args s K hK h=>tc hK h)
      (fun a b v s hab h=>mM (bY hab) (fun _ _ h=>h) h) h2
     refine⟨m+1,?_⟩;rw[aj.er,jg];simp only[fH,eV,aF.er,jF.er,bT];exact hm
    ·obtain⟨N,hN⟩:=plain hok hh;exact⟨N+1,by rw[aj.er,jg];exact hN⟩
   |draw ops=>
    have hh:kW M Q (vF VF M Q Pm n) s K (sched (ops.length+1) (bt ops 0) 0):=hh;cases hl:sched (ops.length+1) (bt ops 0) 0 with
    |none=>rw[hl]at hh;exact hh.elim
    |some l=>
     rw[hl]at hh;simp only[kW]at hh;obtain⟨hfl,σ,Z,ω,hk⟩:=hok;cases hs:bU M Q (vF VF M Q Pm n) l s []with
     |none=>rw[hs]at hh;exact hh.elim
     |some s1=>
      rw[hs]at hh;obtain⟨N,hN⟩:=GO ihF T.muts hl hs hk hfl;refine⟨N,cc (aq _) ?_ hN⟩;rintro ex e' st' ⟨rfl,h2⟩;exact⟨s1,hh,h2⟩
   |seq a b=>
    have hh:vC VF M Q Pm n fn a s (fun ex s=>match ex with
     | .normal=>vC VF M Q Pm n fn b s K
     |ex=>K ex s):=hh
    obtain⟨N,hN⟩:=ihC hh hok;obtain⟨m,hm⟩:=DH (K:=fun m=>Ei C M m b.er (WQ E K)) (fun x y ex e s hxy h=>by
     cases ex with
     |normal=>exact cc hxy (fun _ _ _ h=>h) h
     |ret=>exact h
     |exit i=>exact h) hN (by
     rintro ex' e' st' ⟨t,hK,h2⟩;cases ex' with
     |normal=>exact ihC hK h2
     |exit i=>exact⟨0,t,hK,h2⟩
     |ret=>exact⟨0,t,hK,h2⟩)
    exact⟨m+1,by rw[aj.er,pg];exact hm⟩
   |cond x a b=>
    simp only[vC]at hh;split at hh<;>try exact hh.elim
    ·rename_i hx;obtain⟨N,hN⟩:=ihC hh hok;obtain⟨hfl,σ,Z,ω,hk⟩:=hok;obtain⟨vx,x1,x2⟩:=hk.cI hx;obtain rfl:=TR.bool x2;exact⟨N+1,by rw[aj.er,Aw x1,if_pos rfl];exact hN⟩
    ·rename_i hx;obtain⟨N,hN⟩:=ihC hh hok;obtain⟨hfl,σ,Z,ω,hk⟩:=hok;obtain⟨vx,x1,x2⟩:=hk.cI hx;obtain rfl:=TR.bool x2;exact⟨N+1,by rw[aj.er,Aw x1,if_neg (by simp)];exact hN⟩
   |block id b=>
    cases b with
    |loop b=>
     simp only[vC]at hh;obtain⟨N,hN⟩:=ihL hh hn0 (hok.keep _ hn0);exact⟨N+1,by rw[aj.er,rL,aj.er];exact hN⟩
    |_=>simp only[vC]at hh;exact blk hh
   |loop b=>simp[vC]at hh
   |bad=>simp[vC]at hh
   |uD a b=>simp[vC]at hh
  ·-- a loop
   intro fn id b m E s K e st hh hm hok;simp only[vL]at hh;obtain⟨N,hN⟩:=ihC hh hok;obtain⟨k,hkk⟩:=DH (K:=fun k=>Ei C M k (.loop b.er) (oh id (WQ E K))) (fun x y ex e s hxy h=>by
    cases ex with
    |normal=>exact cc hxy (fun _ _ _ h=>h) h
    |ret=>exact h
    |exit i=>exact h) hN (by
    rintro ex' e' st' ⟨t,hK,h2⟩;cases ex' with
    |normal=>exact ihL hK hm (h2.keep _ hm)
    |ret=>exact⟨0,t,hK,h2⟩
    |exit i=>
     refine⟨0,?_⟩;show oh id (WQ E K) (.exit i) e' st';unfold oh;simp only[kB]at hK;cases hb:Nat.beq i id with
     |true=>rw[hb]at hK;simp only[hb,cond_true];exact⟨_,hK,h2.keep _ hm⟩
     |false=>rw[hb]at hK;simp only[hb,cond_false];exact⟨t,hK,h2⟩)
   exact⟨k+1,hkk⟩
end
end Go.RE
namespace Go.RE
open Classical in
noncomputable def sup{α:Type}(a:Nat→Option α):Option α:=if h:∃ x n,a n=some x then some h.choose else none
def Up{α:Type}(a:Nat→Option α):Prop:=∀ n m x,n≤m→a n=some x→a m=some x
theorem Xn{α:Type}{a:Nat→Option α}(hm:Up a){x:α}:sup a=some x↔∃ n,a n=some x:=by
 unfold sup;constructor
 ·intro h;split at h
  ·rename_i hh;simp only[ai]at h;obtain⟨n,hn⟩:=hh.choose_spec;exact⟨n,by rw[←h];exact hn⟩
  ·cases h
 ·rintro⟨n,hn⟩;have hh:∃ x n,a n=some x:=⟨x,n,hn⟩;rw[dif_pos hh];obtain⟨m,h2⟩:=hh.choose_spec;have h3:=hm n (max n m) x (oT _ _) hn;have h4:=hm m (max n m) _ (Nat.le_max_right _ _) h2;rw[h3]at h4;exact h4.symm
def vX(F F' :FU):Prop:=∀ f us h fl R,F f us h fl=some R→F' f us h fl=some R
section
variable{M:oV}{Q:mE}{F F' :FU}{s:Vs}
theorem Ag(hF:vX F F'){ld:Bool}{d f:Nat}{args:List U}{x:U×Vs}(h:jH ld F d f args s=some x):jH ld F' d f args s=some x:=by
 unfold jH at h⊢;split at h
 ·rename_i us hus;simp only;cases hl:U.bW 0 us with
  |true=>
   rw[hl]at h;simp only[cond_true]at h⊢;cases hc:F f us [] 0 with
   |none=>rw[hc]at h;cases h
   |some R=>rw[hc]at h;rw[hF _ _ _ _ _ hc];exact h
  |false=>
   rw[hl]at h;simp only[cond_false]at h⊢;cases ld with
   |true=>
    simp only[cond_true]at h⊢;cases hc:F f us (dZ (gR (aH args s).h (aH args s).e) (aH args s).h) (aH args s).fl with
    |none=>rw[hc]at h;cases h
    |some R=>rw[hc]at h;rw[hF _ _ _ _ _ hc];exact h
   |false=>
    simp only[cond_false]at h⊢;cases hc:F f us (aH args s).h (aH args s).fl with
    |none=>rw[hc]at h;cases h
    |some R=>rw[hc]at h;rw[hF _ _ _ _ _ hc];exact h
 ·cases h
theorem Wg(hF:vX F F'){d f:Nat}{args:List U}{x:U×Vs}(h:yD Q F s d f args=some x):yD Q F' s d f args=some x:=by
 unfold yD at h⊢;split at h
 ·split at h
  ·exact h
  ·exact Ag hF h
 ·exact Ag hF h
theorem wL(hF:vX F F'){dst:Option Nat}{o:jF}{x:U×Vs}(h:kD M Q F s dst o=some x):kD M Q F' s dst o=some x:=by
 cases o with
 |call f args=>
  simp only[kD]at h⊢;split at h
  ·split at h
   ·rename_i q hq;(try simp only[hq]);exact h
   ·rename_i hq
    (try simp only[hq])
    split at h
    ·rename_i q hqa;(try simp only[hqa]);exact h
    ·rename_i hqa;(try simp only[hqa]);exact Wg hF h
  ·cases h
 |invoke name y args=>
  simp only[kD]at h⊢;split at h
  ·split at h
   ·rename_i q hq;(try simp only[hq]);exact Ag hF h
   ·cases h
  ·cases h
 |h o=>cases o<;>exact h
 |_=>exact h
theorem y7(hF:vX F F'):∀ {ops:List aF} {s s' :Vs},gx M Q F ops s=some s'→gx M Q F' ops s=some s' :=by
 intro ops
 induction ops with
 |nil=>intro s s' h;exact h
 |cons o r ih=>
  intro s s' h;simp only[gx]at h⊢;split at h
  ·split at h
   ·rename_i v s1 hc;rw[wL hF hc];exact ih h
   ·cases h
  ·exact ih h
  ·cases h
theorem GI(hF:vX F F'){f:Nat}{args:List U}{hid:List Nat×List (Nat×Nat)}(h:lR F f args s hid=true):lR F' f args s hid=true:=by
 unfold lR at h⊢;split at h
 ·rename_i us hus
  try simp only
  split at h
  ·rename_i R hR;rw[hF _ _ _ _ _ hR];exact h
  ·cases h
 ·cases h
theorem Di(hF:vX F F'){t:Vs}{o:jF}{p:Nat}{ah:List (Nat×Rk)}(h:gI M Q F s t o p ah=true):gI M Q F' s t o p ah=true:=by
 unfold gI at h⊢;split at h
 ·rename_i hid hh
  try simp only[hh]
  split at h
  ·split at h
   ·split at h
    ·rename_i hq hqa
     (try simp only[hq,hqa])
     simp only[bC]at h⊢;exact⟨h.1,GI hF h.2⟩
    ·cases h
   ·cases h
  ·split at h
   ·split at h
    ·rename_i hm;(try simp only[hm]);exact GI hF h
    ·cases h
   ·cases h
  ·cases h
 ·cases h
theorem OY{a b c:Bool}(hab:a=true→b=true)(h:(c||a)=true):(c||b)=true:=by
 cases c with
 |true=>rfl
 |false=>exact hab h
theorem wQ(hF:vX F F'):∀ {l:List Step} {s s' :Vs} {ah:List (Nat×Rk)},bU M Q F l s ah=some s'→bU M Q F' l s ah=some s' :=by
 intro l
 induction l with
 |nil=>intro s s' ah h;exact h
 |cons x r ih=>
  intro s s' ah h;cases x with
  |small i o=>
   simp only[bU]at h⊢;split at h
   ·split at h
    ·rename_i v s1 hc;rw[wL hF hc];simp only;split at h
     ·exact ih h
     ·exact ih h
     ·cases h
    ·cases h
   ·exact ih h
   ·cases h
  |aZ i o=>
   simp only[bU]at h⊢;split at h
   ·split at h
    ·rename_i v s1 hc;rw[wL hF hc];simp only;obtain⟨hb,h⟩:=aM h;rw[OY (Di hF) hb];exact ih h
    ·cases h
   ·exact ih h
   ·cases h
structure z8(Fn:Nat→FU)(G:FU):Prop where
 up:∀ n m,n≤m→vX (Fn n) (Fn m)
 lim:∀ f us h fl R,G f us h fl=some R↔∃ n,Fn n f us h fl=some R
variable{Fn:Nat→FU}{G:FU}
theorem z8.le(hG:z8 Fn G)(n:Nat):vX (Fn n) G:=fun f us h fl R hh=>(hG.lim f us h fl R).2 ⟨n,hh⟩
theorem wj(hG:z8 Fn G){ld:Bool}{d f:Nat}{args:List U}{x:U×Vs}(h:jH ld G d f args s=some x):∃ n,jH ld (Fn n) d f args s=some x:=by
 unfold jH at h⊢;split at h
 ·rename_i us hus;simp only;cases hl:U.bW 0 us with
  |true=>
   rw[hl]at h;simp only[cond_true]at h⊢;cases hc:G f us [] 0 with
   |none=>rw[hc]at h;cases h
   |some R=>
    rw[hc]at h;obtain⟨n,hn⟩:=(hG.lim _ _ _ _ _).1 hc;exact⟨n,by rw[hn];exact h⟩
  |false=>
   rw[hl]at h;simp only[cond_false]at h⊢;cases ld with
   |true=>
    simp only[cond_true]at h⊢;cases hc:G f us (dZ (gR (aH args s).h (aH args s).e) (aH args s).h) (aH args s).fl with
    |none=>rw[hc]at h;cases h
    |some R=>
     rw[hc]at h;obtain⟨n,hn⟩:=(hG.lim _ _ _ _ _).1 hc;exact⟨n,by rw[hn];exact h⟩
   |false=>
    simp only[cond_false]at h⊢;cases hc:G f us (aH args s).h (aH args s).fl with
    |none=>rw[hc]at h;cases h
    |some R=>
     rw[hc]at h;obtain⟨n,hn⟩:=(hG.lim _ _ _ _ _).1 hc;exact⟨n,by rw[hn];exact h⟩
 ·cases h
theorem OX(hG:z8 Fn G){d f:Nat}{args:List U}{x:U×Vs}(h:yD Q G s d f args=some x):∃ n,yD Q (Fn n) s d f args=some x:=by
 unfold yD at h⊢;split at h
 ·split at h
  ·exact⟨0,h⟩
  ·exact wj hG h
 ·exact wj hG h
theorem Eo(hG:z8 Fn G){dst:Option Nat}{o:jF}{x:U×Vs}(h:kD M Q G s dst o=some x):∃ n,kD M Q (Fn n) s dst o=some x:=by
 cases o with
 |call f args=>
  simp only[kD]at h⊢;split at h
  ·split at h
   ·rename_i q hq;(try simp only[hq]);exact⟨0,h⟩
   ·rename_i hq
    (try simp only[hq])
    split at h
    ·rename_i q hqa;(try simp only[hqa]);exact⟨0,h⟩
    ·rename_i hqa;(try simp only[hqa]);exact OX hG h
  ·cases h
 |invoke name y args=>
  simp only[kD]at h⊢;split at h
  ·split at h
   ·rename_i q hq;(try simp only[hq]);exact wj hG h
   ·cases h
  ·cases h
 |h o=>cases o<;>exact⟨0,h⟩
 |_=>exact⟨0,h⟩
theorem C3(hG:z8 Fn G){f:Nat}{args:List U}{hid:List Nat×List (Nat×Nat)}(h:lR G f args s hid=true):∃ n,lR (Fn n) f args s hid=true:=by
 unfold lR at h⊢;split at h
 ·rename_i us hus
  try simp only
  split at h
  ·rename_i R hR;obtain⟨n,hn⟩:=(hG.lim _ _ _ _ _).1 hR;exact⟨n,by rw[hn];exact h⟩
  ·cases h
 ·cases h
theorem Je(hG:z8 Fn G){t:Vs}{o:jF}{p:Nat}{ah:List (Nat×Rk)}(h:gI M Q G s t o p ah=true):∃ n,gI M Q (Fn n) s t o p ah=true:=by
 unfold gI at h⊢;split at h
 ·rename_i hid hh
  try simp only[hh]
  split at h
  ·split at h
   ·split at h
    ·rename_i hq hqa
     (try simp only[hq,hqa])
     simp only[bC]at h;obtain⟨n,hn⟩:=C3 hG h.2;exact⟨n,by simp only[bC];exact⟨h.1,hn⟩⟩
    ·cases h
   ·cases h
  ·split at h
   ·split at h
    ·rename_i hm;(try simp only[hm]);exact C3 hG h
    ·cases h
   ·cases h
  ·cases h
 ·cases h
theorem Wh(hG:z8 Fn G){t:Vs}{o:jF}{p:Nat}{ah:List (Nat×Rk)}{c:Bool}(h:(c||gI M Q G s t o p ah)=true):∃ n,(c||gI M Q (Fn n) s t o p ah)=true:=by
 cases c with
 |true=>exact⟨0,rfl⟩
 |false=>exact Je hG h
theorem Qd(hG:z8 Fn G):∀ {ops:List aF} {s s' :Vs},gx M Q G ops s=some s'→∃ n,gx M Q (Fn n) ops s=some s' :=by
 intro ops
 induction ops with
 |nil=>intro s s' h;exact⟨0,h⟩
 |cons o r ih=>
  intro s s' h;simp only[gx]at h⊢;split at h
  ·split at h
   ·rename_i v s1 hc;obtain⟨a,ha⟩:=Eo hG hc;obtain⟨b,hb⟩:=ih h;refine⟨max a b,?_⟩;rw[wL (hG.up _ _ (oT a b)) ha];exact y7 (hG.up _ _ (Nat.le_max_right a b)) hb
   ·cases h
  ·exact ih h
  ·cases h
theorem JX(hG:z8 Fn G):∀ {l:List Step} {s s' :Vs} {ah:List (Nat×Rk)},bU M Q G l s ah=some s'→∃ n,bU M Q (Fn n) l s ah=some s' :=by
 intro l
 induction l with
 |nil=>intro s s' ah h;exact⟨0,h⟩
 |cons x r ih=>
  intro s s' ah h;cases x with
  |small i o=>
   simp only[bU]at h⊢;split at h
   ·split at h
    ·rename_i v s1 hc;obtain⟨a,ha⟩:=Eo hG hc;have fin:∀ {s2:Vs} {ah:List (Nat×Rk)},bU M Q G r s2 ah=some s'→∃ n,kD M Q (Fn n) s o.dst o.op=some (v,s1)∧bU M Q (Fn n) r s2 ah=some s' :=fun h=>by
      obtain⟨b,hb⟩:=ih h;exact⟨max a b,wL (hG.up _ _ (oT a b)) ha,wQ (hG.up _ _ (Nat.le_max_right a b)) hb⟩
     split at h
     ·obtain⟨n,h1,h2⟩:=fin h;exact⟨n,by rw[h1];exact h2⟩
     ·obtain⟨n,h1,h2⟩:=fin h;exact⟨n,by rw[h1];exact h2⟩
     ·cases h
    ·cases h
   ·exact ih h
   ·cases h
  |aZ i o=>
   simp only[bU]at h⊢;split at h
   ·split at h
    ·rename_i v s1 hc;obtain⟨hb,h⟩:=aM h;obtain⟨a,ha⟩:=Eo hG hc;obtain⟨b,hb2⟩:=ih h;obtain⟨c,hc2⟩:=Wh hG hb;refine⟨max (max a b) c,?_⟩;rw[wL (hG.up _ _ (Nat.le_trans (oT a b) (oT (max a b) c))) ha];simp only[OY (Di (hG.up _ _ (Nat.le_max_right (max a b) c))) hc2,cond_true];exact wQ (hG.up _ _ (Nat.le_trans (Nat.le_max_right a b) (oT (max a b) c))) hb2
    ·cases h
   ·exact ih h
   ·cases h
end
section
variable{VF:Nat→Option az}{M:oV}{Q:mE}{Pm:XH}
theorem r7{K K' :Ex→Vs→Prop}(hK:∀ ex t,K ex t→K' ex t){o:Option Vs}(h:iy K o):iy K' o:=by
 cases o with
 |none=>exact h
 |some t=>exact hK _ _ h
theorem y9{K:Ex→Vs→Prop}{o o' :Option Vs}(ho:∀ t,o=some t→o' =some t)(h:iy K o):iy K o' :=by
 cases o with
 |none=>exact h.elim
 |some t=>rw[ho t rfl];exact h
theorem A1{s:Vs}{dst:Option Nat}{q j since:Nat}{seen:List Nat}{clock:Nat}{k k' :Vs→Prop}(hk:∀ t,k t→k' t){c:Option (U×U×Nat)}(h:HA s dst q j since seen clock k c):HA s dst q j since seen clock k' c:=by
 cases c<;>exact hk _ h
theorem nh{s:Vs}{dst:Option Nat}{x:bH}{k k' :Vs→Prop}(hk:∀ t,k t→k' t)(h:iu s dst x k):iu s dst x k' :=by
 unfold iu at h⊢;split at h<;>try exact h.elim
 split at h<;>try exact h.elim
 ·exact hk _ h
 ·split at h<;>try exact h.elim
  exact⟨h.1,fun c hc=>A1 hk (h.2 c hc)⟩
theorem NX{s:Vs}{dst:Option Nat}{x:bH}{k k' :Vs→Prop}(h:iu s dst x k)(h' :iu s dst x k'):iu s dst x fun t=>k t∧k' t:=by
 unfold iu at h h'⊢;split at h<;>try exact h.elim
 rename_i q hx;simp only[hx]at h';split at h<;>try exact h.elim
 ·rename_i hq;simp only[hq]at h';exact⟨h,h'⟩
 ·rename_i hq;simp only[hq]at h';split at h<;>try exact h.elim
  rename_i hm;simp only[hm]at h';refine⟨h.1,fun c hc=> ?_⟩;have a:=h.2 c hc;have b:=h'.2 c hc;cases c<;>exact⟨a,b⟩
theorem O4(es:List (U×U×Nat))(since:Nat)(seen:List Nat):∃ c,c∈td es since seen:=by
 unfold td;simp only;cases h:(List.filter (fun e=>Nat.blt e.2.2 since) (List.filter (fun e=> !seen.contains e.2.2) es))with
 |nil=>exact⟨none,by simp⟩
 |cons a r=>exact⟨some a,by simp⟩
theorem P4{s:Vs}{dst:Option Nat}{x:bH}{k:Vs→Prop}(h:iu s dst x k):∃ t,k t:=by
 unfold iu at h;split at h<;>try exact h.elim
 split at h<;>try exact h.elim
 ·exact⟨_,h⟩
 ·split at h<;>try exact h.elim
  rename_i j since seen last _ _ es clock _;obtain⟨c,hc⟩:=O4 es since seen;have:=h.2 c hc;cases c<;>exact⟨_,this⟩
theorem PR{α:Type}{Q:α→Nat→Prop}(hm:∀ i a b,a≤b→Q i a→Q i b):∀ {l:List α},(∀ i∈l,∃ m,Q i m)→∃ m,∀ i∈l,Q i m:=by
 intro l
 induction l with
 |nil=>intro _;exact⟨0,fun i hi=>by cases hi⟩
 |cons a l ih=>
  intro h;obtain⟨m,h1⟩:=ih fun i hi=>h i (gB _ hi);obtain⟨k,h2⟩:=h a eU;refine⟨max m k,fun i hi=> ?_⟩;rcases dM.1 hi with rfl|hi
  ·exact hm _ _ _ (Nat.le_max_right _ _) h2
  ·exact hm _ _ _ (oT _ _) (h1 i hi)
theorem A2{s:Vs}{dst:Option Nat}{x:bH}{k:Nat→Vs→Prop}(hk:∀ a b t,a≤b→k a t→k b t)(h:iu s dst x fun t=>∃ m,k m t):∃ m,iu s dst x (k m):=by
 unfold iu at h;split at h<;>try exact h.elim
 rename_i q hx;split at h<;>try exact h.elim
 ·rename_i since seen last hq;obtain⟨m,hm⟩:=h;exact⟨m,by unfold iu;simp only[hx,hq];exact hm⟩
 ·rename_i j since seen last hq;split at h<;>try exact h.elim
  rename_i es clock hj;obtain⟨h1,h2⟩:=h;obtain⟨m,hm⟩:=PR (Q:=fun c m=>HA s dst q j since seen clock (k m) c) (fun c a b hab hh=>A1 (fun t ht=>hk a b t hab ht) hh) (fun c hc=>by
   have:=h2 c hc;cases c with
   |none=>exact this
   |some e=>exact this)
  exact⟨m,by unfold iu;simp only[hx,hq,hj];exact⟨h1,hm⟩⟩
theorem zb{F F' :FU}(hF:vX F F'){K K' :Ex→Vs→Prop}(hK:∀ ex t,K ex t→K' ex t){s:Vs}{ops:List aF}(h:jT M Q F s K ops):jT M Q F' s K' ops:=by
 unfold jT at h⊢;split at h
 ·exact nh (fun t ht=>r7 hK (y9 (fun t h=>y7 hF h) ht)) h
 ·exact r7 hK (y9 (fun t h=>y7 hF h) h)
theorem uf{F F' :FU}(hF:vX F F'){K K' :Ex→Vs→Prop}(hK:∀ ex t,K ex t→K' ex t){s:Vs}{l:Option (List Step)}(h:kW M Q F s K l):kW M Q F' s K' l:=by
 cases l with
 |none=>exact h.elim
 |some l=>exact r7 hK (y9 (fun t h=>wQ hF h) h)
theorem nL{fn:az}{id n:Nat}{K K' :Ex→Vs→Prop}(hK:∀ ex t,K ex t→K' ex t){ex:Ex}{t:Vs}(h:kB fn id n K ex t):kB fn id n K' ex t:=by
 cases ex with
 |normal=>exact hK _ _ h
 |ret=>exact hK _ _ h
 |exit i=>
  simp only[kB]at h⊢;cases hb:Nat.beq i id with
  |true=>rw[hb]at h;exact hK _ _ h
  |false=>rw[hb]at h;exact hK _ _ h
theorem Jn{fn:az}{id n:Nat}{K K' :Ex→Vs→Prop}{ex:Ex}{t:Vs}(h:kB fn id n K ex t)(h' :kB fn id n K' ex t):kB fn id n (fun ex t=>K ex t∧K' ex t) ex t:=by
 cases ex with
 |normal=>exact⟨h,h'⟩
 |ret=>exact⟨h,h'⟩
 |exit i=>
  simp only[kB]at h h'⊢;cases hb:Nat.beq i id with
  |true=>rw[hb]at h h';exact⟨h,h'⟩
  |false=>rw[hb]at h h';exact⟨h,h'⟩
theorem PG{fn:az}{id n:Nat}{K:Ex→Vs→Prop}{ex:Ex}{t:Vs}(h:kB fn id n K ex t):∃ ex t,K ex t:=by
 cases ex with
 |normal=>exact⟨_,_,h⟩
 |ret=>exact⟨_,_,h⟩
 |exit i=>
  simp only[kB]at h;cases hb:Nat.beq i id with
  |true=>rw[hb]at h;exact⟨_,_,h⟩
  |false=>rw[hb]at h;exact⟨_,_,h⟩
theorem PF{fn:az}{id n:Nat}{K:Nat→Ex→Vs→Prop}{ex:Ex}{t:Vs}(h:kB fn id n (fun ex t=>∃ m,K m ex t) ex t):∃ m,kB fn id n (K m) ex t:=by
 cases ex with
 |normal=>exact h
 |ret=>exact h
 |exit i=>
  simp only[kB]at h⊢;cases hb:Nat.beq i id with
  |true=>rw[hb]at h;exact h
  |false=>rw[hb]at h;exact h
theorem Qk{F:FU}{K K' :Ex→Vs→Prop}{s:Vs}{ops:List aF}(h:jT M Q F s K ops)(h' :jT M Q F s K' ops):jT M Q F s (fun ex t=>K ex t∧K' ex t) ops:=by
 have key:∀ o:Option Vs,iy K o→iy K' o→iy (fun ex t=>K ex t∧K' ex t) o:=fun o h h' =>by
  cases o with
  |none=>exact h.elim
  |some u=>exact⟨h,h'⟩
 cases ops with
 |nil=>exact key (gx M Q F [] s) h h'
 |cons o r=>
  obtain⟨dst,op,g,p⟩:=o;cases op with
  |next x=>
   cases g with
   |none=>
    have h1:iu s dst x fun t=>iy K (gx M Q F r t):=h;have h2:iu s dst x fun t=>iy K' (gx M Q F r t):=h';have h3:iu s dst x fun t=>iy (fun ex t=>K ex t∧K' ex t) (gx M Q F r t):=nh (fun t ht=>key _ ht.1 ht.2) (NX h1 h2);exact h3
   |some g=>exact key _ h h'
  |_=>exact key _ h h'
theorem jo:∀ n,(∀ {fn:az} {c:aj} {s:Vs} {K K' :Ex→Vs→Prop},(∀ ex t,K ex t→K' ex t)→vC VF M Q Pm n fn c s K→vC VF M Q Pm n fn c s K')∧
  ∀ {fn:az} {id:Nat} {b:aj} {m:Nat} {s:Vs} {K K' :Ex→Vs→Prop},(∀ ex t,K ex t→K' ex t)→vL VF M Q Pm n fn id b m s K→vL VF M Q Pm n fn id b m s K' :=by
 intro n
 induction n with
 |zero=>exact⟨fun _ h=>by simp[vC]at h,fun _ h=>by simp[vL]at h⟩
 |succ n ih=>
  obtain⟨ihC,ihL⟩:=ih;refine⟨fun {fn c s K K'} hK h=> ?_,fun {fn id b m s K K'} hK h=> ?_⟩
  ·cases c with
   |skip=>exact hK _ _ h
   |ret=>exact hK _ _ h
   |exit i=>exact hK _ _ h
   |region ops=>exact zb (fun _ _ _ _ _ h=>h) hK h
   |draw ops=>exact uf (fun _ _ _ _ _ h=>h) hK h
   |seq a b=>
    simp only[vC]at h⊢;refine ihC (fun ex t ht=> ?_) h;cases ex with
    |normal=>exact ihC hK ht
    |ret=>exact hK _ _ ht
    |exit i=>exact hK _ _ ht
   |cond x a b=>
    simp only[vC]at h⊢;split at h<;>try exact h.elim
    ·rename_i hx;(try simp only[hx]);exact ihC hK h
    ·rename_i hx;(try simp only[hx]);exact ihC hK h
   |block id b=>
    cases b with
    |loop b=>simp only[vC]at h⊢;exact ihL hK h
    |_=>simp only[vC]at h⊢;exact ihC (fun ex t ht=>nL hK ht) h
   |loop b=>simp[vC]at h
   |bad=>simp[vC]at h
   |uD a b=>simp[vC]at h
  ·simp only[vL]at h⊢;refine ihC (fun ex t ht=> ?_) h;cases ex with
   |normal=>exact ihL hK ht
   |ret=>exact nL hK ht
   |exit i=>exact nL hK ht
theorem qgp:∀ n,(∀ {fn:az} {c:aj} {s:Vs} {K K' :Ex→Vs→Prop},vC VF M Q Pm n fn c s K→vC VF M Q Pm n fn c s K'→vC VF M Q Pm n fn c s fun ex t=>K ex t∧K' ex t)∧
  ∀ {fn:az} {id:Nat} {b:aj} {m:Nat} {s:Vs} {K K' :Ex→Vs→Prop},vL VF M Q Pm n fn id b m s K→vL VF M Q Pm n fn id b m s K'→vL VF M Q Pm n fn id b m s fun ex t=>K ex t∧K' ex t:=by
 intro n
 induction n with
 |zero=>exact⟨fun h _=>by simp[vC]at h,fun h _=>by simp[vL]at h⟩
 |succ n ih=>
  obtain⟨ihC,ihL⟩:=ih;have mC:=fun {fn c s K K'}=>(jo (VF:=VF) (M:=M) (Q:=Q) (Pm:=Pm) n).1 (fn:=fn) (c:=c) (s:=s) (K:=K) (K' :=K');refine⟨fun {fn c s K K'} h h' => ?_,fun {fn id b m s K K'} h h' => ?_⟩
  ·cases c with
   |skip=>exact⟨h,h'⟩
   |ret=>exact⟨h,h'⟩
   |exit i=>exact⟨h,h'⟩
   |region ops=>
    have h:jT M Q (vF VF M Q Pm n) s K ops:=h;have h' :jT M Q (vF VF M Q Pm n) s K' ops:=h';exact Qk h h'
   |draw ops=>
    have h:kW M Q (vF VF M Q Pm n) s K (sched (ops.length+1) (bt ops 0) 0):=h;have h' :kW M Q (vF VF M Q Pm n) s K' (sched (ops.length+1) (bt ops 0) 0):=h';show kW M Q (vF VF M Q Pm n) s _ (sched (ops.length+1) (bt ops 0) 0);generalize sched (ops.length+1) (bt ops 0) 0=l at h h'⊢;cases l with
    |none=>exact h.elim
    |some l=>
     simp only[kW]at h h'⊢;generalize bU M Q (vF VF M Q Pm n) l s []=o at h h'⊢;cases o with
     |none=>exact h.elim
     |some u=>exact⟨h,h'⟩
   |seq a b=>
    simp only[vC]at h h'⊢;refine mC (fun ex t ht=> ?_) (ihC h h');cases ex with
    |normal=>exact ihC ht.1 ht.2
    |ret=>exact ht
    |exit i=>exact ht
   |cond x a b=>
    simp only[vC]at h h'⊢;split at h<;>try exact h.elim
    ·rename_i hx;(try simp only[hx]at h');(try simp only[hx]);exact ihC h h'
    ·rename_i hx;(try simp only[hx]at h');(try simp only[hx]);exact ihC h h'
   |block id b=>
    cases b with
    |loop b=>simp only[vC]at h h'⊢;exact ihL h h'
    |_=>simp only[vC]at h h'⊢;exact mC (fun ex t ht=>Jn ht.1 ht.2) (ihC h h')
   |loop b=>simp[vC]at h
   |bad=>simp[vC]at h
   |uD a b=>simp[vC]at h
  ·simp only[vL]at h h'⊢;refine mC (fun ex t ht=> ?_) (ihC h h');cases ex with
   |normal=>exact ihL ht.1 ht.2
   |ret=>exact Jn ht.1 ht.2
   |exit i=>exact Jn ht.1 ht.2
theorem qiH:∀ n,(∀ {fn:az} {c:aj} {s:Vs} {K:Ex→Vs→Prop},vC VF M Q Pm n fn c s K→∃ ex t,K ex t)∧
  ∀ {fn:az} {id:Nat} {b:aj} {m:Nat} {s:Vs} {K:Ex→Vs→Prop},vL VF M Q Pm n fn id b m s K→∃ ex t,K ex t:=by
 intro n
 induction n with
 |zero=>exact⟨fun h=>by simp[vC]at h,fun h=>by simp[vL]at h⟩
 |succ n ih=>
  obtain⟨ihC,ihL⟩:=ih;have reg:∀ {K:Ex→Vs→Prop} {o:Option Vs},iy K o→∃ ex t,K ex t:=fun {K o} h=>by
   cases o with
   |none=>exact h.elim
   |some u=>exact⟨_,_,h⟩
  refine⟨fun {fn c s K} h=> ?_,fun {fn id b m s K} h=> ?_⟩
  ·cases c with
   |skip=>exact⟨_,_,h⟩
   |ret=>exact⟨_,_,h⟩
   |exit i=>exact⟨_,_,h⟩
   |region ops=>
    have h:jT M Q (vF VF M Q Pm n) s K ops:=h;unfold jT at h;split at h
    ·obtain⟨t,ht⟩:=P4 h;exact reg ht
    ·exact reg h
   |draw ops=>
    have h:kW M Q (vF VF M Q Pm n) s K (sched (ops.length+1) (bt ops 0) 0):=h;generalize sched (ops.length+1) (bt ops 0) 0=l at h;cases l with
    |none=>exact h.elim
    |some l=>exact reg h
   |seq a b=>
    simp only[vC]at h;obtain⟨ex,t,ht⟩:=ihC h;cases ex with
    |normal=>exact ihC ht
    |ret=>exact⟨_,_,ht⟩
    |exit i=>exact⟨_,_,ht⟩
   |cond x a b=>
    simp only[vC]at h;split at h<;>try exact h.elim
    ·exact ihC h
    ·exact ihC h
   |block id b=>
    cases b with
    |loop b=>simp only[vC]at h;exact ihL h
    |_=>simp only[vC]at h;obtain⟨ex,t,ht⟩:=ihC h;exact PG ht
   |loop b=>simp[vC]at h
   |bad=>simp[vC]at h
   |uD a b=>simp[vC]at h
  ·simp only[vL]at h;obtain⟨ex,t,ht⟩:=ihC h;cases ex with
   |normal=>exact ihL ht
   |ret=>exact PG ht
   |exit i=>exact PG ht
theorem Vr{n:Nat}{fn:az}{c:aj}{s:Vs}{k:Nat}{R R' :U×List Uo×Nat}(h:vC VF M Q Pm n fn c s (kE k fn R))(h' :vC VF M Q Pm n fn c s (kE k fn R')):R=R' :=by
 obtain⟨ex,t,h1,h2⟩:=(qiH n).1 ((qgp n).1 h h');cases ex with
 |exit i=>exact h1.elim
 |normal=>simp only[kE]at h1 h2;rw[h1]at h2;simpa using h2
 |ret=>simp only[kE]at h1 h2;rw[h1]at h2;simpa using h2
theorem L0{α:Type}{P:α→Prop}{x:α}(hx:P x)(hu:∀ y,P y→x=y):pick P=some x:=by
 unfold pick;have hh:∃ x,P x:=⟨x,hx⟩;rw[dif_pos hh];exact congrArg some (hu _ hh.choose_spec).symm
theorem Li:∀ n,vX (vF VF M Q Pm n) (vF VF M Q Pm (n+1))∧(∀ {fn:az} {c:aj} {s:Vs} {K:Ex→Vs→Prop},vC VF M Q Pm n fn c s K→vC VF M Q Pm (n+1) fn c s K)∧
  ∀ {fn:az} {id:Nat} {b:aj} {m:Nat} {s:Vs} {K:Ex→Vs→Prop},vL VF M Q Pm n fn id b m s K→vL VF M Q Pm (n+1) fn id b m s K:=by
 intro n
 induction n with
 |zero=>exact⟨fun f us h fl R hh=>by simp[vF]at hh,fun h=>by simp[vC]at h,fun h=>by simp[vL]at h⟩
 |succ n ih=>
  obtain⟨ihF,ihC,ihL⟩:=ih;refine⟨fun f us h fl R hh=> ?_,fun {fn c s K} h=> ?_,fun {fn id b m s K} h=> ?_⟩
  ·rw[vF]at hh⊢;split at hh
   ·rename_i p hp;(try simp only[hp]);exact hh
   ·rename_i hp
    (try simp only[hp])
    split at hh
    ·cases hh
    ·rename_i fn hfn
     (try simp only[hfn])
     obtain⟨hb,hh⟩:=aM hh;rw[hb];simp only[cond_true];have h1:=ihC (Dx (P:=fun R=>vC VF M Q Pm n fn fn.body ⟨lT us 0,h,fl⟩ (kE h.length fn R)) hh);exact L0 h1 fun y hy=>Vr h1 hy
  ·cases c with
   |skip=>exact h
   |ret=>exact h
   |exit i=>exact h
   |region ops=>exact zb ihF (fun _ _ h=>h) h
   |draw ops=>exact uf ihF (fun _ _ h=>h) h
   |seq a b=>
    rw[vC]at h⊢;refine ihC ((jo n).1 (fun ex t ht=> ?_) h);cases ex with
    |normal=>exact ihC ht
    |ret=>exact ht
    |exit i=>exact ht
   |cond x a b=>
    rw[vC]at h⊢;split at h<;>try exact h.elim
    ·rename_i hx;(try simp only[hx]);exact ihC h
    ·rename_i hx;(try simp only[hx]);exact ihC h
   |block id b=>
    cases b with
    |loop b=>simp only[vC]at h⊢;exact ihL h
    |_=>simp only[vC]at h;first|(simp only[vC]at h⊢;exact ihC h)|exact ihC h
   |loop b=>simp[vC]at h
   |bad=>simp[vC]at h
   |uD a b=>simp[vC]at h
  ·rw[vL]at h⊢;refine ihC ((jo n).1 (fun ex t ht=> ?_) h);cases ex with
   |normal=>exact ihL ht
   |ret=>exact ht
   |exit i=>exact ht
theorem Iy{n m:Nat}(h:n≤m):vX (vF VF M Q Pm n) (vF VF M Q Pm m):=by
 induction h with
 |refl=>exact fun _ _ _ _ _ h=>h
 |step _ ih=>exact fun f us h fl R hh=>(Li _).1 _ _ _ _ _ (ih _ _ _ _ _ hh)
theorem qac{n m:Nat}(h:n≤m){fn:az}{c:aj}{s:Vs}{K:Ex→Vs→Prop}(hx:vC VF M Q Pm n fn c s K):vC VF M Q Pm m fn c s K:=by
 induction h with
 |refl=>exact hx
 |step _ ih=>exact(Li _).2.1 ih
theorem qad{n m:Nat}(h:n≤m){fn:az}{id:Nat}{b:aj}{k:Nat}{s:Vs}{K:Ex→Vs→Prop}(hx:vL VF M Q Pm n fn id b k s K):vL VF M Q Pm m fn id b k s K:=by
 induction h with
 |refl=>exact hx
 |step _ ih=>exact(Li _).2.2 ih
theorem Vt:∀ n,(∀ {fn:az} {c:aj} {s:Vs} {K:Nat→Ex→Vs→Prop},(∀ a b ex t,a≤b→K a ex t→K b ex t)→vC VF M Q Pm n fn c s (fun ex t=>∃ m,K m ex t)→∃ m,n≤m∧vC VF M Q Pm m fn c s (K m))∧
  ∀ {fn:az} {id:Nat} {b:aj} {k:Nat} {s:Vs} {K:Nat→Ex→Vs→Prop},(∀ a b ex t,a≤b→K a ex t→K b ex t)→vL VF M Q Pm n fn id b k s (fun ex t=>∃ m,K m ex t)→∃ m,n≤m∧vL VF M Q Pm m fn id b k s (K m):=by
 intro n
 induction n with
 |zero=>exact⟨fun _ h=>by simp[vC]at h,fun _ h=>by simp[vL]at h⟩
 |succ n ih=>
  obtain⟨ihC,ihL⟩:=ih;refine⟨fun {fn c s K} hK h=> ?_,fun {fn id b k s K} hK h=> ?_⟩
  ·have up:∀ {m:Nat},n≤m→vC VF M Q Pm (m+1) fn c s (K m)→∃ m,n+1≤m∧vC VF M Q Pm m fn c s (K m):=fun {m} hm h=>
    ⟨m+1,by omega,(jo _).1 (fun ex t ht=>hK _ _ _ _ (Nat.le_succ _) ht) h⟩
   have now:∀ {ex t},(∃ m,K m ex t)→∃ m,n≤m∧K m ex t:=fun⟨m,hm⟩=>⟨max n m,oT _ _,hK _ _ _ _ (Nat.le_max_right _ _) hm⟩;have reg:∀ {o:Option Vs},iy (fun ex t=>∃ m,K m ex t) o→∃ m,n≤m∧iy (K m) o:=fun {o} h=>by
    cases o with
    |none=>exact h.elim
    |some u=>exact now h
   have regm:∀ a b (o:Option Vs),a≤b→iy (K a) o→iy (K b) o:=fun a b o hab h=>r7 (fun ex t ht=>hK a b ex t hab ht) h;cases c with
   |skip=>obtain⟨m,h1,h2⟩:=now h;exact up h1 h2
   |ret=>obtain⟨m,h1,h2⟩:=now h;exact up h1 h2
   |exit i=>obtain⟨m,h1,h2⟩:=now h;exact up h1 h2
   |region ops=>
    have h:jT M Q (vF VF M Q Pm n) s (fun ex t=>∃ m,K m ex t) ops:=h;have key:∃ m,n≤m∧jT M Q (vF VF M Q Pm n) s (K m) ops:=by
     unfold jT at h⊢;split at h
     ·obtain⟨m,hm⟩:=A2 (k:=fun m t=>iy (K m) (gx M Q (vF VF M Q Pm n) _ t)) (fun a b t hab ht=>regm a b _ hab ht) (nh (fun t ht=>let⟨m,_,hm⟩:=reg ht;⟨m,hm⟩) h);exact⟨max n m,oT _ _,nh (fun t ht=>regm _ _ _ (Nat.le_max_right _ _) ht) hm⟩
     ·rename_i hno;obtain⟨m,h1,h2⟩:=reg h;exact⟨m,h1,h2⟩
    obtain⟨m,h1,h2⟩:=key;exact up h1 (zb (Iy h1) (fun _ _ h=>h) h2)
   |draw ops=>
    have h:kW M Q (vF VF M Q Pm n) s (fun ex t=>∃ m,K m ex t) (sched (ops.length+1) (bt ops 0) 0):=h;have key:∃ m,n≤m∧kW M Q (vF VF M Q Pm n) s (K m) (sched (ops.length+1) (bt ops 0) 0):=by
     generalize sched (ops.length+1) (bt ops 0) 0=l at h⊢;cases l with
     |none=>exact h.elim
     |some l=>exact reg h
    obtain⟨m,h1,h2⟩:=key;exact up h1 (uf (Iy h1) (fun _ _ h=>h) h2)
   |seq a b=>
    rw[vC]at h;obtain⟨m,h1,h2⟩:=ihC (K:=fun m ex t=>match ex with| .normal=>vC VF M Q Pm m fn b t (K m)|ex=>K m ex t) (fun x y ex t hxy ht=>by
     cases ex with
     |normal=>exact(jo _).1 (fun ex t ht=>hK _ _ _ _ hxy ht) (qac hxy ht)
     |ret=>exact hK _ _ _ _ hxy ht
     |exit i=>exact hK _ _ _ _ hxy ht) ((jo n).1 (fun ex t ht=>by
     cases ex with
     |normal=>obtain⟨m,_,hm⟩:=ihC hK ht;exact⟨m,hm⟩
     |ret=>exact ht
     |exit i=>exact ht) h)
    exact up h1 (by rw[vC];exact h2)
   |cond x a b=>
    rw[vC]at h;split at h<;>try exact h.elim
    ·rename_i hx;obtain⟨m,h1,h2⟩:=ihC hK h;exact up h1 (by rw[vC];simp only[hx];exact h2)
    ·rename_i hx;obtain⟨m,h1,h2⟩:=ihC hK h;exact up h1 (by rw[vC];simp only[hx];exact h2)
   |block id b=>
    have blk:∀ {b:aj},vC VF M Q Pm n fn b s (kB fn id s.h.length fun ex t=>∃ m,K m ex t)→∃ m,n≤m∧vC VF M Q Pm m fn b s (kB fn id s.h.length (K m)):=fun {b} h=>
     ihC (K:=fun m=>kB fn id s.h.length (K m)) (fun x y ex t hxy ht=>nL (fun ex t ht=>hK _ _ _ _ hxy ht) ht) ((jo n).1 (fun ex t ht=>PF ht) h)
    cases b with
    |loop b=>simp only[vC]at h;obtain⟨m,h1,h2⟩:=ihL hK h;exact up h1 (by simp only[vC];exact h2)
    |_=>simp only[vC]at h;obtain⟨m,h1,h2⟩:=blk h;exact up h1 (by simp only[vC];exact h2)
   |loop b=>simp[vC]at h
   |bad=>simp[vC]at h
   |uD a b=>simp[vC]at h
  ·rw[vL]at h;obtain⟨m,h1,h2⟩:=ihC (K:=fun m ex t=>match ex with| .normal=>vL VF M Q Pm m fn id b k (keep (fn.head id) k t) (K m)|ex=>kB fn id k (K m) ex t) (fun x y ex t hxy ht=>by
    cases ex with
    |normal=>exact(jo _).2 (fun ex t ht=>hK _ _ _ _ hxy ht) (qad hxy ht)
    |ret=>exact nL (fun ex t ht=>hK _ _ _ _ hxy ht) ht
    |exit i=>exact nL (fun ex t ht=>hK _ _ _ _ hxy ht) ht) ((jo n).1 (fun ex t ht=>by
    cases ex with
    |normal=>obtain⟨m,_,hm⟩:=ihL hK ht;exact⟨m,hm⟩
    |ret=>exact PF ht
    |exit i=>exact PF ht) h)
   exact⟨m+1,by omega,by rw[vL];exact(jo _).1 (fun ex t ht=>by
    cases ex with
    |normal=>exact(jo _).2 (fun ex t ht=>hK _ _ _ _ (Nat.le_succ _) ht) ht
    |ret=>exact nL (fun ex t ht=>hK _ _ _ _ (Nat.le_succ _) ht) ht
    |exit i=>exact nL (fun ex t ht=>hK _ _ _ _ (Nat.le_succ _) ht) ht) h2⟩
variable(VF M Q Pm)
noncomputable def gF:FU:=fun f us h fl=>sup fun n=>vF VF M Q Pm n f us h fl
def gC(fn:az)(c:aj)(s:Vs)(K:Ex→Vs→Prop):Prop:=∃ n,vC VF M Q Pm n fn c s K
def gL(fn:az)(id:Nat)(b:aj)(k:Nat)(s:Vs)(K:Ex→Vs→Prop):Prop:=∃ n,vL VF M Q Pm n fn id b k s K
variable{VF M Q Pm}
theorem G4:z8 (vF VF M Q Pm) (gF VF M Q Pm):=⟨fun n m h=>Iy h,fun f us h fl R=>Xn (fun n m x hnm hx=>Iy hnm _ _ _ _ _ hx)⟩
theorem Pw{C:Nat→Option b8}(T:kS C M VF Q Pm):Vz (cZ C M) (gF VF M Q Pm):=by
 intro f us h fl r h' fl' hh;obtain⟨n,hn⟩:=(G4.lim _ _ _ _ _).1 hh;exact(sound T n).1 f us h fl r h' fl' hn
variable{fn:az}{s:Vs}{K:Ex→Vs→Prop}
@[simp] theorem qgG:gC VF M Q Pm fn .skip s K=K .normal s:=propext ⟨fun⟨n,h⟩=>by cases n with|zero=>simp[vC]at h|succ n=>exact h,fun h=>⟨1,h⟩⟩
@[simp] theorem qhv:gC VF M Q Pm fn .ret s K=K .ret s:=propext ⟨fun⟨n,h⟩=>by cases n with|zero=>simp[vC]at h|succ n=>exact h,fun h=>⟨1,h⟩⟩
@[simp] theorem qgF{i:Nat}:gC VF M Q Pm fn (.exit i) s K=K (.exit i) s:=propext ⟨fun⟨n,h⟩=>by cases n with|zero=>simp[vC]at h|succ n=>exact h,fun h=>⟨1,h⟩⟩
theorem HM{ops:List aF}(h:iy K (gx M Q (gF VF M Q Pm) ops s)):∃ n,iy K (gx M Q (vF VF M Q Pm n) ops s):=by
 cases ho:gx M Q (gF VF M Q Pm) ops s with
 |none=>rw[ho]at h;exact h.elim
 |some t=>rw[ho]at h;obtain⟨n,hn⟩:=Qd G4 ho;exact⟨n,by rw[hn];exact h⟩
theorem NM{ops:List aF}:gC VF M Q Pm fn (.region ops) s K=jT M Q (gF VF M Q Pm) s K ops:=by
 refine propext ⟨fun⟨n,h⟩=> ?_,fun h=> ?_⟩
 ·cases n with
  |zero=>simp[vC]at h
  |succ n=>exact zb (G4.le n) (fun _ _ h=>h) h
 ·have key:∃ n,jT M Q (vF VF M Q Pm n) s K ops:=by
   unfold jT at h⊢;split at h
   ·exact A2 (k:=fun m t=>iy K (gx M Q (vF VF M Q Pm m) _ t)) (fun a b t hab ht=>y9 (fun t h=>y7 (Iy hab) h) ht) (nh (fun t ht=>HM ht) h)
   ·exact HM h
  obtain⟨n,hn⟩:=key;exact⟨n+1,hn⟩
theorem WE{ops:List aF}:gC VF M Q Pm fn (.draw ops) s K=kW M Q (gF VF M Q Pm) s K (sched (ops.length+1) (bt ops 0) 0):=by
 refine propext ⟨fun⟨n,h⟩=> ?_,fun h=> ?_⟩
 ·cases n with
  |zero=>simp[vC]at h
  |succ n=>exact uf (G4.le n) (fun _ _ h=>h) h
 ·have key:∃ n,kW M Q (vF VF M Q Pm n) s K (sched (ops.length+1) (bt ops 0) 0):=by
   generalize sched (ops.length+1) (bt ops 0) 0=l at h⊢;cases l with
   |none=>exact h.elim
   |some l=>
    simp only[kW]at h⊢;cases ho:bU M Q (gF VF M Q Pm) l s []with
    |none=>rw[ho]at h;exact h.elim
    |some t=>rw[ho]at h;obtain⟨n,hn⟩:=JX G4 ho;exact⟨n,by rw[hn];exact h⟩
  obtain⟨n,hn⟩:=key;exact⟨n+1,hn⟩
variable(VF M Q Pm)in
def gy(fn:az)(b:aj)(K:Ex→Vs→Prop)(ex:Ex)(t:Vs):Prop:=
 match ex with
 | .normal=>gC VF M Q Pm fn b t K
 |ex=>K ex t
theorem qaR{a b:aj}:gC VF M Q Pm fn (.seq a b) s K=gC VF M Q Pm fn a s (gy VF M Q Pm fn b K):=by
 refine propext ⟨fun⟨n,h⟩=> ?_,fun⟨n,h⟩=> ?_⟩
 ·cases n with
  |zero=>simp[vC]at h
  |succ n=>
   rw[vC]at h;refine⟨n,(jo n).1 (fun ex t ht=> ?_) h⟩;cases ex with
   |normal=>exact⟨n,ht⟩
   |ret=>exact ht
   |exit i=>exact ht
 ·obtain⟨m,_,hm⟩:=(Vt n).1 (K:=fun m ex t=>match ex with| .normal=>vC VF M Q Pm m fn b t K|ex=>K ex t) (fun x y ex t hxy ht=>by
   cases ex with
   |normal=>exact qac hxy ht
   |ret=>exact ht
   |exit i=>exact ht) ((jo n).1 (fun ex t ht=>by
   cases ex with
   |normal=>exact ht
   |ret=>exact⟨0,ht⟩
   |exit i=>exact⟨0,ht⟩) h)
  exact⟨m+1,by rw[vC];exact hm⟩
variable(VF M Q Pm)in
def O9(fn:az)(a b:aj)(s:Vs)(K:Ex→Vs→Prop):Option U→Prop
 |some (.bool true)=>gC VF M Q Pm fn a s K
 |some (.bool false)=>gC VF M Q Pm fn b s K
 |_=>False
theorem WD{x:bH}{a b:aj}:gC VF M Q Pm fn (.cond x a b) s K=O9 VF M Q Pm fn a b s K (cq s.e x):=by
 refine propext ⟨fun⟨n,h⟩=> ?_,fun h=> ?_⟩
 ·cases n with
  |zero=>simp[vC]at h
  |succ n=>
   rw[vC]at h;split at h<;>try exact h.elim
   ·rename_i hx;(try rw[hx]);exact⟨n,h⟩
   ·rename_i hx;(try rw[hx]);exact⟨n,h⟩
 ·unfold O9 at h;split at h<;>try exact h.elim
  ·rename_i hx;obtain⟨n,h⟩:=h;exact⟨n+1,by rw[vC];(try simp only[hx]);exact h⟩
  ·rename_i hx;obtain⟨n,h⟩:=h;exact⟨n+1,by rw[vC];(try simp only[hx]);exact h⟩
theorem WG{id:Nat}{b:aj}:gC VF M Q Pm fn (.block id (.loop b)) s K=gL VF M Q Pm fn id b s.h.length (keep (fn.head id) s.h.length s) K:=by
 refine propext ⟨fun⟨n,h⟩=> ?_,fun⟨n,h⟩=>⟨n+1,by simp only[vC];exact h⟩⟩;cases n with
 |zero=>simp[vC]at h
 |succ n=>simp only[vC]at h;exact⟨n,h⟩
def aj.Jk:aj→Bool
 | .loop _=>true
 |_=>false
theorem Ix{n id:Nat}{b:aj}(hb:b.Jk=false):vC VF M Q Pm (n+1) fn (.block id b) s K=vC VF M Q Pm n fn b s (kB fn id s.h.length K):=by
 cases b with
 |loop b=>simp[aj.Jk]at hb
 |_=>simp only[vC]
theorem AG{id:Nat}{b:aj}(hb:b.Jk=false):gC VF M Q Pm fn (.block id b) s K=gC VF M Q Pm fn b s (kB fn id s.h.length K):=by
 refine propext ⟨fun⟨n,h⟩=> ?_,fun⟨n,h⟩=>⟨n+1,by rw[Ix hb];exact h⟩⟩;cases n with
 |zero=>simp[vC]at h
 |succ n=>rw[Ix hb]at h;exact⟨n,h⟩
variable(VF M Q Pm)in
def Xb(fn:az)(id:Nat)(b:aj)(k:Nat)(K:Ex→Vs→Prop)(ex:Ex)(t:Vs):Prop:=
 match ex with
 | .normal=>gL VF M Q Pm fn id b k (keep (fn.head id) k t) K
 |ex=>kB fn id k K ex t
theorem ak{id k:Nat}{b b' :aj}(hb:b=b'):gL VF M Q Pm fn id b k s K=gC VF M Q Pm fn b' s (Xb VF M Q Pm fn id b k K):=by
 subst hb;refine propext ⟨fun⟨n,h⟩=> ?_,fun⟨n,h⟩=> ?_⟩
 ·cases n with
  |zero=>simp[vL]at h
  |succ n=>
   rw[vL]at h;refine⟨n,(jo n).1 (fun ex t ht=> ?_) h⟩;cases ex with
   |normal=>exact⟨n,ht⟩
   |ret=>exact ht
   |exit i=>exact ht
 ·obtain⟨m,_,hm⟩:=(Vt n).1 (K:=fun m ex t=>match ex with| .normal=>vL VF M Q Pm m fn id b k (keep (fn.head id) k t) K|ex=>kB fn id k K ex t) (fun x y ex t hxy ht=>by
   cases ex with
   |normal=>exact qad hxy ht
   |ret=>exact ht
   |exit i=>exact ht) ((jo n).1 (fun ex t ht=>by
   cases ex with
   |normal=>exact ht
   |ret=>exact⟨0,ht⟩
   |exit i=>exact⟨0,ht⟩) h)
  exact⟨m+1,by rw[vL];exact hm⟩
theorem G3{f:Nat}{us:List U}{h:List Uo}{fl:Nat}{R:U×List Uo×Nat}(hp:Pm f=none)(hf:VF f=some fn)(ha:Nat.ble us.length fn.ntmps=true)(hR:gC VF M Q Pm fn fn.body ⟨lT us 0,h,fl⟩ (kE h.length fn R)):gF VF M Q Pm f us h fl=some R:=by
 obtain⟨n,hn⟩:=hR;refine(G4.lim _ _ _ _ _).2 ⟨n+1,?_⟩;rw[vF,hp];simp only[hf,ha,cond_true];exact L0 hn fun y hy=>Vr hn hy
theorem yQ{f:Nat}{us:List U}{h:List Uo}{fl:Nat}{p:List U→List Uo→Nat→Option (U×List Uo×Nat)}(hp:Pm f=some p):gF VF M Q Pm f us h fl=p us h fl:=by
 ext x;constructor
 ·intro hh;obtain⟨n,hn⟩:=(G4.lim _ _ _ _ _).1 hh;cases n with
  |zero=>simp[vF]at hn
  |succ n=>rw[vF,hp]at hn;exact hn
 ·intro hh;exact(G4.lim _ _ _ _ _).2 ⟨1,by rw[vF,hp];exact hh⟩
end
end Go.RE
