/- A function that reads a slice of one's own and hands back another one. -/
import Derived.Test.YtmpopachilfinaaGreatPart14
set_option linter.unusedVariables false
set_option linter.unusedSimpArgs false
set_option linter.unnecessarySimpa false
set_option linter.constructorNameAsVariable false
namespace Go.RE
section
variable{C:Nat→Option ck}{M:oW}{VF:Nat→Option aC}{Q:mA}{Pm:XG}{F:FU}
theorem Ok.sg{E:qe}{σ σ2:Sg}{Z:Zs}{ω:Om}{s:Vs}{e:PT V}{st:St}(h:Ok E σ2 Z ω s e st)(hs:∀ i,i<s.h.length→σ2 i=σ i):Ok E σ Z ω s e st:=
 ⟨fun t u hu=>let⟨v,a,b⟩:=h.env t u hu;⟨v,a,TR.mono (aq _) (fun i hi=>(hs i hi).symm) (fun _ _ h=>h) (fun _ _=>rfl) b⟩,fun i o ho=>by
   have hi:=(bn.1 ho).1;rw[←hs i hi];exact OB.mono (aq _) (fun i hi=>(hs i hi).symm) (fun _ _ h=>h) (fun _=>rfl) (h.obj i o ho),h.qm,h.lE,h.fresh,fun i j hi hj he=>h.inj i j hi hj (by rw[hs i hi,hs j hj,he]),h.gJ,fun i g I hi hg=>by rw[←hs i hi];exact h.sw i g I hi hg,fun i hi=>by rw[←hs i hi];exact h.sz i hi,h.wz,fun i hi=>by rw[←hs i hi];exact h.sb i hi,h.zT,h.wc,h.n0,fun i hi=>by rw[←hs i (mb hi h.n0)];exact h.sig i hi,h.zz,h.nx,fun b hb hI=>let⟨o1,o2,o3,o4⟩:=h.out b hb hI;⟨o1,fun i hi=>by rw[←hs i hi];exact o2 i hi,o3,o4⟩,fun i hi=>let⟨g1,g2,g3⟩:=h.wC.1 i hi;⟨g1,g2,by rw[←hs i (mb g1 h.n0)];exact g3⟩,fun i off cs h1 h2=>by
   rw[←hs i (bn.1 h1).1];exact h.wC.2 i off cs h1 h2⟩
theorem NR{f:Nat}{vs:List V}{st:St}{k k' :V→St→Prop}(h:dA C M f vs st k)(h' :dA C M f vs st k'):dA C M f vs st fun v s=>k v s∧k' v s:=by
 obtain⟨n,h⟩:=h;obtain⟨m,h'⟩:=h';exact⟨n+m,C5 _ _ _ _ _ (gZ (Nat.le_add_right n m) (fun _ _ h=>h) h) (gZ (Nat.le_add_left m n) (fun _ _ h=>h) h')⟩
theorem qal(T:lR C M VF Q Pm)(hF:VE (dA C M) F){f:Nat}{fn:aC}(hC:C f=some ⟨fn.ntmps,fn.results,fn.body.er⟩){t:Nat}(hres:fn.results=[.t t]){q:List (List U)→List U→Option (Nat×List (List U))}
  (hq:∀ xs rest w' ys w,q xs rest=some (w',ys)→(∀ r∈xs,r.length=w)→(∀ u∈rest,u.aH=true∧u.low 0=true)∧rest.length+1≤fn.ntmps∧
   (∃ r hh ff,F f (.sl w xs::rest) [] 0=some (r,hh,ff))∧
   gC VF M Q Pm fn fn.body ⟨(0,.own .a w xs)::lM rest 1,[],0⟩ fun ex s=>(∀ i,ex≠.exit i)∧∃ g2,look s.e t=some (.own g2 w' ys)∧g2≠.a):Z9 (dA C M) f q:=by
 intro xs rest w' ys hh E σ Z ω s e st g w v vs d hk hor hlen hr;have hw:∀ r∈xs,r.length=w:=by
  have:=hor;unfold OR at this;split at this
  ·rw[this.1];intro r hr;cases hr
  ·exact this.2.2.2.2.1
 obtain⟨h1,h2,⟨R,hh2,ff,hfz⟩,n,hn⟩:=hq xs rest w' ys w hh hw;have hcell:∀ (j:Nat) u x,rest[j]? =some u→vs[j]? =some x→UR σ Z 0 u x:=fun j u x a b=>by
  have hm:=h1 u (List.mem_of_getElem? a);exact(MA (hr j u x a b) hm.1).low hm.2
 -- frozen:the slice's block stays as it is
 have hlz:∀ b r,oh ω Z b=some r→st.row b=some r:=fun b r hb=>by
  rcases AO hb with h|⟨g',I,a1,a2,a3⟩
  ·exact hk.qm b r h
  ·rw[←a2,a3];exact iT (hk.lE g' I a1)
 have hZl:∀ b r,Z b=some r→oh ω Z b=some r:=fun b r hb=>P7 hk hb;have hvz:UR σ (oh ω Z) 0 (.sl w xs) v:=by
  have:=hor;unfold OR at this;split at this
  ·obtain⟨rfl,hv⟩:=this;rcases hv with rfl|rfl
   ·exact .slnil
   ·exact .y9
  ·rename_i I hI;obtain⟨rfl,_,p3,p4,p5,p6⟩:=this;refine .Bf rfl (Hz hk hI) p5 p3 ?_ fun j u x a b=>((p6.2 j u x a b).mono (aq 0) (fun i hi=>by omega) hZl);have:xs.length*w≤I.cap*w:=lY _ p3;omega
 have hlu:LU σ (oh ω Z) 0 (.sl w xs::rest) (v::vs):=LU.cons hvz ⟨hlen,fun j u x a b=>(hcell j u x a b).mono (aq 0) (fun i hi=>by omega) hZl⟩;have fz:=hF f _ [] 0 _ _ _ hfz σ (oh ω Z) (fun _=>none) st (v::vs) (hk.iso hlz 0) ⟨aq _,fun i o ho=>by simp at ho⟩ (fun _=>rfl) hlu
 -- cZ to be written:the result
 have hnone:∀ x I,(fun x:Tg=>if x=.a then ω g else none) x=some I→x=.a∧ω g=some I:=fun x I hI=>by
  simp only at hI;split at hI
  ·exact⟨‹_›,hI⟩
  ·cases hI
 have hok:Ok ⟨0,σ,fun b=>∃ I,ω g=some I∧I.b=b,Z,st,fun _=>False,(ω g).map nZ.desc,fun _ _=>False⟩ σ Z (fun x=>if x=.a then ω g else none) ⟨(0,.own .a w xs)::lM rest 1,[],0⟩ (cu (v::vs) 0 .e) st:=by
  refine⟨fun t u hu=> ?_,fun i o ho=>by simp at ho,hk.qm,fun x I hI=>hk.lE g I (hnone x I hI).2,hk.fresh,fun i j hi=>by simp at hi,fun x y I J hI hJ _=>by rw[(hnone x I hI).1,(hnone y J hJ).1],fun i x I hi=>by simp at hi,fun i hi=>by simp at hi,fun x I hI=>hk.wz g I (hnone x I hI).2,fun i hi=>by simp at hi,⟨rfl,rfl⟩,fun i off I hI=>(by cases(hnone _ I hI).1),aq _,fun i hi=>by simp at hi,fun b r hb=>hb,aq _,fun b hb hbI=>⟨rfl,fun i hi=>by simp at hi,fun x I hI hbb=>hbI ⟨I,(hnone x I hI).2,hbb⟩,fun r hr=>hr⟩,fun i hi=>False.elim hi,fun i off cs h1=>by simp at h1⟩;simp only[look]at hu;cases hb:Nat.beq 0 t with
  |true=>
   rw[hb]at hu;simp only[cond_true,ai]at hu;have:=bR hb;subst this;subst hu;refine⟨v,by rw[fF,if_pos ⟨dW _,by simp⟩];rfl,OR.to hor (fun _ _ h=>h) rfl,fun i off hh=>by cases hh⟩
  |false=>
   rw[hb]at hu;simp only[cond_false]at hu;obtain⟨ht1,hu2⟩:=wD hu;obtain⟨ht2,_⟩:=bn.1 hu2;have hv:=bP (l:=vs) (i:=t - 1) (by omega);refine⟨vs[t - 1],?_,TR.bB (hcell (t - 1) u _ hu2 hv)⟩;rw[fF,if_pos ⟨dW _,by simp;omega⟩];rw[show t - 0=(t - 1)+1 by omega];simp only[List.getElem?_cons_succ];exact hv
 obtain⟨N,hN⟩:=(sound T n).2.1 hn ⟨⟨aq _,fun i o ho=>by simp at ho⟩,σ,Z,_,hok⟩;have own:dA C M f (v::vs) st fun r st' =>∃ σ' Z' ω' s' e' g2,Ok ⟨0,σ,fun b=>∃ I,ω g=some I∧I.b=b,Z,st,fun _=>False,(ω g).map nZ.desc,fun _ _=>False⟩ σ' Z' ω' s' e' st'∧g2≠Tg.a∧OR σ' Z' ω' g2 w' ys r:=by
  refine⟨N,?_⟩;rw[qv hC (by simp;omega)];refine b9 (aq _) ?_ hN;rintro ex e' st' ⟨s',⟨hne,g2,hlk,hg2⟩,hf',σ',Z',ω',hk'⟩;obtain⟨x,hx,hx2⟩:=hk'.env t _ hlk;have hall:ct e' st' fn.results=some x:=by rw[hres];simp[ct,tI,CN,hx]
  have goal:∃ σ' Z' ω' s' e' g2,Ok ⟨0,σ,fun b=>∃ I,ω g=some I∧I.b=b,Z,st,fun _=>False,(ω g).map nZ.desc,fun _ _=>False⟩ σ' Z' ω' s' e' st'∧g2≠Tg.a∧OR σ' Z' ω' g2 w' ys x:=⟨σ',Z',ω',s',e',g2,hk',hg2,hx2.1⟩;cases ex with
  |exit i=>exact absurd rfl (hne i)
  |normal=>rw[kr];simp only[hall];exact goal
  |ret=>rw[nK];simp only[hall];exact goal
 refine o8 ?_ (NR own fz);rintro r st' ⟨⟨σ',Z',ω',s',e',g2,hk',hg2,hor'⟩,_,σf,Zf,ωf,hkf,_,_⟩;have wa:(ω' .a).map nZ.desc=(ω g).map nZ.desc:=hk'.zT.2;have hJ:∀ I,ω g=some I→∃ J,ω' .a=some J∧J.b=I.b:=fun I hI=>by
  rw[hI]at wa;cases hJ:ω' .a with
  |none=>rw[hJ]at wa;cases wa
  |some J=>
   rw[hJ]at wa;simp only[Option.map_some,ai,nZ.desc,aJ]at wa;exact⟨J,rfl,wa.1⟩
 have hb:Ok ⟨0,σ,fO σ (fun _=>none) 0,Z,st,fun i=>([]:List Uo)[i]? =some .gone,none,jd ([]:List Uo)⟩ σ' Z' (fun x=>if x=.t 0 then ω' g2 else none) ⟨[],[],0⟩ .e st' :=by
  have hn2:∀ x I,(fun x:Tg=>if x=.t 0 then ω' g2 else none) x=some I→x=.t 0∧ω' g2=some I:=fun x I hI=>by
   simp only at hI;split at hI
   ·exact⟨‹_›,hI⟩
   ·cases hI
  refine⟨fun t u hu=>by simp[look]at hu,fun i o ho=>by simp at ho,hk'.qm,fun x I hI=>hk'.lE g2 I (hn2 x I hI).2,hk'.fresh,fun i j hi=>by simp at hi,fun x y I J hI hJ _=>by rw[(hn2 x I hI).1,(hn2 y J hJ).1],fun i x I hi=>by simp at hi,fun i hi=>by simp at hi,fun x I hI=>hk'.wz g2 I (hn2 x I hI).2,fun i hi=>by simp at hi,⟨rfl,rfl⟩,fun i off I hI=>(by cases(hn2 _ I hI).1),aq _,fun i hi=>by simp at hi,hk'.zz,hk'.nx,fun b hb _=> ?_,fun i hi=>by simp at hi,fun i off cs h1=>by simp at h1⟩;by_cases hbI:∃ I,ω g=some I∧I.b=b
  ·obtain⟨I,hI,rfl⟩:=hbI;obtain⟨J,hJ1,hJ2⟩:=hJ I hI;refine⟨?_,fun i hi=>by simp at hi,fun x K hK hKb=> ?_,fun r hr=> ?_⟩
   ·exact(hkf.out I.b (hk.lt_next (hk.lE g I hI)) (by simp[fO])).1
   ·exact hg2 (hk'.gJ _ _ _ _ (hn2 x K hK).2 hJ1 (by rw[hKb,hJ2]))
   ·have:=hk'.wz .a J hJ1;rw[hJ2,hr]at this;cases this
  ·obtain⟨o1,_,o3,o4⟩:=hk'.out b hb hbI;exact⟨o1,fun i hi=>by simp at hi,fun x K hK=>o3 g2 K (hn2 x K hK).2,o4⟩
 have hrr:RR σ' Z' (fun x=>if x=.t 0 then ω' g2 else none) ([]:List Uo).length (.own .r w' ys) r:=by
  show OR σ' Z' (fun x=>if x=.t 0 then ω' g2 else none) (.t 0) w' ys r;exact OR.to hor' (fun _ _ h=>h) (by simp)
 obtain⟨σ2,ω2,k1,k2,k3,k4,k5⟩:=hk.D1 (hc:=[]) (fc:=0) (fl2:=s.fl) (d:=d) (r:=.own .r w' ys) (v:=r) hb (fun d hd=>if_neg (by simpa using hd)) hrr;have e1:dJ d ((U.own .r w' ys).shift s.h.length) {s with h:=s.h++([]:List Uo).map (eL s.h.length),fl:=s.fl}=(.own (.t d) w' ys,s.kill (.t d)):=by
  simp[dJ,U.shift];rfl
 rw[e1]at k1 k2;have hln:(s.kill (.t d)).h.length=s.h.length:=rfl;have k6:=k1.sg (σ:=σ) (fun i hi=>k4 i hi);exact⟨Z',ω2,k6,OR.to k2.1 (fun _ _ h=>h) rfl,k5⟩
end
end Go.RE
namespace Go.RE
def Q0:mA:=⟨fun _=>none,fun _=>none,fun _=>false,fun _=>none⟩
@[simp] theorem qjp(f:Nat):Q0.q f=none:=rfl
@[simp] theorem qg1(f:Nat):Q0.app f=none:=rfl
@[simp] theorem qiz(f:Nat):Q0.ld f=false:=rfl
@[simp] theorem qg2(f:Nat):Q0.Jb f=none:=rfl
noncomputable abbrev G0:=gF br mT Q0 pT
theorem PM{fn:aC}{f:Nat}{us:List U}{h:List Uo}{fl:Nat}{R:U×List Uo×Nat}(hp:pT f=none)(hf:br f=some fn)(ha:Nat.ble us.length fn.ntmps=true)(hR:gC br mT Q0 pT fn fn.body ⟨lM us 0,h,fl⟩ (kE h.length fn R)):G0 f us h fl=some R:=Hf hp hf ha hR
theorem He{f:Nat}(hf:uw f=true){w:Nat}{xs:List (List U)}(h:List Uo)(fl:Nat)(hl:xs.length<small)(hx:kJ w xs=true)(hw:Nat.beq w (Pz f)=true:=by rfl):G0 f [.sl w xs] h fl=some (.own .r w xs,h,fl):=by
 have hp:pT f=some (tg (Pz f)):=by unfold pT;rw[hf];rfl
 show gF br mT Q0 pT f _ _ _=_;rw[El hp];have:Nat.ble (xs.length*200) bp=true:=oT (by unfold small at hl;unfold bp;omega);simp only[tg,this,hx,hw,Bool.and_self,cond_true]
theorem Q3(r:Rc)(hr:fL r):G0 107 [.agg (recC r)] [] 0=some (.agg (recC r),[],0):=by
 refine PM (fn:=v107) rfl rfl rfl ?_;have c1:=He (f:=62) rfl (w:=2) (xs:=r.reads.map aQ) [] 0 (by simp;unfold fL small at*;omega) (oK _);have c2:=He (f:=62) rfl (w:=2) (xs:=r.writes.map aQ) [] 0 (by simp;unfold fL small at*;omega) (oK _);simp[sB,Kx,ay MN,Fb,Ky,recC,c1,c2,cR]
theorem qci(l:List Rc)(low:Nat)(hl:l.length<small)(hok:∀ r∈l,fL r):∀ (j i:Nat) (out:List Rc),i+j=l.length→out.length≤i→
  gL br mT Q0 pT v66 0 lJ 0 ⟨[(10,.int .i64 (i:Int)),(5,.own (.t 5) 6 (out.map recC)),(1,.int .u64 (low:Int)),(8,.sl 6 (l.map recC)),(9,.int .i64 (l.length:Int))],[],0⟩
   (gI br mT Q0 pT v66 (.seq (.region vR) .ret) (kE 0 v66 (.own .r 6 ((out++bK (l.drop i) low).map recC),[],0))):=by
 intro j
 induction j with
 |zero=>
  intro i out hij ho;obtain⟨h1,h2⟩:=nB hij;rw[ak lJ.eq_1,h2];simp[ql,vR,h1,bK]
 |succ j ih=>
  intro i out hij ho;obtain⟨h1,e3,r,d1,g1⟩:=qn hij hl;have e1:=g1 recC;have hr:fL r:=hok r (List.mem_of_mem_drop (i:=i) (by rw[d1];exact eU));have c:=Q3 r hr;rw[ak lJ.eq_1,d1];simp only[recC]at e1 c;cases hn:decide (low<r.last)with
  |false=>
   have ih' :=ih (i+1) out (by omega) (by omega);simp[ql,Cf,Cg,Ch,h1,bg e1,e3,recC,hn,bK];simpa[recC,bK]using ih'
  |true=>
   have ih' :=ih (i+1) (out++[r]) (by omega) (by simp;omega);have b1:(out.length+1)*80≤bp∧out.length+1≤bp:=by unfold small at hl;unfold bp;omega
   simp[ql,Cf,Cg,NC,Ch,h1,bg e1,e3,recC,c,hn,b1,bK];simpa[recC,bK]using ih'
theorem qfG(l:List Rc)(low:Nat)(hl:l.length<small)(hok:∀ r∈l,fL r):G0 66 [.sl 6 (l.map recC),.int .u64 (low:Int)] [] 0=some (.own .r 6 ((bK l low).map recC),[],0):=by
 refine PM (fn:=v66) rfl rfl rfl ?_;have:=qci l low hl hok l.length 0 [] (by omega) (by simp);simp[nw,DT,DU,DV];simpa using this
def kBo(ys:List (List U)):Ex→Vs→Prop:=fun ex s=>(∀ i,ex≠.exit i)∧∃ g2,look s.e 4=some (.own g2 6 ys)∧g2≠.a
theorem iI(e:Env)(h:List Uo)(fl:Nat):Vs.cc Tg.a ⟨e,h,fl⟩=Env.cc Tg.a e e:=rfl
theorem qcj(l:List Rc)(low:Nat)(hl:l.length<small)(hok:∀ r∈l,fL r):∀ (j i:Nat) (out:List Rc),i+j=l.length→out.length≤i→
  gL br mT Q0 pT v66 0 lJ 0 ⟨[(10,.int .i64 (i:Int)),(5,.own (.t 5) 6 (out.map recC)),(1,.int .u64 (low:Int)),(8,.own .a 6 (l.map recC)),(9,.int .i64 (l.length:Int))],[],0⟩
   (gI br mT Q0 pT v66 (.seq (.region vR) .ret) (kBo ((out++bK (l.drop i) low).map recC))):=by
 intro j
 induction j with
 |zero=>
  intro i out hij ho;obtain⟨h1,h2⟩:=nB hij;rw[ak lJ.eq_1,h2];simp[ql,vR,h1,bK,kBo]
 |succ j ih=>
  intro i out hij ho;obtain⟨h1,e3,r,d1,g1⟩:=qn hij hl;have e1:=g1 recC;have hr:fL r:=hok r (List.mem_of_mem_drop (i:=i) (by rw[d1];exact eU));have c:=Q3 r hr;have hg:(l.map recC)[i]? =some (recC r):=by
   rw[List.getElem?_map,(by have:=congrArg (fun x:List Rc=>x[0]?) d1;simpa using this:l[i]? =some r)];rfl
  have hil:i<(l.map recC).length:=by simp;omega
  have ia:∀ s',qo s' 6 (some (.own .a 6 (l.map recC))) (some (.int .i64 (i:Int)))=some (.bD .a i 0,s'):=fun s' =>cT (by simpa using hil);rw[ak lJ.eq_1,d1];simp only[recC]at e1 c hg;cases hn:decide (low<r.last)with
  |false=>
   have ih' :=ih (i+1) out (by omega) (by omega);simp[ql,Cf,Cg,Ch,h1,ia,hg,iI,Env.cc,e3,recC,hn,bK];simpa[recC,bK]using ih'
  |true=>
   have ih' :=ih (i+1) (out++[r]) (by omega) (by simp;omega);have b1:(out.length+1)*80≤bp∧out.length+1≤bp:=by unfold small at hl;unfold bp;omega
   simp[ql,Cf,Cg,NC,Ch,h1,ia,hg,iI,Env.cc,e3,recC,c,hn,b1,bK];simpa[recC,bK]using ih'
theorem qfI(l:List Rc)(low:Nat)(hl:l.length<small)(hok:∀ r∈l,fL r):gC br mT Q0 pT v66 v66.body ⟨[(0,.own .a 6 (l.map recC)),(1,.int .u64 (low:Int))],[],0⟩ (kBo ((bK l low).map recC)):=by
 have:=qcj l low hl hok l.length 0 [] (by omega) (by simp);simp[nw,DT,DU,DV];simpa using this
theorem qck(w:Nat)(low:Int):gC br mT Q0 pT v66 v66.body ⟨[(0,.own .a w []),(1,.int .u64 low)],[],0⟩ (kBo []):=by
 simp[nw,DT,DU,DV];rw[ak lJ.eq_1];simp[ql,vR,kBo]
theorem qfJ(w:Nat)(low:Int):G0 66 [.sl w [],.int .u64 low] [] 0=some (.own .r 6 [],[],0):=by
 refine PM (fn:=v66) rfl rfl rfl ?_;simp[nw,DT,DU,DV];rw[ak lJ.eq_1];simp[ql,vR]
theorem qd0{C:Nat→Option ck}(T:lR C mT br Q0 pT):Z9 (dA C mT) 66 pE:=by
 refine qal T (XQ T) (fn:=v66) (T.code 66 v66 rfl) (t:=4) rfl ?_;intro xs rest w' ys w hh hw;obtain⟨l,low,rfl,rfl,hl,hok,rfl,rfl⟩:=Ek hh;refine⟨fun u hu=> ?_,(by show 1+1≤25;omega),?_⟩
 ·have:=List.mem_singleton.1 hu;subst this;exact⟨rfl,rfl⟩
 ·cases l with
  |nil=>exact⟨⟨_,_,_,qfJ w low⟩,qck w low⟩
  |cons r l=>
   have h6:w=6:=(hw (recC r) (by simp)).symm;subst h6;exact⟨⟨_,_,_,qfG (r::l) low (by unfold small;omega) hok⟩,qfI (r::l) low (by unfold small;omega) hok⟩
end Go.RE
namespace Go.RE
def pV(a b:Nat):Nat→Nat→List cA→List cA
 |0,_,l=>l
 |k+1,i,l=>pV a b k (i+1) (kM l (a+i) (b+i))
def CH(w:Nat)(ys:List (List U)):Ex→Vs→Prop:=fun ex s=>(∀ i,ex≠.exit i)∧s.cc .a=some (w,ys)
theorem tM(w:Nat)(ys:List (List U))(e:Env)(h:List Uo)(fl:Nat):Vs.fB Tg.a w ys ⟨e,h,fl⟩=⟨Env.fB Tg.a ys e,h,fl⟩:=rfl
theorem qcg(a b n:Nat)(L:Nat)(hL:L<small)(ha:a+n≤L)(hb:b+n≤L)(R:List cA):∀ (k i:Nat) (xs:List cA),i+k=n→xs.length=L→pV a b k i xs=R→
  gL br mT Q0 pT BX 0 vG 0 ⟨[(10,.int .i64 (i:Int)),(0,.own .a 2 (xs.map aQ)),(1,.int .i64 (a:Int)),(2,.int .i64 (b:Int)),(3,.int .i64 (n:Int))],[],0⟩ (CH 2 (R.map aQ)):=by
 intro k
 induction k with
 |zero=>
  intro i xs hik hx hR;have h1:¬((i:Int)<(n:Int)):=by omega
  simp only[pV]at hR;subst hR;rw[ak vG.eq_1];simp[Gc,h1,CH,iI,Env.cc]
 |succ k ih=>
  intro i xs hik hx hR;have h1:(i:Int)<(n:Int):=by omega
  simp only[pV]at hR;have ih' :=ih (i+1) (kM xs (a+i) (b+i)) (by omega) (by simp[kM,hx]) hR;obtain⟨p,hp⟩:∃ p,p=a+i:=⟨_,rfl⟩;obtain⟨q,hq⟩:∃ q,q=b+i:=⟨_,rfl⟩;have ea:aI .i64 ((a:Int)+(i:Int))=(p:Int):=by rw[de (by omega) (by unfold small at hL;omega)];omega
  have eb:aI .i64 ((b:Int)+(i:Int))=(q:Int):=by rw[de (by omega) (by unfold small at hL;omega)];omega
  have ei:aI .i64 ((i:Int)+1)=((i+1:Nat):Int):=by rw[de (by omega) (by unfold small at hL;omega)];omega
  have hai:p<xs.length:=by omega
  have hbi:q<xs.length:=by omega
  have ia:∀ (ys:List cA) s',ys.length=xs.length→qo s' 2 (some (.own .a 2 (ys.map aQ))) (some (.int .i64 (p:Int)))=some (.bD .a p 0,s'):=fun ys s' h=>cT (by simp[h];exact hai);have ib:∀ (ys:List cA) s',ys.length=xs.length→qo s' 2 (some (.own .a 2 (ys.map aQ))) (some (.int .i64 (q:Int)))=some (.bD .a q 0,s'):=fun ys s' h=>cT (by simp[h];exact hbi);have ia1:=fun s' =>ia xs s' rfl;have ib1:=fun s' =>ib xs s' rfl;have ib2:∀ (r:List U) s',qo s' 2 (some (.own .a 2 ((xs.map aQ).set p r))) (some (.int .i64 (q:Int)))=some (.bD .a q 0,s'):=fun r s' =>cT (by simp;exact hbi);rw[←hp,←hq]at ih';obtain⟨⟨s1,s2⟩,gp⟩:∃ r,xs[p]? =some r:=⟨_,bP hai⟩;obtain⟨⟨u1,u2⟩,gq⟩:∃ r,xs[q]? =some r:=⟨_,bP hbi⟩;have gp' :(xs.map aQ)[p]? =some [.str s1,.str s2]:=by rw[List.getElem?_map,gp];rfl
  have gq' :(xs.map aQ)[q]? =some [.str u1,.str u2]:=by rw[List.getElem?_map,gq];rfl
  simp only[kM,gp,gq,Option.getD_some,List.map_set]at ih';have g3:((xs.map aQ).set p [.str u1,.str u2])[q]? =some [.str u1,.str u2]:=by
   rw[eN];by_cases hpq:p=q
   ·rw[if_pos hpq,if_pos (by simp;omega)]
   ·rw[if_neg hpq,gq']
  simp only[aQ]at ih';generalize xs.map aQ=X at*;rw[ak vG.eq_1];simp[Gc,Uz,ay Xw,Gd,h1,ea,eb,ei,ia1,ib1,gp',gq',iI,Env.cc,tM,Env.fB,U.fB,ib2,g3,cR];simpa using ih'
theorem nu:∀ {xs:List (List U)} {l:List cA},yH xs=some l→xs=l.map aQ
 |[],l,h=>by simp[yH]at h;subst h;rfl
 |x::xs,l,h=>by
  unfold yH at h;split at h
  ·rename_i heq;cases heq
  ·rename_i heq;cases heq;split at h
   ·rename_i l' hl;simp only[ai]at h;subst h;rw[nu hl];rfl
   ·cases h
  ·cases h
def DI(xs:List (List U))(rest:List U):Option (List (List U)):=
 match rest with
 |[.int .i64 a,.int .i64 b,.int .i64 n,.func _ [] []]=>match yH xs with
  |some l=>bif decide (0≤a)&&decide (0≤b)&&decide (0≤n)&&decide (a+n≤l.length)&&decide (b+n≤l.length)&&decide (l.length<small)then some ((pV a.toNat b.toNat n.toNat 0 l).map aQ)else none
  |none=>none
 |_=>none
theorem lz(a b:Nat):∀ (k i:Nat) (l:List cA),(pV a b k i l).length=l.length
 |0,_,_=>rfl
 |k+1,i,l=>by rw[pV,lz a b k];simp[kM]
theorem t238(c:Nat)(a b n:Nat)(l:List cA)(hL:l.length<small)(ha:a+n≤l.length)(hb:b+n≤l.length)(w:Nat)(hw:∀ r∈l.map aQ,r.length=w):
  gC br mT Q0 pT BX BX.body ⟨[(0,.own .a w (l.map aQ)),(1,.int .i64 (a:Int)),(2,.int .i64 (b:Int)),(3,.int .i64 (n:Int)),(4,.func c [] [])],[],0⟩ (CH w ((pV a b n 0 l).map aQ)):=by
 cases l with
 |nil=>
  have hn:n=0:=by simp at ha;omega
  subst hn;simp[sJ,Lf];rw[ak vG.eq_1];simp[Gc,CH,iI,Env.cc,pV]
 |cons s l=>
  have h2:w=2:=(hw (aQ s) (by simp)).symm;subst h2;have:=qcg a b n (s::l).length hL ha hb _ n 0 (s::l) (by omega) rfl rfl;generalize s::l=l at*;simp[sJ,Lf];simpa using this
theorem qhC{C:Nat→Option ck}(T:lR C mT br Q0 pT):vX (dA C mT) 238 DI:=by
 refine wI T (T.code 238 BX rfl) rfl ?_;intro xs rest ys w hh hw;unfold DI at hh;split at hh
 case h_2=>cases hh
 rename_i a b n c;split at hh
 case h_2=>cases hh
 rename_i l hl;obtain⟨hb2,hh3⟩:=aK hh;clear hh;have hx:=nu hl;subst hx;simp only[bC,decide_eq_true_eq]at hb2;obtain⟨⟨⟨⟨⟨h1,h2⟩,h3⟩,h4⟩,h5⟩,h6⟩:=hb2;simp only[ai]at hh3;subst hh3;obtain⟨a,rfl⟩:=Int.eq_ofNat_of_zero_le h1;obtain⟨b,rfl⟩:=Int.eq_ofNat_of_zero_le h2;obtain⟨n,rfl⟩:=Int.eq_ofNat_of_zero_le h3;have ht:=t238 c a b n l h6 (by omega) (by omega) w hw;refine⟨fun u hu=> ?_,(by show 4+1≤38;omega),by simp[lz],fun r hr=> ?_,?_,?_⟩
 ·simp at hu;rcases hu with rfl|rfl|rfl|rfl<;>exact⟨rfl,rfl⟩
 ·obtain⟨s,hs,rfl⟩:=eS.1 hr;cases l with
  |nil=>have:=lz (Int.toNat a) (Int.toNat b) (Int.toNat n) 0 [];have h0:=jT this;rw[h0]at hs;cases hs
  |cons s l=>exact hw (aQ s) (by simp)
 ·exact ki _
 ·exact ht
def Q1:mA:=⟨fun f=>bif f==238 then some DI else none,fun _=>none,fun _=>false,fun _=>none⟩
@[simp] theorem qg5(f:Nat):Q1.q f=bif f==238 then some DI else none:=rfl
@[simp] theorem qg3(f:Nat):Q1.app f=none:=rfl
@[simp] theorem qiA(f:Nat):Q1.ld f=false:=rfl
@[simp] theorem qg4(f:Nat):Q1.Jb f=none:=rfl
theorem qfM{C:Nat→Option ck}(T:lR C mT br Q0 pT):lR C mT br Q1 pT:=
 ⟨T.code,⟨fun f q h=>(by
  rw[qg5]at h;cases hf:f==238 with
  |true=>
   rw[hf]at h;simp only[cond_true,ai]at h;subst h;have:f=238:=by simpa using hf
   subst this;exact qhC T
  |false=>rw[hf]at h;cases h),fun f q h=>(by cases h),fun f q h=>(by cases h)⟩,T.HQ⟩
theorem Bh(c:Nat)(a b n:Nat)(l:List cA)(hL:l.length<small)(ha:a+n≤l.length)(hb:b+n≤l.length):DI (l.map aQ) [.int .i64 (a:Int),.int .i64 (b:Int),.int .i64 (n:Int),.func c [] []]=some ((pV a b n 0 l).map aQ):=by
 have h1:decide ((0:Int)≤(a:Int))=true:=decide_eq_true (by omega);have h2:decide ((0:Int)≤(b:Int))=true:=decide_eq_true (by omega);have h3:decide ((0:Int)≤(n:Int))=true:=decide_eq_true (by omega);have h4:decide ((a:Int)+(n:Int)≤(l.length:Int))=true:=decide_eq_true (by omega);have h5:decide ((b:Int)+(n:Int)≤(l.length:Int))=true:=decide_eq_true (by omega);have h6:decide (l.length<small)=true:=decide_eq_true hL;simp only[DI,oM,h1,h2,h3,h4,h5,h6,Bool.and_self,cond_true];rfl
end Go.RE
namespace Go.RE
theorem Bi(a b:Nat):∀ (k i:Nat) (l:List cA),pV a b k (i+1) l=pV (a+1) (b+1) k i l
 |0,_,_=>rfl
 |k+1,i,l=>by
  rw[pV,pV,Bi a b k (i+1)];rw[show a+(i+1)=a+1+i by omega,show b+(i+1)=b+1+i by omega]
theorem Mw{α:Type}(P Q:List α)(z z' :α)(n:Nat)(hn:n=P.length):(P++z::Q).set n z' =P++z' ::Q:=by
 subst hn;simp
theorem L2{α:Type}(P Q:List α)(z:α)(n:Nat)(hn:n=P.length):(P++z::Q)[n]? =some z:=by
 subst hn;simp
theorem Kk(A M Q:List cA)(x y:cA)(i j:Nat)(hi:i=A.length)(hj:j=A.length+1+M.length):kM (A++x::(M++y::Q)) i j=A++y::(M++x::Q):=by
 have g1:=L2 A (M++y::Q) x i hi;have e:A++x::(M++y::Q)=(A++x::M)++y::Q:=by simp
 have g2:(A++x::(M++y::Q))[j]? =some y:=by rw[e];exact L2 _ _ _ _ (by simp;omega)
 unfold kM;rw[g1,g2,Option.getD_some,Option.getD_some,Mw A _ x y i hi];have e2:A++y::(M++y::Q)=(A++y::M)++y::Q:=by simp
 rw[e2,Mw _ _ y x j (by simp;omega)];simp
theorem pW:∀ (n:Nat) (A X B Y C:List cA) (a b:Nat),X.length=n→Y.length=n→a=A.length→b=A.length+X.length+B.length→
  pV a b n 0 (A++X++B++Y++C)=A++Y++B++X++C
 |0,A,X,B,Y,C,a,b,hx,hy,_,_=>by
  have h1:=jT hx;have h2:=jT hy;subst h1;subst h2;rfl
 |n+1,A,[],B,Y,C,a,b,hx,hy,_,_=>by simp at hx
 |n+1,A,x::X,B,[],C,a,b,hx,hy,_,_=>by simp at hy
 |n+1,A,x::X,B,y::Y,C,a,b,hx,hy,ha,hb=>by
  have e:A++x::X++B++y::Y++C=A++x::((X++B)++y::(Y++C)):=by simp
  rw[pV,e,Kk A (X++B) (Y++C) x y (a+0) (b+0) (by omega) (by simp at hb⊢;omega),Bi];have ih:=pW n (A++[y]) X (B++[x]) Y C (a+1) (b+1) (by simpa using hx) (by simpa using hy) (by simp;omega) (by simp at hb⊢;omega);have e2:A++y::(X++B++x::(Y++C))=A++[y]++X++(B++[x])++Y++C:=by simp
  rw[e2,ih];simp
def A5:Nat→Nat→Nat→Nat→List cA→List cA
 |0,_,_,_,l=>l
 |f+1,m,i,j,l=>if i=j then pV (m - i) m i 0 l else if j<i then A5 f m (i - j) j (pV (m - i) m j 0 l)else A5 f m i (j - i) (pV (m - i) (m+j - i) i 0 l)
theorem EJ:∀ (f m i j:Nat) (A X Y C:List cA),0<i→0<j→i+j≤f→X.length=i→Y.length=j→A.length+i=m→A5 f m i j (A++X++Y++C)=A++Y++X++C
 |0,m,i,j,A,X,Y,C,hi,hj,hf,hx,hy,hm=>by omega
 |f+1,m,i,j,A,X,Y,C,hi,hj,hf,hx,hy,hm=>by
  unfold A5;by_cases h1:i=j
  ·rw[if_pos h1];have:=pW i A X [] Y C (m - i) m hx (by omega) (by omega) (by simp;omega);simpa using this
  ·rw[if_neg h1];by_cases h2:j<i
   ·rw[if_pos h2];have e:X=X.take j++X.drop j:=(List.take_append_drop j X).symm;have l1:(X.take j).length=j:=by simp;omega
    have l2:(X.drop j).length=i - j:=by simp;omega
    generalize X.take j=X1 at*;generalize X.drop j=X2 at*;subst e;have s1:=pW j A X1 X2 Y C (m - i) m l1 hy (by omega) (by omega);have e1:A++(X1++X2)++Y++C=A++X1++X2++Y++C:=by simp
    rw[e1,s1];have ih:=EJ f m (i - j) j (A++Y) X2 X1 C (by omega) hj (by omega) l2 l1 (by simp;omega);rw[ih];simp
   ·rw[if_neg h2];have e:Y=Y.take (j - i)++Y.drop (j - i):=(List.take_append_drop (j - i) Y).symm;have l1:(Y.take (j - i)).length=j - i:=by simp;omega
    have l2:(Y.drop (j - i)).length=i:=by simp;omega
    generalize Y.take (j - i)=Y1 at*;generalize Y.drop (j - i)=Y2 at*;subst e;have s1:=pW i A X Y1 Y2 C (m - i) (m+j - i) hx l2 (by omega) (by omega);have e1:A++X++(Y1++Y2)++C=A++X++Y1++Y2++C:=by simp
    rw[e1,s1];have e2:A++Y2++Y1++X++C=A++Y2++Y1++(X++C):=by simp
    rw[e2];have ih:=EJ f m i (j - i) A Y2 Y1 (X++C) hi (by omega) (by omega) l2 l1 hm;rw[ih];simp
end Go.RE
namespace Go.RE
theorem qcf(c m L:Nat)(hL:L<small)(R:List cA):∀ (f i j:Nat) (l:List cA),l.length=L→0<i→0<j→i+j≤f→i≤m→m+j≤L→A5 f m i j l=R→
  gL br mT Q1 pT yJ 0 Gb 0 ⟨[(11,.int .i64 (j:Int)),(10,.int .i64 (i:Int)),(4,.func c [] []),(2,.int .i64 (m:Int)),(0,.own .a 2 (l.map aQ))],[],0⟩ (gI br mT Q1 pT yJ (.region Le) (CH 2 (R.map aQ))):=by
 intro f
 induction f with
 |zero=>intro i j l hl hi hj hf;omega
 |succ f ih=>
  intro i j l hl hi hj hf him hmj hR;unfold A5 at hR;have e1:aI .i64 ((m:Int) - (i:Int))=((m - i:Nat):Int):=by rw[de (by omega) (by unfold small at hL;omega)];omega
  rw[ak Gb.eq_1];by_cases h1:i=j
  ·subst h1;rw[if_pos rfl]at hR;have c1:=Bh c (m - i) m i l (by omega) (by omega) (by omega);simp[Ga,Le,e1,c1,iI,tM,Env.cc,Env.fB,U.fB,CH,hR]
  ·rw[if_neg h1]at hR;have h1' :¬((i:Int)=(j:Int)):=by omega
   by_cases h2:j<i
   ·rw[if_pos h2]at hR;have h2' :(j:Int)<(i:Int):=by omega
    have c1:=Bh c (m - i) m j l (by omega) (by omega) (by omega);have e2:aI .i64 ((i:Int) - (j:Int))=((i - j:Nat):Int):=by rw[de (by omega) (by unfold small at hL;omega)];omega
    have ih' :=ih (i - j) j _ (by rw[lz];exact hl) (by omega) hj (by omega) (by omega) hmj hR;simp[Ga,Ld,Uu,Uv,e1,e2,c1,h1',h2',iI,tM,Env.cc,Env.fB,U.fB];simpa using ih'
   ·rw[if_neg h2]at hR;have h2' :¬((j:Int)<(i:Int)):=by omega
    have c1:=Bh c (m - i) (m+j - i) i l (by omega) (by omega) (by omega);have e2:aI .i64 ((j:Int) - (i:Int))=((j - i:Nat):Int):=by rw[de (by omega) (by unfold small at hL;omega)];omega
    have e3:aI .i64 ((m:Int)+(j:Int))=((m+j:Nat):Int):=by rw[de (by omega) (by unfold small at hL;omega)];omega
    have e4:aI .i64 (((m:Int)+(j:Int)) - (i:Int))=((m+j - i:Nat):Int):=by rw[de (by omega) (by unfold small at hL;omega)];omega
    have ih' :=ih i (j - i) _ (by rw[lz];exact hl) hi (by omega) (by omega) him (by omega) hR;simp[Ga,Ld,Uw,Ux,e1,e2,e3,e4,c1,h1',h2',iI,tM,Env.cc,Env.fB,U.fB];simpa using ih'
theorem t237(c a m b:Nat)(l:List cA)(hL:l.length<small)(ham:a<m)(hmb:m<b)(hb:b≤l.length):
  gC br mT Q1 pT yJ yJ.body ⟨[(0,.own .a 2 (l.map aQ)),(1,.int .i64 (a:Int)),(2,.int .i64 (m:Int)),(3,.int .i64 (b:Int)),(4,.func c [] [])],[],0⟩ (CH 2 ((A5 (b - a) m (m - a) (b - m) l).map aQ)):=by
 have e1:aI .i64 ((m:Int) - (a:Int))=((m - a:Nat):Int):=by rw[de (by omega) (by unfold small at hL;omega)];omega
 have e2:aI .i64 ((b:Int) - (m:Int))=((b - m:Nat):Int):=by rw[de (by omega) (by unfold small at hL;omega)];omega
 have:=qcf c m l.length hL _ (b - a) (m - a) (b - m) l rfl (by omega) (by omega) (by omega) (by omega) (by omega) rfl;simp[xR,Us,Ut,e1,e2];simpa using this
theorem A6:∀ (f m i j:Nat) (l:List cA),(A5 f m i j l).length=l.length
 |0,_,_,_,_=>rfl
 |f+1,m,i,j,l=>by
  unfold A5;by_cases h1:i=j
  ·rw[if_pos h1,lz]
  ·rw[if_neg h1];by_cases h2:j<i
   ·rw[if_pos h2,A6 f,lz]
   ·rw[if_neg h2,A6 f,lz]
def Ka(xs:List (List U))(rest:List U):Option (List (List U)):=
 match rest with
 |[.int .i64 a,.int .i64 m,.int .i64 b,.func _ [] []]=>match yH xs with
  |some l=>bif decide (0≤a)&&decide (a<m)&&decide (m<b)&&decide (b≤l.length)&&decide (l.length<small)then some ((A5 (b.toNat - a.toNat) m.toNat (m.toNat - a.toNat) (b.toNat - m.toNat) l).map aQ)else none
  |none=>none
 |_=>none
theorem qhB{C:Nat→Option ck}(T:lR C mT br Q0 pT):vX (dA C mT) 237 Ka:=by
 refine wI (qfM T) (T.code 237 yJ rfl) rfl ?_;intro xs rest ys w hh hw;unfold Ka at hh;split at hh
 case h_2=>cases hh
 rename_i a m b c;split at hh
 case h_2=>cases hh
 rename_i l hl;obtain⟨hb2,hh3⟩:=aK hh;clear hh;have hx:=nu hl;subst hx;simp only[bC,decide_eq_true_eq]at hb2;obtain⟨⟨⟨⟨h1,h2⟩,h3⟩,h4⟩,h5⟩:=hb2;simp only[ai]at hh3;subst hh3;obtain⟨a,rfl⟩:=Int.eq_ofNat_of_zero_le h1;obtain⟨m,rfl⟩:=Int.eq_ofNat_of_zero_le (show 0≤m by omega);obtain⟨b,rfl⟩:=Int.eq_ofNat_of_zero_le (show 0≤b by omega);have hw2:w=2:=by
  cases l with
  |nil=>simp at h4;omega
  |cons s l=>exact(hw (aQ s) (by simp)).symm
 subst hw2;have ht:=t237 c a m b l h5 (by omega) (by omega) (by omega);refine⟨fun u hu=> ?_,(by show 4+1≤58;omega),by simp[A6],fun r hr=> ?_,?_,?_⟩
 ·simp at hu;rcases hu with rfl|rfl|rfl|rfl<;>exact⟨rfl,rfl⟩
 ·obtain⟨s,hs,rfl⟩:=eS.1 hr;rfl
 ·exact ki _
 ·exact ht
end Go.RE
namespace Go.RE
theorem t192{Q:mA}(h1:Q.q 83=none)(h2:Q.app 83=none)(h3:Q.Jb 83=none)(h4:Q.ld 83=false)(x y:cA):gF br mT Q pT 192 [.agg [.str x.1,.str x.2],.agg [.str y.1,.str y.2]] [] 0=some (.int .i64 (n9 x.1 y.1),[],0):=by
 have c:gF br mT Q pT 83 [.str x.1,.str y.1] [] 0=some (.int .i64 (n9 x.1 y.1),[],0):=El (p:=Wp) rfl;refine Hf (fn:=TG) rfl rfl rfl ?_;simp[xG,TH,TI,c,h1,h2,h3,h4]
theorem GK(a j:Nat)(l:List cA)(h:(decide (a<j+1)&&aX (l[j+1]?.getD default) (l[j]?.getD default))=false):vZ aX a (j+1) l=l:=by
 rw[vZ,h,cond_false]
theorem qan(a j:Nat)(l:List cA)(h:(decide (a<j+1)&&aX (l[j+1]?.getD default) (l[j]?.getD default))=true):vZ aX a (j+1) l=vZ aX a j (kM l (j+1) j):=by
 rw[vZ,h,cond_true]
theorem qb8(a b i L:Nat)(hL:L<small)(K:Ex→Vs→Prop)(R:List cA)
  (hK:K .normal ⟨[(0,.own .a 2 (R.map aQ)),(1,.int .i64 (a:Int)),(3,.func 192 [] []),(2,.int .i64 (b:Int)),(8,.int .i64 (i:Int))],[],0⟩):∀ (j:Nat) (l:List cA),l.length=L→j<L→vZ aX a j l=R→
  gL br mT Q0 pT v233 2 zJ 0 ⟨[(9,.int .i64 (j:Int)),(0,.own .a 2 (l.map aQ)),(1,.int .i64 (a:Int)),(3,.func 192 [] []),(2,.int .i64 (b:Int)),(8,.int .i64 (i:Int))],[],0⟩ K:=by
 intro j
 induction j with
 |zero=>
  intro l hl hj hR;rw[vZ]at hR;subst hR;have h1:¬((a:Int)<0):=by omega
  rw[ak zJ.eq_1];simp[ay zI,sH,h1]at hK⊢;simpa using hK
 |succ j ih=>
  intro l hl hj hR;obtain⟨p,hp⟩:∃ p,p=j+1:=⟨_,rfl⟩;have e1:aI .i64 ((p:Int) - 1)=(j:Int):=by rw[de (by omega) (by unfold small at hL;omega)];omega
  have hpl:p<l.length:=by omega
  have hjl:j<l.length:=by omega
  obtain⟨⟨s1,s2⟩,gp⟩:∃ r,l[p]? =some r:=⟨_,bP hpl⟩;obtain⟨⟨u1,u2⟩,gq⟩:∃ r,l[j]? =some r:=⟨_,bP hjl⟩;have gp' :(l.map aQ)[p]? =some [.str s1,.str s2]:=by rw[List.getElem?_map,gp];rfl
  have gq' :(l.map aQ)[j]? =some [.str u1,.str u2]:=by rw[List.getElem?_map,gq];rfl
  have ip:∀ s',qo s' 2 (some (.own .a 2 (l.map aQ))) (some (.int .i64 (p:Int)))=some (.bD .a p 0,s'):=fun s' =>cT (by simpa using hpl);have ij:∀ s',qo s' 2 (some (.own .a 2 (l.map aQ))) (some (.int .i64 (j:Int)))=some (.bD .a j 0,s'):=fun s' =>cT (by simpa using hjl);have ij2:∀ (r:List U) s',qo s' 2 (some (.own .a 2 ((l.map aQ).set p r))) (some (.int .i64 (j:Int)))=some (.bD .a j 0,s'):=fun r s' =>cT (by simp;exact hjl);have c:=t192 (Q:=Q0) rfl rfl rfl rfl (s1,s2) (u1,u2);rw[ak zJ.eq_1,←hp];cases ha:decide (a<p)with
  |false=>
   rw[GK a j l (by rw[←hp,ha];rfl)]at hR;subst hR;simp[ay zI,sH,ha]at hK⊢;simpa using hK
  |true=>
   cases hlt:lt s1 u1 with
   |false=>
    rw[GK a j l (by rw[←hp,ha,gp,gq];exact hlt)]at hR;subst hR;generalize l.map aQ=X at*;simp[ay zI,sH,ha,ip,ij,gp',gq',e1,c,hlt,iI,Env.cc,cR]at hK⊢;simpa using hK
   |true=>
    rw[qan a j l (by rw[←hp,ha,gp,gq];exact hlt),←hp]at hR;have ih' :=ih (kM l p j) (by simp[kM,hl]) (by omega) hR;have g3:((l.map aQ).set p [.str u1,.str u2])[j]? =some [.str u1,.str u2]:=by
     rw[eN,if_neg (by omega),gq']
    simp only[kM,gp,gq,Option.getD_some,List.map_set,aQ]at ih';generalize l.map aQ=X at*;simp[ay zI,sH,Ug,ay Xv,FI,ha,ip,ij,ij2,gp',gq',g3,e1,c,hlt,iI,Env.cc,tM,Env.fB,U.fB,cR];simpa using ih'
theorem Aa(a:Nat):∀ (j:Nat) (l:List cA),(vZ aX a j l).length=l.length
 |0,_=>rfl
 |j+1,l=>by
  unfold vZ;cases decide (a<j+1)&&aX (l[j+1]?.getD default) (l[j]?.getD default)with
  |true=>rw[cond_true,Aa a j];simp[kM]
  |false=>rfl
theorem Hj(a:Nat):∀ (k i:Nat) (l:List cA),(CG aX a k i l).length=l.length
 |0,_,_=>rfl
 |k+1,i,l=>by unfold CG;rw[Hj a k,Aa]
theorem qb9(a b L:Nat)(hL:L<small)(hb:b≤L)(R:List cA):∀ (k i:Nat) (l:List cA),l.length=L→b - i=k→i≤L+1→CG aX a k i l=R→
  gL br mT Q0 pT v233 0 vp 0 ⟨[(0,.own .a 2 (l.map aQ)),(8,.int .i64 (i:Int)),(1,.int .i64 (a:Int)),(3,.func 192 [] []),(2,.int .i64 (b:Int))],[],0⟩ (CH 2 (R.map aQ)):=by
 intro k
 induction k with
 |zero=>
  intro i l hl hik hi hR;have h1:¬((i:Int)<(b:Int)):=by omega
  rw[CG]at hR;subst hR;rw[ak vp.eq_1];simp[FH,h1,CH,iI,Env.cc]
 |succ k ih=>
  intro i l hl hik hi hR;have h1:(i:Int)<(b:Int):=by omega
  rw[CG]at hR;have e1:aI .i64 ((i:Int)+1)=((i+1:Nat):Int):=by rw[de (by omega) (by unfold small at hL;omega)];omega
  have ih' :=ih (i+1) _ (by rw[Aa];exact hl) (by omega) (by omega) hR;rw[ak vp.eq_1];simp[FH,Ud,h1];refine qb8 a b i L hL _ _ ?_ i l hl (by omega) rfl;simp[Uh,e1];simpa using ih'
theorem qJ(l:List cA)(a b:Nat):(iS aX l a b).length=l.length:=Hj _ _ _ _
theorem t233(a b:Nat)(l:List cA)(hL:l.length<small)(hab:a≤b)(hb:b≤l.length)(w:Nat)(hw:∀ r∈l.map aQ,r.length=w):
  gC br mT Q0 pT v233 v233.body ⟨[(0,.own .a w (l.map aQ)),(1,.int .i64 (a:Int)),(2,.int .i64 (b:Int)),(3,.func 192 [] [])],[],0⟩ (CH w ((iS aX l a b).map aQ)):=by
 have e1:aI .i64 ((a:Int)+1)=((a+1:Nat):Int):=by rw[de (by omega) (by unfold small at hL;omega)];omega
 cases l with
 |nil=>
  have hn:b=0:=by simpa using hb
  have ha:a=0:=by omega
  subst hn;subst ha;have e1:aI .i64 1=1:=rfl;simp[sI,La,e1];rw[ak vp.eq_1];simp[FH,CH,iI,Env.cc,iS,CG]
 |cons s l=>
  have h2:w=2:=(hw (aQ s) (by simp)).symm;subst h2;have:=qb9 a b (s::l).length hL hb _ (b - (a+1)) (a+1) (s::l) rfl rfl (by omega) rfl;unfold iS;generalize s::l=l at*;simp[sI,La,e1];simpa using this
def rX(xs:List (List U))(rest:List U):Option (List (List U)):=
 match rest with
 |[.int .i64 a,.int .i64 b,.func 192 [] []]=>match yH xs with
  |some l=>bif decide (0≤a)&&decide (a≤b)&&decide (b≤l.length)&&decide (l.length<small)then some ((iS aX l a.toNat b.toNat).map aQ)else none
  |none=>none
 |_=>none
theorem tv(a b:Nat)(l:List cA)(hL:l.length<small)(hab:a≤b)(hb:b≤l.length):rX (l.map aQ) [.int .i64 (a:Int),.int .i64 (b:Int),.func 192 [] []]=some ((iS aX l a b).map aQ):=by
 have h1:decide ((0:Int)≤(a:Int))=true:=decide_eq_true (by omega);have h2:decide ((a:Int)≤(b:Int))=true:=decide_eq_true (by omega);have h3:decide ((b:Int)≤(l.length:Int))=true:=decide_eq_true (by omega);have h6:decide (l.length<small)=true:=decide_eq_true hL;simp only[rX,oM,h1,h2,h3,h6,Bool.and_self,cond_true];rfl
theorem qhz{C:Nat→Option ck}(T:lR C mT br Q0 pT):vX (dA C mT) 233 rX:=by
 refine wI T (T.code 233 v233 rfl) rfl ?_;intro xs rest ys w hh hw;unfold rX at hh;split at hh
 case h_2=>cases hh
 rename_i a b;split at hh
 case h_2=>cases hh
 rename_i l hl;obtain⟨hb2,hh3⟩:=aK hh;clear hh;have hx:=nu hl;subst hx;simp only[bC,decide_eq_true_eq]at hb2;obtain⟨⟨⟨h1,h2⟩,h3⟩,h4⟩:=hb2;simp only[ai]at hh3;subst hh3;obtain⟨a,rfl⟩:=Int.eq_ofNat_of_zero_le h1;obtain⟨b,rfl⟩:=Int.eq_ofNat_of_zero_le (show 0≤b by omega);have ht:=t233 a b l h4 (by omega) (by omega) w hw;refine⟨fun u hu=> ?_,(by show 3+1≤53;omega),by simp[qJ],fun r hr=> ?_,?_,?_⟩
 ·simp at hu;rcases hu with rfl|rfl|rfl<;>exact⟨rfl,rfl⟩
 ·obtain⟨s,hs,rfl⟩:=eS.1 hr;cases l with
  |nil=>have:=qJ [] a b;have h0:=jT this;simp only[Int.toNat_natCast]at hs;rw[h0]at hs;cases hs
  |cons s l=>exact hw (aQ s) (by simp)
 ·exact ki _
 ·exact ht
end Go.RE
namespace Go.RE
def V1(kk:gR)(i:Nat)(k v:U)(s:Vs):Option Uo→Option (U×Vs)
 |some (.map es clock)=>bif dw kk k then
      (let fl:=bif v.low (i+1)then s.fl else s.h.length
      match nG kk k es 0 with
      |some (some (j,_))=>some (.aV [],{s with h:=s.h.set i (.map (oD j (fun e=>(k,v,e.2.2)) es) clock),fl:=fl})
      |some none=>some (.aV [],{s with h:=s.h.set i (.map (es++[(k,v,clock)]) (clock+1)),fl:=fl})
      |none=>none)else none
 |_=>none
def muX(kk:gR)(i:Nat)(k:U):Option (U×Vs)→Option (U×Vs)
 |some (v,s)=>V1 kk i k v s s.h[i]?
 |none=>none
@[simp] theorem qeU(kk:gR)(i:Nat)(k v:U)(s:Vs):muX kk i k (some (v,s))=V1 kk i k v s s.h[i]? :=rfl
def muK(kk:gR)(i:Nat)(x:bJ):Option (U×Vs)→Option (U×Vs)
 |some (k,s)=>muX kk i k (fN x s)
 |none=>none
@[simp] theorem qeS(kk:gR)(i:Nat)(x:bJ)(k:U)(s:Vs):muK kk i x (some (k,s))=muX kk i k (fN x s):=rfl
def muM(kk:gR)(k x:bJ):Option (U×Vs)→Option (U×Vs)
 |some (.map i,s)=>muK kk i x (fN k s)
 |_=>none
@[simp] theorem qeT(kk:gR)(k x:bJ)(i:Nat)(s:Vs):muM kk k x (some (.map i,s))=muK kk i x (fN k s):=rfl
@[simp] theorem V3(d:Nat)(s:Vs)(kk:gR)(m k x:bJ):pM d s (.mapUpdate kk m k x)=muM kk k x (fN m s):=by
 simp only[pM];cases fN m s with
 |none=>rfl
 |some p=>
  obtain⟨u,s1⟩:=p;cases u with
  |map i=>
   simp only[muM];cases fN k s1 with
   |none=>rfl
   |some p=>
    obtain⟨k,s2⟩:=p;simp only[muK];cases fN x s2 with
    |none=>rfl
    |some p=>
     obtain⟨v,s3⟩:=p;simp only[muX];cases s3.h[i]? with
     |none=>rfl
     |some o=>cases o<;>rfl
  |_=>rfl
def Jm(kk:gR)(i:Nat)(k:U)(s:Vs):Option Uo→Option (U×Vs)
 |some (.map es clock)=>bif dw kk k then(match nG kk k es 0 with
    |some (some (j,_))=>some (.aV [],{s with h:=s.h.set i (.map (gG j es) clock)})
    |some none=>some (.aV [],s)
    |none=>none)else none
 |_=>none
def qaz(s:Vs)(kk:gR):Option U→Option U→Option (U×Vs)
 |some .bQ,some k=>bif dw kk k then some (.aV [],s)else none
 |some (.map i),some k=>Jm kk i k s s.h[i]?
 |_,_=>none
@[simp] theorem qee(s:Vs)(kk:gR)(i:Nat)(k:U):qaz s kk (some (.map i)) (some k)=Jm kk i k s s.h[i]? :=rfl
@[simp] theorem qbh(d:Nat)(s:Vs)(kk:gR)(m k:bJ):pM d s (.delete kk m k)=qaz s kk (cq s.e m) (cq s.e k):=by
 simp only[pM];cases cq s.e m with
 |none=>rfl
 |some u=>
  cases cq s.e k with
  |none=>cases u<;>rfl
  |some k=>
   cases u with
   |map i=>
    simp only[qaz];cases s.h[i]? with
    |none=>rfl
    |some o=>cases o<;>rfl
   |_=>rfl
structure Mk(α κ:Type)[DecidableEq κ] where
 kk:gR
 kf:κ→U
 key:α→κ
 val:α→U
 eq:∀ x y,fJ kk (kf x) (kf y)=some (decide (x=y))
 pk:∀ x,dw kk (kf x)=true
section
variable{α κ:Type}[DecidableEq κ](F:Mk α κ)
def tD(x:α×Nat):U×U×Nat:=(F.kf (F.key x.1),F.val x.1,x.2)
structure ue(lc:List (α×Nat))(c:Nat):Prop where
 IZ:(lc.map (·.2)).Nodup
 lt:∀ x∈lc,x.2<c
 keys:(lc.map fun x=>F.key x.1).Nodup
def jX(o:Option Uo)(l:List α):Prop:=∃ (lc:List (α×Nat)) (c:Nat),lc.map (·.1)=l∧o=some (.map (lc.map (tD F)) c)∧ue F lc c
def fK(k:κ)(l:List α):Option α:=l.find? fun a=>decide (F.key a=k)
def sR(a:α):List α→List α
 |[]=>[]
 |b::r=>bif decide (F.key b=F.key a)then a::r else b::sR a r
def iY(k:κ):List α→List α
 |[]=>[]
 |b::r=>bif decide (F.key b=k)then r else b::iY k r
def lq(a:α)(l:List α):List α:=bif(fK F (F.key a) l).isSome then sR F a l else l++[a]
theorem Eh(k:κ):∀ (lc:List (α×Nat)) (j:Nat),(fK F k (lc.map (·.1))=none∧nG F.kk (F.kf k) (lc.map (tD F)) j=some none)∨
  ∃ i a,fK F k (lc.map (·.1))=some a∧nG F.kk (F.kf k) (lc.map (tD F)) j=some (some (j+i,F.val a))∧
   (∀ b:α,F.key b=k→∃ lc' :List (α×Nat),lc'.map (·.1)=sR F b (lc.map (·.1))∧lc'.map (·.2)=lc.map (·.2)∧(lc'.map fun x=>F.key x.1)=(lc.map fun x=>F.key x.1)∧oD i (fun e=>(F.kf k,F.val b,e.2.2)) (lc.map (tD F))=lc'.map (tD F))∧
   ∃ lc' :List (α×Nat),lc'.map (·.1)=iY F k (lc.map (·.1))∧lc'.Sublist lc∧gG i (lc.map (tD F))=lc'.map (tD F):=by
 intro lc
 induction lc with
 |nil=>intro j;left;exact⟨rfl,rfl⟩
 |cons x r ih=>
  intro j;have hf:nG F.kk (F.kf k) ((x::r).map (tD F)) j=(match fJ F.kk (F.kf k) (F.kf (F.key x.1))with
   |some true=>some (some (j,F.val x.1))
   |some false=>nG F.kk (F.kf k) (r.map (tD F)) (j+1)
   |none=>none):=rfl
  rw[F.eq]at hf;by_cases hk:F.key x.1=k
  ·right;have hk' :decide (k=F.key x.1)=true:=decide_eq_true hk.symm;rw[hk']at hf;refine⟨0,x.1,by simp[fK,List.find?_cons,hk],hf,fun b hb=>⟨(b,x.2)::r,?_,rfl,?_,?_⟩,r,?_,List.sublist_cons_self _ _,rfl⟩
   ·simp[sR,hk,hb]
   ·simp[hk,hb]
   ·simp[oD,tD,hb]
   ·simp[iY,hk]
  ·have hk' :decide (k=F.key x.1)=false:=decide_eq_false fun h=>hk h.symm;rw[hk']at hf;have hl:fK F k ((x::r).map (·.1))=fK F k (r.map (·.1)):=by simp[fK,List.find?_cons,hk]
   rcases ih (j+1)with⟨h1,h2⟩|⟨i,a,h1,h2,h3,h4⟩
   ·left;exact⟨by rw[hl];exact h1,by rw[hf];exact h2⟩
   ·right;refine⟨i+1,a,by rw[hl];exact h1,by rw[hf];simp only;rw[h2];simp only[ai,aJ,and_true];omega,fun b hb=> ?_,?_⟩
    ·obtain⟨lc',q1,q2,q3,q4⟩:=h3 b hb;refine⟨x::lc',?_,?_,?_,?_⟩
     ·simp only[List.map_cons,sR,hb,hk,decide_false,cond_false];rw[q1]
     ·simp only[List.map_cons];rw[q2]
     ·simp only[List.map_cons];rw[q3]
     ·simp only[List.map_cons,oD];rw[q4]
    ·obtain⟨lc',q1,q2,q3⟩:=h4;refine⟨x::lc',?_,q2.cons_cons x,?_⟩
     ·simp only[List.map_cons,iY,hk,decide_false,cond_false];rw[q1]
     ·simp only[List.map_cons,gG];rw[q3]
theorem Md{k:κ}{l:List α}{a:α}(h:fK F k l=some a):F.key a=k:=by
 have:=List.find?_some h;simpa using this
theorem kR{k:κ}{l:List α}{a:α}(h:fK F k l=some a):a∈l:=qcC h
theorem mU{l:List α}{m:Nat}{s:Vs}(h:jX F s.h[m]? l)(z:U)(k:κ)(ok:Bool):
  fH s F.kk z ok (.map m) (F.kf k)=some (match fK F k l with|some a=>bif ok then .aV [F.val a,.bool true]else F.val a|none=>bif ok then .aV [z,.bool false]else z):=by
 obtain⟨lc,c,rfl,ho,_⟩:=h;simp only[fH,ho,F.pk,cond_true];rcases Eh F k lc 0 with⟨h1,h2⟩|⟨i,a,h1,h2,_⟩<;>rw[h1,h2]
theorem WV{l:List α}{m:Nat}{s:Vs}(h:jX F s.h[m]? l):Oj s 2 (.map m)=some l.length:=by
 obtain⟨lc,c,rfl,ho,_⟩:=h;simp[Oj,ho]
theorem map_set{l:List α}{o:Option Uo}(h:jX F o l)(a:α):∃ o',jX F (some o') (lq F a l)∧
  ∀ (m:Nat) (s:Vs),V1 F.kk m (F.kf (F.key a)) (F.val a) s o=some (.aV [],⟨s.e,s.h.set m o',bif(F.val a).low (m+1)then s.fl else s.h.length⟩):=by
 obtain⟨lc,c,rfl,ho,hc⟩:=h;subst ho;rcases Eh F (F.key a) lc 0 with⟨h1,h2⟩|⟨i,b,h1,h2,h3,_⟩
 ·refine⟨.map ((lc++[(a,c)]).map (tD F)) (c+1),⟨lc++[(a,c)],c+1,?_,rfl,?_,?_,?_⟩,fun m s=> ?_⟩
  ·simp[lq,h1]
  ·simp only[List.map_append,List.map_cons,List.map_nil,List.nodup_append];refine⟨hc.IZ,by simp,fun x hx y hy=> ?_⟩;simp only[dS,List.not_mem_nil,or_false]at hy;obtain⟨z,hz,rfl⟩:=eS.1 hx;have:=hc.lt z hz;omega
  ·intro x hx;rcases gD.1 hx with hx|hx
   ·have:=hc.lt x hx;omega
   ·simp only[dS,List.not_mem_nil,or_false]at hx;subst hx;simp
  ·simp only[List.map_append,List.map_cons,List.map_nil,List.nodup_append];refine⟨hc.keys,by simp,fun x hx y hy=> ?_⟩;simp only[dS,List.not_mem_nil,or_false]at hy;subst hy;obtain⟨z,hz,rfl⟩:=eS.1 hx;intro he;have:=List.find?_eq_none.1 h1 z.1 (eS.2 ⟨z,hz,rfl⟩);simp[he]at this
  ·simp only[V1,F.pk,cond_true,h2,List.map_append,List.map_cons,List.map_nil,tD]
 ·obtain⟨lc',q1,q2,q3,q4⟩:=h3 a rfl;refine⟨.map (lc'.map (tD F)) c,⟨lc',c,?_,rfl,?_,?_,?_⟩,fun m s=> ?_⟩
  ·simp[lq,h1,q1]
  ·rw[q2];exact hc.IZ
  ·intro x hx;have:x.2∈lc'.map (·.2):=eS.2 ⟨x,hx,rfl⟩;rw[q2]at this;obtain⟨y,hy,he⟩:=eS.1 this;rw[←he];exact hc.lt y hy
  ·rw[q3];exact hc.keys
  ·simp only[V1,F.pk,cond_true,h2,Nat.zero_add,q4]
theorem Ml{l:List α}{o:Option Uo}(h:jX F o l)(k:κ):∃ o',jX F (some o') (iY F k l)∧
  ∀ (m:Nat) (s:Vs),s.h[m]? =o→Jm F.kk m (F.kf k) s o=some (.aV [],⟨s.e,s.h.set m o',s.fl⟩):=by
 obtain⟨lc,c,rfl,ho,hc⟩:=h;subst ho;rcases Eh F k lc 0 with⟨h1,h2⟩|⟨i,b,h1,h2,_,lc',q1,q2,q3⟩
 ·have hd:∀ l:List α,fK F k l=none→iY F k l=l:=by
   intro l
   induction l with
   |nil=>intro _;rfl
   |cons b r ih=>
    intro hh;simp only[fK,List.find?_cons]at hh;by_cases hb:F.key b=k
    ·simp[hb]at hh
    ·simp only[hb,decide_false]at hh;simp only[iY,hb,decide_false,cond_false];rw[ih hh]
  refine⟨.map (lc.map (tD F)) c,⟨lc,c,(hd _ h1).symm,rfl,hc⟩,fun m s hs=> ?_⟩;have hset:s.h.set m (.map (lc.map (tD F)) c)=s.h:=by
   obtain⟨hlt,he⟩:=bn.1 hs;rw[←he];exact List.set_getElem_self hlt
  simp only[Jm,F.pk,cond_true,h2,hset]
 ·refine⟨.map (lc'.map (tD F)) c,⟨lc',c,q1,rfl,?_,?_,?_⟩,fun m s hs=> ?_⟩
  ·exact List.Nodup.sublist (q2.map _) hc.IZ
  ·exact fun x hx=>hc.lt x (q2.subset hx)
  ·exact List.Nodup.sublist (q2.map _) hc.keys
  ·simp only[Jm,F.pk,cond_true,h2,Nat.zero_add,q3]
theorem uz:jX F (some (.map [] 0)) []:=⟨[],0,rfl,rfl,⟨List.nodup_nil,fun x hx=>(List.not_mem_nil hx).elim,List.nodup_nil⟩⟩
end
theorem NS{es:List (U×U×Nat)}{c:Nat}(hlt:∀ e∈es,e.2.2<c){seen:List Nat}{x:Option (U×U×Nat)}(hx:x∈td es c seen):
  (x=none∧∀ e∈es,e.2.2∈seen)∨∃ e∈es,e.2.2 ∉ seen∧x=some e:=by
 unfold td at hx;simp only[gD]at hx;rcases hx with hx|hx
 ·left;cases hq:(List.filter (fun e:U×U×Nat=>Nat.blt e.2.2 c) (List.filter (fun e:U×U×Nat=> !seen.contains e.2.2) es)).isEmpty with
  |false=>rw[hq]at hx;simp at hx
  |true=>
   rw[hq]at hx;simp at hx;refine⟨hx,fun e he=> ?_⟩;rw[List.isEmpty_iff]at hq;apply Classical.byContradiction;intro hne;have:e∈List.filter (fun e:U×U×Nat=>Nat.blt e.2.2 c) (List.filter (fun e:U×U×Nat=> !seen.contains e.2.2) es):=by
    rw[List.mem_filter,List.mem_filter];exact⟨⟨he,by simp[hne]⟩,by simp[hlt e he]⟩
   rw[hq]at this;cases this
 ·right;rw[eS]at hx;obtain⟨y,hy,rfl⟩:=hx;rw[gD,List.mem_filter,List.mem_filter]at hy;have hm:y∈List.filter (fun e:U×U×Nat=> !seen.contains e.2.2) es:=by
   rcases hy with hy|hy
   ·exact List.mem_filter.2 hy.1
   ·exact(List.mem_filter.1 hy).1
  rw[List.mem_filter]at hm;exact⟨y,hm.1,by simpa using hm.2,rfl⟩
theorem oE{es:List (U×U×Nat)}{c m:Nat}{h:List Uo}{fl:Nat}{e:Env}{dst:Option Nat}{x:bJ}{k:Vs→Prop}{seen:List Nat}(hx:cq e x=some (.ptr h.length 0))(hm:h[m]? =some (.map es c))(hlt:∀ a∈es,a.2.2<c)
  (hend:(∀ a∈es,a.2.2∈seen)→k ⟨iN dst (.aV [.bool false]) e,h++[.iter (some m) c seen c],fl⟩)
  (hstep:∀ a∈es,a.2.2 ∉ seen→k ⟨iN dst (.aV [.bool true,a.1,a.2.1]) e,h++[.iter (some m) c (seen++[a.2.2]) c],fl⟩):
  ig ⟨e,h++[.iter (some m) c seen c],fl⟩ dst x k:=by
 unfold ig;simp only[hx,VG,aS hm];refine⟨?_,fun y hy=> ?_⟩
 ·cases es with
  |nil=>simp
  |cons a r=>
   have:=hlt a (by simp);have hb:Nat.ble c a.2.2=false:=by
    cases hq:Nat.ble c a.2.2 with
    |false=>rfl
    |true=>have:=gu hq;omega
   simp[hb];intro _ h2;omega
 ·rcases NS hlt hy with⟨rfl,hall⟩|⟨a,ha,hn,rfl⟩
  ·exact hend hall
  ·have:=hstep a ha hn;simp only[HJ,Ib];exact this
theorem wA{es:List (U×U×Nat)}{c m:Nat}{h:List Uo}{fl:Nat}{e:Env}{seen:List Nat}(hm:h[m]? =some (.map es c))(hn:(es.map (·.2.2)).Nodup){a:U×U×Nat}(ha:a∈es):
  mF ⟨e,h++[.iter (some m) c (seen++[a.2.2]) c],fl⟩ h.length=some (.aV [a.1,a.2.1]):=by
 have hf:es.find? (fun x=>Nat.beq x.2.2 a.2.2)=some a:=by
  clear hm
  induction es with
  |nil=>cases ha
  |cons b r ih=>
   rw[List.find?_cons];simp only[List.map_cons,List.nodup_cons]at hn;rcases dS.1 ha with rfl|ha
   ·simp
   ·have hne:b.2.2≠a.2.2:=fun hh=>hn.1 (by rw[hh];exact eS.2 ⟨a,ha,rfl⟩);have:Nat.beq b.2.2 a.2.2=false:=by simp[hne]
    rw[this];exact ih hn.2 ha
 simp only[mF,VG,aS hm,List.getLast?_concat,jC,cond_true,hf]
end Go.RE
namespace Go.RE
structure Lm where
 keys:Nat
 gA:Nat
 bytes:Nat
 marks:Nat
 records:Nat
 live:Nat
 last:Nat
structure Db where
 lim:Lm
 now:Nat
 keys:List By
 of:List (By×List jw)
 sk:Nat
 sv:Nat
 sb:Nat
def kC(b:By):List U:=[.str b]
@[simp] theorem qfc(l:List By):lP 1 (l.map kC)=true:=OD (fun _=>rfl) l
theorem yh(x y:By):fJ .str (.str x) (.str y)=some (decide (x=y)):=by
 have:fJ .str (.str x) (.str y)=some (x==y):=rfl;rw[this];congr 1;cases h:x==y with
 |true=>exact(decide_eq_true (eq_of_beq h)).symm
 |false=>exact(decide_eq_false (fun hh=>by subst hh;rw[beq_self_eq_true]at h;cases h)).symm
theorem HO(x y:Int):fJ .int (.int .i64 x) (.int .i64 y)=some (decide (x=y)):=rfl
def kP:Mk (By×List jw) By:=⟨.str,.str,(·.1),fun x=> .sl 3 (x.2.map bX),yh,fun _=>rfl⟩
def chain(d:Db)(k:By):List jw:=((fK kP k d.of).map (·.2)).getD []
def dG(d:Db)(o:Nat)(ks:U):List U:=
 [.int .i64 d.lim.keys,.int .i64 d.lim.gA,.int .i64 d.lim.bytes,.int .i64 d.lim.marks,.int .i64 d.lim.records,.int .i64 d.lim.live,.int .u64 d.lim.last,.int .u64 d.now,ks,.map o,.int .i64 d.sk,.int .i64 d.sv,.int .i64 d.sb]
structure eW(h:List Uo)(s o:Nat)(d:Db)(ks:U):Prop where
 row:h[s]? =some (.row (dG d o ks))
 map:jX kP h[o]? d.of
structure oV(d:Db):Prop where
 keys:d.keys.length<small
 sQ:∀ k∈d.keys,k.length<small
 of:∀ x∈d.of,nE x.2
 EM:∀ x∈d.of,cw x.2<small
theorem mD{d:Db}(hd:oV d)(k:By):nE (chain d k):=by
 unfold chain;cases h:fK kP k d.of with
 |none=>exact⟨by decide,fun v hv=>(List.not_mem_nil hv).elim⟩
 |some x=>exact hd.of x (kR _ h)
theorem t99{h:List Uo}{s o:Nat}{d:Db}{ks:U}(fl:Nat)(hf:fl≤h.length)(hs:h[s]? =some (.row (dG d o ks))):G 99 [.ptr s 0] h fl=some (.bool true,h,fl):=by
 refine bL (fn:=v99) rfl rfl rfl ?_;simp only[dG]at hs;simp[Cq,Z5,Z6,hs,aZ hf]
theorem t55{h:List Uo}{s o:Nat}{d:Db}{ks:U}(fl:Nat)(hf:fl≤h.length)(hs:h[s]? =some (.row (dG d o ks))):G 55 [.ptr s 0] h fl=some (.int .u64 (d.now:Int),h,fl):=by
 refine bL (fn:=v55) rfl rfl rfl ?_;have c:=t99 fl hf hs;have hl:decide (s<h.length)=true:=decide_eq_true (bn.1 hs).1;simp only[dG]at hs;simp[Ca,Zu,Zv,Zw,c,hl,hs,aZ hf]
theorem t114{h:List Uo}{s o:Nat}{d:Db}{ks:U}(fl:Nat)(hf:fl≤h.length)(hs:eW h s o d ks)(k:By):G 114 [.ptr s 0,.str k] h fl=some (.sl 3 ((chain d k).map bX),h,fl):=by
 refine bL (fn:=RQ) rfl rfl rfl ?_;have c:=t99 fl hf hs.row;have hl:decide (s<h.length)=true:=decide_eq_true (bn.1 hs.row).1;have hr:=hs.row;have lk:∀ e,fH ⟨e,h,fl⟩ .str (.sl 3 []) false (.map o) (.str k)=some (.sl 3 ((chain d k).map bX)):=fun e=>by
  have:=mU kP (s:=⟨e,h,fl⟩) (m:=o) hs.map (.sl 3 []) k false;refine this.trans ?_;unfold chain;cases fK kP k d.of<;>rfl
 have hz:V.EV (.ag [] 0 0 3)=some (.sl 3 []):=rfl;simp only[dG]at hr;simp[w6,RS,RT,RU,c,hl,hr,lk,hz,aZ hf]
theorem t77{h:List Uo}{s o:Nat}{d:Db}{ks:U}(fl:Nat)(hf:fl≤h.length)(hs:eW h s o d ks)(hd:oV d)(k:By)(t:Nat):G 77 [.ptr s 0,.str k,.int .u64 (t:Int)] h fl=some (sS (pG (chain d k) t),h,fl):=by
 refine bL (fn:=v77) rfl rfl rfl ?_;have c:=t114 fl hf hs k;have c2:=t113 (chain d k) t (mD hd k);have hl:decide (s<h.length)=true:=decide_eq_true (bn.1 hs.row).1;simp only[sS]at c2;simp[Ck,ZN,ZO,c,c2,hl,sS,aZ hf]
theorem t138{h:List Uo}{s o:Nat}{d:Db}{ks:U}(fl:Nat)(hf:fl≤h.length)(hs:eW h s o d ks)(hd:oV d)(k:By):G 138 [.ptr s 0,.str k] h fl=some (.int .u64 (fm (chain d k):Nat),h,fl):=by
 refine bL (fn:=v138) rfl rfl rfl ?_;have c:=t114 fl hf hs k;have c2:=t189 (chain d k) (mD hd k).1;have hl:decide (s<h.length)=true:=decide_eq_true (bn.1 hs.row).1;simp[w9,Sd,Se,c,c2,hl,aZ hf]
@[simp] theorem qcH(n:Nat):jF .shr .no (.int .u64 (n:Int)) (.int .u64 1)=some (.int .u64 (half n:Nat)):=by
 show wN .shr .u64 (n:Int) 1=_;have e:((n:Int)).fdiv (2 ^ (min (1:Int).toNat IntKind.u64.bits))=((half n:Nat):Int):=by
  show(n:Int).fdiv 2=_;rw[Int.fdiv_eq_ediv_of_nonneg _ (by decide)];unfold half;omega
 simp only[wN,e];rfl
theorem t148(ks:List By)(i:Nat)(lo:By)(hi:i<ks.length):G 148 [.int .i64 (i:Int),.ptr 0 0,.ptr 1 0] [.row [.sl 1 (ks.map kC)],.row [.str lo]] 0=some (.bool (!lt (ks[i]?.getD []) lo),[.row [.sl 1 (ks.map kC)],.row [.str lo]],0):=by
 refine bL (fn:=v148) rfl rfl rfl ?_;have e1:(ks.map kC)[i]? =some [.str (ks[i]?.getD [])]:=by simp[kC,hi]
 simp[xu,SR,ay Xu,Ft,bg e1,cR]
def ot(ks:List By)(lo:By):Nat:=sX (fun j=>lt (ks[j]?.getD []) lo) (ks.length+1) 0 ks.length
theorem LI{n:Nat}(h:n≤18446744073709551615):aI .u64 (n:Int)=(n:Int):=by
 show(bif Nat.ble n (AK .u64)then Int.ofNat n else _)=_;have:Nat.ble n (AK .u64)=true:=oT h;rw[this];rfl
theorem qbZ(ks:List By)(lo:By)(hl:ks.length<small):∀ (f i j:Nat),j≤ks.length→i≤j→j - i<f→
  gL br mT qT pT BE 0 Fs 2 ⟨[(1,.func 148 [] [.ptr 0 0,.ptr 1 0]),(6,.int .i64 (j:Int)),(5,.int .i64 (i:Int))],[.row [.sl 1 (ks.map kC)],.row [.str lo]],0⟩
   (gI br mT qT pT BE (.seq (.region KJ) .ret) (kE 2 BE (.int .i64 (sX (fun j=>lt (ks[j]?.getD []) lo) f i j:Nat),[.row [.sl 1 (ks.map kC)],.row [.str lo]],0))):=by
 intro f
 induction f with
 |zero=>intro i j _ _ hh;omega
 |succ f ih=>
  intro i j h1 h2 h3;rw[ak Fs.eq_1];by_cases hlt:i<j
  ·have c1:(i:Int)<(j:Int):=by omega
   obtain⟨m,hm⟩:∃ m,m=(i+j) / 2:=⟨_,rfl⟩;have hmid:m<ks.length:=by omega
   obtain⟨n,hn⟩:∃ n,n=i+j:=⟨_,rfl⟩;have e0:(i:Int)+(j:Int)=(n:Int):=by omega
   have e1:aI .i64 (n:Int)=(n:Int):=fC (by unfold small at hl;omega);have e2:aI .u64 (n:Int)=(n:Int):=LI (by unfold small at hl;omega);have e3:aI .i64 (half n:Nat)=((m:Nat):Int):=by
    rw[show half n=m by unfold half;omega];exact fC (by unfold small at hl;omega)
   have e4:aI .i64 (((m:Nat):Int)+1)=((m+1:Nat):Int):=fD (by unfold small at hl;omega);have hx:=t148 ks m lo hmid;simp only[sX,decide_eq_true hlt,cond_true,←hm];cases hp:lt (ks[m]?.getD []) lo with
   |true=>
    rw[hp]at hx;have ih' :=ih (m+1) j h1 (by omega) (by omega);simp[Fq,KH,KI,SP,c1,e0,e1,e2,e3,e4,hx];exact ih'
   |false=>
    rw[hp]at hx;have ih' :=ih i m (by omega) (by omega) (by omega);simp[Fq,KH,KI,SQ,c1,e0,e1,e2,e3,e4,hx];exact ih'
  ·have c1:¬(i:Int)<(j:Int):=by omega
   simp only[sX,decide_eq_false hlt,cond_false];simp[Fq,KJ,c1]
theorem t106(ks:List By)(lo:By)(hl:ks.length<small):G 106 [.sl 1 (ks.map kC),.str lo] [] 0=some (.int .i64 (ot ks lo:Nat),[],0):=by
 refine bL (fn:=RB) rfl rfl rfl ?_;have h147:G 147 [.int .i64 (ks.length:Int),.func 148 [] [.ptr 0 0,.ptr 1 0]] [.row [.sl 1 (ks.map kC)],.row [.str lo]] 0=some (.int .i64 (ot ks lo:Nat),[.row [.sl 1 (ks.map kC)],.row [.str lo]],0):=by
  refine bL (fn:=BE) rfl rfl rfl ?_;have:=qbZ ks lo hl (ks.length+1) 0 ks.length (aq _) (dW _) (by omega);simp[xq,SN,SO];exact this
 simp[wX,RC,RD,h147]
def ym(d:Db)(hi:By)(t:Nat):List By→List (By×By)
 |[]=>[]
 |k::r=>bif !hi.isEmpty&& !lt k hi then[]else(match pG (chain d k) t with|some b=>[(k,b)]|none=>[])++ym d hi t r
def iO(d:Db)(lo hi:By)(t:Nat):List (By×By):=ym d hi t (d.keys.drop (ot d.keys lo))
def uF(p:By×By):List U:=[.str p.1,.sl 1 (bE p.2)]
theorem ER(ks:List By)(lo:By):ot ks lo≤ks.length:=(gE _ _ _ _ (dW _)).2
theorem eW.ne{h:List Uo}{s o:Nat}{d:Db}{ks:U}(hs:eW h s o d ks):s≠o:=by
 rintro rfl;obtain⟨lc,c,_,ho,_⟩:=hs.map;rw[hs.row]at ho;cases ho
theorem eW.oh{h:List Uo}{s o:Nat}{d:Db}{ks ks' :U}(hs:eW h s o d ks):eW (h.set s (.row (dG d o ks'))) s o d ks' :=
 ⟨List.getElem?_set_self (bn.1 hs.row).1,by rw[List.getElem?_set_ne hs.ne];exact hs.map⟩
theorem EL{h:List Uo}{s:Nat}{x:Uo}(hs:h[s]? =some x):h.set s x=h:=by
 obtain⟨h1,h2⟩:=bn.1 hs;rw[←h2];exact List.set_getElem_self h1
theorem qfF{h:List Uo}{s o:Nat}{d:Db}(fl:Nat)(hf:fl≤h.length)(hs:eW h s o d (.bF 1 (d.keys.map kC)))(hd:oV d)(hi:By)(t lo len:Nat)(hlo:lo+len=d.keys.length):
  ∀ (j i:Nat) (out:List (By×By)),i+j=len→out.length≤i→
  gL br mT qT pT v64 0 vP h.length ⟨[(9,.own (.t 9) 2 (out.map uF)),(29,.int .i64 (i:Int)),(3,.int .u64 (t:Int)),(0,.ptr s 0),(2,.str hi),(27,.view (.c s 8) lo len 1),(28,.int .i64 (len:Int))],h,fl⟩
   (gI br mT qT pT v64 (.seq (.region Ce) .ret) (kE h.length v64 (.own .r 2 ((out++ym d hi t (d.keys.drop (lo+i))).map uF),h,fl))):=by
 have hl:decide (s<h.length)=true:=decide_eq_true (bn.1 hs.row).1;have hlt:=(bn.1 hs.row).1;have hr:=hs.row;simp only[dG]at hr;intro j
 induction j with
 |zero=>
  intro i out hij ho;have h1:¬((i:Int)<(len:Int)):=by omega
  have h2:d.keys.drop (lo+i)=[]:=Gz (by omega);rw[ak vP.eq_1,h2];simp[yz,Ce,h1,aZ hf,ym]
 |succ j ih=>
  intro i out hij ho;have h1:((i:Int)<(len:Int)):=by omega
  have e3:aI .i64 ((i:Int)+1)=((i+1:Nat):Int):=fD (by have:=hd.keys;unfold small at this;omega);have hik:lo+i<d.keys.length:=by omega
  obtain⟨k,hk⟩:∃ k,d.keys[lo+i]? =some k:=⟨_,bP hik⟩;have e1:(d.keys.map kC)[lo+i]? =some [.str k]:=by simp[kC,hk]
  have d1:d.keys.drop (lo+i)=k::d.keys.drop (lo+(i+1)):=by
   rw[XD hik,show lo+i+1=lo+(i+1) by omega];congr 1;rw[bP hik]at hk;exact Option.some.inj hk
  have c:=t77 fl (by simpa using hf) (hs.oh (ks' :=.cZ)) hd k t;have ia:∀ s',qo s' 1 (some (.view (.c s 8) lo len 1)) (some (.int .i64 (i:Int)))=some (.bD (.c s 8) (lo+i) 0,s'):=fun s' =>PW (by omega);have hss:∀ X:Uo,(h.set s X)[s]? =some X:=fun X=>List.getElem?_set_self hlt;have hself:=EL hr;generalize hX:d.keys.map kC=X at*;rw[ak vP.eq_1,d1,ym];simp only[dG]at c;cases hb:hi.isEmpty with
  |true=>
   simp only[Bool.not_true,Bool.false_and,cond_false];cases hg:pG (chain d k) t with
   |none=>
    have ih' :=ih (i+1) out (by omega) (by omega);rw[hg]at c;simp only[sS]at c;simp[yz,DR,DS,IP,IQ,Cd,h1,ia,hr,e1,e3,hb,c,hss,hself,hl,aZ hf];simpa using ih'
   |some b=>
    have ih' :=ih (i+1) (out++[(k,b)]) (by omega) (by simp;omega);have b1:(out.length+1)*40≤bp∧out.length+1≤bp:=by have:=hd.keys;unfold small at this;unfold bp;omega
    rw[hg]at c;simp only[sS]at c;simp[uF]at ih';simp[yz,DR,DS,IP,IQ,LA,Cd,h1,ia,hr,e1,e3,hb,c,hss,hself,hl,aZ hf,b1,uF];simpa using ih'
  |false=>
   cases hb2:lt k hi with
   |false=>simp[yz,DR,DS,Ce,h1,ia,hr,e1,hb,hb2,aZ hf]
   |true=>
    simp only[Bool.not_true,Bool.and_false,cond_false];cases hg:pG (chain d k) t with
    |none=>
     have ih' :=ih (i+1) out (by omega) (by omega);rw[hg]at c;simp only[sS]at c;simp[yz,DR,DS,IP,IQ,Cd,h1,ia,hr,e1,e3,hb,hb2,c,hss,hself,hl,aZ hf];simpa using ih'
    |some b=>
     have ih' :=ih (i+1) (out++[(k,b)]) (by omega) (by simp;omega);have b1:(out.length+1)*40≤bp∧out.length+1≤bp:=by have:=hd.keys;unfold small at this;unfold bp;omega
     rw[hg]at c;simp only[sS]at c;simp[uF]at ih';simp[yz,DR,DS,IP,IQ,LA,Cd,h1,ia,hr,e1,e3,hb,hb2,c,hss,hself,hl,aZ hf,b1,uF];simpa using ih'
def slN(s:Vs)(w:Nat):Option Nat→Option Nat→Option Nat→Option (U×Vs)
 |some 0,some 0,some 0=>some (.nl w,s)
 |_,_,_=>none
@[simp] theorem qiL(s:Vs)(w:Nat):slN s w (some 0) (some 0) (some 0)=some (.nl w,s):=rfl
@[simp] theorem qdE(d w:Nat)(lo hi mx:Option bJ)(s:Vs):ir d w lo hi mx (.nl w) s=slN s w (bw s.e hi 0 0) (bw s.e mx 0 0) (bw s.e lo 0 0):=by
 simp only[ir,jC,cond_true];rfl
theorem t64{h:List Uo}{s o:Nat}{d:Db}{ks:U}(fl:Nat)(hf:fl≤h.length)(hs:eW h s o d ks)(hk:ks=.bF 1 (d.keys.map kC)∨(ks=.nl 1∧d.keys=[]))(hd:oV d)(lo hi:By)(t:Nat):
  G 64 [.ptr s 0,.str lo,.str hi,.int .u64 (t:Int)] h fl=some (.own .r 2 ((iO d lo hi t).map uF),h,fl):=by
 refine bL (fn:=v64) rfl rfl rfl ?_;have hl:decide (s<h.length)=true:=decide_eq_true (bn.1 hs.row).1;have c0:=t99 fl hf hs.row;have c1:=t106 d.keys lo hd.keys;have hle:=ER d.keys lo;have hr:=hs.row;rcases hk with rfl|⟨rfl,hk⟩
 ·have a:=qfF fl hf hs hd hi t (ot d.keys lo) (d.keys.length - ot d.keys lo) (by omega) (d.keys.length - ot d.keys lo) 0 [] (by omega) (by simp);have ek:fM (.int .i64 (ot d.keys lo:Nat)) d.keys.length=some (ot d.keys lo):=by
   show asNat (.int .i64 (ot d.keys lo:Nat)) _=some _;simp only[asNat];rw[if_pos ⟨Int.natCast_nonneg _,by omega⟩];rfl
  simp only[dG]at hr;simp at a;simp[vQ,Vb,Vc,Vd,ay Ve,LB,c0,c1,hl,hr,ek,aZ hf,cR,iO];exact a
 ·have hz:ot d.keys lo=0:=by rw[hk]at hle;simp at hle;rw[hk];exact hle
  have c2:=t106 [] lo (by decide);rw[hk]at hz;rw[hz]at c2;simp only[dG]at hr;simp at c2;have e:iO d lo hi t=[]:=by unfold iO;rw[hk];simp[ym]
  rw[e];have e0:fM (.int .i64 0) 0=some 0:=rfl;simp[vQ,Vb,Vc,Vd,ay Ve,LB,c0,c2,hl,hr,e0,cR];rw[ak vP.eq_1];simp[yz,Ce,aZ hf]
end Go.RE
