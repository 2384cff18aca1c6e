/- Contracts: what is known tells. -/
import Derived.Test.YtigkmaeaoaejiaaGreatDoorPart14
set_option linter.unusedVariables false
set_option linter.unusedSimpArgs false
set_option linter.unnecessarySimpa false
namespace Go.RE
variable{M:eA}{Q:fq}{Pm:gU}
theorem qqH(hp:aG Pm)(hq:cI Q)(s:ZG)(l:List ZG)(k:By)(hl:(s::l).length<small):gF ah M Q Pm 59 [.sl 2 ([.str s.1,.str s.2]::l.map Qo),.str k] [] 0=some (.bool (inB (s::l) k),[],0):=t59 hp hq (s::l) k hl
theorem qqI(hp:aG Pm)(hq:cI Q)(k:By):gF ah M Q Pm 59 [.sl 2 [],.str k] [] 0=some (.bool (inB [] k),[],0):=t59 hp hq [] k (by decide)
def qoT(t:Tb)(p:List qnC×Nat)(S:List ZG)(k:By):U:=
 if cnt k p.1=0∧inB S k=false then .aP [.sl 1 [],.bool false,.iface 45 (.agg [.str k,.str k])]else .aP [.sl 1 (az (mV k t.1)),.bool (dZ k t.1).isSome,.aK]
theorem t28(hp:aG Pm)(hq:cI Q)(hc:Pm 49=some bU)(t:Tb)(p:List qnC×Nat)(S:List ZG)(k:By)(h:List Uo)(fl i ti pi mi:Nat)(hf:fl≤h.length)(hT:ju t.1 t.2)(hS:S.length<small)
  (hi:h[i]? =some (.row [.ptr ti 0,.map pi,qnB S])) (hti:h[ti]? =some (.row [.map mi])) (hmi:h[mi]? =some (dX t)) (hpi:h[pi]? =some (ptO p)):
  gF ah M Q Pm 28 [.ptr i 0,.str k] h fl=some (qoT t p S k,h,fl):=by
 refine bq hp rfl rfl ?_;have hlk:=fun s hs=>qn4 k p.1 p.2 pi s hs;have c19:=t19 (M:=M) hp hq hc t.1 t.2 mi ti hT k h fl hf hti hmi;have h60:=t60 (M:=M) (Q:=Q) hp k k;have hlt:ti<h.length:=(cz.1 hti).1;simp only[ptO]at hpi;unfold qoT;by_cases hcn:cnt k p.1=0
 ·have e0:((cnt k p.1:Int)==0)=true:=by rw[hcn];rfl
  cases S with
  |nil=>
   simp only[qnB]at hi;simp[BF,qaD,qaO,qav,hi,hpi,hlk,e0,hcn,hq,qqI hp hq,qpw,h60,b9 hf]
  |cons s0 S=>
   have hs:=qqH (M:=M) (Pm:=Pm) hp hq s0 S k hS;simp only[qnB,List.map_cons,Qo]at hi;cases hb:inB (s0::S) k with
   |false=>
    rw[hb]at hs;simp[BF,qaD,qaO,qav,hi,hpi,hlk,e0,hcn,hq,hs,h60,b9 hf]
   |true=>
    rw[hb]at hs;simp[BF,qaD,qaO,qhz,hi,hpi,hlk,e0,hcn,hq,hs,c19,b9 hf]
 ·have e0:((cnt k p.1:Int)==0)=false:=by rw[beq_eq_false_iff_ne];omega
  cases S with
  |nil=>
   simp only[qnB]at hi;simp[BF,qaD,qaO,qhz,hi,hpi,hlk,e0,hcn,hq,c19,b9 hf]
  |cons s0 S=>
   simp only[qnB,List.map_cons,Qo]at hi;simp[BF,qaD,qaO,qhz,hi,hpi,hlk,e0,hcn,hq,c19,b9 hf]
def qnS(t:Tb)(S:List ZG)(lo hi:By):U:=
 if right lo hi=true then(if qnz S (lo,hi)=true then .aP [.sl 2 ((Pd t.1 lo hi (oO t.1)).map fL),.aK]else .aP [.sl 2 [],.iface 45 (.agg [.str lo,.str hi])])else .aP [.sl 2 [],.aK]
structure Szs(n:Nat)(a:qny)(b:qn2):Prop where
 tab:ju a.t.1 a.t.2
 len:a.t.1.length≤100*n
 cnt:∀ k,cnt k a.p.1≤n
 spn:a.s.length≤n
 prs:b.P.length≤100*n
 kys:b.K.length≤n
 sts:b.S.length≤n
def kn0:qny:=⟨([],0),([],0),[]⟩
def vw0:qn2:=⟨[],[],[]⟩
theorem qqG:Szs 0 kn0 vw0:=⟨Mp,aM _,fun k=>aM _,aM _,aM _,aM _,aM _⟩
def kL(k:By):List Pr→Option By
 |[]=>none
 |p::L=>match kL k L with
  |some d=>some d
  |none=>if(p.1==k)=true then some p.2 else none
theorem wO(k:By)(p:Pr)(L:List Pr):kL k (p::L)=match kL k L with
  |some d=>some d
  |none=>if(p.1==k)=true then some p.2 else none:=rfl
theorem SB:∀ (L P:List Pr) (k d:By),(k,d)∈L.foldl rq P↔kL k L=some d∨(kL k L=none∧(k,d)∈P):=by
 intro L
 induction L with
 |nil=>intro P k d;simp[kL]
 |cons p L ih=>
  intro P k d;rw[List.foldl_cons,ih,wO,qA];cases hl:kL k L with
  |some d' =>simp
  |none=>
   simp only[true_and,reduceCtorEq,false_or];by_cases hk:(p.1==k)=true
   ·have hk' :=eq_of_beq hk;rw[if_pos hk];simp only[ay,reduceCtorEq,false_and,or_false];constructor
    ·rintro(h|⟨_,h⟩)
     ·rw[←h]
     ·exact absurd hk'.symm h
    ·intro h;left;rw[←h,←hk']
   ·rw[if_neg hk];simp only[reduceCtorEq,true_and,false_or];constructor
    ·rintro(h|⟨h,_⟩)
     ·exact absurd (by rw[←h];exact beq_self_eq_true _) hk
     ·exact h
    ·intro h;exact .inr ⟨h,fun hh=>hk (by show(p.1==k)=true;rw[show k=p.1 from hh];exact beq_self_eq_true _)⟩
theorem Am{k d:By}:∀ {R:List Pr},kL k R=some d→(k,d)∈R:=by
 intro R
 induction R with
 |nil=>intro h;cases h
 |cons p R ih=>
  intro h;rw[wO]at h;cases hl:kL k R with
  |some d' =>rw[hl]at h;cases h;exact ki _ (ih hl)
  |none=>
   rw[hl]at h;simp only at h;split at h
   ·rename_i hk;cases h;rw[←eq_of_beq hk];exact k7
   ·cases h
theorem P3{k:By}:∀ {R:List Pr},kL k R=none→∀ p∈R,p.1≠k:=by
 intro R
 induction R with
 |nil=>intro _ p h;cases h
 |cons a R ih=>
  intro h p hp;rw[wO]at h;cases hl:kL k R with
  |some d' =>rw[hl]at h;cases h
  |none=>
   rw[hl]at h;simp only at h;split at h
   ·cases h
   ·rename_i hk;rcases eB.1 hp with rfl|hp
    ·intro hh;exact hk (by rw[hh];exact beq_self_eq_true _)
    ·exact ih hl p hp
theorem ZL{R:List Pr}(h:ue R){k d d' :By}(h1:(k,d)∈R)(h2:(k,d')∈R):d=d' :=by
 induction R with
 |nil=>cases h1
 |cons a R ih=>
  obtain⟨ha,hr⟩:=List.pairwise_cons.1 h;rcases eB.1 h1 with e1|m1<;>rcases eB.1 h2 with e2|m2
  ·rw[←e1]at e2;cases e2;rfl
  ·have:=ha _ m2;rw[←e1]at this;rw[show lt k k=false from qC _]at this;cases this
  ·have:=ha _ m1;rw[←e2]at this;rw[show lt k k=false from qC _]at this;cases this
  ·exact ih hr m1 m2
theorem WG{R:List Pr}(h:ue R)(k d:By):kL k R=some d↔(k,d)∈R:=by
 constructor
 ·exact Am
 ·intro hm;cases hl:kL k R with
  |none=>exact absurd rfl (P3 hl _ hm)
  |some d' =>rw[ZL h (Am hl) hm]
theorem qnJ(p:By→Bool)(k:By):∀ L:List Pr,kL k (L.filter fun x=>p x.1)=if p k=true then kL k L else none:=by
 intro L
 induction L with
 |nil=>simp[kL]
 |cons a L ih=>
  rw[List.filter_cons];by_cases ha:p a.1=true
  ·rw[if_pos ha,wO,wO,ih];by_cases hk:p k=true
   ·rw[if_pos hk,if_pos hk]
   ·rw[if_neg hk,if_neg hk];simp only;rw[if_neg];intro hh;exact hk (by rw[←eq_of_beq hh];exact ha)
  ·rw[if_neg ha,ih,wO];by_cases hk:p k=true
   ·rw[if_pos hk,if_pos hk];cases kL k L with
    |some d=>rfl
    |none=>
     simp only;rw[if_neg];intro hh;exact ha (by rw[eq_of_beq hh];exact hk)
   ·rw[if_neg hk,if_neg hk]
theorem BP(L:List Pr)(k d:By):(k,d)∈Bw L↔kL k L=some d:=by
 unfold Bw;rw[SB];simp
theorem Ui:∀ (L P:List Pr),ue P→ue (L.foldl rq P):=by
 intro L
 induction L with
 |nil=>intro P h;exact h
 |cons p L ih=>intro P h;exact ih _ (sP h p)
theorem qom{P:List Pr}(hP:ue P)(p:By→Bool)(L:List Pr):(L.filter fun x=>p x.1).foldl rq P=((Bw L).filter fun x=>p x.1).foldl rq P:=by
 have hs:ue ((Bw L).filter fun x=>p x.1):=eY (qn5 L) _;have hl:∀ k,kL k (L.filter fun x=>p x.1)=kL k ((Bw L).filter fun x=>p x.1):=by
  intro k;apply Option.ext;intro d;rw[WG hs,List.mem_filter,qnJ,BP];by_cases hk:p k=true
  ·rw[if_pos hk];exact⟨fun h=>⟨h,hk⟩,fun h=>h.1⟩
  ·rw[if_neg hk];exact⟨fun h=>by(cases h),fun h=>absurd h.2 hk⟩
 refine ur (Ui _ _ hP) (Ui _ _ hP) fun x=> ?_;obtain⟨k,d⟩:=x;rw[SB,SB,hl]
theorem qpC:∀ (D:List Pr) (es:List dK) (P:List Pr),Rl es P→Rl (qnT es D) (D.foldl (fun P p=>Br P p.1) P):=by
 intro D
 induction D with
 |nil=>intro es P h;exact h
 |cons p D ih=>intro es P h;exact ih _ _ (qeA h p.1)
theorem qoV:∀ (D P:List Pr) (x:Pr),x∈D.foldl (fun P p=>Br P p.1) P↔x∈P∧∀ p∈D,x.1≠p.1:=by
 intro D
 induction D with
 |nil=>intro P x;simp
 |cons p D ih=>
  intro P x;rw[List.foldl_cons,ih,s6];simp only[eB,forall_eq_or_imp];constructor
  ·rintro⟨⟨h1,h2⟩,h3⟩;exact⟨h1,h2,h3⟩
  ·rintro⟨h1,h2,h3⟩;exact⟨⟨h1,h2⟩,h3⟩
theorem qoZ:∀ (D P:List Pr),ue P→ue (D.foldl (fun P p=>Br P p.1) P):=by
 intro D
 induction D with
 |nil=>intro P h;exact h
 |cons p D ih=>intro P h;exact ih _ (eY h _)
theorem qpt{P:List Pr}(h:ue P)(p:By→Bool):(P.filter fun x=>p x.1).foldl (fun P p=>Br P p.1) P=P.filter fun x=> !p x.1:=by
 refine ur (qoZ _ _ h) (eY h _) fun x=> ?_;rw[qoV,List.mem_filter];constructor
 ·rintro⟨h1,h2⟩;refine⟨h1,?_⟩;cases hp:p x.1 with
  |false=>rfl
  |true=>exact absurd rfl (h2 x (List.mem_filter.2 ⟨h1,hp⟩))
 ·rintro⟨h1,h2⟩;refine⟨h1,fun q hq hh=> ?_⟩;have h3:=(List.mem_filter.1 hq).2;rw[←hh]at h3;rw[h3]at h2;cases h2
theorem qoW{t:Tb}{P:List Pr}(h:Rl t.1 P)(lo hi:By)(L:List Pr):Rl (qnU t lo hi L).1 (qoc P lo hi L):=by
 unfold qnU qoc qnE;rw[qb2 h];have h1:=qpC (P.filter fun x=>has lo hi x.1) t.1 P h;rw[qpt h.XW (has lo hi)]at h1;have h2:=HZ (L.filter fun x=>has lo hi x.1) (qnT t.1 (P.filter fun x=>has lo hi x.1),t.2) _ h1;rw[qom (eY h.XW _) (has lo hi) L]at h2;exact h2
theorem qqf(k k' :By)(n:Nat):∀ es,qnG k (qoe k' n es)=if(k==k')=true then(qnG k' es).map (fun e=>⟨k',n,e.b⟩)else qnG k es:=by
 intro es
 induction es with
 |nil=>simp[qoe,qnG]
 |cons e es ih=>
  unfold qnG at ih⊢;simp only[qoe];by_cases he:(e.k==k')=true
  ·rw[if_pos he,List.find?_cons,List.find?_cons,List.find?_cons,he];by_cases hk:(k==k')=true
   ·rw[if_pos hk,eq_of_beq hk,beq_self_eq_true];rfl
   ·rw[if_neg hk];have h1:(k' ==k)=false:=by rw[NL];simpa using hk
    have h2:(e.k==k)=false:=by rw[eq_of_beq he];exact h1
    rw[h1,h2]
  ·rw[if_neg he,List.find?_cons,List.find?_cons,List.find?_cons,ih];have he' :(e.k==k')=false:=by simpa using he
   rw[he'];by_cases hk:(k==k')=true
   ·rw[if_pos hk,if_pos hk,eq_of_beq hk,he']
   ·rw[if_neg hk,if_neg hk]
theorem qps(k k' :By)(n c:Nat)(es:List qnC):cnt k (qoO k' n c es)=if(k==k')=true then n else cnt k es:=by
 unfold qoO cnt;by_cases hs:(qnG k' es).isSome=true
 ·rw[if_pos hs,qqf];by_cases hk:(k==k')=true
  ·rw[if_pos hk,if_pos hk];obtain⟨e,he⟩:=Option.isSome_iff_exists.1 hs;rw[he];rfl
  ·rw[if_neg hk,if_neg hk]
 ·rw[if_neg hs];have hn:qnG k' es=none:=by simpa using hs
  unfold qnG at hn⊢;rw[List.find?_append];by_cases hk:(k==k')=true
  ·rw[if_pos hk,eq_of_beq hk,hn];simp
  ·rw[if_neg hk];have h1:(k' ==k)=false:=by rw[NL];simpa using hk
   simp[h1]
theorem qnH(k k' :By)(p:List qnC×Nat):cnt k (bump k' p).1=if(k==k')=true then cnt k' p.1+1 else cnt k p.1:=qps k k' _ _ _
structure Rkv(a:qny)(b:qn2):Prop where
 rl:Rl a.t.1 b.P
 sp:a.s=b.S
 pt:∀ k,cnt k a.p.1=0↔inB b.K k=false
theorem rk0:Rkv kn0 vw0:=⟨V5,rfl,fun k=>by simp[kn0,vw0,cnt,qnG,inB]⟩
theorem qoA{a:qny}{b:qn2}(h:Rkv a b)(x:Les):Rkv (e9 x a) (qnM x b):=by
 unfold e9 qnM;by_cases h1:x.1.1=x.1.2
 ·rw[if_pos h1,if_pos h1];refine⟨qoW h.rl _ _ _,h.sp,fun k=> ?_⟩;simp only[qnH,inB,List.any_append,List.any_cons,List.any_nil,Bool.or_false,Pv];have hk:=h.pt k;unfold inB at hk;by_cases hx:(k==x.1.1)=true
  ·rw[if_pos hx,hx];simp
  ·have hx' :(k==x.1.1)=false:=by simpa using hx
   rw[if_neg hx,hx',Bool.or_false];exact hk
 ·rw[if_neg h1,if_neg h1];by_cases h2:right x.1.1 x.1.2=true
  ·rw[if_pos h2,if_pos h2];exact⟨qoW h.rl _ _ _,by simp[h.sp],h.pt⟩
  ·rw[if_neg h2,if_neg h2];exact h
theorem qpE{es:List dK}{c:Nat}(h:ju es c)(k:By):ju (qoL es k) c∧(qoL es k).length≤es.length:=by
 unfold qoL;split
 ·exact⟨⟨((vw k es).map (·.b)).nodup h.nodup,fun e he=>h.lt e ((vw k es).subset he),fun e he=>h.dat e ((vw k es).subset he)⟩,(vw k es).length_le⟩
 ·exact⟨h,aM _⟩
theorem qo1:∀ (D:List Pr) {es:List dK} {c:Nat},ju es c→ju (qnT es D) c∧(qnT es D).length≤es.length:=by
 intro D
 induction D with
 |nil=>intro es c h;exact⟨h,aM _⟩
 |cons p D ih=>
  intro es c h;obtain⟨h1,h2⟩:=qpE h p.1;obtain⟨h3,h4⟩:=ih h1;exact⟨h3,Nat.le_trans h4 h2⟩
theorem qoB{t:Tb}(h:ju t.1 t.2)(lo hi:By)(L:List Pr)(hd:∀ p∈L,p.2.length<small):ju (qnU t lo hi L).1 (qnU t lo hi L).2∧(qnU t lo hi L).1.length≤t.1.length+L.length:=by
 unfold qnU qnE;obtain⟨h1,h2⟩:=qo1 (Pd t.1 lo hi (oO t.1)) h;obtain⟨h3,h4⟩:=CW (L.filter fun x=>has lo hi x.1) (qnT t.1 (Pd t.1 lo hi (oO t.1)),t.2) (fun p hp=>hd p (List.mem_filter.1 hp).1) h1;have h5:=List.length_filter_le (fun x:Pr=>has lo hi x.1) L;exact⟨h3,by simp only at h4;omega⟩
theorem qoz(P:List Pr)(lo hi:By)(L:List Pr):(qoc P lo hi L).length≤P.length+L.length:=by
 unfold qoc;have h1:=P6 ((Bw L).filter fun x=>has lo hi x.1) (P.filter fun x=> !has lo hi x.1);have h2:=List.length_filter_le (fun x:Pr=>has lo hi x.1) (Bw L);have h3:=List.length_filter_le (fun x:Pr=> !has lo hi x.1) P;have h4:(Bw L).length≤L.length:=by have:=P6 L [];simpa[Bw]using this
 omega
theorem qo0{n:Nat}{a:qny}{b:qn2}(h:Szs n a b)(x:Les)(hx:x.2.length≤100)(hd:∀ p∈x.2,p.2.length<small):Szs (n+1) (e9 x a) (qnM x b):=by
 have h1:=h.len;have h2:=h.spn;have h3:=h.prs;have h4:=h.kys;have h5:=h.sts;unfold e9 qnM;by_cases e1:x.1.1=x.1.2
 ·rw[if_pos e1,if_pos e1];obtain⟨k1,k2⟩:=qoB h.tab x.1.1 (x.1.1++[0]) x.2 hd;have k3:=qoz b.P x.1.1 (x.1.1++[0]) x.2;refine⟨k1,by simp only;omega,fun k=> ?_,by simp only;omega,by simp only;omega,by simp;omega,by simp only;omega⟩;simp only[qnH];have:=h.cnt k;have:=h.cnt x.1.1;split<;>omega
 ·rw[if_neg e1,if_neg e1];by_cases e2:right x.1.1 x.1.2=true
  ·rw[if_pos e2,if_pos e2];obtain⟨k1,k2⟩:=qoB h.tab x.1.1 x.1.2 x.2 hd;have k3:=qoz b.P x.1.1 x.1.2 x.2;refine⟨k1,by simp only;omega,fun k=>by have:=h.cnt k;simp only;omega,by simp;omega,by simp only;omega,by simp only;omega,by simp;omega⟩
  ·rw[if_neg e2,if_neg e2];exact⟨h.tab,by omega,fun k=>by have:=h.cnt k;omega,by omega,by omega,by omega,by omega⟩
variable{M:eA}{Q:fq}{Pm:gU}
theorem US{L:List Pr}(h:E3 L=true):L.length≤100∧∀ p∈L,p.2.length<small:=by
 unfold E3 at h;rw[cm,qd,decide_eq_true_eq]at h;refine⟨h.2,fun p hp=> ?_⟩;have:=h.1 p hp;rw[cm,decide_eq_true_eq,decide_eq_true_eq]at this;unfold small;omega
theorem PM{P:List Pr}(h:ue P):P.foldl rq []=P:=by
 refine ur (Ui P [] List.Pairwise.nil) h fun x=> ?_;obtain⟨k,d⟩:=x;have h1:=BP P k d;unfold Bw at h1;rw[h1,WG h]
theorem BQ{P:List Pr}(h:ue P)(k:By)(g:Bool)(d:By)(x:Pr):x∈oa P (k,g,d)↔(if x.1=k then g=false∧x.2=d else x∈P):=by
 unfold oa;cases g with
 |true=>
  simp only[if_true,s6];by_cases hx:x.1=k<;>simp[hx]
 |false=>
  simp only[mF,if_false];rw[NU h,qA];by_cases hx:x.1=k
  ·simp only[hx,if_true,ne_eq,not_true,and_false,or_false,true_and];exact⟨fun h=>by rw[h],fun h=>Prod.ext hx h⟩
  ·simp only[hx,if_false];exact⟨fun h=>h.elim (fun h=>absurd (by rw[h]) hx) fun h=>h.1,fun h=> .inr ⟨h,hx⟩⟩
theorem J8{P:List Pr}(h:ue P)(w:Wr):ue (oa P w):=Px h [w]
def NN(p:By→Bool)(P:List Pr)(e:bL):List Pr:=if p e.k=true then oa P (e.k,e.g,e.d)else P
def xD(p:By→Bool)(P:List Pr)(ms:List bL):List Pr:=ms.foldl (NN p) P
theorem NC(p:By→Bool){P:List Pr}(h:ue P)(e:bL):ue (NN p P e):=by unfold NN;split;exact J8 h _;exact h
theorem yB(p:By→Bool):∀ (ms:List bL) {P:List Pr},ue P→ue (xD p P ms):=by
 intro ms
 induction ms with
 |nil=>intro P h;exact h
 |cons e ms ih=>intro P h;exact ih (NC p h e)
theorem vJ(p:By→Bool):∀ (ms:List bL) {P:List Pr},ue P→(ms.map (·.k)).Nodup→∀ x,x∈xD p P ms↔(match di x.1 ms with|some e=>if p x.1=true then e.g=false∧x.2=e.d else x∈P|none=>x∈P):=by
 intro ms
 induction ms with
 |nil=>intro P _ _ x;exact Iff.rfl
 |cons e ms ih=>
  intro P h hn x;simp only[List.map_cons,List.nodup_cons]at hn;have h1:=ih (NC p h e) hn.2 x;rw[show xD p P (e::ms)=xD p (NN p P e) ms from rfl,h1];by_cases hx:(e.k==x.1)=true
  ·have hk:=eq_of_beq hx;have hno:di x.1 ms=none:=by
    unfold di;rw[List.find?_eq_none];intro y hy hy';exact hn.1 (by rw[hk,←eq_of_beq hy'];exact fh.2 ⟨y,hy,rfl⟩)
   have hso:di x.1 (e::ms)=some e:=by simp[di,List.find?_cons,hx]
   rw[hno,hso];simp only[NN,←hk];by_cases hp:p e.k=true
   ·rw[if_pos hp,if_pos hp,BQ h];simp[hk]
   ·rw[if_neg hp,if_neg hp]
  ·have hx' :(e.k==x.1)=false:=by simpa using hx
   have hso:di x.1 (e::ms)=di x.1 ms:=by simp[di,List.find?_cons,hx']
   rw[hso];have hm:x∈NN p P e↔x∈P:=by
    unfold NN;split
    ·rw[BQ h,if_neg (fun hh=>hx (by simp[hh]))]
    ·exact Iff.rfl
   rw[hm]
theorem Ju{ms vis:List bL}(hp:vis.Perm ms)(hn:(ms.map (·.k)).Nodup)(k:By):di k vis=di k ms:=by
 have hn2:(vis.map (·.k)).Nodup:=(hp.map _).nodup_iff.2 hn;have uq:∀ {l:List bL} {a b:bL},(l.map (·.k)).Nodup→a∈l→b∈l→a.k=b.k→a=b:=by
  intro l
  induction l with
  |nil=>intro a b _ h;cases h
  |cons c l ih=>
   intro a b hn ha hb hk;simp only[List.map_cons,List.nodup_cons]at hn;rcases eB.1 ha with h1|h1
   ·rcases eB.1 hb with h2|h2
    ·rw[h1,h2]
    ·exact absurd (fh.2 ⟨b,h2,by rw[←hk,h1]⟩) hn.1
   ·rcases eB.1 hb with h2|h2
    ·exact absurd (fh.2 ⟨a,h1,by rw[hk,h2]⟩) hn.1
    ·exact ih hn.2 h1 h2 hk
 cases h1:di k vis with
 |none=>
  symm;unfold di at h1⊢;rw[List.find?_eq_none]at h1⊢;exact fun x hx=>h1 x (hp.symm.subset hx)
 |some a=>
  have ha:=B8 h1;have hak:=List.find?_some h1;cases h2:di k ms with
  |none=>
   unfold di at h2;rw[List.find?_eq_none]at h2;exact absurd hak (h2 a (hp.subset ha))
  |some b=>
   have hb:=B8 h2;have hbk:=List.find?_some h2;rw[uq hn (hp.subset ha) hb (by rw[eq_of_beq hak,eq_of_beq hbk])]
theorem Gz(p:By→Bool){P:List Pr}(h:ue P){ms vis:List bL}(hp:vis.Perm ms)(hn:(ms.map (·.k)).Nodup):xD p P vis=xD p P ms:=by
 have hn2:(vis.map (·.k)).Nodup:=(hp.map _).nodup_iff.2 hn;refine ur (yB p vis h) (yB p ms h) fun x=> ?_;rw[vJ p vis h hn2,vJ p ms h hn,Ju hp hn]
def Ot(p:By→Bool)(t:Tb)(e:bL):Tb:=if p e.k=true then(Cm e.k e.g e.d t.2 t.1,HU e.k e.g t.2 t.1)else t
def It(p:By→Bool)(t:Tb)(ms:List bL):Tb:=ms.foldl (Ot p) t
theorem qeP(p:By→Bool):∀ (ms:List bL) {t:Tb} {P:List Pr},Rl t.1 P→Rl (It p t ms).1 (xD p P ms):=by
 intro ms
 induction ms with
 |nil=>intro t P h;exact h
 |cons e ms ih=>
  intro t P h;have h1:Rl (Ot p t e).1 (NN p P e):=by
   unfold Ot NN;split
   ·exact Hu h (e.k,e.g,e.d)
   ·exact h
  exact ih h1
theorem Zv(p:By→Bool):∀ (ms:List bL) {t:Tb},(∀ e∈ms,e.d.length<small)→ju t.1 t.2→ju (It p t ms).1 (It p t ms).2∧(It p t ms).1.length≤t.1.length+ms.length:=by
 intro ms
 induction ms with
 |nil=>intro t _ h;exact⟨h,by simp[It]⟩
 |cons e ms ih=>
  intro t hd h;have h1:ju (Ot p t e).1 (Ot p t e).2∧(Ot p t e).1.length≤t.1.length+1:=by
   unfold Ot;split
   ·exact MP h e.k e.g e.d (hd e k7)
   ·exact⟨h,by omega⟩
  have h2:=ih (t:=Ot p t e) (fun e he=>hd e (ki _ he)) h1.1;exact⟨h2.1,by have:=h2.2;have:=h1.2;show(It p (Ot p t e) ms).1.length≤_;simp only[List.length_cons];omega⟩
theorem Yg{es:List dK}{P:List Pr}(h:Rl es P):oO es=P.map (·.1)∧∀ p∈P,mV p.1 es=p.2:=by
 have h1:=all_eq h;unfold Pd at h1;have h2:(oO es).filter (has [] [])=oO es:=List.filter_eq_self.2 fun x _=>NI x;rw[h2]at h1;refine⟨by rw[←h1,List.map_map];simp[Function.comp_def],fun p hp=> ?_⟩;rw[←h1]at hp;obtain⟨k,_,rfl⟩:=fh.1 hp;rfl
inductive LA where
 |err (f:Uo)
 |rows (l:List (List U))
def Eh(σ:By→Rn×Int)(p:Pr):List U:=bg (σ p.1).1++[.sl 1 (az p.2)]
def iA(k:UInt8)(σ:By→Rn×Int):List Pr→LA
 |[]=> .rows []
 |p::P=>if(σ p.1).2=0 then(match iA k σ P with
  | .err f=> .err f
  | .rows l=> .rows (Eh σ p::l))else .err (cW k (σ p.1).2)
def FZ(M:eA)(Q:fq)(Pm:gU)(σ:By→Rn×Int):Prop:=∀ k:By,k.length<small→gF ah M Q Pm 109 [.str k] [] 0=some (.aP [.agg (bg (σ k).1),.int .i64 (σ k).2],[],0)
def JC(K:Ex→Vs→Prop)(H:List Uo)(fl:Nat)(out:List (List U)):LA→Prop
 | .err f=>∀ (x:Uo) (e:Env),K .ret ⟨(7,.iface 191 (.ptr (H.length+1) 0))::(6,.own (.t 6) 9 [])::e,H++[x,f],fl⟩
 | .rows l=>K .normal ⟨[(16,.own (.t 16) 9 (out++l))],H,fl⟩
section
variable{h:List Uo}{fl c t i m cl:Nat}{ms:List bL}
theorem qgL(hp:aG Pm)(hq:cI Q)(hcl:Pm 49=some bU)(r:Rn)(σ:By→Rn×Int)(hσ:FZ M Q Pm σ)(H:List Uo)(q4 q12 mt:Nat)(es:List dK)(ec:Nat)(h4:H[q4]? =some (.row (bg r)))(h12:H[q12]? =some (.row [.map mt]))(hmt:H[mt]? =some (.map (es.map fe) ec))(hf:fl≤H.length)(K:Ex→Vs→Prop)
  (P:List Pr) (hl:P.length<2000000) (hd:∀ p∈P,mV p.1 es=p.2∧p.1.length<small∧p.2.length<small) (hKe:∀ (x y:Uo) (e:Env),K .ret ⟨e,H++[x,y],fl⟩→K .ret ⟨e,H++[x,y],fl⟩):
  ∀ (j q:Nat) (out:List (List U)),q+j=P.length→out.length≤q→JC K H fl out (iA r.k σ (P.drop q))→
  gL ah M Q Pm F9 2 uJ H.length ⟨[(4,.ptr q4 0),(87,.int .i64 (q:Int)),(12,.ptr q12 0),(85,.own (.t 85) 1 ((P.map (·.1)).map bA)),(16,.own (.t 16) 9 out),(86,.int .i64 (P.length:Int))],H,fl⟩ K:=by
 have d4:=lt0 h4;have d12:=lt0 h12;have hz:V.HT (.aj [] 0 0 1)=some (.sl 1 []):=rfl;intro j
 induction j with
 |zero=>
  intro q out hij ho hF;have h1:¬((q:Int)<(P.length:Int)):=by omega
  have h2:P.drop q=[]:=tN (by omega);rw[h2]at hF;simp[iA,JC]at hF;rw[aq uJ.eq_1];simp[Ek,h1,b9 hf];exact hF
 |succ j ih=>
  intro q out hij ho hF;have h1:((q:Int)<(P.length:Int)):=by omega
  have hi1:q<P.length:=by omega
  have hp1:=hd P[q] (List.getElem_mem hi1);have e1:((P.map (·.1)).map bA)[q]? =some (bA P[q].1):=by simp[hi1]
  have e2:q<((P.map (·.1)).map bA).length:=by simpa using hi1
  have e3:aD .i64 ((q:Int)+1)=((q+1:Nat):Int):=cj (by omega);have d1:P.drop q=P[q]::P.drop (q+1):=vT hi1;have hs:=hσ P[q].1 hp1.2.1;have hlk:=fun s hs=>(tU P[q].1 es ec mt s hs).2;rw[hp1.1]at hlk;have h49:=t49 (M:=M) (Q:=Q) (Pm:=Pm) hcl P[q].2 hp1.2.2;rw[d1]at hF;simp only[iA]at hF;have ih' :=ih (q+1) (out++[Eh σ P[q]]) (by omega) (by simp;omega);simp only[Eh]at ih' hF;have e1' :(List.map (bA∘fun x=>x.1) P)[q]? =some (bA P[q].1):=by simp[hi1]
  generalize P[q]=p at*;have io:∀ s,Tf s 1 (some (.own (.t 85) 1 ((P.map (·.1)).map bA))) (some (.int .i64 (q:Int)))=some (.cA (.t 85) q 0,s):=fun s=>yO e2;generalize (P.map (·.1)).map bA=KS at*;have f1:(out.length+1)*120≤aW∧out.length+1≤aW:=by unfold aW;omega
  generalize σ p.1=y at*;obtain⟨x,e⟩:=y;simp only[bg,bJ]at hs;rw[aq uJ.eq_1];by_cases he:e=0
  ·simp only[he,if_true]at hF;have hF2:JC K H fl (out++[bg x++[.sl 1 (az p.2)]]) (iA r.k σ (P.drop (q+1))):=by
    revert hF;cases iA r.k σ (P.drop (q+1))with
    |err f=>exact fun h=>h
    |rows l=>intro h;simpa[JC]using h
   have ih2:=ih' hF2;simp[bg,bJ]at ih2;simp[Ek,Kw,IA,Le,bn qao,Ox,Ty,h1,io,e1,bA,hq,hs,he,d4,d12,bl h12,bl hmt,hlk,hz,h49,bH,f1,e3,bg,bJ,ez hf,hY];exact ih2
  ·simp only[he,if_false,JC]at hF;have h107:=t107 (M:=M) (Q:=Q) hp e he;have h106:=od (M:=M) hp hq r.k e;simp only[bg,bJ]at h4;simp[Ek,Kw,IA,Le,bn Y1,MQ,h1,io,e1,bA,hq,hs,he,d4,d12,bl h4,h106,h107,bg,bJ,hY];exact hF _ _
end
theorem gX{fl:Nat}{h:List Uo}(hf:fl≤h.length)(n:Nat)(l:List Uo):cut (h.length+n) fl (h++l)=h++l.take n:=by
 unfold cut;rw[Nat.max_eq_left (by omega),List.take_append,pI (by omega),s9]
section
variable{h:List Uo}{fl c t i m cl:Nat}{ms:List bL}
theorem qi7(hp:aG Pm)(hq:cI Q)(r:Rn)(lo hi:By)(hT:oT ms cl)(hm:h[m]? =some (.map (ms.map iS) cl))(hf:fl≤h.length)(t0:Tb)(K:Ex→Vs→Prop)
  (hK:∀ vis:List bL,vis.Perm ms→K .normal ⟨[(4,.ptr h.length 0),(12,.ptr (h.length+2) 0)],h++[.row (bg r),dX (It (has lo hi) t0 vis),.row [.map (h.length+1)],.row [.str lo,.str hi],.iter (some m) cl (vis.map (·.b)) cl],fl⟩):
  ∀ (j:Nat) (vis left:List bL),left.length≤j→(vis++left).Perm ms→
  gL ah M Q Pm F9 0 yo (h.length+5) ⟨[(12,.ptr (h.length+2) 0),(13,.ptr (h.length+3) 0),(71,.ptr (h.length+4) 0),(4,.ptr h.length 0)],h++[.row (bg r),dX (It (has lo hi) t0 vis),.row [.map (h.length+1)],.row [.str lo,.str hi],.iter (some m) cl (vis.map (·.b)) cl],fl⟩ K:=by
 have hk5:=fun l=>gX hf 5 l;intro j
 induction j with
 |zero=>
  intro vis left hj hper;obtain rfl:left=[]:=pQ (by omega);rw[aq yo.eq_1];simp[Ln];refine uv hT hper (q:=h.length+4) (m:=m) rfl (by rw[js];rfl) (bl hm) (fun _=> ?_) (fun e he=>by cases he);rw[List.append_nil]at hper;have:=hK vis hper;simp[hk5];exact this
 |succ j ih=>
  intro vis left hj hper;rw[aq yo.eq_1];simp[Ln];refine uv hT hper (q:=h.length+4) (m:=m) rfl (by rw[js];rfl) (bl hm) (fun hl=> ?_) (fun e he hes hper2=> ?_)
  ·subst hl;rw[List.append_nil]at hper;have:=hK vis hper;simp[hk5];exact this
  ·have hlen:(left.erase e).length≤j:=by
    have:=List.length_erase_of_mem he;have:=List.length_pos_of_mem he;omega
   have ih' :=ih (vis++[e]) (left.erase e) hlen hper2;have hfe:=HA hT.nodup hes;have hent:∀ ev:Env,mH ⟨ev,h++[.row (bg r),dX (It (has lo hi) t0 vis),.row [.map (h.length+1)],.row [.str lo,.str hi],.iter (some m) cl (vis.map (·.b)++[e.b]) cl],fl⟩ (h.length+4)=some (.aP [.str e.k,.agg [.bool e.g,.sl 1 (az e.d)]]):=fun ev=>by
    have hq4:(h++[.row (bg r),dX (It (has lo hi) t0 vis),.row [.map (h.length+1)],.row [.str lo,.str hi],.iter (some m) cl (vis.map (·.b)++[e.b]) cl])[h.length+4]? =some (.iter (some m) cl (vis.map (·.b)++[e.b]) cl):=by rw[js];rfl
    simp only[mH,hq4,bl hm,List.getLast?_concat,nX,cond_true,hfe,iS,Gc]
   have hst:It (has lo hi) t0 (vis++[e])=Ot (has lo hi) (It (has lo hi) t0 vis) e:=by unfold It;rw[List.foldl_append];rfl
   rw[hst]at ih';generalize It (has lo hi) t0 vis=tv at*;have hset4:∀ x,(h++[.row (bg r),dX tv,.row [.map (h.length+1)],.row [.str lo,.str hi],.iter (some m) cl (vis.map (·.b)) cl]).set (h.length+4) x=h++[.row (bg r),dX tv,.row [.map (h.length+1)],.row [.str lo,.str hi],x]:=fun x=>by rw[jS];rfl
   have h48:=t48 (M:=M) (Q:=Q) hp tv.1 tv.2 (h.length+1) (h.length+2) e.k e.d e.g (h++[.row (bg r),dX tv,.row [.map (h.length+1)],.row [.str lo,.str hi],.iter (some m) cl (vis.map (·.b)++[e.b]) cl,.row [.bool e.g,.sl 1 (az e.d)]]) fl (by simp;omega) (by rw[js];rfl) (by rw[js];rfl);rw[jS]at h48;have h58:=t58 (M:=M) (Q:=Q) (Pm:=Pm) (hp 58 (by decide) (by decide)) lo hi e.k;have a3:∀ (l:List Uo),(h++.row (bg r)::dX tv::.row [.map (h.length+1)]::.row [.str lo,.str hi]::l)[h.length+3]? =some (.row [.str lo,.str hi]):=fun l=>by rw[js];rfl
   have a5:∀ (a b c d e f:Uo) (l:List Uo),(h++a::b::c::d::e::f::l)[h.length+5]? =some f:=fun a b c d e f l=>by rw[js];rfl
   have s5:∀ (a b c d e f x:Uo) (l:List Uo),(h++a::b::c::d::e::f::l).set (h.length+5) x=h++a::b::c::d::e::x::l:=fun a b c d e f x l=>by rw[jS];rfl
   cases hh:has lo hi e.k with
   |false=>
    have e1:Ot (has lo hi) tv e=tv:=by unfold Ot;rw[hh];rfl
    rw[e1]at ih';rw[hh]at h58;simp at ih';simp[hset4,KG,K9,hent,a3,a5,s5,hq,h58,Gc,hk5];exact ih'
   |true=>
    have e1:Ot (has lo hi) tv e=(Cm e.k e.g e.d tv.2 tv.1,HU e.k e.g tv.2 tv.1):=by unfold Ot;rw[hh];rfl
    rw[e1]at ih';rw[hh]at h58;simp[dX]at ih' h48;simp[dX]at a3 hent hset4;simp[hset4,KG,K9,TD,dX,hent,a3,a5,s5,hq,h58,Gc,h48,hk5];exact ih'
end
def eS(ms:List bL)(sc:By→By→Option (List Pr))(lo hi:By):Option (List Pr):=(sc lo hi).map fun l=>xD (has lo hi) l ms
def CN(r:Rn)(lo hi:By)(σ:By→Rn×Int)(a:Option (List Pr)):LA:=if lo=[]then .err (cW r.k 31)else match a with
 |none=> .err (oF r.k lo hi)
 |some P=>iA r.k σ P
def Lf(F:FU)(f:Nat)(us:List U)(h:List Uo)(fl:Nat):LA→Prop
 | .err o=>I9 F f us h fl (fun e=> .aP [.sl 9 [],e]) o
 | .rows l=>F f us h fl=some (.aP [.sl 9 l,.aK],h,fl)
section
variable{h:List Uo}{fl c t i m cl:Nat}{ms:List bL}
theorem Hr(p:By→Bool):∀ (ms:List bL) {P:List Pr} (x:Pr),x∈xD p P ms→x∈P∨∃ e∈ms,x=(e.k,e.d):=by
 intro ms
 induction ms with
 |nil=>intro P x hx;exact .inl hx
 |cons e ms ih=>
  intro P x hx;rcases ih x hx with h1|⟨e',he,hx'⟩
  ·unfold NN at h1;split at h1
   ·unfold oa at h1;split at h1
    ·rw[s6]at h1;exact .inl h1.1
    ·rw[qA]at h1;rcases h1 with h1|h1
     ·exact .inr ⟨e,k7,h1⟩
     ·rw[s6]at h1;exact .inl h1.1.1
   ·exact .inl h1
  ·exact .inr ⟨e',ki _ he,hx'⟩
theorem En(p:By→Bool):∀ (ms:List bL) (P:List Pr),(xD p P ms).length≤P.length+ms.length:=by
 intro ms
 induction ms with
 |nil=>intro P;exact aM _
 |cons e ms ih=>
  intro P;have h1:=ih (NN p P e);have h2:(NN p P e).length≤P.length+1:=by
   unfold NN;split
   ·exact J3 P _
   ·omega
  show(xD p (NN p P e) ms).length≤_;simp only[List.length_cons];omega
theorem x65(hp:aG Pm)(hq:cI Q)(hcl:Pm 49=some bU)(hsq:Q 90=some nT){Vp:List Uo→Prop}{g:By→Option (Option By)}{sc:By→By→Option (List Pr)}(hv:PK M Q Pm t i m Vp g sc){r:Rn}{n:Int}{lo hi:By}(hU:gF ah M Q Pm 108 [.agg (bg r),.int .i64 n] [] 0=some (.aP [.str lo,.str hi],[],0))
  {σ:By→Rn×Int} (hσ:FZ M Q Pm σ) (hc:iO h c t i m ms cl) (hml:ms.length≤900000) (hV:Vp h) (hf:fl≤h.length):
  Lf (gF ah M Q Pm) 65 [.ptr c 0,.agg (bg r),.int .i64 n] h fl (CN r lo hi σ (eS ms sc lo hi)):=by
 have hd1:=l7 hc.row;have hcu:=fun l=>ez hf l;have hk5:=fun l=>gX hf 5 l;simp only[bg,bJ]at hU;unfold CN;by_cases hlo:lo=[]
 ·rw[if_pos hlo];have h107:=t107 (M:=M) (Q:=Q) hp 31 (by decide);have h106:=od (M:=M) hp hq r.k 31;subst hlo;refine⟨[.gone,cW r.k 31],h.length+1,bq hp rfl rfl ?_,by omega,by simp⟩;simp[qS,MX,Nr,ML,NH,bn qdH,U5,bg,bJ,cW,bl hc.row,hd1,hq,hU,h106,h107,hY]
 ·rw[if_neg hlo];have hlo' :(lo==[])=false:=by simpa using hlo
  obtain⟨f,hM,hS⟩:=hv.mS;have hs:=hS (h++[.row (bg r)]) fl lo hi (hv.app _ _ hV) (by simp;omega);have hdi:=decide_eq_true (show i<h.length+1 by have:=hv.lt h hV;omega);simp only[bg,bJ]at hs;cases hsc:sc lo hi with
  |none=>
   simp only[hsc,vsR]at hs;simp only[eS,hsc,Option.map];have h106:=qaP (M:=M) hp hq r.k lo hi;refine⟨[.gone,oF r.k lo hi],h.length+1,bq hp rfl rfl ?_,by omega,by simp⟩;simp only[oF]at h106⊢;simp[qS,MX,Nr,ML,NH,WU,Wz,qb5,bg,bJ,bl hc.row,hd1,hdi,hq,hU,hlo,hlo',hM,hs,h106]
  |some l=>
   simp only[hsc,vsR]at hs;obtain⟨s1,s2,s3⟩:=hv.qmj lo hi l hsc;simp only[eS,hsc,Option.map];have h44:=t44 (M:=M) hp hq hcl l (by unfold small;omega) (fun p hp=>(s3 p hp).2);obtain⟨T1,T2⟩:=CW l ([],0) (fun p hp=>(s3 p hp).2) Mp;have R1:=HZ l ([],0) [] V5;rw[PM s1]at R1;generalize l.foldl n9 ([],0)=t0 at*;simp only[List.length_nil,Nat.zero_add]at T2;have key:∀ (R:U×List Uo×Nat),(∀ H:List Uo,h.length+5=H.length→cut h.length fl H=h→(∀ x f,EP h.length (H++[x,f])=h++[.gone,.gone,.gone,.gone,.gone,.gone,f])→JC (l9 ah M Q Pm F9 (.seq (.region zF) .ret) (kE h.length F9 R)) H fl [] (iA r.k σ (xD (has lo hi) l ms)))→gF ah M Q Pm 65 [.ptr c 0,.agg (bg r),.int .i64 n] h fl=some R:=by
    intro R hR;refine bq hp rfl rfl ?_;have a:=qi7 (M:=M) hp hq r lo hi hc.ok hc.map hf t0 (l9 ah M Q Pm F9 (.seq (.region Kk) (.seq (.seq (.region Jk) (.block 2 (.loop uJ))) (.seq (.region zF) .ret))) (kE h.length F9 R)) (fun vis hper=>by
     have hvd:∀ e∈vis,e.d.length<small:=fun e he=>hc.ok.dat e (hper.subset he);have hvl:=hper.length_eq;have R2:=qeP (has lo hi) vis R1;rw[Gz (has lo hi) s1 hper hc.ok.keys]at R2;obtain⟨T3,T4⟩:=Zv (has lo hi) vis hvd T1;obtain⟨k1,k2⟩:=Yg R2;generalize It (has lo hi) t0 vis=tv at*;have hpl:(xD (has lo hi) l ms).length<2000000:=by have:=En (has lo hi) ms l;omega
     have hpd:∀ p∈xD (has lo hi) l ms,mV p.1 tv.1=p.2∧p.1.length<small∧p.2.length<small:=fun p hp=>⟨k2 p hp,by
      rcases Hr (has lo hi) ms p hp with h1|⟨e,he,rfl⟩
      ·exact s3 p h1
      ·exact⟨hc.ok.kl e he,hc.ok.dat e he⟩⟩
     generalize xD (has lo hi) l ms=LP at*;have g0:∀ (a:Uo) (l:List Uo),(h++a::l)[h.length]? =some a:=fun a l=>by simp
     have g1:∀ (a b:Uo) (l:List Uo),(h++a::b::l)[h.length+1]? =some b:=fun a b l=>by simp
     have g2:∀ (a b c:Uo) (l:List Uo),(h++a::b::c::l)[h.length+2]? =some c:=fun a b c l=>by simp
     have h101:=t101 (M:=M) (Q:=Q) hp hsq tv.1 tv.2 (h.length+1) (h.length+2) T3 (by unfold small;omega) (h++[.row (bg r),dX tv,.row [.map (h.length+1)],.row [.str lo,.str hi],.iter (some m) cl (vis.map (·.b)) cl]) fl (by simp;omega) (g2 _ _ _ _) (g1 _ _ _);have hks:dy (tv.1.map (·.k))=LP.map (·.1):=k1;rw[hks]at h101;have b:=qgL (M:=M) hp hq hcl r σ hσ (h++[.row (bg r),dX tv,.row [.map (h.length+1)],.row [.str lo,.str hi],.iter (some m) cl (vis.map (·.b)) cl]) h.length (h.length+2) (h.length+1) tv.1 tv.2 (g0 _ _) (g2 _ _ _ _) (g1 _ _ _) (by simp;omega) (l9 ah M Q Pm F9 (.seq (.region zF) .ret) (kE h.length F9 R)) LP hpl hpd (fun _ _ _ h=>h) LP.length 0 [] (by omega) (by simp) (hR _ (by simp) (hcu _) (fun x f=>by simp));have hkl:((LP.map (·.1)).map bA).length=LP.length:=by simp
     generalize (LP.map (·.1)).map bA=KS at*;simp at b;simp[Kk,Jk,hq,h101,hkl,hk5];exact b) ms.length [] ms (aM _) (by simp)
    simp[It]at a;have e12:1+(h.length+1)=h.length+2:=by omega
    simp only[bg,bJ]at a;simp[qS,MX,Nr,ML,NH,WU,Wz,qaw,Xg,Te,bg,bJ,bl hc.row,bl hc.map,hd1,hdi,hq,hU,hlo,hlo',hM,hs,h44,e12,hk5];exact a
   cases hA:iA r.k σ (xD (has lo hi) l ms)with
   |err o=>
    refine⟨[.gone,.gone,.gone,.gone,.gone,.gone,o],h.length+6,key _ (fun H hH hcH hg=> ?_),by omega,by rw[js];rfl⟩;rw[hA];intro x e;have e1:H.length+1=h.length+6:=by omega
    simp[e1,hg]
   |rows rs=>
    refine key _ (fun H hH hcH hg=> ?_);rw[hA];simp[JC,zF,hcH]
end
inductive TE where
 |no
 |code (k:UInt8) (e:Int)
 |need (k:UInt8) (lo hi:By)
def oS:TE→List U
 | .no=>Qc
 | .code k e=>[.bool true,.sl 1 [[.str [k]]],.int .i64 e,.bool false,.str [],.str []]
 | .need k lo hi=>[.bool true,.sl 1 [[.str [k]]],.int .i64 20,.bool true,.str lo,.str hi]
def fT:Uo→TE
 | .row [.str [k],.iface 43 (.int .i64 e)]=> .code k e
 | .row [.str [k],.iface 45 (.agg [.str lo,.str hi])]=> .need k lo hi
 |_=> .no
def AH(o:Uo):Prop:=(∃ k e,o=cW k e)∨∃ k lo hi,o=oF k lo hi
section
variable{h:List Uo}{fl p:Nat}
theorem tQ(hp:aG Pm):gF ah M Q Pm 31 [.aK] [] 0=some (.agg Qc,[],0):=by
 refine bq hp rfl rfl ?_;simp[qZ,MA,NS,qaH,Qc]
theorem Ng(hp:aG Pm)(hq:cI Q)(ha:Pm 97=some pq){o:Uo}(ho:AH o)(hi:h[p]? =some o)(hf:fl≤h.length):gF ah M Q Pm 31 [.iface 191 (.ptr p 0)] h fl=some (.agg (oS (fT o)),h,fl):=by
 rcases ho with⟨k,e,rfl⟩|⟨k,lo,hi',rfl⟩
 ·simp only[cW]at hi;have c41:∀ X,gF ah M Q Pm 41 [.iface 191 (.ptr p 0)] (h++[X]) fl=some (.aP [.agg [.str [],.str []],.bool false],h++[X],fl):=fun X=>by
   refine bq hp rfl rfl ?_;have hi2:=bl (l:=[X]) hi;have hf2:fl≤(h++[X]).length:=by simp;omega
   generalize h++[X]=H at*;simp[rW,MW,Oc,Nw,OG,R9,hq,t97 ha,bl hi2,l7 hi2,ez hf2]
  have c62:∀ X Y,gF ah M Q Pm 62 [.iface 191 (.ptr p 0)] (h++[X,Y]) fl=some (.int .i64 e,h++[X,Y],fl):=fun X Y=>by
   refine bq hp rfl rfl ?_;have hi2:=bl (l:=[X,Y]) hi;have hf2:fl≤(h++[X,Y]).length:=by simp;omega
   generalize h++[X,Y]=H at*;simp[uG,W5,TB,T0,Xp,Wg,U6,V3,hq,t97 ha,bl hi2,l7 hi2,ez hf2]
  have c43:∀ X Y,gF ah M Q Pm 43 [.iface 191 (.ptr p 0)] (h++[X,Y]) fl=some (.own .r 1 [[.str [k]]],h++[X,Y],fl):=fun X Y=>by
   refine bq hp rfl rfl ?_;have hi2:=bl (l:=[X,Y]) hi;have hf2:fl≤(h++[X,Y]).length:=by simp;omega
   generalize h++[X,Y]=H at*;simp[qY,Nh,NA,Nf,l7 hi2,qB hf2,ez hf2];rw[aq tP.eq_1];simp[BA,Mo,Ns,hq,t97 ha,aW,bl hi2,l7 hi2,qB hf2,ez hf2];rw[aq tP.eq_1];simp[BA,Ol,hq,t97 ha,bl hi2,l7 hi2,qB hf2,ez hf2]
  refine bq hp rfl rfl ?_;simp[qZ,MA,NS,XH,hq,c41,l7 hi,ez hf,oS,fT,cW];simp[bn XB,L8,hq,c43,c62,l7 hi,ez hf,hY]
 ·simp only[oF]at hi;have c41:∀ X,gF ah M Q Pm 41 [.iface 191 (.ptr p 0)] (h++[X]) fl=some (.aP [.agg [.str lo,.str hi'],.bool true],h++[X],fl):=fun X=>by
   refine bq hp rfl rfl ?_;have hi2:=bl (l:=[X]) hi;have hf2:fl≤(h++[X]).length:=by simp;omega
   generalize h++[X]=H at*;simp[rW,MW,Oc,Nw,OG,R9,hq,t97 ha,bl hi2,l7 hi2,ez hf2]
  have c62:∀ X Y,gF ah M Q Pm 62 [.iface 191 (.ptr p 0)] (h++[X,Y]) fl=some (.int .i64 20,h++[X,Y],fl):=fun X Y=>by
   refine bq hp rfl rfl ?_;have hi2:=bl (l:=[X,Y]) hi;have hf2:fl≤(h++[X,Y]).length:=by simp;omega
   generalize h++[X,Y]=H at*;simp[uG,W5,TB,T0,Xp,Wg,U6,V3,hq,t97 ha,bl hi2,l7 hi2,ez hf2]
  have c43:∀ X Y,gF ah M Q Pm 43 [.iface 191 (.ptr p 0)] (h++[X,Y]) fl=some (.own .r 1 [[.str [k]]],h++[X,Y],fl):=fun X Y=>by
   refine bq hp rfl rfl ?_;have hi2:=bl (l:=[X,Y]) hi;have hf2:fl≤(h++[X,Y]).length:=by simp;omega
   generalize h++[X,Y]=H at*;simp[qY,Nh,NA,Nf,l7 hi2,qB hf2,ez hf2];rw[aq tP.eq_1];simp[BA,Mo,Ns,hq,t97 ha,aW,bl hi2,l7 hi2,qB hf2,ez hf2];rw[aq tP.eq_1];simp[BA,Ol,hq,t97 ha,bl hi2,l7 hi2,qB hf2,ez hf2]
  refine bq hp rfl rfl ?_;simp[qZ,MA,NS,XH,hq,c41,l7 hi,ez hf,oS,fT,oF];simp[bn XB,L8,hq,c43,c62,l7 hi,ez hf,hY]
end
structure nc where
 dd:Int
 r:Rn
 n:Int
 data:By
 x:In
 t:Tk
 a:Ar
 v:Vr
def cJ(o:nc):List U:=[.int .i64 o.dd]++bg o.r++[.int .i64 o.n,.sl 1 (az o.data)]++kG o.x++lI o.t++bV o.a++nG o.v
structure Told where
 b:By
 is:Bool
 l:List (List U)
 n:Int
 x:In
 t:Tk
 a:Ar
 v:Vl
 e:TE
def bC(t:Told):List U:=[.sl 1 (az t.b),.bool t.is,.sl 9 t.l,.int .u64 t.n]++kG t.x++lI t.t++bV t.a++jw t.v++oS t.e
def bE:Told:=⟨[],false,[],0,⟨[],0,0,[],0⟩,⟨0,0,0⟩,⟨0,[],[],0⟩,⟨0,0,[]⟩,.no⟩
def nP:List U:=[.sl 1 [],.bool false,.sl 9 [],.int .u64 0]++bt++c8++bP++eD++Qc
def hD(h:List Uo)(o:nc):List Uo:=h++[.row (cJ o),.row nP,.row nP,.row (bg o.r)]
section
variable{h:List Uo}{fl c t i m cl:Nat}{ms:List bL}
theorem oH{p:Nat}{o:nc}{X:List Uo}{f:Uo}(h1:(hD h o).length≤p)(h2:(hD h o++X)[p]? =some f):∀ a b c d:Uo,(h++a::b::c::d::X)[p]? =some f:=by
 intro a b c d;have hl:(hD h o).length=h.length+4:=by simp[hD]
 rw[gf h1,hl]at h2;rw[hl]at h1;rw[gf (by omega),show p - h.length=(p - (h.length+4))+4 by omega];exact h2
attribute [local simp] cJ bg bJ kG lI bV nG nP bt c8 bP eD Qc zb qbi qbG qck qbn qb3 qaT qbI qbZ S6 Vb Vo WX UO Xu WL VH Xo QZ Sr R3 TM js jS
theorem GN(t:TE):∃ (b1:Bool) (ps:List (List U)) (e:Int) (b2:Bool) (s1 s2:By),oS t=[.bool b1,.sl 1 ps,.int .i64 e,.bool b2,.str s1,.str s2]:=by
 cases t<;>exact⟨_,_,_,_,_,_,rfl⟩
def Ds:GA→Told
 | .err f=>{bE with e:=fT f}
 | .val d=>{bE with b:=d.getD [],is:=d.isSome}
def GA.vQ:GA→Prop
 | .err f=>AH f
 |_=>True
theorem d0(hp:aG Pm)(hq:cI Q)(ha:Pm 97=some pq)(o:nc)(ho:o.dd=0){a:GA}(ho' :a.vQ)(hc:iO h c t i m ms cl)(hf:fl≤h.length)(hr:kD (gF ah M Q Pm) 64 [.ptr c 0,.agg (bg o.r)] (hD h o) fl a):gF ah M Q Pm 35 [.ptr c 0,.agg (cJ o)] h fl=some (.agg (bC (Ds a)),h,fl):=by
 have hd1:=l7 hc.row;have hcu:=fun l=>ez hf l;have hk4:=fun l=>gX hf 4 l;have c31:=tQ (M:=M) (Q:=Q) hp;cases a with
 |err f=>
  obtain⟨X,p,e1,h1,h2⟩:=hr;have hea:=oH h1 h2;have hl:(hD h o).length=h.length+4:=by simp[hD]
  rw[hl]at h1;have hdp:decide (p<h.length+4)=false:=decide_eq_false (by omega);have c31:∀ a b c d:Uo,gF ah M Q Pm 31 [.iface 191 (.ptr p 0)] (h++a::b::c::d::X) fl=some (.agg (oS (fT f)),h++a::b::c::d::X,fl):=fun a b c d=>Ng hp hq ha ho' (hea a b c d) (by simp;omega);refine bq hp rfl rfl ?_;simp only[hD]at e1;simp[ho]at e1;have hte:=GN (fT f);obtain⟨b1,ps,e0,b2,s1,s2,hte⟩:=hte;rw[hte]at c31;simp[Xw,ho,hq,e1,c31,bC,bE,hte,jw,br,aB,hd1,hcu,hdp,Ds]
 |val d=>
  simp[kD,hD,ho]at hr;refine bq hp rfl rfl ?_;simp at c31;simp[Xw,ho,hq,hr,c31,bC,bE,Ds,oS,jw,br,aB,hd1,hcu,hk4]
def xQ:LA→Told
 | .err f=>{bE with e:=fT f}
 | .rows l=>{bE with l:=l}
def LA.vQ:LA→Prop
 | .err f=>AH f
 |_=>True
theorem d1(hp:aG Pm)(hq:cI Q)(ha:Pm 97=some pq)(o:nc)(ho:o.dd=1){a:LA}(ho' :a.vQ)(hc:iO h c t i m ms cl)(hf:fl≤h.length)(hr:Lf (gF ah M Q Pm) 65 [.ptr c 0,.agg (bg o.r),.int .i64 o.n] (hD h o) fl a):gF ah M Q Pm 35 [.ptr c 0,.agg (cJ o)] h fl=some (.agg (bC (xQ a)),h,fl):=by
 have hd1:=l7 hc.row;have hcu:=fun l=>ez hf l;have hk4:=fun l=>gX hf 4 l;have c31:=tQ (M:=M) (Q:=Q) hp;cases a with
 |err f=>
  obtain⟨X,p,e1,h1,h2⟩:=hr;have hea:=oH h1 h2;have hl:(hD h o).length=h.length+4:=by simp[hD]
  rw[hl]at h1;have hdp:decide (p<h.length+4)=false:=decide_eq_false (by omega);have c31:∀ a b c d:Uo,gF ah M Q Pm 31 [.iface 191 (.ptr p 0)] (h++a::b::c::d::X) fl=some (.agg (oS (fT f)),h++a::b::c::d::X,fl):=fun a b c d=>Ng hp hq ha ho' (hea a b c d) (by simp;omega);refine bq hp rfl rfl ?_;simp only[hD]at e1;simp[ho]at e1;have hte:=GN (fT f);obtain⟨b1,ps,e0,b2,s1,s2,hte⟩:=hte;rw[hte]at c31;simp[R0,ho,hq,e1,c31,bC,bE,hte,jw,br,aB,hd1,hcu,hdp,xQ]
 |rows l=>
  simp[Lf,hD,ho]at hr;refine bq hp rfl rfl ?_;simp at c31;simp[R0,ho,hq,hr,c31,bC,bE,xQ,oS,jw,br,aB,hd1,hcu,hk4]
def PA.vQ:PA→Prop
 | .err f=>AH f
 |_=>True
def eO:PA→Told
 | .err f=>{bE with e:=fT f}
 | .lU _=>bE
def oA(h:List Uo)(m:Nat)(t:Ms):PA→List Uo
 | .err _=>h
 | .lU l=>h.set m (mb (l.foldl cx t))
theorem d2(hp:aG Pm)(hq:cI Q)(ha:Pm 97=some pq)(o:nc)(ho:o.dd=2){a:PA}(ho' :a.vQ)(hc:iO h c t i m ms cl)(hf:fl≤h.length)(hr:gQ (gF ah M Q Pm) 66 [.ptr c 0,.agg (bg o.r),.sl 1 (az o.data)] (hD h o) fl m (ms,cl) a):gF ah M Q Pm 35 [.ptr c 0,.agg (cJ o)] h fl=some (.agg (bC (eO a)),oA h m (ms,cl) a,fl):=by
 have hd1:=l7 hc.row;have hcu:=fun l=>ez hf l;have hk4:=fun l=>gX hf 4 l;have c31:=tQ (M:=M) (Q:=Q) hp;cases a with
 |err f=>
  obtain⟨X,p,e1,h1,h2⟩:=hr;have hea:=oH h1 h2;have hl:(hD h o).length=h.length+4:=by simp[hD]
  rw[hl]at h1;have hdp:decide (p<h.length+4)=false:=decide_eq_false (by omega);have c31:∀ a b c d:Uo,gF ah M Q Pm 31 [.iface 191 (.ptr p 0)] (h++a::b::c::d::X) fl=some (.agg (oS (fT f)),h++a::b::c::d::X,fl):=fun a b c d=>Ng hp hq ha ho' (hea a b c d) (by simp;omega);refine bq hp rfl rfl ?_;simp only[hD]at e1;simp[ho]at e1;have hte:=GN (fT f);obtain⟨b1,ps,e0,b2,s1,s2,hte⟩:=hte;rw[hte]at c31;simp[Lm,ho,hq,e1,c31,bC,bE,hte,jw,br,aB,hd1,hcu,hdp,eO,oA]
 |lU l=>
  have hcs:=fun x l=>kz hf m x l;simp only[gQ,hD,dO hc.map]at hr;simp only[oA];generalize mb (l.foldl cx (ms,cl))=W at*;have b0:∀ (a:Uo) (l:List Uo),(h.set m W++a::l)[h.length]? =some a:=fun a l=>by have:=Wp (h.set m W) l a;simpa using this
  have b1:∀ (l:List Uo) n,(h.set m W++l)[h.length+n]? =l[n]? :=fun l n=>by have:=js (h.set m W) l n;simpa using this
  have b2:∀ (l:List Uo) n x,(h.set m W++l).set (h.length+n) x=h.set m W++l.set n x:=fun l n x=>by have:=jS (h.set m W) l n x;simpa using this
  have b3:∀ l,cut (h.length+4) fl (h.set m W++l)=h.set m W++l.take 4:=fun l=>by have:=gX (fl:=fl) (h:=h.set m W) (by simpa using hf) 4 l;simpa using this
  refine bq hp rfl rfl ?_;simp at c31;simp[ho]at hr;simp[Lm,ho,hq,hr,c31,bC,bE,eO,oS,jw,br,aB,hd1,hcs,b0,b1,b2,b3]
theorem d3(hp:aG Pm)(hq:cI Q)(ha:Pm 97=some pq)(o:nc)(ho:o.dd=3){a:PA}(ho' :a.vQ)(hc:iO h c t i m ms cl)(hf:fl≤h.length)(hr:gQ (gF ah M Q Pm) 67 [.ptr c 0,.agg (bg o.r)] (hD h o) fl m (ms,cl) a):gF ah M Q Pm 35 [.ptr c 0,.agg (cJ o)] h fl=some (.agg (bC (eO a)),oA h m (ms,cl) a,fl):=by
 have hd1:=l7 hc.row;have hcu:=fun l=>ez hf l;have hk4:=fun l=>gX hf 4 l;have c31:=tQ (M:=M) (Q:=Q) hp;cases a with
 |err f=>
  obtain⟨X,p,e1,h1,h2⟩:=hr;have hea:=oH h1 h2;have hl:(hD h o).length=h.length+4:=by simp[hD]
  rw[hl]at h1;have hdp:decide (p<h.length+4)=false:=decide_eq_false (by omega);have c31:∀ a b c d:Uo,gF ah M Q Pm 31 [.iface 191 (.ptr p 0)] (h++a::b::c::d::X) fl=some (.agg (oS (fT f)),h++a::b::c::d::X,fl):=fun a b c d=>Ng hp hq ha ho' (hea a b c d) (by simp;omega);refine bq hp rfl rfl ?_;simp only[hD]at e1;simp[ho]at e1;have hte:=GN (fT f);obtain⟨b1,ps,e0,b2,s1,s2,hte⟩:=hte;rw[hte]at c31;simp[IT,ho,hq,e1,c31,bC,bE,hte,jw,br,aB,hd1,hcu,hdp,eO,oA]
 |lU l=>
  have hcs:=fun x l=>kz hf m x l;simp only[gQ,hD,dO hc.map]at hr;simp only[oA];generalize mb (l.foldl cx (ms,cl))=W at*;have b0:∀ (a:Uo) (l:List Uo),(h.set m W++a::l)[h.length]? =some a:=fun a l=>by have:=Wp (h.set m W) l a;simpa using this
  have b1:∀ (l:List Uo) n,(h.set m W++l)[h.length+n]? =l[n]? :=fun l n=>by have:=js (h.set m W) l n;simpa using this
  have b2:∀ (l:List Uo) n x,(h.set m W++l).set (h.length+n) x=h.set m W++l.set n x:=fun l n x=>by have:=jS (h.set m W) l n x;simpa using this
  have b3:∀ l,cut (h.length+4) fl (h.set m W++l)=h.set m W++l.take 4:=fun l=>by have:=gX (fl:=fl) (h:=h.set m W) (by simpa using hf) 4 l;simpa using this
  refine bq hp rfl rfl ?_;simp at c31;simp[ho]at hr;simp[IT,ho,hq,hr,c31,bC,bE,eO,oS,jw,br,aB,hd1,hcs,b0,b1,b2,b3]
def TA.vQ{α:Type}:TA α→Prop
 | .err f=>AH f
 |_=>True
def qW:TA Int→Told
 | .err f=>{bE with e:=fT f}
 | .no=>bE
 | .yes x=>{bE with n:=x,is:=true}
theorem d4(hp:aG Pm)(hq:cI Q)(ha:Pm 97=some pq)(o:nc)(ho:o.dd=4){a:TA Int}(ho' :a.vQ)(hc:iO h c t i m ms cl)(hf:fl≤h.length)(hr:bN (gF ah M Q Pm) 68 [.ptr c 0,.agg (bg o.r)] (hD h o) fl (.int .u64 0) (fun x=> .int .u64 x) a):gF ah M Q Pm 35 [.ptr c 0,.agg (cJ o)] h fl=some (.agg (bC (qW a)),h,fl):=by
 have hd1:=l7 hc.row;have hcu:=fun l=>ez hf l;have hk4:=fun l=>gX hf 4 l;have c31:=tQ (M:=M) (Q:=Q) hp;cases a with
 |err f=>
  obtain⟨X,p,e1,h1,h2⟩:=hr;have hea:=oH h1 h2;have hl:(hD h o).length=h.length+4:=by simp[hD]
  rw[hl]at h1;have hdp:decide (p<h.length+4)=false:=decide_eq_false (by omega);have c31:∀ a b c d:Uo,gF ah M Q Pm 31 [.iface 191 (.ptr p 0)] (h++a::b::c::d::X) fl=some (.agg (oS (fT f)),h++a::b::c::d::X,fl):=fun a b c d=>Ng hp hq ha ho' (hea a b c d) (by simp;omega);refine bq hp rfl rfl ?_;simp only[hD]at e1;simp[ho]at e1;have hte:=GN (fT f);obtain⟨b1,ps,e0,b2,s1,s2,hte⟩:=hte;rw[hte]at c31;simp[E9,ho,hq,e1,c31,bC,bE,hte,jw,br,aB,hd1,hcu,hdp,qW]
 |no=>
  simp[bN,hD,ho]at hr;refine bq hp rfl rfl ?_;simp at c31;simp[E9,ho,hq,hr,c31,bC,bE,qW,oS,jw,br,aB,hd1,hcu,hk4]
 |yes x=>
  simp[bN,hD,ho,jw,br]at hr;refine bq hp rfl rfl ?_;simp at c31;simp[E9,ho,hq,hr,c31,bC,bE,qW,oS,jw,br,aB,hd1,hcu,hk4]
def ri:TA In→Told
 | .err f=>{bE with e:=fT f}
 | .no=>bE
 | .yes x=>{bE with x:=x,is:=true}
theorem d5(hp:aG Pm)(hq:cI Q)(ha:Pm 97=some pq)(o:nc)(ho:o.dd=5){a:TA In}(ho' :a.vQ)(hc:iO h c t i m ms cl)(hf:fl≤h.length)(hr:bN (gF ah M Q Pm) 42 [.ptr c 0,.str o.r.d] (hD h o) fl (.agg bt) (fun x=> .agg (kG x)) a):gF ah M Q Pm 35 [.ptr c 0,.agg (cJ o)] h fl=some (.agg (bC (ri a)),h,fl):=by
 have hd1:=l7 hc.row;have hcu:=fun l=>ez hf l;have hk4:=fun l=>gX hf 4 l;have c31:=tQ (M:=M) (Q:=Q) hp;cases a with
 |err f=>
  obtain⟨X,p,e1,h1,h2⟩:=hr;have hea:=oH h1 h2;have hl:(hD h o).length=h.length+4:=by simp[hD]
  rw[hl]at h1;have hdp:decide (p<h.length+4)=false:=decide_eq_false (by omega);have c31:∀ a b c d:Uo,gF ah M Q Pm 31 [.iface 191 (.ptr p 0)] (h++a::b::c::d::X) fl=some (.agg (oS (fT f)),h++a::b::c::d::X,fl):=fun a b c d=>Ng hp hq ha ho' (hea a b c d) (by simp;omega);refine bq hp rfl rfl ?_;simp only[hD]at e1;simp[ho]at e1;have hte:=GN (fT f);obtain⟨b1,ps,e0,b2,s1,s2,hte⟩:=hte;rw[hte]at c31;simp[FB,ho,hq,e1,c31,bC,bE,hte,jw,br,aB,hd1,hcu,hdp,ri]
 |no=>
  simp[bN,hD,ho]at hr;refine bq hp rfl rfl ?_;simp at c31;simp[FB,ho,hq,hr,c31,bC,bE,ri,oS,jw,br,aB,hd1,hcu,hk4]
 |yes x=>
  simp[bN,hD,ho,jw,br]at hr;refine bq hp rfl rfl ?_;simp at c31;simp[FB,ho,hq,hr,c31,bC,bE,ri,oS,jw,br,aB,hd1,hcu,hk4]
def sg:TA Tk→Told
 | .err f=>{bE with e:=fT f}
 | .no=>bE
 | .yes x=>{bE with t:=x,is:=true}
theorem d6(hp:aG Pm)(hq:cI Q)(ha:Pm 97=some pq)(o:nc)(ho:o.dd=6){a:TA Tk}(ho' :a.vQ)(hc:iO h c t i m ms cl)(hf:fl≤h.length)(hr:bN (gF ah M Q Pm) 69 [.ptr c 0,.str o.r.d,.int .u64 (o.r.x:Int)] (hD h o) fl (.agg c8) (fun x=> .agg (lI x)) a):gF ah M Q Pm 35 [.ptr c 0,.agg (cJ o)] h fl=some (.agg (bC (sg a)),h,fl):=by
 have hd1:=l7 hc.row;have hcu:=fun l=>ez hf l;have hk4:=fun l=>gX hf 4 l;have c31:=tQ (M:=M) (Q:=Q) hp;cases a with
 |err f=>
  obtain⟨X,p,e1,h1,h2⟩:=hr;have hea:=oH h1 h2;have hl:(hD h o).length=h.length+4:=by simp[hD]
  rw[hl]at h1;have hdp:decide (p<h.length+4)=false:=decide_eq_false (by omega);have c31:∀ a b c d:Uo,gF ah M Q Pm 31 [.iface 191 (.ptr p 0)] (h++a::b::c::d::X) fl=some (.agg (oS (fT f)),h++a::b::c::d::X,fl):=fun a b c d=>Ng hp hq ha ho' (hea a b c d) (by simp;omega);refine bq hp rfl rfl ?_;simp only[hD]at e1;simp[ho]at e1;have hte:=GN (fT f);obtain⟨b1,ps,e0,b2,s1,s2,hte⟩:=hte;rw[hte]at c31;simp[F2,ho,hq,e1,c31,bC,bE,hte,jw,br,aB,hd1,hcu,hdp,sg]
 |no=>
  simp[bN,hD,ho]at hr;refine bq hp rfl rfl ?_;simp at c31;simp[F2,ho,hq,hr,c31,bC,bE,sg,oS,jw,br,aB,hd1,hcu,hk4]
 |yes x=>
  simp[bN,hD,ho,jw,br]at hr;refine bq hp rfl rfl ?_;simp at c31;simp[F2,ho,hq,hr,c31,bC,bE,sg,oS,jw,br,aB,hd1,hcu,hk4]
def qX:TA Ar→Told
 | .err f=>{bE with e:=fT f}
 | .no=>bE
 | .yes x=>{bE with a:=x,is:=true}
theorem d7(hp:aG Pm)(hq:cI Q)(ha:Pm 97=some pq)(o:nc)(ho:o.dd=7){a:TA Ar}(ho' :a.vQ)(hc:iO h c t i m ms cl)(hf:fl≤h.length)(hr:bN (gF ah M Q Pm) 70 [.ptr c 0,.str o.r.d,.int .u64 (o.r.x:Int),.int .u64 (o.r.y:Int)] (hD h o) fl (.agg bP) (fun x=> .agg (bV x)) a):gF ah M Q Pm 35 [.ptr c 0,.agg (cJ o)] h fl=some (.agg (bC (qX a)),h,fl):=by
 have hd1:=l7 hc.row;have hcu:=fun l=>ez hf l;have hk4:=fun l=>gX hf 4 l;have c31:=tQ (M:=M) (Q:=Q) hp;cases a with
 |err f=>
  obtain⟨X,p,e1,h1,h2⟩:=hr;have hea:=oH h1 h2;have hl:(hD h o).length=h.length+4:=by simp[hD]
  rw[hl]at h1;have hdp:decide (p<h.length+4)=false:=decide_eq_false (by omega);have c31:∀ a b c d:Uo,gF ah M Q Pm 31 [.iface 191 (.ptr p 0)] (h++a::b::c::d::X) fl=some (.agg (oS (fT f)),h++a::b::c::d::X,fl):=fun a b c d=>Ng hp hq ha ho' (hea a b c d) (by simp;omega);refine bq hp rfl rfl ?_;simp only[hD]at e1;simp[ho]at e1;have hte:=GN (fT f);obtain⟨b1,ps,e0,b2,s1,s2,hte⟩:=hte;rw[hte]at c31;simp[F6,ho,hq,e1,c31,bC,bE,hte,jw,br,aB,hd1,hcu,hdp,qX]
 |no=>
  simp[bN,hD,ho]at hr;refine bq hp rfl rfl ?_;simp at c31;simp[F6,ho,hq,hr,c31,bC,bE,qX,oS,jw,br,aB,hd1,hcu,hk4]
 |yes x=>
  simp[bN,hD,ho,jw,br]at hr;refine bq hp rfl rfl ?_;simp at c31;simp[F6,ho,hq,hr,c31,bC,bE,qX,oS,jw,br,aB,hd1,hcu,hk4]
def sB:TA Vl→Told
 | .err f=>{bE with e:=fT f}
 | .no=>bE
 | .yes x=>{bE with v:=x,is:=true}
theorem d8(hp:aG Pm)(hq:cI Q)(ha:Pm 97=some pq)(o:nc)(ho:o.dd=8){a:TA Vl}(ho' :a.vQ)(hc:iO h c t i m ms cl)(hf:fl≤h.length)(hr:bN (gF ah M Q Pm) 71 [.ptr c 0,.str o.r.d,.str o.r.a] (hD h o) fl (.agg eD) (fun x=> .agg (jw x)) a):gF ah M Q Pm 35 [.ptr c 0,.agg (cJ o)] h fl=some (.agg (bC (sB a)),h,fl):=by
 have hd1:=l7 hc.row;have hcu:=fun l=>ez hf l;have hk4:=fun l=>gX hf 4 l;have c31:=tQ (M:=M) (Q:=Q) hp;cases a with
 |err f=>
  obtain⟨X,p,e1,h1,h2⟩:=hr;have hea:=oH h1 h2;have hl:(hD h o).length=h.length+4:=by simp[hD]
  rw[hl]at h1;have hdp:decide (p<h.length+4)=false:=decide_eq_false (by omega);have c31:∀ a b c d:Uo,gF ah M Q Pm 31 [.iface 191 (.ptr p 0)] (h++a::b::c::d::X) fl=some (.agg (oS (fT f)),h++a::b::c::d::X,fl):=fun a b c d=>Ng hp hq ha ho' (hea a b c d) (by simp;omega);refine bq hp rfl rfl ?_;simp only[hD]at e1;simp[ho]at e1;have hte:=GN (fT f);obtain⟨b1,ps,e0,b2,s1,s2,hte⟩:=hte;rw[hte]at c31;simp[EL,ho,hq,e1,c31,bC,bE,hte,jw,br,aB,hd1,hcu,hdp,sB]
 |no=>
  simp[bN,hD,ho]at hr;refine bq hp rfl rfl ?_;simp at c31;simp[EL,ho,hq,hr,c31,bC,bE,sB,oS,jw,br,aB,hd1,hcu,hk4]
 |yes x=>
  simp[bN,hD,ho,jw,br]at hr;refine bq hp rfl rfl ?_;simp at c31;simp[EL,ho,hq,hr,c31,bC,bE,sB,oS,jw,br,aB,hd1,hcu,hk4]
theorem d9(hp:aG Pm)(hq:cI Q)(ha:Pm 97=some pq)(o:nc)(ho:o.dd=9){a:PA}(ho' :a.vQ)(hc:iO h c t i m ms cl)(hf:fl≤h.length)(hr:gQ (gF ah M Q Pm) 72 [.ptr c 0,.str o.r.d,.agg (kG o.x)] (hD h o) fl m (ms,cl) a):gF ah M Q Pm 35 [.ptr c 0,.agg (cJ o)] h fl=some (.agg (bC (eO a)),oA h m (ms,cl) a,fl):=by
 have hd1:=l7 hc.row;have hcu:=fun l=>ez hf l;have hk4:=fun l=>gX hf 4 l;have c31:=tQ (M:=M) (Q:=Q) hp;cases a with
 |err f=>
  obtain⟨X,p,e1,h1,h2⟩:=hr;have hea:=oH h1 h2;have hl:(hD h o).length=h.length+4:=by simp[hD]
  rw[hl]at h1;have hdp:decide (p<h.length+4)=false:=decide_eq_false (by omega);have c31:∀ a b c d:Uo,gF ah M Q Pm 31 [.iface 191 (.ptr p 0)] (h++a::b::c::d::X) fl=some (.agg (oS (fT f)),h++a::b::c::d::X,fl):=fun a b c d=>Ng hp hq ha ho' (hea a b c d) (by simp;omega);refine bq hp rfl rfl ?_;simp only[hD]at e1;simp[ho]at e1;have hte:=GN (fT f);obtain⟨b1,ps,e0,b2,s1,s2,hte⟩:=hte;rw[hte]at c31;simp[K2,ho,hq,e1,c31,bC,bE,hte,jw,br,aB,hd1,hcu,hdp,eO,oA]
 |lU l=>
  have hcs:=fun x l=>kz hf m x l;simp only[gQ,hD,dO hc.map]at hr;simp only[oA];generalize mb (l.foldl cx (ms,cl))=W at*;have b0:∀ (a:Uo) (l:List Uo),(h.set m W++a::l)[h.length]? =some a:=fun a l=>by have:=Wp (h.set m W) l a;simpa using this
  have b1:∀ (l:List Uo) n,(h.set m W++l)[h.length+n]? =l[n]? :=fun l n=>by have:=js (h.set m W) l n;simpa using this
  have b2:∀ (l:List Uo) n x,(h.set m W++l).set (h.length+n) x=h.set m W++l.set n x:=fun l n x=>by have:=jS (h.set m W) l n x;simpa using this
  have b3:∀ l,cut (h.length+4) fl (h.set m W++l)=h.set m W++l.take 4:=fun l=>by have:=gX (fl:=fl) (h:=h.set m W) (by simpa using hf) 4 l;simpa using this
  refine bq hp rfl rfl ?_;simp at c31;simp[ho]at hr;simp[K2,ho,hq,hr,c31,bC,bE,eO,oS,jw,br,aB,hd1,hcs,b0,b1,b2,b3]
theorem d10(hp:aG Pm)(hq:cI Q)(ha:Pm 97=some pq)(o:nc)(ho:o.dd=10){a:PA}(ho' :a.vQ)(hc:iO h c t i m ms cl)(hf:fl≤h.length)(hr:gQ (gF ah M Q Pm) 73 [.ptr c 0,.str o.r.d,.int .u64 (o.r.x:Int),.agg (lI o.t)] (hD h o) fl m (ms,cl) a):gF ah M Q Pm 35 [.ptr c 0,.agg (cJ o)] h fl=some (.agg (bC (eO a)),oA h m (ms,cl) a,fl):=by
 have hd1:=l7 hc.row;have hcu:=fun l=>ez hf l;have hk4:=fun l=>gX hf 4 l;have c31:=tQ (M:=M) (Q:=Q) hp;cases a with
 |err f=>
  obtain⟨X,p,e1,h1,h2⟩:=hr;have hea:=oH h1 h2;have hl:(hD h o).length=h.length+4:=by simp[hD]
  rw[hl]at h1;have hdp:decide (p<h.length+4)=false:=decide_eq_false (by omega);have c31:∀ a b c d:Uo,gF ah M Q Pm 31 [.iface 191 (.ptr p 0)] (h++a::b::c::d::X) fl=some (.agg (oS (fT f)),h++a::b::c::d::X,fl):=fun a b c d=>Ng hp hq ha ho' (hea a b c d) (by simp;omega);refine bq hp rfl rfl ?_;simp only[hD]at e1;simp[ho]at e1;have hte:=GN (fT f);obtain⟨b1,ps,e0,b2,s1,s2,hte⟩:=hte;rw[hte]at c31;simp[Kv,ho,hq,e1,c31,bC,bE,hte,jw,br,aB,hd1,hcu,hdp,eO,oA]
 |lU l=>
  have hcs:=fun x l=>kz hf m x l;simp only[gQ,hD,dO hc.map]at hr;simp only[oA];generalize mb (l.foldl cx (ms,cl))=W at*;have b0:∀ (a:Uo) (l:List Uo),(h.set m W++a::l)[h.length]? =some a:=fun a l=>by have:=Wp (h.set m W) l a;simpa using this
  have b1:∀ (l:List Uo) n,(h.set m W++l)[h.length+n]? =l[n]? :=fun l n=>by have:=js (h.set m W) l n;simpa using this
  have b2:∀ (l:List Uo) n x,(h.set m W++l).set (h.length+n) x=h.set m W++l.set n x:=fun l n x=>by have:=jS (h.set m W) l n x;simpa using this
  have b3:∀ l,cut (h.length+4) fl (h.set m W++l)=h.set m W++l.take 4:=fun l=>by have:=gX (fl:=fl) (h:=h.set m W) (by simpa using hf) 4 l;simpa using this
  refine bq hp rfl rfl ?_;simp at c31;simp[ho]at hr;simp[Kv,ho,hq,hr,c31,bC,bE,eO,oS,jw,br,aB,hd1,hcs,b0,b1,b2,b3]
theorem d11(hp:aG Pm)(hq:cI Q)(ha:Pm 97=some pq)(o:nc)(ho:o.dd=11){a:PA}(ho' :a.vQ)(hc:iO h c t i m ms cl)(hf:fl≤h.length)(hr:gQ (gF ah M Q Pm) 74 [.ptr c 0,.str o.r.d,.agg (nG o.v)] (hD h o) fl m (ms,cl) a):gF ah M Q Pm 35 [.ptr c 0,.agg (cJ o)] h fl=some (.agg (bC (eO a)),oA h m (ms,cl) a,fl):=by
 have hd1:=l7 hc.row;have hcu:=fun l=>ez hf l;have hk4:=fun l=>gX hf 4 l;have c31:=tQ (M:=M) (Q:=Q) hp;cases a with
 |err f=>
  obtain⟨X,p,e1,h1,h2⟩:=hr;have hea:=oH h1 h2;have hl:(hD h o).length=h.length+4:=by simp[hD]
  rw[hl]at h1;have hdp:decide (p<h.length+4)=false:=decide_eq_false (by omega);have c31:∀ a b c d:Uo,gF ah M Q Pm 31 [.iface 191 (.ptr p 0)] (h++a::b::c::d::X) fl=some (.agg (oS (fT f)),h++a::b::c::d::X,fl):=fun a b c d=>Ng hp hq ha ho' (hea a b c d) (by simp;omega);refine bq hp rfl rfl ?_;simp only[hD]at e1;simp[ho]at e1;have hte:=GN (fT f);obtain⟨b1,ps,e0,b2,s1,s2,hte⟩:=hte;rw[hte]at c31;simp[JQ,ho,hq,e1,c31,bC,bE,hte,jw,br,aB,hd1,hcu,hdp,eO,oA]
 |lU l=>
  have hcs:=fun x l=>kz hf m x l;simp only[gQ,hD,dO hc.map]at hr;simp only[oA];generalize mb (l.foldl cx (ms,cl))=W at*;have b0:∀ (a:Uo) (l:List Uo),(h.set m W++a::l)[h.length]? =some a:=fun a l=>by have:=Wp (h.set m W) l a;simpa using this
  have b1:∀ (l:List Uo) n,(h.set m W++l)[h.length+n]? =l[n]? :=fun l n=>by have:=js (h.set m W) l n;simpa using this
  have b2:∀ (l:List Uo) n x,(h.set m W++l).set (h.length+n) x=h.set m W++l.set n x:=fun l n x=>by have:=jS (h.set m W) l n x;simpa using this
  have b3:∀ l,cut (h.length+4) fl (h.set m W++l)=h.set m W++l.take 4:=fun l=>by have:=gX (fl:=fl) (h:=h.set m W) (by simpa using hf) 4 l;simpa using this
  refine bq hp rfl rfl ?_;simp at c31;simp[ho]at hr;simp[JQ,ho,hq,hr,c31,bC,bE,eO,oS,jw,br,aB,hd1,hcs,b0,b1,b2,b3]
theorem d12(hp:aG Pm)(hq:cI Q)(ha:Pm 97=some pq)(o:nc)(ho:o.dd=12){a:PA}(ho' :a.vQ)(hc:iO h c t i m ms cl)(hf:fl≤h.length)(hr:gQ (gF ah M Q Pm) 75 [.ptr c 0,.str o.r.d,.int .u64 (o.r.x:Int),.int .u64 (o.r.y:Int),.agg (bV o.a)] (hD h o) fl m (ms,cl) a):gF ah M Q Pm 35 [.ptr c 0,.agg (cJ o)] h fl=some (.agg (bC (eO a)),oA h m (ms,cl) a,fl):=by
 have hd1:=l7 hc.row;have hcu:=fun l=>ez hf l;have hk4:=fun l=>gX hf 4 l;have c31:=tQ (M:=M) (Q:=Q) hp;cases a with
 |err f=>
  obtain⟨X,p,e1,h1,h2⟩:=hr;have hea:=oH h1 h2;have hl:(hD h o).length=h.length+4:=by simp[hD]
  rw[hl]at h1;have hdp:decide (p<h.length+4)=false:=decide_eq_false (by omega);have c31:∀ a b c d:Uo,gF ah M Q Pm 31 [.iface 191 (.ptr p 0)] (h++a::b::c::d::X) fl=some (.agg (oS (fT f)),h++a::b::c::d::X,fl):=fun a b c d=>Ng hp hq ha ho' (hea a b c d) (by simp;omega);refine bq hp rfl rfl ?_;simp only[hD]at e1;simp[ho]at e1;have hte:=GN (fT f);obtain⟨b1,ps,e0,b2,s1,s2,hte⟩:=hte;rw[hte]at c31;simp[J9,ho,hq,e1,c31,bC,bE,hte,jw,br,aB,hd1,hcu,hdp,eO,oA]
 |lU l=>
  have hcs:=fun x l=>kz hf m x l;simp only[gQ,hD,dO hc.map]at hr;simp only[oA];generalize mb (l.foldl cx (ms,cl))=W at*;have b0:∀ (a:Uo) (l:List Uo),(h.set m W++a::l)[h.length]? =some a:=fun a l=>by have:=Wp (h.set m W) l a;simpa using this
  have b1:∀ (l:List Uo) n,(h.set m W++l)[h.length+n]? =l[n]? :=fun l n=>by have:=js (h.set m W) l n;simpa using this
  have b2:∀ (l:List Uo) n x,(h.set m W++l).set (h.length+n) x=h.set m W++l.set n x:=fun l n x=>by have:=jS (h.set m W) l n x;simpa using this
  have b3:∀ l,cut (h.length+4) fl (h.set m W++l)=h.set m W++l.take 4:=fun l=>by have:=gX (fl:=fl) (h:=h.set m W) (by simpa using hf) 4 l;simpa using this
  refine bq hp rfl rfl ?_;simp at c31;simp[ho]at hr;simp[J9,ho,hq,hr,c31,bC,bE,eO,oS,jw,br,aB,hd1,hcs,b0,b1,b2,b3]
theorem d13(hp:aG Pm)(hq:cI Q)(ha:Pm 97=some pq)(o:nc)(ho:o.dd=13){a:PA}(ho' :a.vQ)(hc:iO h c t i m ms cl)(hf:fl≤h.length)(hr:gQ (gF ah M Q Pm) 76 [.ptr c 0,.str o.r.d,.int .u64 (o.r.x:Int),.int .u64 (o.r.y:Int)] (hD h o) fl m (ms,cl) a):gF ah M Q Pm 35 [.ptr c 0,.agg (cJ o)] h fl=some (.agg (bC (eO a)),oA h m (ms,cl) a,fl):=by
 have hd1:=l7 hc.row;have hcu:=fun l=>ez hf l;have hk4:=fun l=>gX hf 4 l;have c31:=tQ (M:=M) (Q:=Q) hp;cases a with
 |err f=>
  obtain⟨X,p,e1,h1,h2⟩:=hr;have hea:=oH h1 h2;have hl:(hD h o).length=h.length+4:=by simp[hD]
  rw[hl]at h1;have hdp:decide (p<h.length+4)=false:=decide_eq_false (by omega);have c31:∀ a b c d:Uo,gF ah M Q Pm 31 [.iface 191 (.ptr p 0)] (h++a::b::c::d::X) fl=some (.agg (oS (fT f)),h++a::b::c::d::X,fl):=fun a b c d=>Ng hp hq ha ho' (hea a b c d) (by simp;omega);refine bq hp rfl rfl ?_;simp only[hD]at e1;simp[ho]at e1;have hte:=GN (fT f);obtain⟨b1,ps,e0,b2,s1,s2,hte⟩:=hte;rw[hte]at c31;simp[KB,ho,hq,e1,c31,bC,bE,hte,jw,br,aB,hd1,hcu,hdp,eO,oA]
 |lU l=>
  have hcs:=fun x l=>kz hf m x l;simp only[gQ,hD,dO hc.map]at hr;simp only[oA];generalize mb (l.foldl cx (ms,cl))=W at*;have b0:∀ (a:Uo) (l:List Uo),(h.set m W++a::l)[h.length]? =some a:=fun a l=>by have:=Wp (h.set m W) l a;simpa using this
  have b1:∀ (l:List Uo) n,(h.set m W++l)[h.length+n]? =l[n]? :=fun l n=>by have:=js (h.set m W) l n;simpa using this
  have b2:∀ (l:List Uo) n x,(h.set m W++l).set (h.length+n) x=h.set m W++l.set n x:=fun l n x=>by have:=jS (h.set m W) l n x;simpa using this
  have b3:∀ l,cut (h.length+4) fl (h.set m W++l)=h.set m W++l.take 4:=fun l=>by have:=gX (fl:=fl) (h:=h.set m W) (by simpa using hf) 4 l;simpa using this
  refine bq hp rfl rfl ?_;simp at c31;simp[ho]at hr;simp[KB,ho,hq,hr,c31,bC,bE,eO,oS,jw,br,aB,hd1,hcs,b0,b1,b2,b3]
theorem qls(hp:aG Pm)(hq:cI Q)(o:nc)(ho:o.dd<0∨13<o.dd)(hf:fl≤h.length):gF ah M Q Pm 35 [.ptr c 0,.agg (cJ o)] h fl=some (.agg (bC bE),h,fl):=by
 have hcu:=fun l=>ez hf l;have hk4:=fun l=>gX hf 4 l;have c31:=tQ (M:=M) (Q:=Q) hp;refine bq hp rfl rfl ?_;simp at c31;simp[show ¬o.dd=0 by omega,show ¬o.dd=1 by omega,show ¬o.dd=2 by omega,show ¬o.dd=3 by omega,show ¬o.dd=4 by omega,show ¬o.dd=5 by omega,show ¬o.dd=6 by omega,show ¬o.dd=7 by omega,show ¬o.dd=8 by omega,show ¬o.dd=9 by omega,show ¬o.dd=10 by omega,show ¬o.dd=11 by omega,show ¬o.dd=12 by omega,show ¬o.dd=13 by omega,hq,c31,bC,bE,oS,jw,br,aB,hcu,hk4]
end
end Go.RE
namespace Go.RE
variable{M:eA}{Q:fq}{Pm:gU}
inductive Qy where
 |no
 |get (k:By)
 |scan (lo hi:By)
inductive An where
 |no
 |asked
 |got (v:Option By)
 |list (l:List Pr)
def jz(ms:List bL)(g:By→Option (Option By))(sc:By→By→Option (List Pr)):Qy→An
 | .no=> .no
 | .get k=>match eG ms g k with|none=> .asked|some v=> .got v
 | .scan lo hi=>match eS ms sc lo hi with|none=> .asked|some l=> .list l
def Qy.need(k:UInt8):Qy→TE
 | .no=> .no
 | .get key=> .need k key key
 | .scan lo hi=> .need k lo hi
def TE.asks:TE→Bool
 | .need .. =>true
 |_=>false
structure BU(o:nc):Prop where
 a:o.r.a.length≤1048576
 b:o.r.b.length≤1048576
 c:o.r.c.length≤1048576
 d:o.r.d.length≤1048576
 x:o.r.x<18446744073709551616
 y:o.r.y<18446744073709551616
 z:o.r.z<18446744073709551616
 da:o.data.length<small
 xd:o.x.d.length<10000000
 xc:o.x.c.length<10000000
 xv:o.x.v<18446744073709551616
 xn:o.x.nx<18446744073709551616
 ts:o.t.sc<18446744073709551616
 an:o.a.name.length≤1048576
 ak:o.a.key.length≤1048576
 ad:∃ d:Nat,o.a.due=(d:Int)∧d<18446744073709551616
 vn:o.v.name.length≤1048576
 vs:o.v.s.length<10000000
def zy(p:Rn×By):List U:=bg p.1++[.sl 1 (az p.2)]
def qpo:Qy→Prop
 | .no=>True
 | .get k=>k.length<small
 | .scan lo hi=>lo.length<small∧lo≠hi∧right lo hi=true
theorem qpD{lo hi:By}(h1:lo.length<small)(h2:hi=[]∨lt lo hi=true)(h3:lo≠[]):qpo (.scan lo hi):=by
 refine⟨h1,fun h=> ?_,?_⟩
 ·rcases h2 with h2|h2
  ·exact h3 (h.trans h2)
  ·rw[h,show lt hi hi=false from qC hi]at h2;cases h2
 ·unfold right;rcases h2 with h2|h2
  ·rw[h2];rfl
  ·rw[h2,Bool.or_true]
structure gM(M:eA)(Q:fq)(Pm:gU)(o:nc)(q:Qy)(F:An→Told)(W:An→List Cg):Prop where
 qok:qpo q
 run:∀ {h:List Uo} {fl c t i m cl:Nat} {ms:List bL} {Vp:List Uo→Prop} {g:By→Option (Option By)} {sc:By→By→Option (List Pr)},PK M Q Pm t i m Vp g sc→iO h c t i m ms cl→Vp h→fl≤h.length→ms.length≤900000→
  gF ah M Q Pm 35 [.ptr c 0,.agg (cJ o)] h fl=some (.agg (bC (F (jz ms g sc q))),h.set m (mb ((W (jz ms g sc q)).foldl cx (ms,cl))),fl)
 cg:∀ a,∀ w∈W a,Eu w
 len:∀ a,(W a).length≤4
 ask:∀ a,a≠.asked→(F a).e.asks=false
 need:(q=.no)∨∃ k,(F .asked).e=q.need k
 ro:o.dd≤8→o.dd≠2→o.dd≠3→∀ a,W a=[]
 rows:∀ a,(∀ P,a=.list P→P.length≤2000000)→∃ fs:List (Rn×By),(F a).l=fs.map zy∧fs.length≤2000000
theorem rB(hp:aG Pm)(hq:cI Q)(r:Rn)(ha:r.a.length≤1048576)(hb:r.b.length≤1048576)(hc:r.c.length≤1048576)(hd:r.d.length≤1048576)(hx:r.x<18446744073709551616)(hy:r.y<18446744073709551616)(hz:r.z<18446744073709551616):∃ key e,kS M Q Pm r key e∧key.length<small:=by
 obtain⟨r',h,fl,e1,rfl,rfl,key,e,rfl,hk⟩:=qkO (M:=M) hp hq r.k 1048576 (by decide) (by decide) r.a r.b r.c r.d r.x r.y r.z ⟨ha,hb,hc,hd,hx,hy,hz⟩;exact⟨key,e,e1,by unfold small;omega⟩
theorem Yj(hp:aG Pm)(hq:cI Q)(r:Rn)(n:Int)(ha:r.a.length≤1048576)(hb:r.b.length≤1048576)(hc:r.c.length≤1048576)(hd:r.d.length≤1048576)(hx:r.x<18446744073709551616)(hy:r.y<18446744073709551616)(hz:r.z<18446744073709551616):∃ lo hi,gF ah M Q Pm 108 [.agg (bg r),.int .i64 n] [] 0=some (.aP [.str lo,.str hi],[],0)∧lo.length<small∧(hi=[]∨lt lo hi=true):=by
 obtain⟨r',h,fl,e1,rfl,rfl,lo,hi,rfl,l1,_,l3⟩:=qlO (M:=M) hp hq r.k 1048576 (by decide) (by decide) r.a r.b r.c r.d r.x r.y r.z ⟨ha,hb,hc,hd,hx,hy,hz⟩ n;exact⟨lo,hi,e1,by unfold small;omega,l3⟩
theorem ZA(hp:aG Pm)(hq:cI Q):∃ σ,FZ M Q Pm σ:=by
 have h:∀ k:By,∃ y:Rn×Int,k.length<small→gF ah M Q Pm 109 [.str k] [] 0=some (.aP [.agg (bg y.1),.int .i64 y.2],[],0):=fun k=>by
  by_cases hk:k.length<small
  ·obtain⟨r,h,fl,e1,rfl,rfl,kk,a,b,c,d,x,y,z,e,rfl⟩:=qla (M:=M) hp hq k hk;exact⟨(⟨kk,a,b,c,d,x,y,z⟩,e),fun _=>e1⟩
  ·exact⟨(⟨0,[],[],[],[],0,0,0⟩,0),fun h=>absurd h hk⟩
 exact⟨fun k=>(h k).choose,fun k hk=>(h k).choose_spec hk⟩
theorem kC{h:List Uo}{c t i m cl:Nat}{ms:List bL}(hc:iO h c t i m ms cl)(o:nc):iO (hD h o) c t i m ms cl:=hc.app _
theorem eZ{fl:Nat}{h:List Uo}(hf:fl≤h.length)(o:nc):fl≤(hD h o).length:=by simp[hD];omega
theorem nY(k:UInt8)(e:Int):AH (cW k e):=.inl ⟨k,e,rfl⟩
theorem qbC(k:UInt8)(lo hi:By):AH (oF k lo hi):=.inr ⟨k,lo,hi,rfl⟩
@[simp] theorem qnw(k:UInt8)(e:Int):fT (cW k e)=.code k e:=rfl
@[simp] theorem qnv(k:UInt8)(lo hi:By):fT (oF k lo hi)=.need k lo hi:=rfl
theorem mw{h:List Uo}{c t i m cl:Nat}{ms:List bL}(hc:iO h c t i m ms cl):h.set m (mb (([]:List Cg).foldl cx (ms,cl)))=h:=hc.self
theorem jM(r:Rn)(key:By)(e:Int)(a:Option (Option By)):(kY r key e a).vQ:=by
 unfold kY;split
 ·cases a with
  |none=>exact qbC _ _ _
  |some v=>trivial
 ·exact nY _ _
theorem qln(hp:aG Pm)(hq:cI Q)(hcl:Pm 49=some bU)(ha:Pm 97=some pq)(o:nc)(ho:o.dd=0)(hB:BU o):∃ q F W,gM M Q Pm o q F W:=by
 obtain⟨key,e,hk,hkl⟩:=rB (M:=M) hp hq o.r hB.a hB.b hB.c hB.d hB.x hB.y hB.z;by_cases he:e=0
 ·subst he;refine⟨.get key,(fun a=>match a with| .got v=>Ds (.val v)| .asked=>Ds (.err (oF o.r.k key key))|_=>bE),fun _=>[],hkl,fun {h fl c t i m cl ms Vp g sc} hv hc hV hf hml=> ?_,fun _ w h=>(by cases h),fun _=>(by simp),fun a h=> ?_,.inr ⟨o.r.k,rfl⟩,fun _ _ _ _=>rfl,fun a _=>⟨[],by cases a<;>rfl,by simp⟩⟩
  ·have hr:=x64 hp hq hcl hv hk (kC hc o) (hv.app _ _ hV) (eZ hf o);rw[mw hc,d0 hp hq ha o ho (jM _ _ _ _) hc hf hr];simp only[kY,if_true,jz];cases eG ms g key<;>rfl
  ·cases a<;>first|rfl|exact absurd rfl h
 ·refine⟨.no,fun _=>Ds (.err (cW o.r.k e)),fun _=>[],trivial,fun {h fl c t i m cl ms Vp g sc} hv hc hV hf hml=> ?_,fun _ w h=>(by cases h),fun _=>(by simp),fun a h=>rfl,.inl rfl,fun _ _ _ _=>rfl,fun a _=>⟨[],rfl,by simp⟩⟩;have hr:=x64 hp hq hcl hv hk (kC hc o) (hv.app _ _ hV) (eZ hf o);rw[mw hc,d0 hp hq ha o ho (jM _ _ _ _) hc hf hr];simp only[kY,he,if_false]
theorem C7(k:UInt8)(σ:By→Rn×Int):∀ P:List Pr,(iA k σ P).vQ∧(xQ (iA k σ P)).e.asks=false:=by
 intro P
 induction P with
 |nil=>exact⟨trivial,rfl⟩
 |cons p P ih=>
  simp only[iA];split
  ·revert ih;cases iA k σ P with
   |err f=>exact fun ih=>ih
   |rows l=>exact fun ih=>⟨trivial,rfl⟩
  ·exact⟨nY _ _,rfl⟩
theorem LY(k:UInt8)(σ:By→Rn×Int):∀ P:List Pr,∃ fs:List (Rn×By),(xQ (iA k σ P)).l=fs.map zy∧fs.length≤P.length:=by
 intro P
 induction P with
 |nil=>exact⟨[],rfl,by simp⟩
 |cons p P ih=>
  simp only[iA];split
  ·revert ih;cases iA k σ P with
   |err f=>intro ih;exact⟨[],rfl,by simp⟩
   |rows l=>
    rintro⟨fs,h1,h2⟩;exact⟨((σ p.1).1,p.2)::fs,by
     have h1:l=fs.map zy:=h1;show Eh σ p::l=_;rw[h1];rfl,by simp;omega⟩
  ·exact⟨[],rfl,by simp⟩
theorem do_1(hp:aG Pm)(hq:cI Q)(hsq:Q 90=some nT)(hcl:Pm 49=some bU)(ha:Pm 97=some pq)(o:nc)(ho:o.dd=1)(hB:BU o):∃ q F W,gM M Q Pm o q F W:=by
 obtain⟨lo,hi,hU,hUl,hUr⟩:=Yj (M:=M) hp hq o.r o.n hB.a hB.b hB.c hB.d hB.x hB.y hB.z;obtain⟨σ,hσ⟩:=ZA (M:=M) hp hq;have hfl:∀ a,(CN o.r lo hi σ a).vQ:=fun a=>by
  unfold CN;split
  ·exact nY _ _
  ·cases a with
   |none=>exact qbC _ _ _
   |some P=>exact(C7 _ _ _).1
 by_cases hlo:lo=[]
 ·refine⟨.no,fun _=>xQ (.err (cW o.r.k 31)),fun _=>[],trivial,fun {h fl c t i m cl ms Vp g sc} hv hc hV hf hml=> ?_,fun _ w h=>(by cases h),fun _=>(by simp),fun a h=>rfl,.inl rfl,fun _ _ _ _=>rfl,fun a _=>⟨[],rfl,by simp⟩⟩;have hr:=x65 hp hq hcl hsq hv hU hσ (kC hc o) hml (hv.app _ _ hV) (eZ hf o);rw[mw hc,d1 hp hq ha o ho (hfl _) hc hf hr];simp only[CN,hlo,if_true]
 ·refine⟨.scan lo hi,(fun a=>match a with| .list P=>xQ (iA o.r.k σ P)| .asked=>xQ (.err (oF o.r.k lo hi))|_=>bE),fun _=>[],qpD hUl hUr hlo,fun {h fl c t i m cl ms Vp g sc} hv hc hV hf hml=> ?_,fun _ w h=>(by cases h),fun _=>(by simp),fun a h=> ?_,.inr ⟨o.r.k,rfl⟩,fun _ _ _ _=>rfl,fun a ha=> ?_⟩
  ·have hr:=x65 hp hq hcl hsq hv hU hσ (kC hc o) hml (hv.app _ _ hV) (eZ hf o);rw[mw hc,d1 hp hq ha o ho (hfl _) hc hf hr];simp only[CN,hlo,if_false,jz];cases eS ms sc lo hi<;>rfl
  ·cases a with
   |list P=>exact(C7 _ _ _).2
   |asked=>exact absurd rfl h
   |no=>rfl
   |got v=>rfl
  ·cases a with
   |list P=>
    obtain⟨fs,h1,h2⟩:=LY o.r.k σ P;exact⟨fs,h1,Nat.le_trans h2 (ha P rfl)⟩
   |_=>exact⟨[],rfl,by simp⟩
theorem fE{α:Type}(r:Rn)(T:By→α×Int){a:GA}(ha:a.vQ):(cB r T a).vQ:=by
 cases a with
 |err f=>exact ha
 |val v=>
  cases v with
  |none=>trivial
  |some d=>
   simp only[cB];split
   ·trivial
   ·exact nY _ _
theorem DB{α:Type}(z:α){R:By→α×Int→Prop}(h:∀ b:By,b.length<small→∃ x e,R b (x,e)):∃ T:By→α×Int,∀ b,b.length<small→R b (T b):=by
 have h2:∀ b:By,∃ y:α×Int,b.length<small→R b y:=fun b=>by
  by_cases hb:b.length<small
  ·obtain⟨x,e,h1⟩:=h b hb;exact⟨(x,e),fun _=>h1⟩
  ·exact⟨(z,0),fun h=>absurd h hb⟩
 exact⟨fun b=>(h2 b).choose,fun b hb=>(h2 b).choose_spec hb⟩
theorem jL{fl:Nat}{h:List Uo}(hf:fl≤h.length)(l:List Uo):fl≤(h++l).length:=by simp;omega
theorem qlQ(hp:aG Pm)(hq:cI Q)(hcl:Pm 49=some bU)(ha:Pm 97=some pq)(o:nc)(ho:o.dd=4)(hB:BU o):∃ q F W,gM M Q Pm o q F W:=by
 obtain⟨key,e,hk,hkl⟩:=rB (M:=M) hp hq (o.r) hB.a hB.b hB.c hB.d hB.x hB.y hB.z;obtain⟨T,hT⟩:=DB (0:Int) (R:=fun b y=>gF ah M Q Pm 111 [.sl 1 (az b)] [] 0=some (.aP [.int .u64 y.1,.int .i64 y.2],[],0)) fun b hb=>qmh hp hq b hb;have run:∀ {h:List Uo} {fl c t i m cl:Nat} {ms:List bL} {Vp:List Uo→Prop} {g:By→Option (Option By)} {sc:By→By→Option (List Pr)},PK M Q Pm t i m Vp g sc→iO h c t i m ms cl→Vp h→fl≤h.length→gF ah M Q Pm 35 [.ptr c 0,.agg (cJ o)] h fl=some (.agg (bC (qW (cB (o.r) T (kY (o.r) key e (eG ms g key))))),h,fl):=by
  intro h fl c t i m cl ms Vp g sc hv hc hV hf;have hc1:=kC hc o;have hV1:=hv.app h [.row (cJ o),.row nP,.row nP,.row (bg o.r)] hV;have hc2:=hc1.app [.row (bg o.r)];have hV2:=hv.app _ [.row (bg o.r)] hV1;have hc3:=hc2.app [.row (bg o.r)];have hV3:=hv.app _ [.row (bg o.r)] hV2;have hG:=x64 hp hq hcl hv hk hc3 hV3 (jL (jL (eZ hf o) _) _);have hTk:=qlr hp hq (o.r) T hT (wM hv hc.ok (o.r) key e) hc2 (jL (eZ hf o) _) hG;have hr:=x68 hp hq hc1 (eZ hf o) hTk;exact d4 hp hq ha o ho (fE _ _ (jM _ _ _ _)) hc hf hr
 by_cases he:e=0
 ·subst he;refine⟨.get key,(fun a=>match a with| .got v=>qW (cB (o.r) T (.val v))| .asked=>qW (.err (oF (o.r).k key key))|_=>bE),fun _=>[],hkl,fun {h fl c t i m cl ms Vp g sc} hv hc hV hf hml=> ?_,fun _ w h=>(by cases h),fun _=>(by simp),fun a h=> ?_,.inr ⟨(o.r).k,rfl⟩,fun _ _ _ _=>rfl,fun a _=>⟨[],?_,by simp⟩⟩
  ·rw[mw hc,run hv hc hV hf];simp only[kY,if_true,jz];cases eG ms g key<;>rfl
  ·cases a with
   |got v=>
    cases v with
    |none=>rfl
    |some d=>simp only[cB];split<;>rfl
   |asked=>exact absurd rfl h
   |_=>rfl
  ·cases a with
   |got v=>
    cases v with
    |none=>rfl
    |some d=>simp only[cB];split<;>rfl
   |_=>rfl
 ·refine⟨.no,fun _=>qW (.err (cW (o.r).k e)),fun _=>[],trivial,fun {h fl c t i m cl ms Vp g sc} hv hc hV hf hml=> ?_,fun _ w h=>(by cases h),fun _=>(by simp),fun a h=>rfl,.inl rfl,fun _ _ _ _=>rfl,fun a _=>⟨[],rfl,by simp⟩⟩;rw[mw hc,run hv hc hV hf];simp only[kY,he,if_false,cB]
theorem qj9(hp:aG Pm)(hq:cI Q)(hcl:Pm 49=some bU)(ha:Pm 97=some pq)(o:nc)(ho:o.dd=5)(hB:BU o):∃ q F W,gM M Q Pm o q F W:=by
 obtain⟨key,e,hk,hkl⟩:=rB (M:=M) hp hq (eP o.r.d) (by simp[eP]) (by simp[eP]) (by simp[eP]) hB.d (by simp[eP]) (by simp[eP]) (by simp[eP]);obtain⟨T,hT⟩:=DB (⟨[],0,0,[],0⟩:In) (R:=fun b y=>gF ah M Q Pm 100 [.sl 1 (az b)] [] 0=some (.aP [.agg (kG y.1),.int .i64 y.2],[],0)) fun b hb=>qlm b hb hp hq;have run:∀ {h:List Uo} {fl c t i m cl:Nat} {ms:List bL} {Vp:List Uo→Prop} {g:By→Option (Option By)} {sc:By→By→Option (List Pr)},PK M Q Pm t i m Vp g sc→iO h c t i m ms cl→Vp h→fl≤h.length→gF ah M Q Pm 35 [.ptr c 0,.agg (cJ o)] h fl=some (.agg (bC (ri (cB (eP o.r.d) T (kY (eP o.r.d) key e (eG ms g key))))),h,fl):=by
  intro h fl c t i m cl ms Vp g sc hv hc hV hf;have hc1:=kC hc o;have hV1:=hv.app h [.row (cJ o),.row nP,.row nP,.row (bg o.r)] hV;have hc2:=hc1.app [.row bt];have hV2:=hv.app _ [.row bt] hV1;have hc3:=hc2.app [.row (bg (eP o.r.d)),.row bt,.row bt];have hV3:=hv.app _ [.row (bg (eP o.r.d)),.row bt,.row bt] hV2;have hG:=x64 hp hq hcl hv hk hc3 hV3 (jL (jL (eZ hf o) _) _);have hTk:=x98 hp hq (eP o.r.d) T hT (wM hv hc.ok (eP o.r.d) key e) hc2 (jL (eZ hf o) _) hG;have hr:=x42 hp hq hc1 (eZ hf o) hTk;exact d5 hp hq ha o ho (fE _ _ (jM _ _ _ _)) hc hf hr
 by_cases he:e=0
 ·subst he;refine⟨.get key,(fun a=>match a with| .got v=>ri (cB (eP o.r.d) T (.val v))| .asked=>ri (.err (oF (eP o.r.d).k key key))|_=>bE),fun _=>[],hkl,fun {h fl c t i m cl ms Vp g sc} hv hc hV hf hml=> ?_,fun _ w h=>(by cases h),fun _=>(by simp),fun a h=> ?_,.inr ⟨(eP o.r.d).k,rfl⟩,fun _ _ _ _=>rfl,fun a _=>⟨[],?_,by simp⟩⟩
  ·rw[mw hc,run hv hc hV hf];simp only[kY,if_true,jz];cases eG ms g key<;>rfl
  ·cases a with
   |got v=>
    cases v with
    |none=>rfl
    |some d=>simp only[cB];split<;>rfl
   |asked=>exact absurd rfl h
   |_=>rfl
  ·cases a with
   |got v=>
    cases v with
    |none=>rfl
    |some d=>simp only[cB];split<;>rfl
   |_=>rfl
 ·refine⟨.no,fun _=>ri (.err (cW (eP o.r.d).k e)),fun _=>[],trivial,fun {h fl c t i m cl ms Vp g sc} hv hc hV hf hml=> ?_,fun _ w h=>(by cases h),fun _=>(by simp),fun a h=>rfl,.inl rfl,fun _ _ _ _=>rfl,fun a _=>⟨[],rfl,by simp⟩⟩;rw[mw hc,run hv hc hV hf];simp only[kY,he,if_false,cB]
theorem qlU(hp:aG Pm)(hq:cI Q)(hcl:Pm 49=some bU)(ha:Pm 97=some pq)(o:nc)(ho:o.dd=6)(hB:BU o):∃ q F W,gM M Q Pm o q F W:=by
 obtain⟨key,e,hk,hkl⟩:=rB (M:=M) hp hq (kI o.r.d o.r.x) (by simp[kI]) (by simp[kI]) (by simp[kI]) hB.d hB.x (by simp[kI]) (by simp[kI]);obtain⟨T,hT⟩:=DB (⟨0,0,0⟩:Tk) (R:=fun b y=>gF ah M Q Pm 114 [.sl 1 (az b)] [] 0=some (.aP [.agg (lI y.1),.int .i64 y.2],[],0)) fun b hb=>qkx b hb hp hq;have run:∀ {h:List Uo} {fl c t i m cl:Nat} {ms:List bL} {Vp:List Uo→Prop} {g:By→Option (Option By)} {sc:By→By→Option (List Pr)},PK M Q Pm t i m Vp g sc→iO h c t i m ms cl→Vp h→fl≤h.length→gF ah M Q Pm 35 [.ptr c 0,.agg (cJ o)] h fl=some (.agg (bC (sg (cB (kI o.r.d o.r.x) T (kY (kI o.r.d o.r.x) key e (eG ms g key))))),h,fl):=by
  intro h fl c t i m cl ms Vp g sc hv hc hV hf;have hc1:=kC hc o;have hV1:=hv.app h [.row (cJ o),.row nP,.row nP,.row (bg o.r)] hV;have hc2:=hc1.app [.row c8];have hV2:=hv.app _ [.row c8] hV1;have hc3:=hc2.app [.row (bg (kI o.r.d o.r.x)),.row c8,.row c8];have hV3:=hv.app _ [.row (bg (kI o.r.d o.r.x)),.row c8,.row c8] hV2;have hG:=x64 hp hq hcl hv hk hc3 hV3 (jL (jL (eZ hf o) _) _);have hTk:=qk6 hp hq (kI o.r.d o.r.x) T hT (wM hv hc.ok (kI o.r.d o.r.x) key e) hc2 (jL (eZ hf o) _) hG;have hr:=x69 hp hq hc1 (eZ hf o) hTk;exact d6 hp hq ha o ho (fE _ _ (jM _ _ _ _)) hc hf hr
 by_cases he:e=0
 ·subst he;refine⟨.get key,(fun a=>match a with| .got v=>sg (cB (kI o.r.d o.r.x) T (.val v))| .asked=>sg (.err (oF (kI o.r.d o.r.x).k key key))|_=>bE),fun _=>[],hkl,fun {h fl c t i m cl ms Vp g sc} hv hc hV hf hml=> ?_,fun _ w h=>(by cases h),fun _=>(by simp),fun a h=> ?_,.inr ⟨(kI o.r.d o.r.x).k,rfl⟩,fun _ _ _ _=>rfl,fun a _=>⟨[],?_,by simp⟩⟩
  ·rw[mw hc,run hv hc hV hf];simp only[kY,if_true,jz];cases eG ms g key<;>rfl
  ·cases a with
   |got v=>
    cases v with
    |none=>rfl
    |some d=>simp only[cB];split<;>rfl
   |asked=>exact absurd rfl h
   |_=>rfl
  ·cases a with
   |got v=>
    cases v with
    |none=>rfl
    |some d=>simp only[cB];split<;>rfl
   |_=>rfl
 ·refine⟨.no,fun _=>sg (.err (cW (kI o.r.d o.r.x).k e)),fun _=>[],trivial,fun {h fl c t i m cl ms Vp g sc} hv hc hV hf hml=> ?_,fun _ w h=>(by cases h),fun _=>(by simp),fun a h=>rfl,.inl rfl,fun _ _ _ _=>rfl,fun a _=>⟨[],rfl,by simp⟩⟩;rw[mw hc,run hv hc hV hf];simp only[kY,he,if_false,cB]
theorem qka(hp:aG Pm)(hq:cI Q)(hcl:Pm 49=some bU)(ha:Pm 97=some pq)(o:nc)(ho:o.dd=7)(hB:BU o):∃ q F W,gM M Q Pm o q F W:=by
 obtain⟨key,e,hk,hkl⟩:=rB (M:=M) hp hq (dJ o.r.d o.r.x o.r.y) (by simp[dJ]) (by simp[dJ]) (by simp[dJ]) hB.d hB.x hB.y (by simp[dJ]);obtain⟨T,hT⟩:=DB (⟨0,[],[],0⟩:Ar) (R:=fun b y=>gF ah M Q Pm 117 [.sl 1 (az b)] [] 0=some (.aP [.agg (bV y.1),.int .i64 y.2],[],0)) fun b hb=>by
  obtain⟨x,e,h,_⟩:=qjc (M:=M) (Q:=Q) (Pm:=Pm) b hb hp hq;exact⟨x,e,h⟩
 have run:∀ {h:List Uo} {fl c t i m cl:Nat} {ms:List bL} {Vp:List Uo→Prop} {g:By→Option (Option By)} {sc:By→By→Option (List Pr)},PK M Q Pm t i m Vp g sc→iO h c t i m ms cl→Vp h→fl≤h.length→gF ah M Q Pm 35 [.ptr c 0,.agg (cJ o)] h fl=some (.agg (bC (qX (cB (dJ o.r.d o.r.x o.r.y) T (kY (dJ o.r.d o.r.x o.r.y) key e (eG ms g key))))),h,fl):=by
  intro h fl c t i m cl ms Vp g sc hv hc hV hf;have hc1:=kC hc o;have hV1:=hv.app h [.row (cJ o),.row nP,.row nP,.row (bg o.r)] hV;have hc2:=hc1.app [.row bP];have hV2:=hv.app _ [.row bP] hV1;have hc3:=hc2.app [.row (bg (dJ o.r.d o.r.x o.r.y)),.row bP,.row bP];have hV3:=hv.app _ [.row (bg (dJ o.r.d o.r.x o.r.y)),.row bP,.row bP] hV2;have hG:=x64 hp hq hcl hv hk hc3 hV3 (jL (jL (eZ hf o) _) _);have hTk:=qhB hp hq (dJ o.r.d o.r.x o.r.y) T hT (wM hv hc.ok (dJ o.r.d o.r.x o.r.y) key e) hc2 (jL (eZ hf o) _) hG;have hr:=x70 hp hq hc1 (eZ hf o) hTk;exact d7 hp hq ha o ho (fE _ _ (jM _ _ _ _)) hc hf hr
 by_cases he:e=0
 ·subst he;refine⟨.get key,(fun a=>match a with| .got v=>qX (cB (dJ o.r.d o.r.x o.r.y) T (.val v))| .asked=>qX (.err (oF (dJ o.r.d o.r.x o.r.y).k key key))|_=>bE),fun _=>[],hkl,fun {h fl c t i m cl ms Vp g sc} hv hc hV hf hml=> ?_,fun _ w h=>(by cases h),fun _=>(by simp),fun a h=> ?_,.inr ⟨(dJ o.r.d o.r.x o.r.y).k,rfl⟩,fun _ _ _ _=>rfl,fun a _=>⟨[],?_,by simp⟩⟩
  ·rw[mw hc,run hv hc hV hf];simp only[kY,if_true,jz];cases eG ms g key<;>rfl
  ·cases a with
   |got v=>
    cases v with
    |none=>rfl
    |some d=>simp only[cB];split<;>rfl
   |asked=>exact absurd rfl h
   |_=>rfl
  ·cases a with
   |got v=>
    cases v with
    |none=>rfl
    |some d=>simp only[cB];split<;>rfl
   |_=>rfl
 ·refine⟨.no,fun _=>qX (.err (cW (dJ o.r.d o.r.x o.r.y).k e)),fun _=>[],trivial,fun {h fl c t i m cl ms Vp g sc} hv hc hV hf hml=> ?_,fun _ w h=>(by cases h),fun _=>(by simp),fun a h=>rfl,.inl rfl,fun _ _ _ _=>rfl,fun a _=>⟨[],rfl,by simp⟩⟩;rw[mw hc,run hv hc hV hf];simp only[kY,he,if_false,cB]
theorem qmv(hp:aG Pm)(hq:cI Q)(hcl:Pm 49=some bU)(ha:Pm 97=some pq)(o:nc)(ho:o.dd=8)(hB:BU o):∃ q F W,gM M Q Pm o q F W:=by
 obtain⟨key,e,hk,hkl⟩:=rB (M:=M) hp hq (gA o.r.d o.r.a) hB.a (by simp[gA]) (by simp[gA]) hB.d (by simp[gA]) (by simp[gA]) (by simp[gA]);obtain⟨T,hT⟩:=DB (⟨0,0,[]⟩:Vl) (R:=fun b y=>gF ah M Q Pm 120 [.sl 1 (az b)] [] 0=some (.aP [.agg (jw y.1),.int .i64 y.2],[],0)) fun b hb=>by
  obtain⟨k,n,s,e,h⟩:=qkF (M:=M) hp hq b hb;exact⟨⟨k,n,s⟩,e,h⟩
 have run:∀ {h:List Uo} {fl c t i m cl:Nat} {ms:List bL} {Vp:List Uo→Prop} {g:By→Option (Option By)} {sc:By→By→Option (List Pr)},PK M Q Pm t i m Vp g sc→iO h c t i m ms cl→Vp h→fl≤h.length→gF ah M Q Pm 35 [.ptr c 0,.agg (cJ o)] h fl=some (.agg (bC (sB (cB (gA o.r.d o.r.a) T (kY (gA o.r.d o.r.a) key e (eG ms g key))))),h,fl):=by
  intro h fl c t i m cl ms Vp g sc hv hc hV hf;have hc1:=kC hc o;have hV1:=hv.app h [.row (cJ o),.row nP,.row nP,.row (bg o.r)] hV;have hc2:=hc1.app [.row eD];have hV2:=hv.app _ [.row eD] hV1;have hc3:=hc2.app [.row (bg (gA o.r.d o.r.a)),.row eD,.row eD];have hV3:=hv.app _ [.row (bg (gA o.r.d o.r.a)),.row eD,.row eD] hV2;have hG:=x64 hp hq hcl hv hk hc3 hV3 (jL (jL (eZ hf o) _) _);have hTk:=qkW hp hq (gA o.r.d o.r.a) T hT (wM hv hc.ok (gA o.r.d o.r.a) key e) hc2 (jL (eZ hf o) _) hG;have hr:=x71 hp hq hc1 (eZ hf o) hTk;exact d8 hp hq ha o ho (fE _ _ (jM _ _ _ _)) hc hf hr
 by_cases he:e=0
 ·subst he;refine⟨.get key,(fun a=>match a with| .got v=>sB (cB (gA o.r.d o.r.a) T (.val v))| .asked=>sB (.err (oF (gA o.r.d o.r.a).k key key))|_=>bE),fun _=>[],hkl,fun {h fl c t i m cl ms Vp g sc} hv hc hV hf hml=> ?_,fun _ w h=>(by cases h),fun _=>(by simp),fun a h=> ?_,.inr ⟨(gA o.r.d o.r.a).k,rfl⟩,fun _ _ _ _=>rfl,fun a _=>⟨[],?_,by simp⟩⟩
  ·rw[mw hc,run hv hc hV hf];simp only[kY,if_true,jz];cases eG ms g key<;>rfl
  ·cases a with
   |got v=>
    cases v with
    |none=>rfl
    |some d=>simp only[cB];split<;>rfl
   |asked=>exact absurd rfl h
   |_=>rfl
  ·cases a with
   |got v=>
    cases v with
    |none=>rfl
    |some d=>simp only[cB];split<;>rfl
   |_=>rfl
 ·refine⟨.no,fun _=>sB (.err (cW (gA o.r.d o.r.a).k e)),fun _=>[],trivial,fun {h fl c t i m cl ms Vp g sc} hv hc hV hf hml=> ?_,fun _ w h=>(by cases h),fun _=>(by simp),fun a h=>rfl,.inl rfl,fun _ _ _ _=>rfl,fun a _=>⟨[],rfl,by simp⟩⟩;rw[mw hc,run hv hc hV hf];simp only[kY,he,if_false,cB]
end Go.RE
