/- A call of which some result is told, without its name: for code that has no range over a map. -/
import Derived.Test.YtigkmaeaoaejiaaGreatDoorPart12
set_option linter.unusedVariables false
set_option linter.unusedSimpArgs false
set_option linter.unnecessarySimpa false
namespace Go.RE
def L9:List aH→Bool
 |[]=>true
 |⟨_,.next _,_,_⟩::_=>false
 |_::r=>L9 r
def ag.Qs:ag→Bool
 | .region ops=>L9 ops
 | .seq a b=>a.Qs&&b.Qs
 | .cond _ a b=>a.Qs&&b.Qs
 | .block _ b=>b.Qs
 | .loop b=>b.Qs
 |_=>true
section
variable{VF:Nat→Option aA}{M:eA}{Q:fq}{Pm:gU}
theorem Gg{K:Ex→Vs→Prop}{o:Option Vs}(h:iH K o):∃ ex t,K ex t∧∀ K' :Ex→Vs→Prop,K' ex t→iH K' o:=by
 cases o with
 |none=>exact h.elim
 |some u=>exact⟨_,_,h,fun _ h=>h⟩
theorem Ja{fn:aA}{id n:Nat}{K:Ex→Vs→Prop}{ex:Ex}{t:Vs}(h:kB fn id n K ex t):∃ ex' t',K ex' t'∧∀ K' :Ex→Vs→Prop,K' ex' t'→kB fn id n K' ex t:=by
 cases ex with
 |normal=>exact⟨_,_,h,fun _ h=>h⟩
 |ret=>exact⟨_,_,h,fun _ h=>h⟩
 |exit i=>
  simp only[kB]at h⊢;cases hb:Nat.beq i id with
  |true=>rw[hb]at h;exact⟨_,_,h,fun _ h=>h⟩
  |false=>rw[hb]at h;exact⟨_,_,h,fun _ h=>h⟩
theorem qgw:∀ n,(∀ {fn:aA} {c:ag} {s:Vs} {K:Ex→Vs→Prop},c.Qs=true→vC VF M Q Pm n fn c s K→∃ ex t,K ex t∧∀ K' :Ex→Vs→Prop,K' ex t→vC VF M Q Pm n fn c s K')∧
  ∀ {fn:aA} {id:Nat} {b:ag} {m:Nat} {s:Vs} {K:Ex→Vs→Prop},b.Qs=true→vL VF M Q Pm n fn id b m s K→∃ ex t,K ex t∧∀ K' :Ex→Vs→Prop,K' ex t→vL VF M Q Pm n fn id b m s K' :=by
 intro n
 induction n with
 |zero=>exact⟨fun _ h=>by simp[vC]at h,fun _ h=>by simp[vL]at h⟩
 |succ n ih=>
  obtain⟨ihC,ihL⟩:=ih;refine⟨fun {fn c s K} hd h=> ?_,fun {fn id b m s K} hd h=> ?_⟩
  ·cases c with
   |skip=>exact⟨_,_,h,fun _ h=>h⟩
   |ret=>exact⟨_,_,h,fun _ h=>h⟩
   |exit i=>exact⟨_,_,h,fun _ h=>h⟩
   |region ops=>
    have hr:∀ K:Ex→Vs→Prop,vC VF M Q Pm (n+1) fn (.region ops) s K=iH K (gw M Q (vF VF M Q Pm n) ops s):=fun K=>by
     show k9 M Q (vF VF M Q Pm n) s K ops=_;unfold k9;split
     ·simp[ag.Qs,L9]at hd
     ·rfl
    rw[hr]at h;obtain⟨ex,t,h1,h2⟩:=Gg h;exact⟨ex,t,h1,fun K' hk=>by rw[hr];exact h2 K' hk⟩
   |draw ops=>
    have h:l8 M Q (vF VF M Q Pm n) s K (sched (ops.length+1) (aC ops 0) 0):=h;cases hl:sched (ops.length+1) (aC ops 0) 0 with
    |none=>rw[hl]at h;exact h.elim
    |some l=>
     rw[hl]at h;obtain⟨ex,t,h1,h2⟩:=Gg h;refine⟨ex,t,h1,fun K' hk=> ?_⟩;show l8 M Q (vF VF M Q Pm n) s K' (sched (ops.length+1) (aC ops 0) 0);rw[hl];exact h2 K' hk
   |seq a b=>
    simp only[ag.Qs,cm]at hd;simp only[vC]at h⊢;obtain⟨ex,t,h1,h2⟩:=ihC hd.1 h;cases ex with
    |normal=>
     obtain⟨ex',t',h3,h4⟩:=ihC hd.2 h1;exact⟨ex',t',h3,fun K' hk=>h2 _ (h4 K' hk)⟩
    |ret=>exact⟨_,_,h1,fun K' hk=>h2 _ hk⟩
    |exit i=>exact⟨_,_,h1,fun K' hk=>h2 _ hk⟩
   |cond x a b=>
    simp only[ag.Qs,cm]at hd;simp only[vC]at h⊢;split at h<;>try exact h.elim
    ·exact ihC hd.1 h
    ·exact ihC hd.2 h
   |block id b=>
    cases b with
    |loop b=>simp only[vC]at h⊢;exact ihL hd h
    |_=>
     simp only[vC]at h⊢;have hk:=fun hd=>ihC hd h;obtain⟨ex,t,h1,h2⟩:=hk hd;obtain⟨ex',t',h3,h4⟩:=Ja h1;exact⟨ex',t',h3,fun K' hk=>h2 _ (h4 K' hk)⟩
   |loop b=>simp[vC]at h
   |bad=>simp[vC]at h
   |uh a b=>simp[vC]at h
  ·simp only[vL]at h⊢;obtain⟨ex,t,h1,h2⟩:=ihC hd h;cases ex with
   |normal=>
    obtain⟨ex',t',h3,h4⟩:=ihL hd h1;exact⟨ex',t',h3,fun K' hk=>h2 _ (h4 K' hk)⟩
   |ret=>
    obtain⟨ex',t',h3,h4⟩:=Ja h1;exact⟨ex',t',h3,fun K' hk=>h2 _ (h4 K' hk)⟩
   |exit i=>
    obtain⟨ex',t',h3,h4⟩:=Ja h1;exact⟨ex',t',h3,fun K' hk=>h2 _ (h4 K' hk)⟩
def exX(P:U→List Uo→Nat→Prop):Option (U×List Uo×Nat)→Prop
 |some (r,h,fl)=>P r h fl
 |none=>False
@[simp] theorem qiq{P:U→List Uo→Nat→Prop}{r:U}{h:List Uo}{fl:Nat}:exX P (some (r,h,fl))=P r h fl:=rfl
theorem Qx{P:U→List Uo→Nat→Prop}{o:Option (U×List Uo×Nat)}(h:exX P o):∃ r h fl,o=some (r,h,fl)∧P r h fl:=by
 cases o with
 |none=>exact h.elim
 |some x=>exact⟨_,_,_,rfl,h⟩
def kX(k:Nat)(fn:aA)(P:U→List Uo→Nat→Prop)(ex:Ex)(s:Vs):Prop:=
 match ex with
 | .exit _=>False
 |_=>exX P (Cq k fn s)
@[simp] theorem qkA{k:Nat}{fn:aA}{P:U→List Uo→Nat→Prop}{s:Vs}:kX k fn P .ret s=exX P (Cq k fn s):=rfl
@[simp] theorem qfa{k:Nat}{fn:aA}{P:U→List Uo→Nat→Prop}{s:Vs}:kX k fn P .normal s=exX P (Cq k fn s):=rfl
theorem jx{fn:aA}{f:Nat}{us:List U}{h:List Uo}{fl:Nat}{P:U→List Uo→Nat→Prop}(hp:Pm f=none)(hf:VF f=some fn)(ha:Nat.ble us.length fn.ntmps=true)(hd:fn.body.Qs=true)
  (hR:gC VF M Q Pm fn fn.body ⟨su us 0,h,fl⟩ (kX h.length fn P)):∃ r h' fl',gF VF M Q Pm f us h fl=some (r,h',fl')∧P r h' fl' :=by
 obtain⟨n,hn⟩:=hR;obtain⟨ex,t,h1,h2⟩:=(qgw n).1 hd hn;cases ex with
 |exit i=>exact h1.elim
 |normal=>
  obtain⟨r,h',fl',h3,h4⟩:=Qx h1;exact⟨r,h',fl',Du hp hf ha ⟨n,h2 _ h3⟩,h4⟩
 |ret=>
  obtain⟨r,h',fl',h3,h4⟩:=Qx h1;exact⟨r,h',fl',Du hp hf ha ⟨n,h2 _ h3⟩,h4⟩
end
end Go.RE
namespace Go.RE
structure bL where
 k:By
 g:Bool
 d:By
 b:Nat
deriving DecidableEq,Inhabited
def Gc(g:Bool)(d:By):U:=.agg [.bool g,.sl 1 (az d)]
def iS(e:bL):U×U×Nat:=(.str e.k,Gc e.g e.d,e.b)
structure oT(es:List bL)(c:Nat):Prop where
 nodup:(es.map (·.b)).Nodup
 lt:∀ e∈es,e.b<c
 dat:∀ e∈es,e.d.length<small
 keys:(es.map (·.k)).Nodup
 gone:∀ e∈es,e.g=true→e.d=[]
 kl:∀ e∈es,e.k.length<small
def di(k:By)(es:List bL):Option bL:=es.find? (fun e=>e.k==k)
def u7(k:By)(g:Bool)(d:By):List bL→List bL
 |[]=>[]
 |e::r=>if(e.k==k)=true then⟨k,g,d,e.b⟩::r else e::u7 k g d r
def uD(k:By)(g:Bool)(d:By)(c:Nat)(es:List bL):List bL:=if(di k es).isSome=true then u7 k g d es else es++[⟨k,g,d,c⟩]
def yd(k:By)(c:Nat)(es:List bL):Nat:=if(di k es).isSome=true then c else c+1
theorem De(k:By):∀ (es:List bL) (j:Nat),(di k es=none∧jt .str (.str k) (es.map iS) j=some none)∨∃ i e,di k es=some e∧jt .str (.str k) (es.map iS) j=some (some (i,Gc e.g e.d))∧j≤i∧
  ∀ g d,ox (i - j) (fun e=>(.str k,Gc g d,e.2.2)) (es.map iS)=(u7 k g d es).map iS:=by
 intro es
 induction es with
 |nil=>intro j;exact .inl ⟨rfl,rfl⟩
 |cons e es ih=>
  intro j;have hf:jt .str (.str k) ((e::es).map iS) j=(match some (k==e.k)with
   |some true=>some (some (j,Gc e.g e.d))
   |some false=>jt .str (.str k) (es.map iS) (j+1)
   |none=>none):=rfl
  rw[hf,NL k e.k];cases hk:e.k==k with
  |true=>exact .inr ⟨j,e,by simp[di,List.find?_cons,hk],rfl,aM _,fun g d=>by simp[u7,hk,ox,iS]⟩
  |false=>
   have hfe:di k (e::es)=di k es:=by simp[di,List.find?_cons,hk]
   rcases ih (j+1)with⟨h1,h2⟩|⟨i,e',h1,h2,h3,h4⟩
   ·exact .inl ⟨by rw[hfe];exact h1,h2⟩
   ·refine .inr ⟨i,e',by rw[hfe];exact h1,h2,by omega,fun g d=> ?_⟩;rw[show i - j=(i - (j+1))+1 by omega];simp only[List.map_cons,ox,u7,hk,h4];simp
theorem NK(k:By)(g:Bool)(d:By)(es:List bL)(c m:Nat)(s:Vs):muP .str m (.str k) (.agg [.bool g,.sl 1 (az d)]) s (some (.map (es.map iS) c))=some (.aP [],⟨s.e,s.h.set m (.map ((uD k g d c es).map iS) (yd k c es)),s.fl⟩):=by
 have hk:bR .str (.str k)=true:=rfl;have hl:(U.agg [.bool g,.sl 1 (az d)]).low (m+1)=true:=by simp
 simp only[muP,hk,cond_true,hl];rcases De k es 0 with⟨h1,h2⟩|⟨i,e,h1,h2,_,h4⟩
 ·rw[h2];simp[uD,yd,h1,iS,Gc]
 ·have h5:=h4 g d;simp only[Nat.sub_zero,Gc]at h5;rw[h2];simp[uD,yd,h1,h5]
theorem Ax(k:By)(es:List bL)(c m:Nat)(z:U)(s:Vs)(hm:s.h[m]? =some (.map (es.map iS) c)):
  fO s .str z true (.map m) (.str k)=some (match di k es with|some e=> .aP [Gc e.g e.d,.bool true]|none=> .aP [z,.bool false])∧
  fO s .str z false (.map m) (.str k)=some (match di k es with|some e=>Gc e.g e.d|none=>z):=by
 have hk:bR .str (.str k)=true:=rfl;simp only[fO,hm,hk,cond_true];rcases De k es 0 with⟨h1,h2⟩|⟨i,e,h1,h2,_,_⟩
 ·rw[h2,h1];exact⟨rfl,rfl⟩
 ·rw[h2,h1];exact⟨rfl,rfl⟩
theorem HA{es:List bL}(hn:(es.map (·.b)).Nodup){e:bL}(he:e∈es):(es.map iS).find? (fun x=>Nat.beq x.2.2 e.b)=some (iS e):=by
 induction es with
 |nil=>cases he
 |cons a r ih=>
  rw[List.map_cons,List.find?_cons];simp only[List.map_cons,List.nodup_cons]at hn;rcases eB.1 he with rfl|he
  ·simp[iS]
  ·have hne:a.b≠e.b:=fun hh=>hn.1 (by rw[hh];exact fh.2 ⟨e,he,rfl⟩);have:Nat.beq (iS a).2.2 e.b=false:=by simp[iS,hne]
   rw[this];exact ih hn.2 he
theorem OY{es:List bL}{c:Nat}(h:oT es c){seen:List Nat}{x:Option (U×U×Nat)}(hx:x∈qk (es.map iS) c seen):
  (x=none∧∀ e∈es,e.b∈seen)∨∃ e∈es,e.b ∉ seen∧x=some (iS e):=by
 unfold qk at hx;simp only[ic]at hx;rcases hx with hx|hx
 ·left;cases hq:(List.filter (fun e=>Nat.blt e.2.2 c) (List.filter (fun e:U×U×Nat=> !seen.contains e.2.2) (es.map iS))).isEmpty with
  |false=>rw[hq]at hx;simp at hx
  |true=>
   rw[hq]at hx;simp at hx;refine⟨hx,fun e he=> ?_⟩;rw[List.isEmpty_iff]at hq;apply Classical.byContradiction;intro hne;have:iS e∈List.filter (fun e=>Nat.blt e.2.2 c) (List.filter (fun e:U×U×Nat=> !seen.contains e.2.2) (es.map iS)):=by
    rw[List.mem_filter,List.mem_filter];exact⟨⟨fh.2 ⟨e,he,rfl⟩,by simp[iS,hne]⟩,by simp[iS,h.lt e he]⟩
   rw[hq]at this;cases this
 ·right;rw[fh]at hx;obtain⟨y,hy,rfl⟩:=hx;rw[ic,List.mem_filter,List.mem_filter]at hy;have hm:y∈List.filter (fun e:U×U×Nat=> !seen.contains e.2.2) (es.map iS):=by
   rcases hy with hy|hy
   ·exact List.mem_filter.2 hy.1
   ·exact(List.mem_filter.1 hy).1
  rw[List.mem_filter,fh]at hm;obtain⟨⟨e,he,rfl⟩,hs⟩:=hm;exact⟨e,he,by simpa[iS]using hs,rfl⟩
theorem uv{es:List bL}{c:Nat}(hT:oT es c){vis left:List bL}(hp:(vis++left).Perm es){s:Vs}{dst:Option Nat}{x:bB}{k:Vs→Prop}{q m:Nat}
  (hx:ck s.e x=some (.ptr q 0)) (hq:s.h[q]? =some (.iter (some m) c (vis.map (·.b)) c)) (hm:s.h[m]? =some (.map (es.map iS) c))
  (hdone:left=[]→k {s with e:=jD dst (.aP [.bool false]) s.e})
  (hnext:∀ e∈left,e∈es→((vis++[e])++left.erase e).Perm es→k {e:=jD dst (.aP [.bool true,.str e.k,Gc e.g e.d]) s.e,h:=s.h.set q (.iter (some m) c ((vis++[e]).map (·.b)) c),fl:=s.fl}):gz s dst x k:=by
 simp only[gz,hx,hq,hm];have hnd:((vis++left).map (·.b)).Nodup:=(hp.map (·.b)).nodup_iff.2 hT.nodup;refine⟨?_,fun y hy=> ?_⟩
 ·cases he:(es.map iS).isEmpty with
  |true=>simp
  |false=>
   cases es with
   |nil=>simp at he
   |cons e r=>
    have:=hT.lt e k7;simp[iS];intro _ h1;omega
 ·rcases OY hT hy with⟨rfl,hall⟩|⟨e,he,hb,rfl⟩
  ·refine hdone ?_;cases left with
   |nil=>rfl
   |cons a r=>
    exfalso;have ha:a∈es:=hp.subset (by simp);have:=hall a ha;rw[List.map_append,List.nodup_append]at hnd;exact hnd.2.2 a.b this a.b (by simp) rfl
  ·have hel:e∈left:=by
    have:=hp.symm.subset he;rcases ic.1 this with hv|hv
    ·exact absurd (fh.2 ⟨e,hv,rfl⟩) hb
    ·exact hv
   have hper:((vis++[e])++left.erase e).Perm es:=by
    refine List.Perm.trans ?_ hp;rw[ow];exact(List.perm_cons_erase hel).symm.append_left vis
   have:=hnext e hel he hper;rw[List.map_append]at this;exact this
theorem CI(k:By)(g:Bool)(d:By):∀ es:List bL,(u7 k g d es).map (·.k)=es.map (·.k)∧(u7 k g d es).map (·.b)=es.map (·.b):=by
 intro es
 induction es with
 |nil=>exact⟨rfl,rfl⟩
 |cons e es ih=>
  by_cases hk:(e.k==k)=true
  ·simp[u7,hk,eq_of_beq hk]
  ·simp[u7,hk,ih]
theorem HI{k:By}{g:Bool}{d:By}:∀ {es:List bL} {e:bL},e∈u7 k g d es→(e.g=g∧e.d=d)∨e∈es:=by
 intro es
 induction es with
 |nil=>intro e h;cases h
 |cons a es ih=>
  intro e h;by_cases hk:(a.k==k)=true
  ·simp only[u7,hk,if_true,eB]at h;rcases h with rfl|h
   ·exact .inl ⟨rfl,rfl⟩
   ·exact .inr (ki _ h)
  ·simp only[u7,if_neg hk,eB]at h;rcases h with rfl|h
   ·exact .inr k7
   ·rcases ih h with h|h
    ·exact .inl h
    ·exact .inr (ki _ h)
theorem oT.set{es:List bL}{c:Nat}(h:oT es c)(k:By)(g:Bool)(d:By)(hd:d.length<small)(hg:g=true→d=[])(hk:k.length<small):oT (uD k g d c es) (yd k c es):=by
 unfold uD yd;cases hs:(di k es).isSome with
 |true=>
  simp only[if_true];obtain⟨m1,m2⟩:=CI k g d es;refine⟨by rw[m2];exact h.nodup,fun e he=> ?_,fun e he=> ?_,by rw[m1];exact h.keys,fun e he hge=> ?_,fun e he=> ?_⟩
  ·have:e.b∈(u7 k g d es).map (·.b):=fh.2 ⟨e,he,rfl⟩;rw[m2]at this;obtain⟨e',he',hb⟩:=fh.1 this;rw[←hb];exact h.lt e' he'
  ·rcases HI he with h1|h1
   ·rw[h1.2];exact hd
   ·exact h.dat e h1
  ·rcases HI he with h1|h1
   ·rw[h1.2];exact hg (h1.1▸hge)
   ·exact h.gone e h1 hge
  ·have:e.k∈(u7 k g d es).map (·.k):=fh.2 ⟨e,he,rfl⟩;rw[m1]at this;obtain⟨e',he',hb⟩:=fh.1 this;rw[←hb];exact h.kl e' he'
 |false=>
  simp only[mF,if_false];have hn:∀ e∈es,e.k≠k:=by
   intro e he hk;have:(di k es).isSome=true:=by
    unfold di;rw[List.find?_isSome];exact⟨e,he,by simp[hk]⟩
   rw[hs]at this;cases this
  refine⟨?_,fun e he=> ?_,fun e he=> ?_,?_,fun e he hge=> ?_,fun e he=> ?_⟩
  ·rw[List.map_append,List.nodup_append];refine⟨h.nodup,by simp,fun a ha b hb=> ?_⟩;simp at hb;subst hb;obtain⟨e,he,rfl⟩:=fh.1 ha;have:=h.lt e he;omega
  ·rcases ic.1 he with he|he
   ·have:=h.lt e he;omega
   ·simp at he;subst he;exact Nat.lt_succ_self _
  ·rcases ic.1 he with he|he
   ·exact h.dat e he
   ·simp at he;subst he;exact hd
  ·rw[List.map_append,List.nodup_append];refine⟨h.keys,by simp,fun a ha b hb=> ?_⟩;simp at hb;subst hb;obtain⟨e,he,rfl⟩:=fh.1 ha;exact hn e he
  ·rcases ic.1 he with he|he
   ·exact h.gone e he hge
   ·simp at he;subst he;exact hg hge
  ·rcases ic.1 he with he|he
   ·exact h.kl e he
   ·simp at he;subst he;exact hk
theorem TS(k:By)(g:Bool)(d:By)(c:Nat)(es:List bL):(uD k g d c es).length≤es.length+1:=by
 unfold uD;split
 ·have:=congrArg List.length (CI k g d es).1;simp at this;omega
 ·simp
end Go.RE
namespace Go.RE
variable{M:eA}{Q:fq}{Pm:gU}
def N6(i:Nat)(c:UInt8):U:=if c=110 then .ptr i 1 else if c=107 then .ptr i 2 else if c=100 then .ptr i 3 else if c=105 then .ptr i 4 else .aT
def Qn(i:Nat)(c:UInt8):U:=if c=116 then .ptr i 5 else if c=111 then .ptr i 6 else .ptr i 7
theorem vA{c j:UInt8}(h:c≠j):((c.toNat:Int)==(j.toNat:Int))=false:=by
 rw[beq_eq_false_iff_ne];intro hh;exact h (UInt8.toNat_inj.1 (Int.ofNat_inj.1 hh))
theorem t172(hp:aG Pm)(h:List Uo)(fl i:Nat)(c:UInt8)(hi:i<h.length):gF ah M Q Pm 172 [.ptr i 0,.int .u8 c.toNat] h fl=some (N6 i c,h,fl):=by
 by_cases h110:c=110
 ·subst h110;exact zc h fl i hp hi
 by_cases h107:c=107
 ·subst h107;exact Ht h fl i hp hi
 by_cases h100:c=100
 ·subst h100;exact Q9 h fl i hp hi
 by_cases h105:c=105
 ·subst h105;exact qP h fl i hp hi
 refine bq hp rfl rfl ?_;have hi' :decide (i<h.length)=true:=decide_eq_true hi;have e1:=vA h110;have e2:=vA h107;have e3:=vA h100;have e4:=vA h105;simp at e1 e2 e3 e4;simp[fV,pe,o8,o6,qz,r9,tW,uB,hi',e1,e2,e3,e4,N6,h110,h107,h100,h105,Ne.symm h110,Ne.symm h107,Ne.symm h100,Ne.symm h105]
theorem t174(hp:aG Pm)(h:List Uo)(fl i:Nat)(c:UInt8)(hi:i<h.length):gF ah M Q Pm 174 [.ptr i 0,.int .u8 c.toNat] h fl=some (Qn i c,h,fl):=by
 by_cases h116:c=116
 ·subst h116;exact rM h fl i hp hi
 by_cases h111:c=111
 ·subst h111;exact rJ h fl i hp hi
 refine bq hp rfl rfl ?_;have hi' :decide (i<h.length)=true:=decide_eq_true hi;have e1:=vA h116;have e2:=vA h111;simp at e1 e2;simp[nC,Aa,Bt,zl,Ei,LB,hi',e1,e2,Qn,h116,h111,Ne.symm h116,Ne.symm h111]
def bJ(k:UInt8)(a b c d:By)(x y z:Nat):List U:=[.int .u8 k.toNat,.str a,.str b,.str c,.str d,.int .u64 (x:Int),.int .u64 (y:Int),.int .u64 (z:Int)]
structure RfB(n:Nat)(a b c d:By)(x y z:Nat):Prop where
 a:a.length≤n
 b:b.length≤n
 c:c.length≤n
 d:d.length≤n
 x:x<18446744073709551616
 y:y<18446744073709551616
 z:z<18446744073709551616
def nt:List U:=[.int .u8 0,.str [],.str [],.str [],.str [],.int .u64 0,.int .u64 0,.int .u64 0]
def BW(n m:Nat)(ps:List By):Prop:=ps.length≤m∧∀ p∈ps,p.length≤n
theorem BW.snoc{n m:Nat}{ps:List By}(h:BW n m ps){p:By}(hp:p.length≤n):BW n (m+1) (ps++[p]):=by
 refine⟨by have:=h.1;simp;omega,fun q hq=> ?_⟩;rcases ic.1 hq with hq|hq
 ·exact h.2 q hq
 ·simp at hq;subst hq;exact hp
theorem zP(n:Nat):(qN n).length=16:=rfl
set_option maxHeartbeats 1000000 in
theorem qcD(hp:aG Pm)(hq:cI Q)(k:UInt8)(n:Nat)(hn:16≤n)(l:By)(hl:l.length≤5)(K:Ex→Vs→Prop)
  (hK:∀ a b c d x y z out,RfB n a b c d x y z→BW n l.length out→K .normal ⟨[(3,.ptr 1 0),(7,.own (.t 7) 1 (out.map bA)),(1,.ptr 0 0)],[.row (bJ k a b c d x y z),.row nt],0⟩):
  ∀ (j i:Nat) (a b c d:By) (x y z:Nat) (out:List By),i+j=l.length→RfB n a b c d x y z→BW n i out→
  gL ah M Q Pm v168 0 b8 2 ⟨[(22,.int .i64 (i:Int)),(7,.own (.t 7) 1 (out.map bA)),(1,.ptr 0 0),(5,.str l),(3,.ptr 1 0),(21,.int .i64 (l.length:Int))],[.row (bJ k a b c d x y z),.row nt],0⟩ K:=by
 intro j
 induction j with
 |zero=>
  intro i a b c d x y z out hij hR hP;have h1:¬((i:Int)<(l.length:Int)):=by omega
  have hi:i=l.length:=by omega
  subst hi;have:=hK a b c d x y z out hR hP;rw[aq b8.eq_1];simp[dc,bJ,nt]at this⊢;exact this
 |succ j ih=>
  intro i a b c d x y z out hij hR hP;have h1:((i:Int)<(l.length:Int)):=by omega
  have hi1:i<l.length:=by omega
  have e1:l[i]? =some l[i]:=by simp[hi1]
  have e3:aD .i64 ((i:Int)+1)=((i+1:Nat):Int):=cj (by omega);have f1:(out.length+1)*16≤aW∧out.length+1≤aW:=by have:=hP.1;unfold aW;omega
  generalize l[i]=ch at e1;have c172:=fun c=>t172 (M:=M) (Q:=Q) hp [.row (bJ k a b c d x y z),.row nt] 0 0 ch (by simp);have c174:=t174 (M:=M) (Q:=Q) hp [.row (bJ k a b c d x y z),.row nt] 0 0 ch (by simp);have n1:=t228 (M:=M) (Q:=Q) hp x hR.x;have n2:=t228 (M:=M) (Q:=Q) hp y hR.y;have n3:=t228 (M:=M) (Q:=Q) hp z hR.z;have hz:([]:By).length≤n:=by simp
  have hx:∀ m,(qN m).length≤n:=fun m=>by rw[zP];exact hn
  have z0:0<18446744073709551616:=by decide
  rw[aq b8.eq_1];by_cases h110:ch=110
  ·have ih' :=ih (i+1) [] b c d x y z (out++[a]) (by omega) ⟨hz,hR.b,hR.c,hR.d,hR.x,hR.y,hR.z⟩ (hP.snoc hR.a);simp[N6,Qn,bJ,nt,bA,h110]at ih' c172;simp[dc,ej,eu,eo,iR,jl,c9,h1,cR e1,hq,h110,c172,e3,f1,bA,bJ,nt];exact ih'
  by_cases h107:ch=107
  ·have ih' :=ih (i+1) a [] c d x y z (out++[b]) (by omega) ⟨hR.a,hz,hR.c,hR.d,hR.x,hR.y,hR.z⟩ (hP.snoc hR.b);simp[N6,Qn,bJ,nt,bA,h107]at ih' c172;simp[dc,ej,eu,eo,iR,jl,c9,h1,cR e1,hq,h107,c172,e3,f1,bA,bJ,nt];exact ih'
  by_cases h100:ch=100
  ·have ih' :=ih (i+1) a b [] d x y z (out++[c]) (by omega) ⟨hR.a,hR.b,hz,hR.d,hR.x,hR.y,hR.z⟩ (hP.snoc hR.c);simp[N6,Qn,bJ,nt,bA,h100]at ih' c172;simp[dc,ej,eu,eo,iR,jl,c9,h1,cR e1,hq,h100,c172,e3,f1,bA,bJ,nt];exact ih'
  by_cases h105:ch=105
  ·have ih' :=ih (i+1) a b c [] x y z (out++[d]) (by omega) ⟨hR.a,hR.b,hR.c,hz,hR.x,hR.y,hR.z⟩ (hP.snoc hR.d);simp[N6,Qn,bJ,nt,bA,h105]at ih' c172;simp[dc,ej,eu,eo,iR,jl,c9,h1,cR e1,hq,h105,c172,e3,f1,bA,bJ,nt];exact ih'
  have hno:N6 0 ch=.aT:=by simp[N6,h110,h107,h100,h105]
  simp only[hno]at c172;by_cases h116:ch=116
  ·have ih' :=ih (i+1) a b c d 0 y z (out++[qN x]) (by omega) ⟨hR.a,hR.b,hR.c,hR.d,z0,hR.y,hR.z⟩ (hP.snoc (hx x));simp[Qn,bJ,nt,bA,h116]at ih' c172 c174;simp[dc,ej,eu,eo,jk,je,iY,c9,h1,cR e1,hq,h116,c172,c174,n1,e3,f1,bA,bJ,nt];exact ih'
  by_cases h111:ch=111
  ·have ih' :=ih (i+1) a b c d x 0 z (out++[qN y]) (by omega) ⟨hR.a,hR.b,hR.c,hR.d,hR.x,z0,hR.z⟩ (hP.snoc (hx y));simp[Qn,bJ,nt,bA,h111]at ih' c172 c174;simp[dc,ej,eu,eo,jk,je,iY,c9,h1,cR e1,hq,h111,c172,c174,n2,e3,f1,bA,bJ,nt];exact ih'
  ·have ih' :=ih (i+1) a b c d x y 0 (out++[qN z]) (by omega) ⟨hR.a,hR.b,hR.c,hR.d,hR.x,hR.y,z0⟩ (hP.snoc (hx z));simp[Qn,bJ,nt,bA,h116,h111]at ih' c172 c174;simp[dc,ej,eu,eo,jk,je,iY,c9,h1,cR e1,hq,h116,h111,c172,c174,n3,e3,f1,bA,bJ,nt];exact ih'
theorem Hy(k:UInt8):((oq k).getD []).length≤5:=by
 unfold oq;cases h:sj.find? fun x=>x.1==k with
 |none=>simp
 |some x=>
  have hm:=B8 h;have:∀ y∈sj,y.2.length≤5:=by decide
  exact this x hm
def qhl(k:UInt8)(n:Nat)(r:U)(h:List Uo)(fl:Nat):Prop:=h=[]∧fl=0∧∃ ps a b c d x y z e,r=.aP [.sl 1 (ps.map bA),.agg (bJ k a b c d x y z),.int .i64 e]∧BW n 5 ps∧(e=0∨e=31)
theorem qgv(hp:aG Pm)(hq:cI Q)(k:UInt8)(n:Nat)(hn:16≤n)(a b c d:By)(x y z:Nat)(hR:RfB n a b c d x y z):∃ r h fl,gF ah M Q Pm 168 [.agg (bJ k a b c d x y z)] [] 0=some (r,h,fl)∧qhl k n r h fl:=by
 refine jx (fn:=v168) (hp 168 (by decide) (by decide)) rfl rfl rfl ?_;have c171:=t171 (M:=M) (Q:=Q) hp k;have hl:=Hy k;cases hk:oq k with
 |none=>
  simp[hk]at c171;simp[jd,rQ,q9,rZ,bJ,hq,c171,bn YW,NY];exact⟨rfl,rfl,[],a,b,c,d,x,y,z,31,by simp[bJ],by simp[BW],.inr rfl⟩
 |some l=>
  simp[hk]at c171 hl;simp[jd,rQ,q9,rZ,tG,tV,bJ,hq,c171];have:=qcD (M:=M) hp hq k n hn l hl (l9 ah M Q Pm v168 (.seq (.draw yE) .ret) (kX 0 v168 (qhl k n)))
   (fun a b c d x y z out _ hP=>by
    simp[bn p9,nE,bJ,nt];exact⟨rfl,rfl,out,a,b,c,d,x,y,z,0,by simp[bJ],⟨by have:=hP.1;omega,hP.2⟩,.inl rfl⟩) l.length 0 a b c d x y z [] (by omega) hR ⟨by simp,by simp⟩
  simp[bJ,nt]at this;exact this
theorem BW.sum{n:Nat}:∀ {m:Nat} {ps:List By},BW n m ps→(ps.map List.length).sum≤m*n∧(ps.flatMap fun s=>Cf s++[0,1]).length≤m*(2*n+2):=by
 intro m ps
 induction ps generalizing m with
 |nil=>intro _;simp
 |cons p ps ih=>
  intro h;obtain⟨m,rfl⟩:∃ k,m=k+1:=⟨m - 1,by have:=h.1;simp at this;omega⟩;have h1:BW n m ps:=⟨by have:=h.1;simp at this;omega,fun q hq=>h.2 q (ki _ hq)⟩;obtain⟨a,b⟩:=ih h1;have c:=h.2 p k7;have d:=AJ p;simp only[List.map_cons,List.sum_cons,List.flatMap_cons,oC,Nat.add_mul,Nat.one_mul];constructor
  ·omega
  ·simp only[List.length_cons,List.length_nil];omega
theorem qh6(hp:aG Pm)(k:UInt8)(n:Nat)(hn:n<10000000)(ps:List By)(hP:BW n 5 ps):∃ key,gF ah M Q Pm 227 [.int .u8 k.toNat,.sl 1 (ps.map bA)] [] 0=some (.str key,[],0)∧key.length≤10*n+11:=by
 obtain⟨a,b⟩:=hP.sum;have hl:=hP.1;refine⟨hO k ps,t227 hp k ps (by unfold small;omega) (fun s hs=>by have:=hP.2 s hs;unfold small;omega) ?_,?_⟩
 ·simp only[hO,List.length_cons];unfold small;omega
 ·simp only[hO,List.length_cons];omega
def qlS(n:Nat)(r:U)(h:List Uo)(fl:Nat):Prop:=h=[]∧fl=0∧∃ key e,r=.aP [.str key,.int .i64 e]∧key.length≤10*n+11
theorem qkO(hp:aG Pm)(hq:cI Q)(k:UInt8)(n:Nat)(hn:16≤n)(hn2:n<10000000)(a b c d:By)(x y z:Nat)(hR:RfB n a b c d x y z):∃ r h fl,gF ah M Q Pm 166 [.agg (bJ k a b c d x y z)] [] 0=some (r,h,fl)∧qlS n r h fl:=by
 refine jx (fn:=Wk) (hp 166 (by decide) (by decide)) rfl rfl rfl ?_;obtain⟨r,h,fl,e1,rfl,rfl,ps,a',b',c',d',x',y',z',e,rfl,hP,he⟩:=qgv (M:=M) hp hq k n hn a b c d x y z hR;obtain⟨key,e2,hkey⟩:=qh6 (M:=M) (Q:=Q) hp k n hn2 ps hP;simp only[bJ]at e1;rcases he with rfl|rfl
 ·simp[eW,mD,mB,mM,nW,qI,D8,bJ,hq,e1,e2];split
  ·exact⟨rfl,rfl,_,_,rfl,by simp⟩
  ·exact⟨rfl,rfl,_,_,rfl,hkey⟩
 ·simp[eW,mD,mB,mM,Vj,bJ,hq,e1,e2];exact⟨rfl,rfl,_,_,rfl,by simp⟩
theorem CP{i:Nat}(h:i<9223372036854775808):aD .i64 (i:Int)=(i:Int):=by
 rw[gy,mZ]<;>simp[IntKind.signed,IntKind.bits]<;>omega
theorem qpA:∀ (s:By) (i:Nat) (c u:UInt8),s[i]? =some c→c<u→lt s (s.take i++[u])=true:=by
 intro s
 induction s with
 |nil=>intro i c u h;simp at h
 |cons a s ih=>
  intro i c u h hu;have hl:=fun x y:By=>ym x y;show Op.bytesLess _ _=true;rw[ym,decide_eq_true_eq];cases i with
  |zero=>
   simp at h;subst h;simp[List.cons_lt_cons_iff,hu]
  |succ i=>
   have h2:=ih i c u (by simpa using h) hu;have h3:Op.bytesLess s (s.take i++[u])=true:=h2;rw[ym,decide_eq_true_eq]at h3;rw[List.take_succ_cons,List.cons_append,List.cons_lt_cons_iff];exact .inr ⟨rfl,h3⟩
theorem qd8(s:By)(hs:s.length<small)(K:Ex→Vs→Prop)(h0:K .normal ⟨[],[],0⟩)(h1:∀ r:By,r.length≤s.length→lt s r=true→∀ e:Env,K .ret ⟨(2,.str r)::e,[],0⟩):
  ∀ (i:Nat),i≤s.length→gL ah M Q Pm v229 0 yQ 0 ⟨[(0,.str s),(3,.int .i64 (i:Int))],[],0⟩ K:=by
 intro i
 induction i with
 |zero=>
  intro hi;rw[aq yQ.eq_1];simp[DE];exact h0
 |succ i ih=>
  intro hi;have ih' :=ih (by omega);have hb:i<s.length:=by omega
  have e1:s[i]? =some s[i]:=by simp[hb]
  have hlb:=fun u=>qpA s i s[i] u e1;have e3:aD .i64 (i:Int)=(i:Int):=CP (by unfold small at hs;omega);have e4:(0:Int)<(i:Int)+1:=by omega
  generalize s[i]=c at e1 hlb;have hle:gJ (.int .i64 (i:Int)) s.length=some i:=nR (by omega);rw[aq yQ.eq_1];by_cases hc:c.toNat<255
  ·have hu:∃ u:UInt8,c<u∧aD .u8 ((c.toNat:Int)+1)=(u.toNat:Int):=⟨UInt8.ofNat (c.toNat+1),by
    rw[UInt8.lt_iff_toNat_lt,UInt8.toNat_ofNat',Nat.mod_eq_of_lt (show c.toNat+1<256 by omega)];omega,by
    rw[gy,mZ]
    ·simp[UInt8.toNat_ofNat',Nat.mod_eq_of_lt (show c.toNat+1<256 by omega)]
    ·simp[IntKind.signed,IntKind.bits];omega
    ·simp[IntKind.signed,IntKind.bits];omega⟩
   obtain⟨u,hcu,hu⟩:=hu;have hc' :(c.toNat:Int)<255:=by omega
   have hb2:min i s.length+1≤aW:=by unfold small at hs;unfold aW;omega
   simp[DE,KF,Lg,bn Yl,OQ,e3,e4,cR e1,hc',hle,hu,pJ,iQ,kr,hb2];exact h1 _ (by simp;omega) (hlb u hcu) _
  ·have hc' :¬(c.toNat:Int)<255:=by omega
   simp[DE,KF,Lg,Tx,e3,e4,cR e1,hc'];exact ih'
theorem qkb(hp:aG Pm)(s:By)(hs:s.length<small):∃ r h fl,gF ah M Q Pm 229 [.str s] [] 0=some (r,h,fl)∧(h=[]∧fl=0∧∃ t:By,r=.str t∧t.length≤s.length∧(t=[]∨lt s t=true)):=by
 refine jx (fn:=v229) (hp 229 (by decide) (by decide)) rfl rfl rfl ?_;simp[wE,UG,TX];exact qd8 s hs _ (by simp[RI]) (fun r hr hl e=>by simp[hr,hl]) s.length (aM _)
theorem qkr(hp:aG Pm)(hq:cI Q)(k:UInt8)(n:Nat)(hn:n<10000000)(ps:List By)(hP:BW n 5 ps):∃ lo hi,gF ah M Q Pm 169 [.int .u8 k.toNat,.sl 1 (ps.map bA)] [] 0=some (.aP [.str lo,.str hi],[],0)∧lo.length≤10*n+11∧hi.length≤10*n+11∧(hi=[]∨lt lo hi=true):=by
 obtain⟨key,e2,hkey⟩:=qh6 (M:=M) (Q:=Q) hp k n hn ps hP;obtain⟨r,h,fl,e3,rfl,rfl,t,rfl,ht,ht2⟩:=qkb (M:=M) (Q:=Q) hp key (by unfold small;omega);refine⟨key,t,?_,hkey,by omega,ht2⟩;refine bq hp rfl rfl ?_;simp[xl,Xh,V7,UZ,hq,e2,e3]
def qlJ(n:Nat)(r:U)(h:List Uo)(fl:Nat):Prop:=h=[]∧fl=0∧∃ lo hi,r=.aP [.str lo,.str hi]∧lo.length≤10*n+11∧hi.length≤10*n+11∧(hi=[]∨lt lo hi=true)
theorem qdS(m:Int)(l:Nat):∃ q:Nat,q≤l∧(if(l:Int)<(if m<0 then 0 else m)then(l:Int)else(if m<0 then 0 else m))=(q:Int):=
 ⟨(if(l:Int)<(if m<0 then 0 else m)then(l:Int)else(if m<0 then 0 else m)).toNat,by split<;>split<;>omega,by split<;>split<;>omega⟩
theorem qlO(hp:aG Pm)(hq:cI Q)(k:UInt8)(n:Nat)(hn:16≤n)(hn2:n<10000000)(a b c d:By)(x y z:Nat)(hR:RfB n a b c d x y z)(m:Int):∃ r h fl,gF ah M Q Pm 108 [.agg (bJ k a b c d x y z),.int .i64 m] [] 0=some (r,h,fl)∧qlJ n r h fl:=by
 refine jx (fn:=Rw) (hp 108 (by decide) (by decide)) rfl rfl rfl ?_;obtain⟨r,h,fl,e1,rfl,rfl,ps,a',b',c',d',x',y',z',e,rfl,hP,he⟩:=qgv (M:=M) hp hq k n hn a b c d x y z hR;simp only[bJ]at e1;rcases he with rfl|rfl
 ·obtain⟨q,hq1,hq2⟩:=qdS m ps.length;have hP2:BW n 5 (ps.take q):=⟨by have:=hP.1;simp;omega,fun p hp=>hP.2 p (List.mem_of_mem_take hp)⟩;obtain⟨lo,hi,e2,l1,l2,l3⟩:=qkr (M:=M) hp hq k n hn2 (ps.take q) hP2;rw[List.map_take]at e2;have hle:gJ (.int .i64 (q:Int)) ps.length=some q:=nR hq1;simp[sS,Jd,JT,LO,bn ZT,OM,bJ,hq,e1,e2,hq2,hle,oZ,Av,zA,kR,oW,U.Pz,U.ofV];exact⟨rfl,rfl,_,_,rfl,l1,l2,l3⟩
 ·simp[sS,Jd,JT,LO,WA,bJ,hq,e1];exact⟨rfl,rfl,_,_,rfl,by simp,by simp,.inl rfl⟩
def orN(x y:Int):Nat:=(BitVec.ofInt 64 x|||BitVec.ofInt 64 y).toNat
theorem wo(x y:Int):orN x y<18446744073709551616:=(BitVec.ofInt 64 x|||BitVec.ofInt 64 y).isLt
theorem oV(ek:fD)(x y:Int):cU .or ek (.int .u64 x) (.int .u64 y)=some (.int .u64 (orN x y:Int)):=by
 have h1:cU .or ek (.int .u64 x) (.int .u64 y)=some (.int .u64 (aD .u64 (BitVec.ofInt 64 x|||BitVec.ofInt 64 y).toNat)):=rfl;rw[h1];show _=some (V.int .u64 ((orN x y:Nat):Int));congr 2;have h2:(BitVec.ofInt 64 x|||BitVec.ofInt 64 y).toNat=orN x y:=rfl;rw[h2];have:=wo x y;generalize orN x y=w at this;rw[gy,mZ]<;>simp[IntKind.signed,IntKind.bits]<;>omega
theorem Dx(ek:fD)(x:Int):∃ y,cU .shl ek (.int .u64 x) (.int .u64 4)=some (.int .u64 y):=⟨_,rfl⟩
noncomputable def sh4(x:Int):Int:=(Dx .no x).choose
theorem V8(x:Int):cU .shl .no (.int .u64 x) (.int .u64 4)=some (.int .u64 (sh4 x)):=(Dx .no x).choose_spec
def qkT(r:U)(h:List Uo)(fl:Nat):Prop:=h=[]∧fl=0∧∃ (n:Nat) (e:Int),r=.aP [.int .u64 (n:Int),.int .i64 e]∧n<18446744073709551616∧(e=0∨e=31)
theorem qcY(s:By)(hs:s.length=16)(K:Ex→Vs→Prop)(h0:∀ n:Nat,n<18446744073709551616→K .normal ⟨[(4,.int .u64 (n:Int))],[],0⟩)(h1:∀ e:Env,K .ret ⟨(3,.int .i64 31)::(2,.int .u64 0)::e,[],0⟩):
  ∀ (j i n:Nat),i+j=16→n<18446744073709551616→gL ah M Q Pm v173 0 vu 0 ⟨[(10,.int .i64 (i:Int)),(4,.int .u64 (n:Int)),(0,.str s)],[],0⟩ K:=by
 intro j
 induction j with
 |zero=>
  intro i n hij hn;have hi:i=16:=by omega
  subst hi;rw[aq vu.eq_1];simp[tH];exact h0 n hn
 |succ j ih=>
  intro i n hij hn;have hi:(i:Int)<16:=by omega
  have hb:i<s.length:=by omega
  have e1:s[i]? =some s[i]:=by simp[hb]
  have e3:aD .i64 ((i:Int)+1)=((i+1:Nat):Int):=cj (by omega);have ih' :=fun x y=>ih (i+1) (orN x y) (by omega) (wo x y);generalize s[i]=c at e1;rw[aq vu.eq_1];simp at ih';by_cases a1:(48:Int)≤(c.toNat:Int)
  ·by_cases a2:(c.toNat:Int)≤57
   ·simp[tH,xg,wW,wh,U8,Ej,hi,cR e1,a1,a2,V8,oV,e3];exact ih' _ _
   ·by_cases a3:(97:Int)≤(c.toNat:Int)
    ·by_cases a4:(c.toNat:Int)≤102
     ·simp[tH,xg,wW,wh,uU,Nn,Ej,hi,cR e1,a1,a2,a3,a4,V8,oV,e3];exact ih' _ _
     ·simp[tH,xg,wW,wh,uU,yT,hi,cR e1,a1,a2,a3,a4];exact h1 _
    ·simp[tH,xg,wW,wh,uU,yT,hi,cR e1,a1,a2,a3];exact h1 _
  ·have a3:¬(97:Int)≤(c.toNat:Int):=by omega
   simp[tH,xg,wW,wh,uU,yT,hi,cR e1,a1,a3];exact h1 _
theorem qke(hp:aG Pm)(s:By)(hl:s.length<small):∃ r h fl,gF ah M Q Pm 173 [.str s] [] 0=some (r,h,fl)∧qkT r h fl:=by
 refine jx (fn:=v173) (hp 173 (by decide) (by decide)) rfl rfl rfl ?_;by_cases hs:s.length=16
 ·have hs' :(s.length:Int)=16:=by omega
  simp[sM,Ki,JR,WO,UP,hs'];refine qcY s hs _ (fun n hn=> ?_) (fun e=> ?_) 16 0 0 (by omega) (by decide)
  ·simp[M5];exact⟨rfl,rfl,n,0,rfl,hn,.inl rfl⟩
  ·simp;exact⟨rfl,rfl,0,31,rfl,by decide,.inr rfl⟩
 ·have hs' :¬(s.length:Int)=16:=by omega
  simp[sM,Ki,JR,Rq,hs'];exact⟨rfl,rfl,0,31,rfl,by decide,.inr rfl⟩
def qih(n:Nat)(r:U)(h:List Uo)(fl:Nat):Prop:=h=[]∧fl=0∧∃ (k:UInt8) (l:List By) (e:Int),r=.aP [.int .u8 k.toNat,.sl 1 (l.map bA),.int .i64 e]∧BW n n l∧(e=0∨e=31)
theorem qdI(k:By)(hk:k.length<small)(K:Ex→Vs→Prop)(h0:∀ (out:List By) (op:Bool),BW k.length k.length out→K .normal ⟨[(5,.own (.t 5) 1 (out.map bA)),(0,.str k),(7,.bool op)],[],0⟩):
  ∀ (j i:Nat) (now:By) (out:List By) (op:Bool),k.length - i≤j→i≤k.length→now.length≤i→BW k.length i out→
  gL ah M Q Pm vR 0 rG 0 ⟨[(8,.int .i64 (i:Int)),(0,.str k),(6,.own (.t 6) 1 (az now)),(5,.own (.t 5) 1 (out.map bA)),(7,.bool op)],[],0⟩ K:=by
 intro j
 induction j with
 |zero=>
  intro i now out op hij hi hn hP;have h1:¬((i:Int)<(k.length:Int)):=by omega
  rw[aq rG.eq_1];simp[sC,h1];exact h0 out op ⟨by have:=hP.1;omega,hP.2⟩
 |succ j ih=>
  intro i now out op hij hi hn hP;by_cases h1:(i:Int)<(k.length:Int)
  ·have hb:i<k.length:=by omega
   have e1:k[i]? =some k[i]:=by simp[hb]
   have e3:aD .i64 ((i:Int)+1)=((i+1:Nat):Int):=cj (by unfold small at hk;omega);have f1:now.length+1≤aW:=by unfold small at hk;unfold aW;omega
   have f2:(out.length+1)*16≤aW∧out.length+1≤aW:=by have:=hP.1;unfold small at hk;unfold aW;omega
   have hne:∀ op',K .normal ⟨[(5,.own (.t 5) 1 (out.map bA)),(0,.str k),(7,.bool op')],[],0⟩:=fun op' =>h0 out op' ⟨by have:=hP.1;omega,hP.2⟩;have hne' :=hne true;generalize k[i]=c at e1;rw[aq rG.eq_1];by_cases hc:c=0
   ·subst hc;simp only[Int.natCast_add,Int.natCast_one]at e3;by_cases h2:i+1=k.length
    ·have h2' :((i:Int)+1==(k.length:Int))=true:=by simp;omega
     simp[sC,wL,vZ,u6,uw,h1,cR e1,e3,h2',bA];simpa[bA]using hne'
    ·have h2' :¬((i:Int)+1=(k.length:Int)):=by omega
     have hb2:i+1<k.length:=by omega
     have e2:k[i+1]? =some k[i+1]:=by simp[hb2]
     have ix2:=fun s=>cR (s:=s) e2;simp only[Int.natCast_add,Int.natCast_one]at ix2;have e4:aD .i64 ((i:Int)+1+1)=(i:Int)+2:=by have:=cj (n:=i+1) (by unfold small at hk;omega);simp only[Int.natCast_add,Int.natCast_one]at this;omega
     generalize k[i+1]=c2 at e2 ix2;by_cases g1:c2=255
     ·subst g1;have ih' :=ih (i+2) (now++[0]) out true (by omega) (by omega) (by simp;omega) ⟨by have:=hP.1;omega,hP.2⟩;simp[eU,bW,aB]at ih';simp[sC,wL,vZ,u6,uw,yZ,M6,yl,h1,cR e1,ix2,e3,e4,h2',f1,eU,bW,aB];exact ih'
     ·have g1' :=vA g1;simp at g1';by_cases g2:c2=1
      ·subst g2;have ih' :=ih (i+2) [] (out++[now]) false (by omega) (by omega) (by simp) ⟨by have:=hP.1;simp;omega,fun p hp=>by
        rcases ic.1 hp with hp|hp
        ·exact hP.2 p hp
        ·simp at hp;subst hp;omega⟩
       simp[aB,bA]at ih';simp[sC,wL,vZ,u6,uw,yZ,EV,My,MZ,yl,h1,cR e1,ix2,e3,e4,h2',f2,pJ,l5,bA];exact ih'
      ·have g2' :=vA g2;simp at g2';simp[sC,wL,vZ,u6,uw,yZ,EV,h1,cR e1,ix2,e3,h2',g1,g1',g2,g2',bA];simpa[bA]using hne'
   ·have hc' :=vA hc;simp at hc';have ih' :=ih (i+1) (now++[c]) out true (by omega) (by omega) (by simp;omega) ⟨by have:=hP.1;omega,hP.2⟩;simp[eU,bW,aB]at ih';simp[sC,wL,vZ,OK,yl,h1,cR e1,hc,hc',e3,f1,eU,bW,aB];exact ih'
  ·rw[aq rG.eq_1];simp[sC,h1];exact h0 out op ⟨by have:=hP.1;omega,hP.2⟩
theorem qkf(hp:aG Pm)(k:By)(hk:k.length<small):∃ r h fl,gF ah M Q Pm 170 [.str k] [] 0=some (r,h,fl)∧qih k.length r h fl:=by
 refine jx (fn:=vR) (hp 170 (by decide) (by decide)) rfl rfl rfl ?_;cases k with
 |nil=>
  simp[sZ,LK,LH,RK];exact⟨rfl,rfl,0,[],31,rfl,by simp[BW],.inr rfl⟩
 |cons c r=>
  have e1:(c::r)[0]? =some c:=rfl;have:=qdI (M:=M) (Q:=Q) (Pm:=Pm) (c::r) hk (l9 ah M Q Pm vR (.seq (.seq (.region y7) (.cond (.t 52) (.seq (.region EZ) .ret) .skip)) (.seq (.region Fz) .ret)) (l9 ah M Q Pm vR .skip (kX 0 vR (qih (c::r).length)))) (fun out op hP=>by
   cases op with
   |true=>
    simp[y7,EZ];exact⟨rfl,rfl,0,[],31,rfl,by simp[BW],.inr rfl⟩
   |false=>
    have ix:=fun s=>cR (s:=s) e1;simp at ix;simp[y7,Fz,ix];exact⟨rfl,rfl,c,out,0,rfl,hP,.inl rfl⟩) ((c::r).length - 1) 1 [] [] false (by omega) (by simp) (by simp) ⟨by simp,by simp⟩
  simp[aB]at this;simp[sZ,LK,LH,V2,Q1,XG,TG];exact this
set_option maxHeartbeats 1000000 in
theorem qdo(hp:aG Pm)(hq:cI Q)(k:UInt8)(w:By)(l:List By)(hw:w.length=l.length)(hl:l.length<small)(hs:∀ s∈l,s.length<small)(K:Ex→Vs→Prop)
  (hK:∀ bad a b c d x y z,K .normal ⟨[(2,.ptr 0 0),(9,.ptr 1 0),(10,.bool bad)],[.row nt,.row (bJ k a b c d x y z)],0⟩):
  ∀ (j i:Nat) (a b c d:By) (x y z:Nat),i+j=l.length→
  gL ah M Q Pm v109 0 qc 2 ⟨[(11,.int .i64 (i:Int)),(5,.sl 1 (l.map bA)),(2,.ptr 0 0),(9,.ptr 1 0),(7,.str w),(10,.bool false)],[.row nt,.row (bJ k a b c d x y z)],0⟩ K:=by
 intro j
 induction j with
 |zero=>
  intro i a b c d x y z hij;have h1:¬((i:Int)<(l.length:Int)):=by omega
  have:=hK false a b c d x y z;rw[aq qc.eq_1];simp[mJ,h1,bJ,nt]at this⊢;exact this
 |succ j ih=>
  intro i a b c d x y z hij;have h1:((i:Int)<(l.length:Int)):=by omega
  have hi1:i<w.length:=by omega
  have hi2:i<l.length:=by omega
  have e1:w[i]? =some w[i]:=by simp[hi1]
  have e2:(l.map bA)[i]? =some (bA l[i]):=by simp[hi2]
  have e3:aD .i64 ((i:Int)+1)=((i+1:Nat):Int):=cj (by unfold small at hl;omega);obtain⟨r,h,fl,e4,rfl,rfl,n,e,rfl,hn,he⟩:=qke (M:=M) (Q:=Q) hp l[i] (hs _ (List.getElem_mem hi2));generalize l[i]=s at e2 e4;generalize w[i]=ch at e1;have c172:=t172 (M:=M) (Q:=Q) hp [.row nt,.row (bJ k a b c d x y z)] 0 1 ch (by simp);have c174:=t174 (M:=M) (Q:=Q) hp [.row nt,.row (bJ k a b c d x y z)] 0 1 ch (by simp);rw[aq qc.eq_1];by_cases h110:ch=110
  ·have ih' :=ih (i+1) s b c d x y z (by omega);simp[N6,bJ,nt,h110]at ih' c172;simp[mJ,qn,m6,vq,oX,h1,cR e1,eC e2,hq,h110,c172,e3,bA,bJ,nt];exact ih'
  by_cases h107:ch=107
  ·have ih' :=ih (i+1) a s c d x y z (by omega);simp[N6,bJ,nt,h107]at ih' c172;simp[mJ,qn,m6,vq,oX,h1,cR e1,eC e2,hq,h107,c172,e3,bA,bJ,nt];exact ih'
  by_cases h100:ch=100
  ·have ih' :=ih (i+1) a b s d x y z (by omega);simp[N6,bJ,nt,h100]at ih' c172;simp[mJ,qn,m6,vq,oX,h1,cR e1,eC e2,hq,h100,c172,e3,bA,bJ,nt];exact ih'
  by_cases h105:ch=105
  ·have ih' :=ih (i+1) a b c s x y z (by omega);simp[N6,bJ,nt,h105]at ih' c172;simp[mJ,qn,m6,vq,oX,h1,cR e1,eC e2,hq,h105,c172,e3,bA,bJ,nt];exact ih'
  have hno:N6 1 ch=.aT:=by simp[N6,h110,h107,h100,h105]
  simp only[hno]at c172;rcases he with rfl|rfl
  ·by_cases h116:ch=116
   ·have ih' :=ih (i+1) a b c d n y z (by omega);simp[Qn,bJ,nt,h116]at ih' c172 c174;simp[mJ,qn,m6,um,vt,yy,oX,h1,cR e1,eC e2,hq,h116,c172,c174,e3,e4,bA,bJ,nt];exact ih'
   by_cases h111:ch=111
   ·have ih' :=ih (i+1) a b c d x n z (by omega);simp[Qn,bJ,nt,h111]at ih' c172 c174;simp[mJ,qn,m6,um,vt,yy,oX,h1,cR e1,eC e2,hq,h111,c172,c174,e3,e4,bA,bJ,nt];exact ih'
   ·have ih' :=ih (i+1) a b c d x y n (by omega);simp[Qn,bJ,nt,h116,h111]at ih' c172 c174;simp[mJ,qn,m6,um,vt,yy,oX,h1,cR e1,eC e2,hq,h116,h111,c172,c174,e3,e4,bA,bJ,nt];exact ih'
  ·have:=hK true a b c d x y z;simp[bJ,nt]at this c172;simp[mJ,qn,m6,um,vt,NO,h1,cR e1,eC e2,hq,c172,e4,bA,bJ,nt];exact this
def qgT(r:U)(h:List Uo)(fl:Nat):Prop:=h=[]∧fl=0∧∃ (k:UInt8) (a b c d:By) (x y z:Nat) (e:Int),r=.aP [.agg (bJ k a b c d x y z),.int .i64 e]
theorem qla(hp:aG Pm)(hq:cI Q)(s:By)(hs:s.length<small):∃ r h fl,gF ah M Q Pm 109 [.str s] [] 0=some (r,h,fl)∧qgT r h fl:=by
 refine jx (fn:=v109) (hp 109 (by decide) (by decide)) rfl rfl rfl ?_;obtain⟨r,h,fl,e1,rfl,rfl,k,l,e,rfl,hP,he⟩:=qkf (M:=M) (Q:=Q) hp s hs;rcases he with rfl|rfl
 ·have c171:=t171 (M:=M) (Q:=Q) hp k;have fin:∀ bad a b c d x y z,l9 ah M Q Pm v109 (.seq (.seq (.region yz) (.cond (.t 79) (.seq (.region FR) .ret) .skip)) (.seq (.region Fh) .ret)) (l9 ah M Q Pm v109 .skip (kX 0 v109 qgT)) .normal ⟨[(2,.ptr 0 0),(9,.ptr 1 0),(10,.bool bad)],[.row nt,.row (bJ k a b c d x y z)],0⟩:=fun bad a b c d x y z=>by
   cases bad with
   |true=>
    simp[yz,FR,bJ,nt];exact⟨rfl,rfl,0,[],[],[],[],0,0,0,31,rfl⟩
   |false=>
    simp[yz,Fh,bJ,nt];exact⟨rfl,rfl,k,a,b,c,d,x,y,z,0,rfl⟩
  have bad:=fin true [] [] [] [] 0 0 0;have hl:=Hy k;cases hk:oq k with
  |none=>
   simp[hk]at c171;simp[nw,BE,zp,BJ,DM,Fg,EK,D2,hq,e1,c171];rw[aq qc.eq_1];simp[bJ,nt]at bad;simp[mJ];exact bad
  |some w=>
   simp[hk]at c171 hl;by_cases hw:(w.length:Int)=(l.length:Int)
   ·have a:=qdo (M:=M) hp hq k w l (by omega) (by unfold small;omega) (fun s hs' =>by have:=hP.2 s hs';omega) _ fin l.length 0 [] [] [] [] 0 0 0 (by omega);simp[bJ,nt]at a;have hw' :((w.length:Int)==(l.length:Int))=true:=by simpa using hw
    simp[nw,BE,zp,BJ,DM,Fg,EK,D2,hq,e1,c171,hw];exact a
   ·have hw' :((w.length:Int) !=(l.length:Int))=true:=by simpa using hw
    simp[nw,BE,zp,BJ,DM,Fg,EK,D2,hq,e1,c171,hw'];rw[aq qc.eq_1];simp[bJ,nt]at bad;simp[mJ];exact bad
 ·simp[nw,BE,zp,BJ,Uf,hq,e1];exact⟨rfl,rfl,0,[],[],[],[],0,0,0,31,rfl⟩
theorem wrap64{n:Nat}(h:n<18446744073709551616):aD .u64 (n:Int)=(n:Int):=by
 rw[gy,mZ]<;>simp[IntKind.signed,IntKind.bits]<;>omega
theorem C4(d:By):((az d).all fun r=>r.all U.aL&&U.bX 0 r&&decide (r.length=1))=true:=by
 rw[qd];intro r hr;obtain⟨b,_,rfl⟩:=fh.1 hr;rfl
def qU(s:By):By:=yb s.length++s
theorem t190(hp:aG Pm)(hq:cI Q)(s:By)(hs:s.length<small):gF ah M Q Pm 190 [.str s] [] 0=some (.own .r 1 (az (qU s)),[],0):=by
 refine bq hp rfl rfl ?_;have h0:=t191 (M:=M) (Q:=Q) hp s.length (by unfold small at hs;omega);have hw:=wrap64 (n:=s.length) (by unfold small at hs;omega);have hl:=iT s.length;have hb:(yb s.length).length+s.length≤1099511627776:=by unfold small at hs;omega
 simp[wC,WI,TJ,hq,hw,h0,hb,aW,qU,eU,C4]
def oP(ds:List By):List (List U):=ds.map fun d=>[U.sl 1 (az d)]
def qE(ds:List By):Nat:=(ds.map List.length).sum
theorem qet(ds:List By)(hl:ds.length<small)(hb:qE ds<small)(K:Ex→Vs→Prop):∀ (j q n:Nat),q+j=ds.length→n+qE (ds.drop q)=qE ds→
  K .normal ⟨[(0,.sl 1 (oP ds)),(3,.int .i64 (qE ds:Int))],[],0⟩→
  gL ah M Q Pm tc 0 yV 0 ⟨[(11,.int .i64 (q:Int)),(3,.int .i64 (n:Int)),(9,.sl 1 (oP ds)),(0,.sl 1 (oP ds)),(10,.int .i64 (ds.length:Int))],[],0⟩ K:=by
 intro j
 induction j with
 |zero=>
  intro q n hij hn hK;have h1:¬((q:Int)<(ds.length:Int)):=by omega
  have h2:ds.drop q=[]:=tN (by omega);rw[h2]at hn;have hn' :n=qE ds:=by simpa[qE]using hn
  rw[aq yV.eq_1,hn'];simp[Kp,h1,hK]
 |succ j ih=>
  intro q n hij hn hK;have h1:((q:Int)<(ds.length:Int)):=by omega
  have hi1:q<ds.length:=by omega
  have e1:(oP ds)[q]? =some [.sl 1 (az ds[q])]:=by simp[oP,hi1]
  have e3:aD .i64 ((q:Int)+1)=((q+1:Nat):Int):=cj (by unfold small at hl;omega);have d1:ds.drop q=ds[q]::ds.drop (q+1):=vT hi1;have hs:qE (ds.drop q)=ds[q].length+qE (ds.drop (q+1)):=by rw[d1];simp only[qE,List.map_cons,List.sum_cons]
  have e4:aD .i64 ((n:Int)+(ds[q].length:Int))=((n+ds[q].length:Nat):Int):=wrap_add (by unfold small at hb;omega);have ih' :=ih (q+1) (n+ds[q].length) (by omega) (by omega) hK;rw[aq yV.eq_1];simp at ih';simp[Kp,RQ,Rz,Tm,h1,eC e1,e3,e4];exact ih'
theorem qdZ(ds:List By)(hl:ds.length<small)(hb:qE ds<small)(K:Ex→Vs→Prop):∀ (j q:Nat) (acc:By),q+j=ds.length→acc.length+qE (ds.drop q)<small→
  K .normal ⟨[(6,.own (.t 6) 1 (az (acc++(ds.drop q).flatten)))],[],0⟩→
  gL ah M Q Pm tc 2 rA 0 ⟨[(24,.int .i64 (q:Int)),(6,.own (.t 6) 1 (az acc)),(22,.sl 1 (oP ds)),(23,.int .i64 (ds.length:Int))],[],0⟩ K:=by
 intro j
 induction j with
 |zero=>
  intro q acc hij hn hK;have h1:¬((q:Int)<(ds.length:Int)):=by omega
  have h2:ds.drop q=[]:=tN (by omega);rw[h2]at hK;rw[aq rA.eq_1];simp at hK;simp[FC,h1,hK]
 |succ j ih=>
  intro q acc hij hn hK;have h1:((q:Int)<(ds.length:Int)):=by omega
  have hi1:q<ds.length:=by omega
  have e1:(oP ds)[q]? =some [.sl 1 (az ds[q])]:=by simp[oP,hi1]
  have e3:aD .i64 ((q:Int)+1)=((q+1:Nat):Int):=cj (by unfold small at hl;omega);have d1:ds.drop q=ds[q]::ds.drop (q+1):=vT hi1;have hs:qE (ds.drop q)=ds[q].length+qE (ds.drop (q+1)):=by rw[d1];simp only[qE,List.map_cons,List.sum_cons]
  have hfl:(acc++ds[q])++(ds.drop (q+1)).flatten=acc++(ds.drop q).flatten:=by rw[d1,List.flatten_cons,ow]
  have hf:acc.length+ds[q].length≤1099511627776:=by unfold small at hn;omega
  have ih' :=ih (q+1) (acc++ds[q]) (by omega) (by rw[oC];omega) (by rw[hfl];exact hK);rw[aq rA.eq_1];simp[eU]at ih';simp[FC,Ni,Mt,MU,h1,eC e1,e3,aW,hf,C4];exact ih'
theorem t189(hp:aG Pm)(ds:List By)(hl:ds.length<small)(hb:qE ds<small):gF ah M Q Pm 189 [.sl 1 (oP ds)] [] 0=some (.own .r 1 (az ds.flatten),[],0):=by
 refine bq hp rfl rfl ?_;have hpl:(oP ds).length=ds.length:=by simp[oP]
 have b:=qdZ (M:=M) (Q:=Q) (Pm:=Pm) ds hl hb (l9 ah M Q Pm tc (.seq (.region yM) .ret) (kE 0 tc (.own .r 1 (az ds.flatten),[],0))) ds.length 0 [] (by omega) (by simpa using hb) (by simp[yM]);have hm:=fun d s=>qgH d s (qE ds) (by unfold small at hb;unfold aW;omega);have a:=qet (M:=M) (Q:=Q) (Pm:=Pm) ds hl hb (l9 ah M Q Pm tc (.seq (.region IP) (.seq (.seq (.region Ks) (.block 2 (.loop rA))) (.seq (.region yM) .ret))) (kE 0 tc (.own .r 1 (az ds.flatten),[],0))) ds.length 0 0 (by omega) (by simp) (by
  simp[aB]at b;simp[IP,Ks,hm,hpl];exact b)
 simp at a;simp[wm,Wh,TO,QD,hpl];exact a
def fu(b:By)(a:Nat)(e:Int):Uo:=.row [.bool true,.sl 1 (az b),.int .i64 (a:Int),.int .i64 e]
theorem jK{fl:Nat}{h:List Uo}(hf:fl≤h.length)(p:Nat)(x:Uo):cut h.length fl (h.set p x)=h.set p x:=by
 have:=b9 (fl:=fl) (h:=h.set p x) (by simpa using hf);simpa using this
theorem Dq{a b:Nat}(hb:b≤a)(ha:a<9223372036854775808):aD .i64 ((a:Int) - (b:Int))=((a - b:Nat):Int):=by
 rw[←Int.ofNat_sub hb];exact CP (by omega)
section
variable{b:By}{a:Nat}{e:Int}{h:List Uo}{fl p:Nat}
theorem Rm(hp:aG Pm)(hi:h[p]? =some (fu b a e))(hf:fl≤h.length):gF ah M Q Pm 187 [.ptr p 0] h fl=some (.int .i64 e,h,fl):=by
 refine bq hp rfl rfl ?_;simp only[fu]at hi;simp[vX,W3,Rb,TC,hi,b9 hf]
theorem PU(hp:aG Pm)(hb:b.length<small)(ha:a≤b.length)(hi:h[p]? =some (fu b a e))(hf:fl≤h.length):gF ah M Q Pm 188 [.ptr p 0] h fl=some (.int .i64 ((b.length - a:Nat):Int),h,fl):=by
 refine bq hp rfl rfl ?_;simp only[fu]at hi;have hw:=Dq ha (by unfold small at hb;omega);simp[wv,Xm,TK,bn ZU,Oi,hi,hw,b9 hf]
theorem YO(hp:aG Pm)(hq:cI Q)(hb:b.length<small)(ha:a≤b.length)(hi:h[p]? =some (fu b a e))(hf:fl≤h.length):∃ e2:Int,gF ah M Q Pm 176 [.ptr p 0] h fl=some (.int .i64 e2,h,fl):=by
 have h1:=Rm (M:=M) (Q:=Q) hp hi hf;have h2:=PU (M:=M) (Q:=Q) hp hb ha hi hf;have hlt:=(cz.1 hi).1;have hd:decide (p<h.length)=true:=decide_eq_true hlt;by_cases he:e=0
 ·by_cases hz:((b.length - a:Nat):Int)=0
  ·refine⟨e,bq hp rfl rfl ?_⟩;simp[pN,DR,Fv,DD,Me,hq,h1,h2,he,hz,hd,b9 hf]
  ·refine⟨10,bq hp rfl rfl ?_⟩;have hz' :(((b.length - a:Nat):Int)==0)=false:=by simpa using hz
   simp[pN,DR,Fv,DD,Uj,hq,h1,h2,he,hz',hd,b9 hf]
 ·refine⟨e,bq hp rfl rfl ?_⟩;have he' :(e !=0)=true:=by simpa using he
  simp[pN,DR,Fv,DD,Me,hq,h1,he',hd,b9 hf]
theorem qg0(hp:aG Pm)(hq:cI Q)(hb:b.length<small)(ha:a≤b.length)(hi:h[p]? =some (fu b a e))(hf:fl≤h.length):∃ (c:UInt8) (a2:Nat) (e2:Int),gF ah M Q Pm 225 [.ptr p 0] h fl=some (.int .u8 c.toNat,h.set p (fu b a2 e2),fl)∧a2≤b.length:=by
 have h1:=Rm (M:=M) (Q:=Q) hp hi hf;have h2:=PU (M:=M) (Q:=Q) hp hb ha hi hf;have hlt:=(cz.1 hi).1;have hd:decide (p<h.length)=true:=decide_eq_true hlt;have hself:h.set p (fu b a e)=h:=by
  obtain⟨h1,h2⟩:=cz.1 hi;rw[←h2];exact List.set_getElem_self h1
 by_cases he:e=0
 ·by_cases hz:((b.length - a:Nat):Int)=0
  ·refine⟨0,a,6,bq hp rfl rfl ?_,ha⟩;simp only[fu]at hi⊢;simp[pX,EI,ER,KI,VM,R5,hq,h1,h2,he,hz,hi,hd,jK hf]
  ·have hz' :(((b.length - a:Nat):Int)==0)=false:=by simpa using hz
   have hab:a<b.length:=by omega
   have e1:(az b)[a]? =some (nZ b[a]):=by simp[az,hab]
   have e3:aD .i64 ((a:Int)+1)=((a+1:Nat):Int):=cj (by unfold small at hb;omega);have e4:aD .i64 ((a:Int))=(a:Int):=CP (by unfold small at hb;omega);have hs:∀ x,(h.set p x)[p]? =some x:=fun x=>List.getElem?_set_self hlt;refine⟨b[a],a+1,0,bq hp rfl rfl ?_,by omega⟩;generalize b[a]=c at e1;simp only[nZ]at e1;simp only[fu]at hi⊢;simp[pX,EI,ER,KI,Ua,bn ZQ,MN,hq,h1,h2,he,hz,hz',hi,hd,hs,e3,e4,eC e1,jK hf]
 ·refine⟨0,a,e,bq hp rfl rfl ?_,ha⟩;have he' :(e !=0)=true:=by simpa using he
  rw[hself];simp[pX,EI,ER,Q7,hq,h1,he,he',hd,b9 hf]
end
theorem CU(ek:fD)(x:Int)(k:Nat):∃ z,cU .shl ek (.int .u64 x) (.int .u64 (k:Int))=some (.int .u64 z):=by
 simp only[cU,xw];rw[if_neg (by omega)];exact⟨_,rfl⟩
noncomputable def ql3(x:Int)(k:Nat):Int:=(CU .no x k).choose
theorem YP(x:Int)(k:Nat):cU .shl .no (.int .u64 x) (.int .u64 (k:Int))=some (.int .u64 (ql3 x k)):=(CU .no x k).choose_spec
theorem CO(x y:Int):∃ z,cU .and .no (.int .u8 x) (.int .u8 y)=some (.int .u8 z):=⟨_,rfl⟩
noncomputable def qlw(x y:Int):Int:=(CO x y).choose
theorem sV(x y:Int):cU .and .no (.int .u8 x) (.int .u8 y)=some (.int .u8 (qlw x y)):=(CO x y).choose_spec
theorem Oz{i:Nat}(h:i<18446744073709551616):aD .u64 (i:Int)=(i:Int):=by
 rw[gy,mZ]<;>simp[IntKind.signed,IntKind.bits]<;>omega
section
variable{b:By}{a:Nat}{e:Int}{h:List Uo}{fl p:Nat}
theorem qcR(hp:aG Pm)(hq:cI Q)(hb:b.length<small)(ha:a≤b.length)(hi:h[p]? =some (fu b a e))(hf:fl≤h.length)(K:Ex→Vs→Prop)
  (h0:K .normal ⟨[],h,fl⟩) (h1:∀ (n k:Nat) (e:Int) (ev:Env),n<18446744073709551616→k≤b.length - a→K .ret ⟨(4,.int .i64 e)::(3,.int .i64 (k:Int))::(2,.int .u64 (n:Int))::ev,h,fl⟩):
  ∀ (j i n:Nat),i+j=b.length - a→n<18446744073709551616→
  gL ah M Q Pm v7 0 vM h.length ⟨[(10,.int .i64 (i:Int)),(5,.int .u64 (n:Int)),(0,.ptr p 0),(9,.int .i64 ((b.length - a:Nat):Int))],h,fl⟩ K:=by
 have hlt:=(cz.1 hi).1;have hd:decide (p<h.length)=true:=decide_eq_true hlt;intro j
 induction j with
 |zero=>
  intro i n hij hn;have g1:¬((i:Int)<((b.length - a:Nat):Int)):=by omega
  rw[aq vM.eq_1];simp[qj,g1,b9 hf];exact h0
 |succ j ih=>
  intro i n hij hn;have g1:(i:Int)<((b.length - a:Nat):Int):=by omega
  have hab:a+i<b.length:=by omega
  have e1:(az b)[a+i]? =some (nZ b[a+i]):=by simp[az,hab]
  have e3:aD .i64 ((i:Int)+1)=((i+1:Nat):Int):=cj (by unfold small at hb;omega);have e4:aD .i64 ((a:Int)+(i:Int))=((a+i:Nat):Int):=wrap_add (by unfold small at hb;omega);have e5:aD .i64 (7*(i:Int))=((7*i:Nat):Int):=by
   have:=CP (i:=7*i) (by unfold small at hb;omega);simpa using this
  have e6:aD .u64 ((7*i:Nat):Int)=((7*i:Nat):Int):=Oz (by unfold small at hb;omega);have e7:=fun x=>YP x (7*i);have ih' :=fun x y=>ih (i+1) (orN x y) (by omega) (wo x y);have r1:=fun(n k:Nat) (e:Int) ev hn hk=>h1 n k e ev hn hk;simp only[fu]at hi;generalize b[a+i]=c at e1;simp only[nZ]at e1;rw[aq vM.eq_1];simp at ih';generalize b.length - a=L at*;have z0:=r1 0 0;have zn:=fun x y=>r1 (orN x y) (i+1) 0;simp only[Int.natCast_add,Int.natCast_one]at zn e4;simp only[Int.natCast_mul]at e5 e6 e7;simp at e5 e6 e7;have ia:=fun s=>eC (s:=s) (w:=1) (k:=.i64) e1;simp only[Int.natCast_add]at ia;rcases aV ((i:Int)==9)with q1' |q1
  rotate_left
  ·have q5:0<i:=by have:=eq_of_beq q1;omega
   by_cases q2:(1:Int)<(c.toNat:Int)
   ·simp[qj,qV,bn ql,oR,rK,RN,g1,hi,hd,e4,ia,q1,q2];exact z0 9 _ (by decide) (by omega)
   ·by_cases q3:(c.toNat:Int)=0
    ·simp[qj,qV,bn ql,oR,rK,tJ,tI,EO,g1,hi,hd,e4,ia,q1,q2,q3,q5,sV,e5,e6,e7,oV];exact z0 8 _ (by decide) (by omega)
    ·have q3b:((c.toNat:Int)==0)=false:=by simpa using q3
     have q4:(c.toNat:Int)<128:=by omega
     simp[qj,qV,bn ql,oR,rK,tJ,tI,uF,yw,yh,g1,hi,hd,e3,e4,ia,q1,q2,q3b,q5,q4,sV,e5,e6,e7,oV];exact zn _ _ _ (wo _ _) (by omega)
  ·by_cases q3:(c.toNat:Int)=0
   ·by_cases q5:0<i
    ·simp[qj,qV,bn ql,oR,rK,tJ,tI,EO,g1,hi,hd,e4,ia,q1',q3,q5,sV,e5,e6,e7,oV];exact z0 8 _ (by decide) (by omega)
    ·simp[qj,qV,bn ql,oR,rK,tJ,tI,uF,yh,g1,hi,hd,e3,e4,ia,q1',q3,q5,sV,e5,e6,e7,oV];exact zn _ _ _ (wo _ _) (by omega)
   ·have q3b:((c.toNat:Int)==0)=false:=by simpa using q3
    by_cases q4:(c.toNat:Int)<128
    ·simp[qj,qV,bn ql,oR,rK,tJ,tI,uF,yw,yh,g1,hi,hd,e3,e4,ia,q1',q3b,q4,sV,e5,e6,e7,oV];exact zn _ _ _ (wo _ _) (by omega)
    ·simp[qj,qV,bn ql,oR,rK,tJ,tI,uF,yw,Oq,g1,hi,hd,e3,e4,ia,q1',q3b,q4,sV,e5,e6,e7,oV,b9 hf];exact ih' _ _
theorem qg5(hp:aG Pm)(hq:cI Q)(hb:b.length<small)(ha:a≤b.length)(hi:h[p]? =some (fu b a e))(hf:fl≤h.length):∃ r h' fl',gF ah M Q Pm 230 [.ptr p 0] h fl=some (r,h',fl')∧
  (h' =h∧fl' =fl∧∃ (n k:Nat) (e:Int),r=.aP [.int .u64 (n:Int),.int .i64 (k:Int),.int .i64 e]∧n<18446744073709551616∧k≤b.length - a):=by
 refine jx (fn:=v7) (hp 230 (by decide) (by decide)) rfl rfl rfl ?_;have h2:=PU (M:=M) (Q:=Q) hp hb ha hi hf;have hlt:=(cz.1 hi).1;have hd:decide (p<h.length)=true:=decide_eq_true hlt;simp[xB,Tl,VW,WY,hq,h2,hd,b9 hf];refine qcR hp hq hb ha hi hf _ ?_ (fun n k e ev hn hk=> ?_) (b.length - a) 0 0 (by omega) (by decide)
 ·simp[Of,b9 hf];exact⟨0,0,by decide,by decide,by omega⟩
 ·simp[b9 hf];exact⟨n,k,⟨rfl,rfl⟩,hn,hk⟩
end
theorem Dt(x y:Int):∃ z,cU .and .no (.int .u64 x) (.int .u64 y)=some (.int .u64 z):=⟨_,rfl⟩
noncomputable def qhU(x y:Int):Int:=(Dt x y).choose
theorem QS(x y:Int):cU .and .no (.int .u64 x) (.int .u64 y)=some (.int .u64 (qhU x y)):=(Dt x y).choose_spec
theorem Dm(x y:Int):∃ z,cU .xor .no (.int .i64 x) (.int .i64 y)=some (.int .i64 z):=⟨_,rfl⟩
noncomputable def qgE(x y:Int):Int:=(Dm x y).choose
theorem QL(x y:Int):cU .xor .no (.int .i64 x) (.int .i64 y)=some (.int .i64 (qgE x y)):=(Dm x y).choose_spec
theorem HL(x:Int):∃ z,unU .neg (.int .i64 x)=some (.int .i64 z):=⟨_,rfl⟩
noncomputable def qgn(x:Int):Int:=(HL x).choose
theorem Wn(x:Int):unU .neg (.int .i64 x)=some (.int .i64 (qgn x)):=(HL x).choose_spec
section
variable{b:By}{a:Nat}{e:Int}{h:List Uo}{fl p:Nat}
def PRd(b:By)(p:Nat)(h0:List Uo)(fl0:Nat)(V:U→Prop)(r:U)(h:List Uo)(fl:Nat):Prop:=fl=fl0∧(∃ (a:Nat) (e:Int),h=h0.set p (fu b a e)∧a≤b.length)∧V r
theorem GF(hp:aG Pm)(hq:cI Q)(most:Int)(hb:b.length<small)(ha:a≤b.length)(hi:h[p]? =some (fu b a e))(hf:fl≤h.length):∃ r h' fl',gF ah M Q Pm 175 [.ptr p 0,.int .u64 most] h fl=some (r,h',fl')∧
  PRd b p h fl (fun r=>∃ n:Nat,r=.int .u64 (n:Int)∧n<18446744073709551616) r h' fl' :=by
 refine jx (fn:=v175) (hp 175 (by decide) (by decide)) rfl rfl rfl ?_;have h1:=Rm (M:=M) (Q:=Q) hp hi hf;obtain⟨r,h2,fl2,e2,rfl,rfl,n,k,e1,rfl,hn,hk⟩:=qg5 (M:=M) hp hq hb ha hi hf;have hlt:=(cz.1 hi).1;have hd:decide (p<h2.length)=true:=decide_eq_true hlt;have hself:h2.set p (fu b a e)=h2:=by
  obtain⟨h1,h2⟩:=cz.1 hi;rw[←h2];exact List.set_getElem_self h1
 have hs:∀ x,(h2.set p x)[p]? =some x:=fun x=>List.getElem?_set_self hlt;by_cases he:e=0
 ·subst he;simp only[fu]at hi;have ew:aD .i64 ((a:Int)+(k:Int))=((a+k:Nat):Int):=wrap_add (by unfold small at hb;omega);by_cases g1:e1=0
  ·subst g1;by_cases g2:most<(n:Int)
   ·simp[nB,zj,AG,FL,F7,Rj,Fy,JB,ID,hq,h1,e2,hi,hd,g2,jK hf];exact⟨rfl,⟨a,3,rfl,ha⟩,0,rfl,by decide⟩
   ·simp[nB,zj,AG,FL,F7,Fy,Xq,MS,hq,h1,e2,hi,hd,g2,hs,ew,jK hf];exact⟨rfl,⟨a+k,0,by simp[fu],by omega⟩,n,rfl,hn⟩
  ·have g1' :(e1==0)=false:=by simpa using g1
   have g1b:(e1 !=0)=true:=by simpa using g1
   simp[nB,zj,AG,FL,F7,Fy,JB,ID,hq,h1,e2,hi,hd,g1',g1b,g1,jK hf];exact⟨rfl,⟨a,e1,rfl,ha⟩,0,rfl,by decide⟩
 ·have he' :(e !=0)=true:=by simpa using he
  simp[nB,zj,AG,SS,hq,h1,he,he',hd,b9 hf];exact⟨rfl,⟨a,e,hself.symm,ha⟩,0,rfl,by decide⟩
theorem QO(hp:aG Pm)(hq:cI Q)(most:Nat)(hm:most<small)(hb:b.length<small)(ha:a≤b.length)(hi:h[p]? =some (fu b a e))(hf:fl≤h.length):∃ r h' fl',gF ah M Q Pm 186 [.ptr p 0,.int .i64 (most:Int)] h fl=some (r,h',fl')∧
  PRd b p h fl (fun r=>∃ s:By,r=.str s∧s.length≤most) r h' fl' :=by
 refine jx (fn:=OW) (hp 186 (by decide) (by decide)) rfl rfl rfl ?_;have h1:=Rm (M:=M) (Q:=Q) hp hi hf;have h188:=PU (M:=M) (Q:=Q) hp hb ha hi hf;obtain⟨r,h2,fl2,e2,rfl,rfl,n,k,e1,rfl,hn,hk⟩:=qg5 (M:=M) hp hq hb ha hi hf;have hlt:=(cz.1 hi).1;have hd:decide (p<h2.length)=true:=decide_eq_true hlt;have hself:h2.set p (fu b a e)=h2:=by
  obtain⟨h1,h2⟩:=cz.1 hi;rw[←h2];exact List.set_getElem_self h1
 have hs:∀ x,(h2.set p x)[p]? =some x:=fun x=>List.getElem?_set_self hlt;by_cases he:e=0
 ·subst he;simp only[fu]at hi;have hm0:¬((most:Int)<0):=by omega
  have ew0:aD .u64 (most:Int)=(most:Int):=Oz (by unfold small at hm;omega);have ew1:aD .i64 (((b.length - a:Nat):Int) - (k:Int))=((b.length - a - k:Nat):Int):=Dq hk (by unfold small at hb;omega);have ew2:aD .u64 ((b.length - a - k:Nat):Int)=((b.length - a - k:Nat):Int):=Oz (by unfold small at hb;omega);by_cases g1:e1=0
  ·subst g1;by_cases g2:most<n
   ·simp[lQ,wY,xy,y9,ze,FY,Wa,zH,yL,yN,hq,h1,e2,hi,hd,g2,hm0,ew0,jK hf,b9 hf];exact⟨rfl,⟨a,3,rfl,ha⟩,[],rfl,by simp⟩
   ·by_cases g3:b.length - a - k<n
    ·simp[lQ,wY,xy,y9,ze,FY,IE,Uu,zH,yL,yN,hq,h1,h188,e2,hi,hd,g2,g3,hm0,ew0,ew1,ew2,jK hf,b9 hf];exact⟨rfl,⟨a,6,rfl,ha⟩,[],rfl,by simp⟩
    ·have ew3:aD .i64 (n:Int)=(n:Int):=CP (by unfold small at hb;omega);have ew4:aD .i64 ((k:Int)+(n:Int))=((k+n:Nat):Int):=wrap_add (by unfold small at hb;omega);have ew5:aD .i64 ((a:Int)+((k:Int)+(n:Int)))=((a+(k+n):Nat):Int):=by have:=wrap_add (a:=a) (b:=k+n) (by unfold small at hb;omega);simpa using this
     have ew6:aD .i64 ((a:Int)+((k:Int)+(n:Int)) - (n:Int))=((a+k:Nat):Int):=by
      have:=CP (i:=a+k) (by unfold small at hb;omega);rw[←this];congr 1;omega
     have a1:gJ (.int .i64 ((a+k:Nat):Int)) (a+(k+n))=some (a+k):=nR (by omega);have a2:gJ (.int .i64 ((a+(k+n):Nat):Int)) (az b).length=some (a+(k+n)):=nR (by rw[qb];omega);have hun:∀ i j,eH (((az b).take i).drop j)=some ((b.take i).drop j):=fun i j=>by
      have:((az b).take i).drop j=az ((b.take i).drop j):=by simp[az,List.map_drop,List.map_take]
      rw[this,l5]
     simp at ew4 ew5 ew6 a1 a2;simp[lQ,wY,xy,y9,ze,FY,IE,zH,MM,bn Sq,Hx,hq,h1,h188,e2,hi,hd,hs,g2,g3,hm0,ew0,ew1,ew2,ew3,ew4,ew5,ew6,a1,a2,kR,YF,hun,jK hf,b9 hf];exact⟨rfl,⟨a+(k+n),0,by simp[fu],by omega⟩,_,rfl,by simp;omega⟩
  ·have g1b:(e1 !=0)=true:=by simpa using g1
   simp[lQ,wY,xy,y9,ze,zH,yL,yN,hq,h1,e2,hi,hd,g1b,g1,jK hf,b9 hf];exact⟨rfl,⟨a,e1,rfl,ha⟩,[],rfl,by simp⟩
 ·have he' :(e !=0)=true:=by simpa using he
  simp[lQ,wY,xy,U7,hq,h1,he,he',hd,b9 hf];exact⟨rfl,⟨a,e,hself.symm,ha⟩,[],rfl,by simp⟩
theorem qkR(hp:aG Pm)(hq:cI Q)(hb:b.length<small)(ha:a≤b.length)(hi:h[p]? =some (fu b a e))(hf:fl≤h.length):∃ r h' fl',gF ah M Q Pm 184 [.ptr p 0] h fl=some (r,h',fl')∧
  PRd b p h fl (fun r=>∃ n:Int,r=.int .i64 n) r h' fl' :=by
 refine jx (fn:=VG) (hp 184 (by decide) (by decide)) rfl rfl rfl ?_;obtain⟨r,h2,fl2,e2,rfl,⟨a2,e3,rfl,ha2⟩,n,rfl,hn⟩:=GF (M:=M) hp hq 18446744073709551615 hb ha hi hf;have hlt:=(cz.1 hi).1;have hd:decide (p<h.length)=true:=decide_eq_true hlt;have hsh:cU .shr .no (.int .u64 (n:Int)) (.int .u64 (1:Int))=some (.int .u64 ((n / 2 ^ 1:Nat):Int)):=GI .no n 1 (by decide);simp[wq,XJ,SZ,Uh,hq,e2,hd,hsh,QS,QL,Wn,jK hf];exact⟨rfl,⟨a2,e3,rfl,ha2⟩,_,rfl⟩
end
def nmC(c:UInt8):Bool:=(decide (97≤(c.toNat:Int))&&decide ((c.toNat:Int)≤122))||(decide (48≤(c.toNat:Int))&&decide ((c.toNat:Int)≤57))||((c.toNat:Int)==45)
theorem qdD(s:By)(hl:s.length≤16)(b0:Bool):∀ (j q:Nat),q+j=s.length→
  gL ah M Q Pm v226 0 uS 0 ⟨[(24,.int .i64 (q:Int)),(0,.str s),(23,.int .i64 (s.length:Int))],[],0⟩ (l9 ah M Q Pm v226 (.seq (.region yx) .ret) (kE 0 v226 (.bool ((s.drop q).all nmC),[],0))):=by
 intro j
 induction j with
 |zero=>
  intro q hij;have h1:¬((q:Int)<(s.length:Int)):=by omega
  have h2:s.drop q=[]:=tN (by omega);rw[aq uS.eq_1,h2];simp[Lx,h1,yx]
 |succ j ih=>
  intro q hij;have h1:((q:Int)<(s.length:Int)):=by omega
  have hi1:q<s.length:=by omega
  have e1:s[q]? =some s[q]:=by simp[hi1]
  have e3:aD .i64 ((q:Int)+1)=((q+1:Nat):Int):=cj (by omega);have d1:s.drop q=s[q]::s.drop (q+1):=vT hi1;have ih' :=ih (q+1) (by omega);rw[aq uS.eq_1,d1,List.all_cons];generalize s[q]=c at*;have hc:nmC c=((decide (97≤(c.toNat:Int))&&decide ((c.toNat:Int)≤122))||(decide (48≤(c.toNat:Int))&&decide ((c.toNat:Int)≤57))||((c.toNat:Int)==45)):=rfl;rw[hc];simp only[yx]at ih';rcases aV (decide (97≤(c.toNat:Int)))with a1|a1<;>rcases aV (decide ((c.toNat:Int)≤122))with a2|a2<;>rcases aV (decide (48≤(c.toNat:Int)))with a3|a3<;>rcases aV (decide ((c.toNat:Int)≤57))with a4|a4<;>rcases aV ((c.toNat:Int)==45)with a5|a5<;>(
   simp[a1,a2,a3,a4,a5]at ih'⊢;simp[Lx,VZ,R7,Q5,Xe,T6,NM,MR,h1,cR e1,e3,a1,a2,a3,a4,a5]
   try exact ih')
def tj:By→Bool
 |[]=>false
 |c::r=>bif decide (16<(r.length:Int)+1)then false else bif decide ((c.toNat:Int)<97)then false else bif decide (122<(c.toNat:Int))then false else(c::r).all nmC
theorem t226(hp:aG Pm)(s:By):gF ah M Q Pm 226 [.str s] [] 0=some (.bool (tj s),[],0):=by
 refine bq hp rfl rfl ?_;cases s with
 |nil=>simp[lz,wN,wB,zD,tj]
 |cons c r=>
  have hc:tj (c::r)=(bif decide (16<(r.length:Int)+1)then false else bif decide ((c.toNat:Int)<97)then false else bif decide (122<(c.toNat:Int))then false else(c::r).all nmC):=rfl;have hx:=fun s=>cR (s:=s) (b:=c::r) (i:=0) (c:=c) rfl;rw[hc];rcases aV (decide (16<(r.length:Int)+1))with a1|a1
  ·rcases aV (decide ((c.toNat:Int)<97))with a2|a2
   ·rcases aV (decide (122<(c.toNat:Int)))with a3|a3
    ·have hl:(c::r).length≤16:=by have:=of_decide_eq_false a1;simp only[List.length_cons];omega
     have a:=qdD (M:=M) (Q:=Q) (Pm:=Pm) (c::r) hl true (c::r).length 0 (Nat.zero_add _);rw[List.drop_zero]at a;simp at hx;simp at a;simp[a1,a2,a3];simp[lz,wN,wB,Vx,a1,a2,a3,hx];exact a
    ·simp at hx;simp[a1,a2,a3];simp[lz,wN,wB,zD,a1,a2,a3,hx]
   ·simp at hx;simp[a1,a2];simp[lz,wN,wB,zD,a1,a2,hx]
  ·simp[a1];simp[lz,wN,wB,zD,a1]
structure In where
 d:By
 v:Nat
 st:Int
 c:By
 nx:Nat
def kG(x:In):List U:=[.str x.d,.int .u64 (x.v:Int),.int .i64 x.st,.str x.c,.int .u64 (x.nx:Int)]
set_option maxHeartbeats 4000000 in
theorem t164(hp:aG Pm)(hq:cI Q)(x:In):∃ n:Int,gF ah M Q Pm 164 [.agg (kG x)] [] 0=some (.int .i64 n,[],0):=by
 have c1:=t226 (M:=M) (Q:=Q) hp x.c;have c2:=t226 (M:=M) (Q:=Q) hp x.d;refine⟨bif(bif x.st==3 then tj x.c else x.c==[])&&tj x.d&& !((x.v:Int)==0)&& !((x.nx:Int)==0)&& !decide (x.st<1)&& !decide (4<x.st)then 0 else 1,bq hp rfl rfl ?_⟩;rcases aV (x.st==3)with b0|b0
 ·rcases aV (x.c==[])with b1|b1<;>rcases aV (tj x.d)with b2|b2<;>rcases aV ((x.v:Int)==0)with b3|b3<;>rcases aV ((x.nx:Int)==0)with b4|b4<;>rcases aV (decide (x.st<1))with b5|b5<;>rcases aV (decide (4<x.st))with b6|b6<;>
   (rw[b2]at c2;simp only[b0,b1,b2,b3,b4,b5,b6];simp[sJ,KZ,Lq,KL,Iz,KP,Ka,kG,b0,b1,b3,b4,b5,b6,hq,c2])
 ·rcases aV (tj x.c)with b1|b1<;>rcases aV (tj x.d)with b2|b2<;>rcases aV ((x.v:Int)==0)with b3|b3<;>rcases aV ((x.nx:Int)==0)with b4|b4<;>rcases aV (decide (x.st<1))with b5|b5<;>rcases aV (decide (4<x.st))with b6|b6<;>
   (rw[b2]at c2;rw[b1]at c1;simp only[b0,b1,b2,b3,b4,b5,b6];simp[sJ,KZ,Lq,KL,Xi,Iz,KP,Ka,kG,b0,b3,b4,b5,b6,hq,c1,c2])
theorem t123(hp:aG Pm)(hq:cI Q)(x:In)(hd:x.d.length<10000000)(hcl:x.c.length<10000000)(hv:x.v<18446744073709551616)(hx:x.nx<18446744073709551616):∃ b:By,gF ah M Q Pm 123 [.agg (kG x)] [] 0=some (.own .r 1 (az b),[],0)∧b.length<30000000:=by
 obtain⟨n,c164⟩:=t164 (M:=M) hp hq x;simp only[kG]at c164;by_cases hn:n=0
 ·have sm:small=1000000000:=rfl;have c1:=t190 (M:=M) hp hq x.d (by omega);have c2:=t191 (M:=M) (Q:=Q) hp x.v hv;have c3:=t190 (M:=M) hp hq x.c (by omega);have c4:=t191 (M:=M) (Q:=Q) hp x.nx hx;have l1:=iT x.d.length;have l2:=iT x.v;have l3:=iT x.c.length;have l4:=iT x.nx;have c5:=t189 (M:=M) (Q:=Q) hp [qU x.d,yb x.v,[Ab x.st],qU x.c,yb x.nx] (by simp[small]) (by simp[qE,qU];omega);simp only[oP,List.map_cons,List.map_nil,bW,aB]at c5;subst hn;refine⟨[qU x.d,yb x.v,[Ab x.st],qU x.c,yb x.nx].flatten,bq hp rfl rfl ?_,by simp[qU];omega⟩;generalize [qU x.d,yb x.v,[Ab x.st],qU x.c,yb x.nx].flatten=R at*;simp[sN,J7,Jm,kG,hq,c164];simp[bn Zo,Oy,hq,c1,c2,c3,c4,c5,tY,bH,hY]
 ·refine⟨[],bq hp rfl rfl ?_,by simp⟩;simp[sN,J7,Jm,QH,kG,hq,c164,hn,aB]
structure Tk where
 node:Int
 sc:Nat
 fl:Int
def lI(x:Tk):List U:=[.int .i64 x.node,.int .u64 (x.sc:Int),.int .i64 x.fl]
theorem UQ(hp:aG Pm)(x:Tk)(h1:0≤x.node)(h2:x.node<40)(h3: -1≤x.fl)(h4:x.fl<80):gF ah M Q Pm 179 [.agg (lI x)] [] 0=some (.int .i64 0,[],0):=by
 refine bq hp rfl rfl ?_;have a1:¬x.node<0:=by omega
 have a2:¬40≤x.node:=by omega
 have a3:¬x.fl< -1:=by omega
 have a4:¬80≤x.fl:=by omega
 simp[lV,xj,wJ,Wl,lI,a1,a2,a3,a4]
theorem Vt(hp:aG Pm)(x:Tk)(h:¬(0≤x.node∧x.node<40∧ -1≤x.fl∧x.fl<80)):gF ah M Q Pm 179 [.agg (lI x)] [] 0=some (.int .i64 1,[],0):=by
 refine bq hp rfl rfl ?_;by_cases a1:x.node<0
 ·simp[lV,xj,wJ,Bl,lI,a1]
 ·by_cases a2:40≤x.node
  ·simp[lV,xj,wJ,Bl,lI,a1,a2]
  ·by_cases a3:x.fl< -1
   ·simp[lV,xj,wJ,Bl,lI,a1,a2,a3]
   ·by_cases a4:80≤x.fl
    ·simp[lV,xj,wJ,Bl,lI,a1,a2,a3,a4]
    ·omega
theorem t124(hp:aG Pm)(hq:cI Q)(x:Tk)(hs:x.sc<18446744073709551616):∃ b:By,gF ah M Q Pm 124 [.agg (lI x)] [] 0=some (.own .r 1 (az b),[],0)∧b.length<30000000:=by
 by_cases h:0≤x.node∧x.node<40∧ -1≤x.fl∧x.fl<80
 ·obtain⟨h1,h2,h3,h4⟩:=h;have c0:=UQ (M:=M) (Q:=Q) hp x h1 h2 h3 h4;obtain⟨m,hm⟩:=Int.eq_ofNat_of_zero_le h1;obtain⟨m2,hm2⟩:=Int.eq_ofNat_of_zero_le (a:=x.fl+1) (by omega);have w1:=wrap64 (n:=m) (by omega);have w2:=wrap64 (n:=m2) (by omega);have w3:=zS (n:=m2) (by omega);have c1:=t191 (M:=M) (Q:=Q) hp m (by omega);have c2:=t191 (M:=M) (Q:=Q) hp x.sc hs;have c3:=t191 (M:=M) (Q:=Q) hp m2 (by omega);have l1:=iT m;have l2:=iT x.sc;have l3:=iT m2;have c5:=t189 (M:=M) (Q:=Q) hp [yb m,yb x.sc,yb m2] (by simp[small]) (by simp[qE,small];omega);simp only[oP,List.map_cons,List.map_nil]at c5;refine⟨[yb m,yb x.sc,yb m2].flatten,bq hp rfl rfl ?_,by simp;omega⟩;generalize [yb m,yb x.sc,yb m2].flatten=R at*;simp only[lI,hm]at c0⊢;simp[sL,LR,Jw,hq,c0];simp[bn qaj,Ny,hq,hm2,w1,w2,w3,c1,c2,c3,c5,bH,hY]
 ·have c0:=Vt (M:=M) (Q:=Q) hp x h;simp only[lI]at c0;refine⟨[],bq hp rfl rfl ?_,by simp⟩;simp[sL,LR,Jw,UA,lI,hq,c0,aB]
theorem Wd(hp:aG Pm)(hq:cI Q)(b:By)(hb:b.length<small):gF ah M Q Pm 161 [.sl 1 (az b)] [] 0=some (.ptr 0 0,[fu b 0 0],0):=by
 refine bq hp rfl rfl ?_;have h:=t189 (M:=M) (Q:=Q) hp [b] (by simp[small]) (by simpa[qE]using hb);simp[oP]at h;simp[vU,Tv,V6,hq,h,fu,bH]
theorem qmh(hp:aG Pm)(hq:cI Q)(b:By)(hb:b.length<small):∃ (n e:Int),gF ah M Q Pm 111 [.sl 1 (az b)] [] 0=some (.aP [.int .u64 n,.int .i64 e],[],0):=by
 have h:=jx (VF:=ah) (M:=M) (Q:=Q) (Pm:=Pm) (fn:=RG) (f:=111) (us:=[.sl 1 (az b)]) (h:=[]) (fl:=0) (P:=fun r h fl=>h=[]∧fl=0∧∃ n e:Int,r=.aP [.int .u64 n,.int .i64 e]) (hp 111 (by decide) (by decide)) rfl rfl rfl (by
  have h1:=Wd (M:=M) hp hq b hb;obtain⟨r,h2,fl,e2,rfl,⟨a,e,rfl,ha⟩,n,rfl,hn⟩:=GF (M:=M) (Q:=Q) (Pm:=Pm) (b:=b) (a:=0) (e:=0) (p:=0) (h:=[fu b 0 0]) (fl:=0) hp hq 18446744073709551615 hb (by omega) rfl (by simp);obtain⟨e3,h3⟩:=YO (M:=M) (Q:=Q) (Pm:=Pm) (b:=b) (a:=a) (e:=e) (p:=0) (h:=[fu b a e]) (fl:=0) hp hq hb ha rfl (by simp);simp[fu]at h1 e2 h3;by_cases hz:e3=0
  ·simp[sK,IX,Lb,Jr,Jl,IV,UJ,hq,h1,e2,h3,hz]
  ·simp[sK,IX,Lb,Jr,Jl,IV,Vm,hq,h1,e2,h3,hz])
 obtain⟨r,h,fl,h1,rfl,rfl,n,e,rfl⟩:=h;exact⟨n,e,h1⟩
def PTx(mk:Uo→List Uo)(b:By)(S:U→Prop)(r:U)(h:List Uo)(fl:Nat):Prop:=fl=0∧S r∧∃ (a:Nat) (e:Int),h=mk (fu b a e)∧a≤b.length
def pP:Uo:=.row [.ptr 1 0]
section
variable(b:By)(hb:b.length<small)
include hb
theorem qko(hp:aG Pm)(hq:cI Q):∃ r h fl,gF ah M Q Pm 163 [.agg [.ptr 1 0]] [.row bt,fu b 0 0,pP,pP,.row bt,.row bt] 0=some (r,h,fl)∧
  PTx (fun o=>[.row bt,o,pP,pP,.row bt,.row bt]) b (fun r=>∃ x:In,r=.agg (kG x)) r h fl:=by
 refine jx (fn:=Ru) (hp 163 (by decide) (by decide)) rfl rfl rfl ?_;obtain⟨r,h,fl,e1,rfl,⟨a1,f1,rfl,ha1⟩,s1,rfl,hs1⟩:=QO (M:=M) (Q:=Q) (Pm:=Pm) (b:=b) (a:=0) (e:=0) (p:=1) (h:=[.row bt,fu b 0 0,pP,pP,.row bt,.row bt,pP,.row bt,.row bt]) (fl:=0) hp hq 16 (by decide) hb (by omega) rfl (by simp);obtain⟨r,h,fl,e2,rfl,⟨a2,f2,rfl,ha2⟩,n2,rfl,hn2⟩:=GF (M:=M) (Q:=Q) (Pm:=Pm) (b:=b) (a:=a1) (e:=f1) (p:=1) (h:=[.row bt,fu b a1 f1,pP,pP,.row bt,.row bt,pP,.row bt,.row [.str s1,.int .u64 0,.int .i64 0,.str [],.int .u64 0]]) (fl:=0) hp hq 18446744073709551615 hb ha1 rfl (by simp);obtain⟨c3,a3,f3,e3,ha3⟩:=qg0 (M:=M) (Q:=Q) (Pm:=Pm) (b:=b) (a:=a2) (e:=f2) (p:=1) (h:=[.row bt,fu b a2 f2,pP,pP,.row bt,.row bt,pP,.row bt,.row [.str s1,.int .u64 n2,.int .i64 0,.str [],.int .u64 0]]) (fl:=0) hp hq hb ha2 rfl (by simp);obtain⟨r,h,fl,e4,rfl,⟨a4,f4,rfl,ha4⟩,s4,rfl,hs4⟩:=QO (M:=M) (Q:=Q) (Pm:=Pm) (b:=b) (a:=a3) (e:=f3) (p:=1) (h:=[.row bt,fu b a3 f3,pP,pP,.row bt,.row bt,pP,.row bt,.row [.str s1,.int .u64 n2,.int .i64 (aD .i64 c3.toNat),.str [],.int .u64 0]]) (fl:=0) hp hq 16 (by decide) hb ha3 rfl (by simp);obtain⟨r,h,fl,e5,rfl,⟨a5,f5,rfl,ha5⟩,n5,rfl,hn5⟩:=GF (M:=M) (Q:=Q) (Pm:=Pm) (b:=b) (a:=a4) (e:=f4) (p:=1) (h:=[.row bt,fu b a4 f4,pP,pP,.row bt,.row bt,pP,.row bt,.row [.str s1,.int .u64 n2,.int .i64 (aD .i64 c3.toNat),.str s4,.int .u64 0]]) (fl:=0) hp hq 18446744073709551615 hb ha4 rfl (by simp);simp[fu,pP,bt]at e1 e2 e3 e4 e5;simp[xp,Sa,VS,WB,Sb,S5,VP,Vf,Vk,hq,fu,pP,bt,e1,e2,e3,e4,e5,cut];exact⟨rfl,⟨⟨s1,n2,aD .i64 c3.toNat,s4,n5⟩,rfl⟩,a5,f5,rfl,ha5⟩
def PTk(z:List U)(b:By)(S:List U→Int→Prop)(r:U)(h:List Uo)(fl:Nat):Prop:=fl=0∧(∃ cs e,r=.aP [.agg cs,.int .i64 e]∧S cs e)∧∃ (a:Nat) (e:Int),h=[.row z,fu b a e,pP]
theorem ql4(hp:aG Pm)(hq:cI Q):∃ r h fl,gF ah M Q Pm 162 [.agg [.ptr 1 0],.func 163 [.agg [.ptr 1 0]] [],.func 164 [] []] [.row bt,fu b 0 0,pP] 0=some (r,h,fl)∧PTk bt b (fun cs _=>∃ x:In,cs=kG x) r h fl:=by
 refine jx (fn:=v162) (hp 162 (by decide) (by decide)) rfl rfl rfl ?_;obtain⟨r,h,fl,e1,rfl,⟨x,rfl⟩,a,e,rfl,ha⟩:=qko (M:=M) (Q:=Q) (Pm:=Pm) b hb hp hq;obtain⟨e3,h3⟩:=YO (M:=M) (Q:=Q) (Pm:=Pm) (b:=b) (a:=a) (e:=e) (p:=1) (h:=[.row bt,fu b a e,pP,pP,.row bt,.row bt,.row (kG x)]) (fl:=0) hp hq hb ha rfl (by simp);obtain⟨n,h4⟩:=t164 (M:=M) hp hq x;simp[fu,pP,bt,kG]at e1 h3 h4;by_cases g1:e3=0
 ·by_cases g2:n=0
  ·simp[pO,FA,Fb,F5,Fp,DG,Jc,DC,RT,hq,fu,pP,bt,e1,h3,h4,g1,g2,cut];exact⟨rfl,⟨_,_,rfl,x,rfl⟩,a,e,rfl⟩
  ·simp[pO,FA,Fb,F5,Fp,DG,Jc,DC,Kx,hq,fu,pP,bt,e1,h3,h4,g1,g2,cut];exact⟨rfl,⟨_,_,rfl,⟨[],0,0,[],0⟩,rfl⟩,a,e,rfl⟩
 ·simp[pO,FA,Fb,F5,Fp,DG,DC,Kx,hq,fu,pP,bt,e1,h3,g1,cut];exact⟨rfl,⟨_,_,rfl,⟨[],0,0,[],0⟩,rfl⟩,a,e,rfl⟩
theorem qlm(hp:aG Pm)(hq:cI Q):∃ x:In,∃ e:Int,gF ah M Q Pm 100 [.sl 1 (az b)] [] 0=some (.aP [.agg (kG x),.int .i64 e],[],0):=by
 have h1:=Wd (M:=M) hp hq b hb;obtain⟨r,h,fl,e1,rfl,⟨cs,e,rfl,x,rfl⟩,a,f,rfl⟩:=ql4 (M:=M) (Q:=Q) (Pm:=Pm) b hb hp hq;refine⟨x,e,bq hp rfl rfl ?_⟩;simp[fu,pP,bt,kG]at e1 h1;simp[wA,Rr,Uy,U3,hq,fu,pP,bt,kG,e1,h1,cut]
end
theorem qkJ(hp:aG Pm)(x:Tk):∃ n:Int,gF ah M Q Pm 179 [.agg (lI x)] [] 0=some (.int .i64 n,[],0):=by
 by_cases h:0≤x.node∧x.node<40∧ -1≤x.fl∧x.fl<80
 ·exact⟨0,UQ hp x h.1 h.2.1 h.2.2.1 h.2.2.2⟩
 ·exact⟨1,Vt hp x h⟩
def BV(x:Ar):Prop:=x.kind=1∨x.kind=2∨x.kind=3
def ArB(x:Ar):Prop:=x.name.length≤64∧x.key.length≤64∧∃ d:Nat,x.due=(d:Int)∧d<18446744073709551616
theorem qi1(hp:aG Pm)(hq:cI Q)(x:Ar):∃ r h fl,gF ah M Q Pm 182 [.agg (bV x)] [] 0=some (r,h,fl)∧(h=[]∧fl=0∧∃ n:Int,r=.int .i64 n∧(n=0→BV x)):=by
 refine jx (fn:=v182) (hp 182 (by decide) (by decide)) rfl rfl rfl ?_;have c1:=t226 (M:=M) (Q:=Q) hp x.name;by_cases k1:x.kind=1
 ·rcases aV (x.name==[])with q1|q1
  ·simp[dY,lY,lB,lM,lu,Ec,lK,lZ,bV,BV,k1,q1]
  ·rcases aV (x.key==[])with q2|q2
   ·simp[dY,lY,lB,lM,lu,Ec,lK,lZ,bV,BV,k1,q1,q2]
   ·simp[dY,lY,lB,lM,lu,Ec,lK,yC,bV,BV,k1,q1,q2]
 by_cases k2:x.kind=2
 ·rcases aV (tj x.name)with q1|q1
  ·simp[dY,lY,lB,lM,lu,pg,Be,lK,lZ,bV,BV,hq,c1,k2,q1]
  ·rw[q1]at c1;by_cases q2:(x.key.length:Int)≤64
   ·rcases aV (x.due==0)with q3|q3
    ·simp[dY,lY,lB,lM,lu,pg,Be,lK,lZ,bV,BV,hq,c1,k2,q1,q2,q3]
    ·simp[dY,lY,lB,lM,lu,pg,Be,lK,yC,bV,BV,hq,c1,k2,q1,q2,q3]
   ·simp[dY,lY,lB,lM,lu,pg,Be,lK,lZ,bV,BV,hq,c1,k2,q1,q2]
 by_cases k3:x.kind=3
 ·rcases aV (tj x.name)with q1|q1
  ·simp[dY,lY,lB,lM,lu,pg,w8,BK,lK,lZ,bV,BV,hq,c1,k3,q1]
  ·rw[q1]at c1;rcases aV (x.key==[])with q2|q2
   ·simp[dY,lY,lB,lM,lu,pg,w8,BK,lK,lZ,bV,BV,hq,c1,k3,q1,q2]
   ·rcases aV (x.due==0)with q3|q3
    ·simp[dY,lY,lB,lM,lu,pg,w8,BK,lK,lZ,bV,BV,hq,c1,k3,q1,q2,q3]
    ·simp[dY,lY,lB,lM,lu,pg,w8,BK,lK,yC,bV,BV,hq,c1,k3,q1,q2,q3]
 ·simp[dY,lY,lB,lM,lu,pg,w8,lK,lZ,bV,BV,k1,k2,k3]
section
variable(b:By)(hb:b.length<small)
include hb
theorem qlo(hp:aG Pm)(hq:cI Q):∃ r h fl,gF ah M Q Pm 178 [.agg [.ptr 1 0]] [.row c8,fu b 0 0,pP,pP,.row c8,.row c8] 0=some (r,h,fl)∧
  PTx (fun o=>[.row c8,o,pP,pP,.row c8,.row c8]) b (fun r=>∃ x:Tk,r=.agg (lI x)) r h fl:=by
 refine jx (fn:=Ud) (hp 178 (by decide) (by decide)) rfl rfl rfl ?_;obtain⟨r,h,fl,e1,rfl,⟨a1,f1,rfl,ha1⟩,n1,rfl,hn1⟩:=GF (M:=M) (Q:=Q) (Pm:=Pm) (b:=b) (a:=0) (e:=0) (p:=1) (h:=[.row c8,fu b 0 0,pP,pP,.row c8,.row c8,pP,.row c8,.row c8]) (fl:=0) hp hq 255 hb (by omega) rfl (by simp);obtain⟨r,h,fl,e2,rfl,⟨a2,f2,rfl,ha2⟩,n2,rfl,hn2⟩:=GF (M:=M) (Q:=Q) (Pm:=Pm) (b:=b) (a:=a1) (e:=f1) (p:=1) (h:=[.row c8,fu b a1 f1,pP,pP,.row c8,.row c8,pP,.row c8,.row [.int .i64 (aD .i64 n1),.int .u64 0,.int .i64 0]]) (fl:=0) hp hq 18446744073709551615 hb ha1 rfl (by simp);obtain⟨r,h,fl,e3,rfl,⟨a3,f3,rfl,ha3⟩,n3,rfl,hn3⟩:=GF (M:=M) (Q:=Q) (Pm:=Pm) (b:=b) (a:=a2) (e:=f2) (p:=1) (h:=[.row c8,fu b a2 f2,pP,pP,.row c8,.row c8,pP,.row c8,.row [.int .i64 (aD .i64 n1),.int .u64 n2,.int .i64 0]]) (fl:=0) hp hq 255 hb ha2 rfl (by simp);simp[fu,pP,c8]at e1 e2 e3;simp[xC,Wo,SP,Wx,SL,Tn,S1,hq,fu,pP,c8,e1,e2,e3,cut];exact⟨rfl,⟨⟨_,n2,_⟩,rfl⟩,a3,f3,rfl,ha3⟩
theorem qlY(hp:aG Pm)(hq:cI Q):∃ r h fl,gF ah M Q Pm 177 [.agg [.ptr 1 0],.func 178 [.agg [.ptr 1 0]] [],.func 179 [] []] [.row c8,fu b 0 0,pP] 0=some (r,h,fl)∧PTk c8 b (fun cs _=>∃ x:Tk,cs=lI x) r h fl:=by
 refine jx (fn:=S4) (hp 177 (by decide) (by decide)) rfl rfl rfl ?_;obtain⟨r,h,fl,e1,rfl,⟨x,rfl⟩,a,e,rfl,ha⟩:=qlo (M:=M) (Q:=Q) (Pm:=Pm) b hb hp hq;obtain⟨e3,h3⟩:=YO (M:=M) (Q:=Q) (Pm:=Pm) (b:=b) (a:=a) (e:=e) (p:=1) (h:=[.row c8,fu b a e,pP,pP,.row c8,.row c8,.row (lI x)]) (fl:=0) hp hq hb ha rfl (by simp);obtain⟨n,h4⟩:=qkJ (M:=M) (Q:=Q) hp x;simp[fu,pP,c8,lI]at e1 h3 h4;by_cases g1:e3=0
 ·by_cases g2:n=0
  ·simp[pV,DT,Em,DO,EH,F1,JV,ES,Sp,hq,fu,pP,c8,e1,h3,h4,g1,g2,cut];exact⟨rfl,⟨_,_,rfl,x,rfl⟩,a,e,rfl⟩
  ·simp[pV,DT,Em,DO,EH,F1,JV,ES,LS,hq,fu,pP,c8,e1,h3,h4,g1,g2,cut];exact⟨rfl,⟨_,_,rfl,⟨0,0,0⟩,rfl⟩,a,e,rfl⟩
 ·simp[pV,DT,Em,DO,EH,F1,ES,LS,hq,fu,pP,c8,e1,h3,g1,cut];exact⟨rfl,⟨_,_,rfl,⟨0,0,0⟩,rfl⟩,a,e,rfl⟩
theorem qkx(hp:aG Pm)(hq:cI Q):∃ x:Tk,∃ e:Int,gF ah M Q Pm 114 [.sl 1 (az b)] [] 0=some (.aP [.agg (lI x),.int .i64 e],[],0):=by
 have h1:=Wd (M:=M) hp hq b hb;obtain⟨r,h,fl,e1,rfl,⟨cs,e,rfl,x,rfl⟩,a,f,rfl⟩:=qlY (M:=M) (Q:=Q) (Pm:=Pm) b hb hp hq;refine⟨x,e,bq hp rfl rfl ?_⟩;simp[fu,pP,c8,lI]at e1 h1;simp[vY,Wt,S9,VN,hq,fu,pP,c8,lI,e1,h1,cut]
theorem qlq(hp:aG Pm)(hq:cI Q):∃ r h fl,gF ah M Q Pm 181 [.agg [.ptr 1 0]] [.row bP,fu b 0 0,pP,pP,.row bP,.row bP] 0=some (r,h,fl)∧
  PTx (fun o=>[.row bP,o,pP,pP,.row bP,.row bP]) b (fun r=>∃ x:Ar,r=.agg (bV x)∧ArB x) r h fl:=by
 refine jx (fn:=PR) (hp 181 (by decide) (by decide)) rfl rfl rfl ?_;obtain⟨c,a1,f1,e1,ha1⟩:=qg0 (M:=M) (Q:=Q) (Pm:=Pm) (b:=b) (a:=0) (e:=0) (p:=1) (h:=[.row bP,fu b 0 0,pP,pP,.row bP,.row bP,pP,.row bP]) (fl:=0) hp hq hb (by omega) rfl (by simp);obtain⟨r,h,fl,e2,rfl,⟨a2,f2,rfl,ha2⟩,n2,rfl,hn2⟩:=GF (M:=M) (Q:=Q) (Pm:=Pm) (b:=b) (a:=a1) (e:=f1) (p:=1) (h:=[.row bP,fu b a1 f1,pP,pP,.row bP,.row bP,pP,.row bP,.row [.int .i64 (aD .i64 c.toNat),.str [],.str [],.int .u64 0]]) (fl:=0) hp hq 18446744073709551615 hb ha1 rfl (by simp);obtain⟨r,h,fl,e3,rfl,⟨a3,f3,rfl,ha3⟩,s3,rfl,hs3⟩:=QO (M:=M) (Q:=Q) (Pm:=Pm) (b:=b) (a:=a1) (e:=f1) (p:=1) (h:=[.row bP,fu b a1 f1,pP,pP,.row bP,.row bP,pP,.row bP,.row [.int .i64 (aD .i64 c.toNat),.str [],.str [],.int .u64 0]]) (fl:=0) hp hq 16 (by decide) hb ha1 rfl (by simp);obtain⟨r,h,fl,e4,rfl,⟨a4,f4,rfl,ha4⟩,s4,rfl,hs4⟩:=QO (M:=M) (Q:=Q) (Pm:=Pm) (b:=b) (a:=a3) (e:=f3) (p:=1) (h:=[.row bP,fu b a3 f3,pP,pP,.row bP,.row bP,pP,.row bP,.row [.int .i64 (aD .i64 c.toNat),.str s3,.str [],.int .u64 0]]) (fl:=0) hp hq 64 (by decide) hb ha3 rfl (by simp);simp[fu,pP,bP]at e1 e2 e3 e4;by_cases k1:aD .i64 (c.toNat:Int)=1
 ·simp only[k1]at e2;simp[k1,ni,zT,zY,AQ,zJ,S0,uV,hq,fu,pP,bP,e1,e2,cut];exact⟨rfl,⟨⟨1,[],[],n2⟩,rfl,by simp,by simp,n2,rfl,hn2⟩,a2,f2,rfl,ha2⟩
 by_cases k2:aD .i64 (c.toNat:Int)=2
 ·simp only[k2]at e3 e4;simp[k2,ni,zT,zY,AQ,zJ,FW,IU,I6,QC,uV,hq,fu,pP,bP,e1,e3,e4,cut];exact⟨rfl,⟨⟨2,s3,s4,0⟩,rfl,by simp;omega,by simp;omega,0,rfl,by decide⟩,a4,f4,rfl,ha4⟩
 by_cases k3:aD .i64 (c.toNat:Int)=3
 ·simp only[k3]at e3;simp[k3,ni,zT,zY,AQ,zJ,FW,Mb,IU,I6,uV,hq,fu,pP,bP,e1,e3,cut];exact⟨rfl,⟨⟨3,s3,[],0⟩,rfl,by simp;omega,by simp,0,rfl,by decide⟩,a3,f3,rfl,ha3⟩
 ·simp[ni,zT,zY,AQ,zJ,FW,Mb,uV,hq,fu,pP,bP,e1,k1,k2,k3,cut];exact⟨rfl,⟨⟨_,[],[],0⟩,rfl,by simp,by simp,0,rfl,by decide⟩,a1,f1,rfl,ha1⟩
theorem qlB(hp:aG Pm)(hq:cI Q):∃ r h fl,gF ah M Q Pm 180 [.agg [.ptr 1 0],.func 181 [.agg [.ptr 1 0]] [],.func 182 [] []] [.row bP,fu b 0 0,pP] 0=some (r,h,fl)∧PTk bP b (fun cs e=>∃ x:Ar,cs=bV x∧ArB x∧(e=0→BV x)) r h fl:=by
 refine jx (fn:=RX) (hp 180 (by decide) (by decide)) rfl rfl rfl ?_;obtain⟨r,h,fl,e1,rfl,⟨x,rfl,hB⟩,a,e,rfl,ha⟩:=qlq (M:=M) (Q:=Q) (Pm:=Pm) b hb hp hq;obtain⟨e3,h3⟩:=YO (M:=M) (Q:=Q) (Pm:=Pm) (b:=b) (a:=a) (e:=e) (p:=1) (h:=[.row bP,fu b a e,pP,pP,.row bP,.row bP,.row (bV x)]) (fl:=0) hp hq hb ha rfl (by simp);obtain⟨r,h,fl,h4,rfl,rfl,n,rfl,hK⟩:=qi1 (M:=M) hp hq x;simp[fu,pP,bP,bV]at e1 h3 h4;by_cases g1:e3=0
 ·by_cases g2:n=0
  ·simp[pz,Fw,DK,Fx,Fk,Fe,JW,ED,Sz,hq,fu,pP,bP,e1,h3,h4,g1,g2,cut];exact⟨rfl,⟨_,_,rfl,x,rfl,hB,fun _=>hK g2⟩,a,e,rfl⟩
  ·simp[pz,Fw,DK,Fx,Fk,Fe,JW,ED,Jo,hq,fu,pP,bP,e1,h3,h4,g1,g2,cut];exact⟨rfl,⟨_,_,rfl,⟨0,[],[],0⟩,rfl,⟨by simp,by simp,0,rfl,by decide⟩,fun h=>absurd h g2⟩,a,e,rfl⟩
 ·simp[pz,Fw,DK,Fx,Fk,Fe,ED,Jo,hq,fu,pP,bP,e1,h3,g1,cut];exact⟨rfl,⟨_,_,rfl,⟨0,[],[],0⟩,rfl,⟨by simp,by simp,0,rfl,by decide⟩,fun h=>absurd h g1⟩,a,e,rfl⟩
theorem qjc(hp:aG Pm)(hq:cI Q):∃ x:Ar,∃ e:Int,gF ah M Q Pm 117 [.sl 1 (az b)] [] 0=some (.aP [.agg (bV x),.int .i64 e],[],0)∧ArB x∧(e=0→BV x):=by
 have h1:=Wd (M:=M) hp hq b hb;obtain⟨r,h,fl,e1,rfl,⟨cs,e,rfl,x,rfl,hB,hK⟩,a,f,rfl⟩:=qlB (M:=M) (Q:=Q) (Pm:=Pm) b hb hp hq;simp[fu,pP,bP,bV]at e1 h1;cases b with
 |nil=>
  refine⟨x,e,bq hp rfl rfl ?_,hB,hK⟩;simp[nu,BM,zi,Jb,IB,hq,fu,pP,bP,bV,e1,h1,cut]
 |cons c r=>
  have e0:(az (c::r))[0]? =some (nZ c):=rfl;simp only[nZ]at e0;have ia:=fun s=>eC (s:=s) (w:=1) (k:=.i64) e0;simp at ia;by_cases q1:(c.toNat:Int)<1
  ·refine⟨⟨0,[],[],0⟩,1,bq hp rfl rfl ?_,⟨by simp,by simp,0,rfl,by decide⟩,fun h=>by simp at h⟩;simp[nu,BM,zi,Je,hq,bP,bV,ia,q1,cut]
  ·by_cases q2:(3:Int)<(c.toNat:Int)
   ·refine⟨⟨0,[],[],0⟩,1,bq hp rfl rfl ?_,⟨by simp,by simp,0,rfl,by decide⟩,fun h=>by simp at h⟩;simp[nu,BM,zi,Je,hq,bP,bV,ia,q1,q2,cut]
   ·refine⟨x,e,bq hp rfl rfl ?_,hB,hK⟩;simp[nu,BM,zi,Jb,IB,hq,fu,pP,bP,bV,ia,q1,q2,e1,h1,cut]
end
end Go.RE
