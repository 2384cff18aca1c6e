/- A part of a proof. -/
import Derived.Test.YtmpopachilfinaaGreatPart10
set_option linter.unusedVariables false
set_option linter.unusedSimpArgs false
set_option linter.unnecessarySimpa false
namespace Go.RE
def YO(kk:iG)(i:Nat)(k v:U)(s:Vs):Option Uo→Option (U×Vs)
 |some (.map es clock)=>bif dL kk k then
      (let fl:=bif v.low (i+1)then s.fl else s.h.length
      match oD kk k es 0 with
      |some (some (j,_))=>some (.aZ [],{s with h:=s.h.set i (.map (pQ j (fun e=>(k,v,e.2.2)) es) clock),fl:=fl})
      |some none=>some (.aZ [],{s with h:=s.h.set i (.map (es++[(k,v,clock)]) (clock+1)),fl:=fl})
      |none=>none)else none
 |_=>none
def muX(kk:iG)(i:Nat)(k:U):Option (U×Vs)→Option (U×Vs)
 |some (v,s)=>YO kk i k v s s.h[i]?
 |none=>none
@[simp] theorem qhY(kk:iG)(i:Nat)(k v:U)(s:Vs):muX kk i k (some (v,s))=YO kk i k v s s.h[i]? :=rfl
def muK(kk:iG)(i:Nat)(x:bO):Option (U×Vs)→Option (U×Vs)
 |some (k,s)=>muX kk i k (gb x s)
 |none=>none
@[simp] theorem qhW(kk:iG)(i:Nat)(x:bO)(k:U)(s:Vs):muK kk i x (some (k,s))=muX kk i k (gb x s):=rfl
def muM(kk:iG)(k x:bO):Option (U×Vs)→Option (U×Vs)
 |some (.map i,s)=>muK kk i x (gb k s)
 |_=>none
@[simp] theorem qhX(kk:iG)(k x:bO)(i:Nat)(s:Vs):muM kk k x (some (.map i,s))=muK kk i x (gb k s):=rfl
@[simp] theorem YQ(d:Nat)(s:Vs)(kk:iG)(m k x:bO):qE d s (.mapUpdate kk m k x)=muM kk k x (gb m s):=by
 simp only[qE];cases gb m s with
 |none=>rfl
 |some p=>
  obtain⟨u,s1⟩:=p;cases u with
  |map i=>
   simp only[muM];cases gb k s1 with
   |none=>rfl
   |some p=>
    obtain⟨k,s2⟩:=p;simp only[muK];cases gb x s2 with
    |none=>rfl
    |some p=>
     obtain⟨v,s3⟩:=p;simp only[muX];cases s3.h[i]? with
     |none=>rfl
     |some o=>cases o<;>rfl
  |_=>rfl
def K4(kk:iG)(i:Nat)(k:U)(s:Vs):Option Uo→Option (U×Vs)
 |some (.map es clock)=>bif dL kk k then(match oD kk k es 0 with
    |some (some (j,_))=>some (.aZ [],{s with h:=s.h.set i (.map (hU j es) clock)})
    |some none=>some (.aZ [],s)
    |none=>none)else none
 |_=>none
def qdw(s:Vs)(kk:iG):Option U→Option U→Option (U×Vs)
 |some .bS,some k=>bif dL kk k then some (.aZ [],s)else none
 |some (.map i),some k=>K4 kk i k s s.h[i]?
 |_,_=>none
@[simp] theorem qhf(s:Vs)(kk:iG)(i:Nat)(k:U):qdw s kk (some (.map i)) (some k)=K4 kk i k s s.h[i]? :=rfl
@[simp] theorem qeg(d:Nat)(s:Vs)(kk:iG)(m k:bO):qE d s (.delete kk m k)=qdw s kk (cA s.e m) (cA s.e k):=by
 simp only[qE];cases cA s.e m with
 |none=>rfl
 |some u=>
  cases cA s.e k with
  |none=>cases u<;>rfl
  |some k=>
   cases u with
   |map i=>
    simp only[qdw];cases s.h[i]? with
    |none=>rfl
    |some o=>cases o<;>rfl
   |_=>rfl
structure Mk(α κ:Type)[DecidableEq κ] where
 kk:iG
 kf:κ→U
 key:α→κ
 val:α→U
 eq:∀ x y,fS kk (kf x) (kf y)=some (decide (x=y))
 pk:∀ x,dL kk (kf x)=true
section
variable{α κ:Type}[DecidableEq κ](F:Mk α κ)
def vg(x:α×Nat):U×U×Nat:=(F.kf (F.key x.1),F.val x.1,x.2)
structure vO(lc:List (α×Nat))(c:Nat):Prop where
 Jq:(lc.map (·.2)).Nodup
 lt:∀ x∈lc,x.2<c
 keys:(lc.map fun x=>F.key x.1).Nodup
def kQ(o:Option Uo)(l:List α):Prop:=∃ (lc:List (α×Nat)) (c:Nat),lc.map (·.1)=l∧o=some (.map (lc.map (vg F)) c)∧vO F lc c
def fW(k:κ)(l:List α):Option α:=l.find? fun a=>decide (F.key a=k)
def uz(a:α):List α→List α
 |[]=>[]
 |b::r=>bif decide (F.key b=F.key a)then a::r else b::uz a r
def jE(k:κ):List α→List α
 |[]=>[]
 |b::r=>bif decide (F.key b=k)then r else b::jE k r
def mb(a:α)(l:List α):List α:=bif(fW F (F.key a) l).isSome then uz F a l else l++[a]
theorem FW(k:κ):∀ (lc:List (α×Nat)) (j:Nat),(fW F k (lc.map (·.1))=none∧oD F.kk (F.kf k) (lc.map (vg F)) j=some none)∨
  ∃ i a,fW F k (lc.map (·.1))=some a∧oD F.kk (F.kf k) (lc.map (vg F)) j=some (some (j+i,F.val a))∧
   (∀ b:α,F.key b=k→∃ lc' :List (α×Nat),lc'.map (·.1)=uz F b (lc.map (·.1))∧lc'.map (·.2)=lc.map (·.2)∧(lc'.map fun x=>F.key x.1)=(lc.map fun x=>F.key x.1)∧pQ i (fun e=>(F.kf k,F.val b,e.2.2)) (lc.map (vg F))=lc'.map (vg F))∧
   ∃ lc' :List (α×Nat),lc'.map (·.1)=jE F k (lc.map (·.1))∧lc'.Sublist lc∧hU i (lc.map (vg F))=lc'.map (vg F):=by
 intro lc
 induction lc with
 |nil=>intro j;left;exact⟨rfl,rfl⟩
 |cons x r ih=>
  intro j;have hf:oD F.kk (F.kf k) ((x::r).map (vg F)) j=(match fS F.kk (F.kf k) (F.kf (F.key x.1))with
   |some true=>some (some (j,F.val x.1))
   |some false=>oD F.kk (F.kf k) (r.map (vg F)) (j+1)
   |none=>none):=rfl
  rw[F.eq]at hf;by_cases hk:F.key x.1=k
  ·right;have hk' :decide (k=F.key x.1)=true:=decide_eq_true hk.symm;rw[hk']at hf;refine⟨0,x.1,by simp[fW,kO,hk],hf,fun b hb=>⟨(b,x.2)::r,?_,rfl,?_,?_⟩,r,?_,PL _ _,rfl⟩
   ·simp[uz,hk,hb]
   ·simp[hk,hb]
   ·simp[pQ,vg,hb]
   ·simp[jE,hk]
  ·have hk' :decide (k=F.key x.1)=false:=decide_eq_false fun h=>hk h.symm;rw[hk']at hf;have hl:fW F k ((x::r).map (·.1))=fW F k (r.map (·.1)):=by simp[fW,kO,hk]
   rcases ih (j+1)with⟨h1,h2⟩|⟨i,a,h1,h2,h3,h4⟩
   ·left;exact⟨by rw[hl];exact h1,by rw[hf];exact h2⟩
   ·right;refine⟨i+1,a,by rw[hl];exact h1,by rw[hf];simp only;rw[h2];simp only[ag,ay,and_true];omega,fun b hb=> ?_,?_⟩
    ·obtain⟨lc',q1,q2,q3,q4⟩:=h3 b hb;refine⟨x::lc',?_,?_,?_,?_⟩
     ·simp only[ct,uz,hb,hk,decide_false,cond_false];rw[q1]
     ·simp only[ct];rw[q2]
     ·simp only[ct];rw[q3]
     ·simp only[ct,pQ];rw[q4]
    ·obtain⟨lc',q1,q2,q3⟩:=h4;refine⟨x::lc',?_,q2.cons_cons x,?_⟩
     ·simp only[ct,jE,hk,decide_false,cond_false];rw[q1]
     ·simp only[ct,hU];rw[q3]
theorem NU{k:κ}{l:List α}{a:α}(h:fW F k l=some a):F.key a=k:=by
 have:=List.find?_some h;simpa using this
theorem lM{k:κ}{l:List α}{a:α}(h:fW F k l=some a):a∈l:=qc0 h
theorem nS{l:List α}{m:Nat}{s:Vs}(h:kQ F s.h[m]? l)(z:U)(k:κ)(ok:Bool):
  fQ s F.kk z ok (.map m) (F.kf k)=some (match fW F k l with|some a=>bif ok then .aZ [F.val a,.bool true]else F.val a|none=>bif ok then .aZ [z,.bool false]else z):=by
 obtain⟨lc,c,rfl,ho,_⟩:=h;simp only[fQ,ho,F.pk,cond_true];rcases FW F k lc 0 with⟨h1,h2⟩|⟨i,a,h1,h2,_⟩<;>rw[h1,h2]
theorem ZO{l:List α}{m:Nat}{s:Vs}(h:kQ F s.h[m]? l):QH s 2 (.map m)=some l.length:=by
 obtain⟨lc,c,rfl,ho,_⟩:=h;simp[QH,ho]
theorem map_set{l:List α}{o:Option Uo}(h:kQ F o l)(a:α):∃ o',kQ F (some o') (mb F a l)∧
  ∀ (m:Nat) (s:Vs),YO F.kk m (F.kf (F.key a)) (F.val a) s o=some (.aZ [],⟨s.e,s.h.set m o',bif(F.val a).low (m+1)then s.fl else s.h.length⟩):=by
 obtain⟨lc,c,rfl,ho,hc⟩:=h;subst ho;rcases FW F (F.key a) lc 0 with⟨h1,h2⟩|⟨i,b,h1,h2,h3,_⟩
 ·refine⟨.map ((lc++[(a,c)]).map (vg F)) (c+1),⟨lc++[(a,c)],c+1,?_,rfl,?_,?_,?_⟩,fun m s=> ?_⟩
  ·simp[mb,h1]
  ·simp only[mR,ct,jY,DV];refine⟨hc.Jq,by simp,fun x hx y hy=> ?_⟩;simp only[bT,fu,or_false]at hy;obtain⟨z,hz,rfl⟩:=cD.1 hx;have:=hc.lt z hz;omega
  ·intro x hx;rcases eH.1 hx with hx|hx
   ·have:=hc.lt x hx;omega
   ·simp only[bT,fu,or_false]at hx;subst hx;simp
  ·simp only[mR,ct,jY,DV];refine⟨hc.keys,by simp,fun x hx y hy=> ?_⟩;simp only[bT,fu,or_false]at hy;subst hy;obtain⟨z,hz,rfl⟩:=cD.1 hx;intro he;have:=KC.1 h1 z.1 (cD.2 ⟨z,hz,rfl⟩);simp[he]at this
  ·simp only[YO,F.pk,cond_true,h2,mR,ct,jY,vg]
 ·obtain⟨lc',q1,q2,q3,q4⟩:=h3 a rfl;refine⟨.map (lc'.map (vg F)) c,⟨lc',c,?_,rfl,?_,?_,?_⟩,fun m s=> ?_⟩
  ·simp[mb,h1,q1]
  ·rw[q2];exact hc.Jq
  ·intro x hx;have:x.2∈lc'.map (·.2):=cD.2 ⟨x,hx,rfl⟩;rw[q2]at this;obtain⟨y,hy,he⟩:=cD.1 this;rw[←he];exact hc.lt y hy
  ·rw[q3];exact hc.keys
  ·simp only[YO,F.pk,cond_true,h2,kF,q4]
theorem N4{l:List α}{o:Option Uo}(h:kQ F o l)(k:κ):∃ o',kQ F (some o') (jE F k l)∧
  ∀ (m:Nat) (s:Vs),s.h[m]? =o→K4 F.kk m (F.kf k) s o=some (.aZ [],⟨s.e,s.h.set m o',s.fl⟩):=by
 obtain⟨lc,c,rfl,ho,hc⟩:=h;subst ho;rcases FW F k lc 0 with⟨h1,h2⟩|⟨i,b,h1,h2,_,lc',q1,q2,q3⟩
 ·have hd:∀ l:List α,fW F k l=none→jE F k l=l:=by
   intro l
   induction l with
   |nil=>intro _;rfl
   |cons b r ih=>
    intro hh;simp only[fW,kO]at hh;by_cases hb:F.key b=k
    ·simp[hb]at hh
    ·simp only[hb,decide_false]at hh;simp only[jE,hb,decide_false,cond_false];rw[ih hh]
  refine⟨.map (lc.map (vg F)) c,⟨lc,c,(hd _ h1).symm,rfl,hc⟩,fun m s hs=> ?_⟩;have hset:s.h.set m (.map (lc.map (vg F)) c)=s.h:=by
   obtain⟨hlt,he⟩:=aH.1 hs;rw[←he];exact PX hlt
  simp only[K4,F.pk,cond_true,h2,hset]
 ·refine⟨.map (lc'.map (vg F)) c,⟨lc',c,q1,rfl,?_,?_,?_⟩,fun m s hs=> ?_⟩
  ·exact qk (q2.map _) hc.Jq
  ·exact fun x hx=>hc.lt x (q2.subset hx)
  ·exact qk (q2.map _) hc.keys
  ·simp only[K4,F.pk,cond_true,h2,kF,q3]
theorem wj:kQ F (some (.map [] 0)) []:=⟨[],0,rfl,rfl,⟨FC,fun x hx=>(fu hx).elim,FC⟩⟩
end
theorem Qc{es:List (U×U×Nat)}{c:Nat}(hlt:∀ e∈es,e.2.2<c){seen:List Nat}{x:Option (U×U×Nat)}(hx:x∈uT es c seen):
  (x=none∧∀ e∈es,e.2.2∈seen)∨∃ e∈es,e.2.2 ∉ seen∧x=some e:=by
 unfold uT at hx;simp only[eH]at hx;rcases hx with hx|hx
 ·left;cases hq:(List.filter (fun e:U×U×Nat=>Nat.blt e.2.2 c) (List.filter (fun e:U×U×Nat=> !seen.contains e.2.2) es)).isEmpty with
  |false=>rw[hq]at hx;simp at hx
  |true=>
   rw[hq]at hx;simp at hx;refine⟨hx,fun e he=> ?_⟩;rw[List.isEmpty_iff]at hq;apply qc4;intro hne;have:e∈List.filter (fun e:U×U×Nat=>Nat.blt e.2.2 c) (List.filter (fun e:U×U×Nat=> !seen.contains e.2.2) es):=by
    rw[qg,qg];exact⟨⟨he,by simp[hne]⟩,by simp[hlt e he]⟩
   rw[hq]at this;cases this
 ·right;rw[cD]at hx;obtain⟨y,hy,rfl⟩:=hx;rw[eH,qg,qg]at hy;have hm:y∈List.filter (fun e:U×U×Nat=> !seen.contains e.2.2) es:=by
   rcases hy with hy|hy
   ·exact qg.2 hy.1
   ·exact(qg.1 hy).1
  rw[qg]at hm;exact⟨y,hm.1,by simpa using hm.2,rfl⟩
theorem pR{es:List (U×U×Nat)}{c m:Nat}{h:List Uo}{fl:Nat}{e:Env}{dst:Option Nat}{x:bO}{k:Vs→Prop}{seen:List Nat}(hx:cA e x=some (.ptr h.length 0))(hm:h[m]? =some (.map es c))(hlt:∀ a∈es,a.2.2<c)
  (hend:(∀ a∈es,a.2.2∈seen)→k ⟨js dst (.aZ [.bool false]) e,h++[.iter (some m) c seen c],fl⟩)
  (hstep:∀ a∈es,a.2.2 ∉ seen→k ⟨js dst (.aZ [.bool true,a.1,a.2.1]) e,h++[.iter (some m) c (seen++[a.2.2]) c],fl⟩):
  iQ ⟨e,h++[.iter (some m) c seen c],fl⟩ dst x k:=by
 unfold iQ;simp only[hx,Rz,aX hm];refine⟨?_,fun y hy=> ?_⟩
 ·cases es with
  |nil=>simp
  |cons a r=>
   have:=hlt a (by simp);have hb:Nat.ble c a.2.2=false:=by
    cases hq:Nat.ble c a.2.2 with
    |false=>rfl
    |true=>have:=dY hq;omega
   simp[hb];intro _ h2;omega
 ·rcases Qc hlt hy with⟨rfl,hall⟩|⟨a,ha,hn,rfl⟩
  ·exact hend hall
  ·have:=hstep a ha hn;simp only[Jp,To];exact this
theorem ye{es:List (U×U×Nat)}{c m:Nat}{h:List Uo}{fl:Nat}{e:Env}{seen:List Nat}(hm:h[m]? =some (.map es c))(hn:(es.map (·.2.2)).Nodup){a:U×U×Nat}(ha:a∈es):
  nC ⟨e,h++[.iter (some m) c (seen++[a.2.2]) c],fl⟩ h.length=some (.aZ [a.1,a.2.1]):=by
 have hf:es.find? (fun x=>Nat.beq x.2.2 a.2.2)=some a:=by
  clear hm
  induction es with
  |nil=>cases ha
  |cons b r ih=>
   rw[kO];simp only[ct,ql]at hn;rcases bT.1 ha with rfl|ha
   ·simp
   ·have hne:b.2.2≠a.2.2:=fun hh=>hn.1 (by rw[hh];exact cD.2 ⟨a,ha,rfl⟩);have:Nat.beq b.2.2 a.2.2=false:=by simp[hne]
    rw[this];exact ih hn.2 ha
 simp only[nC,Rz,aX hm,List.getLast?_concat,fq,cond_true,hf]
end Go.RE
namespace Go.RE
structure Lm where
 keys:Nat
 gW:Nat
 bytes:Nat
 marks:Nat
 records:Nat
 live:Nat
 last:Nat
structure Db where
 lim:Lm
 now:Nat
 keys:List By
 of:List (By×List jb)
 sk:Nat
 sv:Nat
 sb:Nat
def kC(b:By):List U:=[.str b]
@[simp] theorem qih(l:List By):mM 1 (l.map kC)=true:=QY (fun _=>rfl) l
theorem zP(x y:By):fS .str (.str x) (.str y)=some (decide (x=y)):=by
 have:fS .str (.str x) (.str y)=some (x==y):=rfl;rw[this];congr 1;cases h:x==y with
 |true=>exact(decide_eq_true (eq_of_beq h)).symm
 |false=>exact(decide_eq_false (fun hh=>by subst hh;rw[beq_self_eq_true]at h;cases h)).symm
theorem Jv(x y:Int):fS .int (.int .i64 x) (.int .i64 y)=some (decide (x=y)):=rfl
def lJ:Mk (By×List jb) By:=⟨.str,.str,(·.1),fun x=> .sl 3 (x.2.map b8),zP,fun _=>rfl⟩
def chain(d:Db)(k:By):List jb:=((fW lJ k d.of).map (·.2)).getD []
def dD(d:Db)(o:Nat)(ks:U):List U:=
 [.int .i64 d.lim.keys,.int .i64 d.lim.gW,.int .i64 d.lim.bytes,.int .i64 d.lim.marks,.int .i64 d.lim.records,.int .i64 d.lim.live,.int .u64 d.lim.last,.int .u64 d.now,ks,.map o,.int .i64 d.sk,.int .i64 d.sv,.int .i64 d.sb]
structure fA(h:List Uo)(s o:Nat)(d:Db)(ks:U):Prop where
 row:h[s]? =some (.row (dD d o ks))
 map:kQ lJ h[o]? d.of
structure pG(d:Db):Prop where
 keys:d.keys.length<small
 uy:∀ k∈d.keys,k.length<small
 of:∀ x∈d.of,oC x.2
 Gx:∀ x∈d.of,cR x.2<small
theorem ny{d:Db}(hd:pG d)(k:By):oC (chain d k):=by
 unfold chain;cases h:fW lJ k d.of with
 |none=>exact⟨by decide,fun v hv=>(fu hv).elim⟩
 |some x=>exact hd.of x (lM _ h)
theorem t99{h:List Uo}{s o:Nat}{d:Db}{ks:U}(fl:Nat)(hf:fl≤h.length)(hs:h[s]? =some (.row (dD d o ks))):G 99 [.ptr s 0] h fl=some (.bool true,h,fl):=by
 refine bK (fn:=v99) rfl rfl rfl ?_;simp only[dD]at hs;simp[DI,qcW,qcX,hs,aR hf]
theorem t55{h:List Uo}{s o:Nat}{d:Db}{ks:U}(fl:Nat)(hf:fl≤h.length)(hs:h[s]? =some (.row (dD d o ks))):G 55 [.ptr s 0] h fl=some (.int .u64 (d.now:Int),h,fl):=by
 refine bK (fn:=v55) rfl rfl rfl ?_;have c:=t99 fl hf hs;have hl:decide (s<h.length)=true:=decide_eq_true (aH.1 hs).1;simp only[dD]at hs;simp[Dt,qco,qcp,qcq,c,hl,hs,aR hf]
theorem t114{h:List Uo}{s o:Nat}{d:Db}{ks:U}(fl:Nat)(hf:fl≤h.length)(hs:fA h s o d ks)(k:By):G 114 [.ptr s 0,.str k] h fl=some (.sl 3 ((chain d k).map b8),h,fl):=by
 refine bK (fn:=Ul) rfl rfl rfl ?_;have c:=t99 fl hf hs.row;have hl:decide (s<h.length)=true:=decide_eq_true (aH.1 hs.row).1;have hr:=hs.row;have lk:∀ e,fQ ⟨e,h,fl⟩ .str (.sl 3 []) false (.map o) (.str k)=some (.sl 3 ((chain d k).map b8)):=fun e=>by
  have:=nS lJ (s:=⟨e,h,fl⟩) (m:=o) hs.map (.sl 3 []) k false;refine this.trans ?_;unfold chain;cases fW lJ k d.of<;>rfl
 have hz:V.GG (.ah [] 0 0 3)=some (.sl 3 []):=rfl;simp only[dD]at hr;simp[yL,Um,Un,Uq,c,hl,hr,lk,hz,aR hf]
theorem t77{h:List Uo}{s o:Nat}{d:Db}{ks:U}(fl:Nat)(hf:fl≤h.length)(hs:fA h s o d ks)(hd:pG d)(k:By)(t:Nat):G 77 [.ptr s 0,.str k,.int .u64 (t:Int)] h fl=some (uA (jI (chain d k) t),h,fl):=by
 refine bK (fn:=v77) rfl rfl rfl ?_;have c:=t114 fl hf hs k;have c2:=t113 (chain d k) t (ny hd k);have hl:decide (s<h.length)=true:=decide_eq_true (aH.1 hs.row).1;simp only[uA]at c2;simp[DE,qcK,qcL,c,c2,hl,uA,aR hf]
theorem t138{h:List Uo}{s o:Nat}{d:Db}{ks:U}(fl:Nat)(hf:fl≤h.length)(hs:fA h s o d ks)(hd:pG d)(k:By):G 138 [.ptr s 0,.str k] h fl=some (.int .u64 (gG (chain d k):Nat),h,fl):=by
 refine bK (fn:=v138) rfl rfl rfl ?_;have c:=t114 fl hf hs k;have c2:=t189 (chain d k) (ny hd k).1;have hl:decide (s<h.length)=true:=decide_eq_true (aH.1 hs.row).1;simp[yN,UI,UJ,c,c2,hl,aR hf]
@[simp] theorem qfF(n:Nat):j8 .shr .no (.int .u64 (n:Int)) (.int .u64 1)=some (.int .u64 (half n:Nat)):=by
 show yz .shr .u64 (n:Int) 1=_;have e:((n:Int)).fdiv (2 ^ (min (1:Int).toNat IntKind.u64.bits))=((half n:Nat):Int):=by
  show(n:Int).fdiv 2=_;rw[Int.fdiv_eq_ediv_of_nonneg _ (by decide)];unfold half;omega
 simp only[yz,e];rfl
theorem t148(ks:List By)(i:Nat)(lo:By)(hi:i<ks.length):G 148 [.int .i64 (i:Int),.ptr 0 0,.ptr 1 0] [.row [.sl 1 (ks.map kC)],.row [.str lo]] 0=some (.bool (!lt (ks[i]?.getD []) lo),[.row [.sl 1 (ks.map kC)],.row [.str lo]],0):=by
 refine bK (fn:=v148) rfl rfl rfl ?_;have e1:(ks.map kC)[i]? =some [.str (ks[i]?.getD [])]:=by simp[kC,hi]
 simp[yW,Vj,az qaw,Hg,bq e1,bF]
def om(ks:List By)(lo:By):Nat:=pK (fun j=>lt (ks[j]?.getD []) lo) (ks.length+1) 0 ks.length
theorem Im{n:Nat}(h:n≤18446744073709551615):aK .u64 (n:Int)=(n:Int):=by
 show(bif Nat.ble n (B5 .u64)then Int.ofNat n else _)=_;have:Nat.ble n (B5 .u64)=true:=jA h;rw[this];rfl
theorem qeY(ks:List By)(lo:By)(hl:ks.length<small):∀ (f i j:Nat),j≤ks.length→i≤j→j - i<f→
  gL bu mT qT pT CV 0 Hf 2 ⟨[(1,.func 148 [] [.ptr 0 0,.ptr 1 0]),(6,.int .i64 (j:Int)),(5,.int .i64 (i:Int))],[.row [.sl 1 (ks.map kC)],.row [.str lo]],0⟩
   (gV bu mT qT pT CV (.seq (.region Mx) .ret) (kE 2 CV (.int .i64 (pK (fun j=>lt (ks[j]?.getD []) lo) f i j:Nat),[.row [.sl 1 (ks.map kC)],.row [.str lo]],0))):=by
 intro f
 induction f with
 |zero=>intro i j _ _ hh;omega
 |succ f ih=>
  intro i j h1 h2 h3;rw[ai Hf.eq_1];by_cases hlt:i<j
  ·have c1:(i:Int)<(j:Int):=by omega
   obtain⟨m,hm⟩:∃ m,m=(i+j) / 2:=⟨_,rfl⟩;have hmid:m<ks.length:=by omega
   obtain⟨n,hn⟩:∃ n,n=i+j:=⟨_,rfl⟩;have e0:(i:Int)+(j:Int)=(n:Int):=by omega
   have e1:aK .i64 (n:Int)=(n:Int):=fL (by unfold small at hl;omega);have e2:aK .u64 (n:Int)=(n:Int):=Im (by unfold small at hl;omega);have e3:aK .i64 (half n:Nat)=((m:Nat):Int):=by
    rw[show half n=m by unfold half;omega];exact fL (by unfold small at hl;omega)
   have e4:aK .i64 (((m:Nat):Int)+1)=((m+1:Nat):Int):=fC (by unfold small at hl;omega);have hx:=t148 ks m lo hmid;simp only[pK,decide_eq_true hlt,cond_true,←hm];cases hp:lt (ks[m]?.getD []) lo with
   |true=>
    rw[hp]at hx;have ih' :=ih (m+1) j h1 (by omega) (by omega);simp[He,Mv,Mw,Vh,c1,e0,e1,e2,e3,e4,hx];exact ih'
   |false=>
    rw[hp]at hx;have ih' :=ih i m (by omega) (by omega) (by omega);simp[He,Mv,Mw,Vi,c1,e0,e1,e2,e3,e4,hx];exact ih'
  ·have c1:¬(i:Int)<(j:Int):=by omega
   simp only[pK,decide_eq_false hlt,cond_false];simp[He,Mx,c1]
theorem t106(ks:List By)(lo:By)(hl:ks.length<small):G 106 [.sl 1 (ks.map kC),.str lo] [] 0=some (.int .i64 (om ks lo:Nat),[],0):=by
 refine bK (fn:=T9) rfl rfl rfl ?_;have h147:G 147 [.int .i64 (ks.length:Int),.func 148 [] [.ptr 0 0,.ptr 1 0]] [.row [.sl 1 (ks.map kC)],.row [.str lo]] 0=some (.int .i64 (om ks lo:Nat),[.row [.sl 1 (ks.map kC)],.row [.str lo]],0):=by
  refine bK (fn:=CV) rfl rfl rfl ?_;have:=qeY ks lo hl (ks.length+1) 0 ks.length (ak _) (bU _) (by omega);simp[yV,Vf,Vg];exact this
 simp[yI,Ua,Ub,h147]
def mO(d:Db)(hi:By)(t:Nat):List By→List (By×By)
 |[]=>[]
 |k::r=>bif !hi.isEmpty&& !lt k hi then[]else(match jI (chain d k) t with|some b=>[(k,b)]|none=>[])++mO d hi t r
def iA(d:Db)(lo hi:By)(t:Nat):List (By×By):=mO d hi t (d.keys.drop (om d.keys lo))
def rH(p:By×By):List U:=[.str p.1,.sl 1 (bM p.2)]
theorem GB(ks:List By)(lo:By):om ks lo≤ks.length:=(fM _ _ _ _ (bU _)).2
theorem fA.ne{h:List Uo}{s o:Nat}{d:Db}{ks:U}(hs:fA h s o d ks):s≠o:=by
 rintro rfl;obtain⟨lc,c,_,ho,_⟩:=hs.map;rw[hs.row]at ho;cases ho
theorem fA.mF{h:List Uo}{s o:Nat}{d:Db}{ks ks' :U}(hs:fA h s o d ks):fA (h.set s (.row (dD d o ks'))) s o d ks' :=
 ⟨eX (aH.1 hs.row).1,by rw[dP hs.ne];exact hs.map⟩
theorem Gw{h:List Uo}{s:Nat}{x:Uo}(hs:h[s]? =some x):h.set s x=h:=by
 obtain⟨h1,h2⟩:=aH.1 hs;rw[←h2];exact PX h1
theorem qiM{h:List Uo}{s o:Nat}{d:Db}(fl:Nat)(hf:fl≤h.length)(hs:fA h s o d (.bJ 1 (d.keys.map kC)))(hd:pG d)(hi:By)(t lo len:Nat)(hlo:lo+len=d.keys.length):
  ∀ (j i:Nat) (out:List (By×By)),i+j=len→out.length≤i→
  gL bu mT qT pT v64 0 xI h.length ⟨[(9,.own (.t 9) 2 (out.map rH)),(29,.int .i64 (i:Int)),(3,.int .u64 (t:Int)),(0,.ptr s 0),(2,.str hi),(27,.view (.c s 8) lo len 1),(28,.int .i64 (len:Int))],h,fl⟩
   (gV bu mT qT pT v64 (.seq (.region Dy) .ret) (kE h.length v64 (.own .r 2 ((out++mO d hi t (d.keys.drop (lo+i))).map rH),h,fl))):=by
 have hl:decide (s<h.length)=true:=decide_eq_true (aH.1 hs.row).1;have hlt:=(aH.1 hs.row).1;have hr:=hs.row;simp only[dD]at hr;intro j
 induction j with
 |zero=>
  intro i out hij ho;have h1:¬((i:Int)<(len:Int)):=by omega
  have h2:d.keys.drop (lo+i)=[]:=xN (by omega);rw[ai xI.eq_1,h2];simp[zZ,Dy,h1,aR hf,mO]
 |succ j ih=>
  intro i out hij ho;have h1:((i:Int)<(len:Int)):=by omega
  have e3:aK .i64 ((i:Int)+1)=((i+1:Nat):Int):=fC (by have:=hd.keys;unfold small at this;omega);have hik:lo+i<d.keys.length:=by omega
  obtain⟨k,hk⟩:∃ k,d.keys[lo+i]? =some k:=⟨_,aQ hik⟩;have e1:(d.keys.map kC)[lo+i]? =some [.str k]:=by simp[kC,hk]
  have d1:d.keys.drop (lo+i)=k::d.keys.drop (lo+(i+1)):=by
   rw[Pz hik,show lo+i+1=lo+(i+1) by omega];congr 1;rw[aQ hik]at hk;exact qh hk
  have c:=t77 fl (by simpa using hf) (hs.mF (ks' :=.dB)) hd k t;have ia:∀ s',rF s' 1 (some (.view (.c s 8) lo len 1)) (some (.int .i64 (i:Int)))=some (.bI (.c s 8) (lo+i) 0,s'):=fun s' =>SB (by omega);have hss:∀ X:Uo,(h.set s X)[s]? =some X:=fun X=>eX hlt;have hself:=Gw hr;generalize hX:d.keys.map kC=X at*;rw[ai xI.eq_1,d1,mO];simp only[dD]at c;cases hb:hi.isEmpty with
  |true=>
   simp only[xR,Yn,cond_false];cases hg:jI (chain d k) t with
   |none=>
    have ih' :=ih (i+1) out (by omega) (by omega);rw[hg]at c;simp only[uA]at c;simp[zZ,Fo,Fp,Km,Kn,Dx,h1,ia,hr,e1,e3,hb,c,hss,hself,hl,aR hf];simpa using ih'
   |some b=>
    have ih' :=ih (i+1) (out++[(k,b)]) (by omega) (by simp;omega);have b1:(out.length+1)*40≤bl∧out.length+1≤bl:=by have:=hd.keys;unfold small at this;unfold bl;omega
    rw[hg]at c;simp only[uA]at c;simp[rH]at ih';simp[zZ,Fo,Fp,Km,Kn,Nr,Dx,h1,ia,hr,e1,e3,hb,c,hss,hself,hl,aR hf,b1,rH];simpa using ih'
  |false=>
   cases hb2:lt k hi with
   |false=>simp[zZ,Fo,Fp,Dy,h1,ia,hr,e1,hb,hb2,aR hf]
   |true=>
    simp only[xR,Bool.and_false,cond_false];cases hg:jI (chain d k) t with
    |none=>
     have ih' :=ih (i+1) out (by omega) (by omega);rw[hg]at c;simp only[uA]at c;simp[zZ,Fo,Fp,Km,Kn,Dx,h1,ia,hr,e1,e3,hb,hb2,c,hss,hself,hl,aR hf];simpa using ih'
    |some b=>
     have ih' :=ih (i+1) (out++[(k,b)]) (by omega) (by simp;omega);have b1:(out.length+1)*40≤bl∧out.length+1≤bl:=by have:=hd.keys;unfold small at this;unfold bl;omega
     rw[hg]at c;simp only[uA]at c;simp[rH]at ih';simp[zZ,Fo,Fp,Km,Kn,Nr,Dx,h1,ia,hr,e1,e3,hb,hb2,c,hss,hself,hl,aR hf,b1,rH];simpa using ih'
def slN(s:Vs)(w:Nat):Option Nat→Option Nat→Option Nat→Option (U×Vs)
 |some 0,some 0,some 0=>some (.nl w,s)
 |_,_,_=>none
@[simp] theorem ql5(s:Vs)(w:Nat):slN s w (some 0) (some 0) (some 0)=some (.nl w,s):=rfl
@[simp] theorem qgC(d w:Nat)(lo hi mx:Option bO)(s:Vs):iT d w lo hi mx (.nl w) s=slN s w (bC s.e hi 0 0) (bC s.e mx 0 0) (bC s.e lo 0 0):=by
 simp only[iT,fq,cond_true];rfl
theorem t64{h:List Uo}{s o:Nat}{d:Db}{ks:U}(fl:Nat)(hf:fl≤h.length)(hs:fA h s o d ks)(hk:ks=.bJ 1 (d.keys.map kC)∨(ks=.nl 1∧d.keys=[]))(hd:pG d)(lo hi:By)(t:Nat):
  G 64 [.ptr s 0,.str lo,.str hi,.int .u64 (t:Int)] h fl=some (.own .r 2 ((iA d lo hi t).map rH),h,fl):=by
 refine bK (fn:=v64) rfl rfl rfl ?_;have hl:decide (s<h.length)=true:=decide_eq_true (aH.1 hs.row).1;have c0:=t99 fl hf hs.row;have c1:=t106 d.keys lo hd.keys;have hle:=GB d.keys lo;have hr:=hs.row;rcases hk with rfl|⟨rfl,hk⟩
 ·have a:=qiM fl hf hs hd hi t (om d.keys lo) (d.keys.length - om d.keys lo) (by omega) (d.keys.length - om d.keys lo) 0 [] (by omega) (by simp);have ek:ga (.int .i64 (om d.keys lo:Nat)) d.keys.length=some (om d.keys lo):=by
   show asNat (.int .i64 (om d.keys lo:Nat)) _=some _;simp only[asNat];rw[if_pos ⟨uQ _,by omega⟩];rfl
  simp only[dD]at hr;simp at a;simp[xJ,XL,XM,XN,az XO,Ns,c0,c1,hl,hr,ek,aR hf,bF,iA];exact a
 ·have hz:om d.keys lo=0:=by rw[hk]at hle;simp at hle;rw[hk];exact hle
  have c2:=t106 [] lo (by decide);rw[hk]at hz;rw[hz]at c2;simp only[dD]at hr;simp at c2;have e:iA d lo hi t=[]:=by unfold iA;rw[hk];simp[mO]
  rw[e];have e0:ga (.int .i64 0) 0=some 0:=rfl;simp[xJ,XL,XM,XN,az XO,Ns,c0,c2,hl,hr,e0,bF];rw[ai xI.eq_1];simp[zZ,Dy,aR hf]
end Go.RE
namespace Go.RE
theorem qab(l:List cU)(a m b:Nat)(h1:a<m)(h2:m<b)(h3:b≤l.length):Cm (b - a) m (m - a) (b - m) l=qG l a m b:=by
 have e:=n9 l a m b (by omega) (by omega);have l1:((l.drop a).take (m - a)).length=m - a:=by simp;omega
 have l2:((l.drop m).take (b - m)).length=b - m:=by simp;omega
 have l0:(l.take a).length=a:=by simp;omega
 unfold qG;generalize l.take a=A at*;generalize (l.drop a).take (m - a)=X at*;generalize (l.drop m).take (b - m)=Y at*;generalize l.drop b=D at*;subst e;exact Gu (b - a) m (m - a) (b - m) A X Y D (by omega) (by omega) (by omega) l1 l2 (by omega)
theorem Tk(l:List cU)(a m b:Nat)(h1:a≤m)(h2:m≤b):(qG l a m b).length=l.length:=(tM l a m b h1 h2).length_eq
def upL:Nat→Nat→List cU→List cU
 |0,_,l=>l
 |n+1,k,l=>upL n (k+1) (lG l k (k+1))
def dnL:Nat→Nat→List cU→List cU
 |0,_,l=>l
 |n+1,k,l=>dnL n (k - 1) (lG l k (k - 1))
theorem Oj:∀ (Y A C:List cU) (x:cU),upL Y.length A.length (A++x::(Y++C))=A++Y++x::C
 |[],A,C,x=>by simp[upL]
 |y::Y,A,C,x=>by
  rw[fV,upL];have e:=L8 A [] (Y++C) x y A.length (A.length+1) rfl (by simp);simp only[jZ,DS]at e⊢;rw[e];have ih:=Oj Y (A++[y]) C x;simp only[gX,List.length_singleton,gD,Ku,DS,jZ]at ih⊢;exact ih
theorem qfl(l:List cU)(a i:Nat)(h1:a<i)(h2:i≤l.length):upL (i - 1 - a) a l=qG l a (a+1) i:=by
 have e:=n9 l a (a+1) i (by omega) (by omega);have l1:((l.drop a).take (a+1 - a)).length=1:=by simp;omega
 have l2:((l.drop (a+1)).take (i - (a+1))).length=i - (a+1):=by simp;omega
 have l0:(l.take a).length=a:=by simp;omega
 unfold qG;generalize l.take a=A at*;generalize (l.drop a).take (a+1 - a)=X at*;generalize (l.drop (a+1)).take (i - (a+1))=Y at*;generalize l.drop i=D at*;subst e
 match X,l1 with
 |[x],_=>
  have:=Oj Y A D x;rw[show i - 1 - a=Y.length by omega];subst l0;simpa using this
theorem NB:∀ (n:Nat) (Y A C:List cU) (x:cU),Y.length=n→dnL n (A.length+n) (A++(Y++x::C))=A++x::(Y++C)
 |0,Y,A,C,x,h=>by
  have:=fT h;subst this;simp[dnL]
 |n+1,Y,A,C,x,h=>by
  have hy:Y≠[]:=by intro hh;rw[hh]at h;cases h
  obtain⟨Z,y,rfl⟩:∃ Z y,Y=Z++[y]:=⟨Y.dropLast,Y.getLast hy,(List.dropLast_concat_getLast hy).symm⟩;have hz:Z.length=n:=by simpa using h
  rw[dnL,show A.length+(n+1) - 1=A.length+n by omega];have e:=L8 (A++Z) [] C y x (A.length+n) (A.length+(n+1)) (by simp;omega) (by simp;omega);have sw:∀ (l:List cU) (i j:Nat),i≠j→lG l i j=lG l j i:=by
   intro l i j hij;unfold lG;rw[List.set_comm _ _ hij]
  rw[sw _ _ _ (by omega)];simp only[jZ,gD,Ku,DS]at e⊢;rw[e];have ih:=NB n Z A (y::C) x hz;simpa using ih
theorem qdx(l:List cU)(i m:Nat)(h1:i≤m)(h2:m<l.length):dnL (m - i) m l=qG l i m (m+1):=by
 have e:=n9 l i m (m+1) h1 (by omega);have l1:((l.drop m).take (m+1 - m)).length=1:=by simp;omega
 have l2:((l.drop i).take (m - i)).length=m - i:=by simp;omega
 have l0:(l.take i).length=i:=by simp;omega
 unfold qG;generalize l.take i=A at*;generalize (l.drop m).take (m+1 - m)=X at*;generalize (l.drop i).take (m - i)=Y at*;generalize l.drop (m+1)=D at*;subst e
 match X,l1 with
 |[x],_=>
  have:=NB (m - i) Y A D x l2;rw[show A.length+(m - i)=m by omega]at this;simpa using this
theorem CB(f:Nat)(l:List cU)(a m b:Nat)(h1:a≤m)(h2:m≤b)(h3:b≤l.length):(mH bg f l a m b).length=l.length:=(pY bg f l a m b h1 h2 h3).length_eq
theorem yB:∀ (f f' :Nat) (l:List cU) (a m b:Nat),a<m→m<b→b - a≤f→b - a≤f'→mH bg f l a m b=mH bg f' l a m b
 |0,f',l,a,m,b,h1,h2,h3,h4=>by omega
 |f+1,0,l,a,m,b,h1,h2,h3,h4=>by omega
 |f+1,f'+1,l,a,m,b,h1,h2,h3,h4=>by
  unfold mH;cases hd:decide (m - a=1)with
  |true=>rfl
  |false=>
   cases hd2:decide (b - m=1)with
   |true=>rfl
   |false=>
    have hs:∃ s0 r0,s0≤r0∧a≤s0∧r0≤m∧r0≤(a+b) / 2∧(bif decide ((a+b) / 2<m)then(a+b) / 2+m - b else a)=s0∧(bif decide ((a+b) / 2<m)then(a+b) / 2 else m)=r0:=by
     cases hm:decide ((a+b) / 2<m)with
     |true=>have:=of_decide_eq_true hm;exact⟨(a+b) / 2+m - b,(a+b) / 2,by omega,by omega,by omega,by omega,rfl,rfl⟩
     |false=>have:=of_decide_eq_false hm;exact⟨a,m,by omega,by omega,by omega,by omega,rfl,rfl⟩
    obtain⟨s0,r0,a1,a2,a3,a4,e1,e2⟩:=hs;simp only[cond_false];rw[e1,e2];obtain⟨b1,b2⟩:=fM (fun c=> !bg (l[(a+b) / 2+m - 1 - c]?.getD default) (l[c]?.getD default)) (r0 - s0) s0 r0 a1;generalize pK (fun c=> !bg (l[(a+b) / 2+m - 1 - c]?.getD default) (l[c]?.getD default)) (r0 - s0) s0 r0=s at b1 b2⊢;generalize (bif decide (s<m)&&decide (m<(a+b) / 2+m - s)then qG l s m ((a+b) / 2+m - s)else l)=l1;have p2:(bif decide (a<s)&&decide (s<(a+b) / 2)then mH bg f l1 a s ((a+b) / 2)else l1)=(bif decide (a<s)&&decide (s<(a+b) / 2)then mH bg f' l1 a s ((a+b) / 2)else l1):=by
     cases h:decide (a<s)&&decide (s<(a+b) / 2)with
     |true=>
      simp only[aI,decide_eq_true_eq]at h;exact yB f f' l1 a s _ h.1 h.2 (by omega) (by omega)
     |false=>rfl
    rw[p2];generalize (bif decide (a<s)&&decide (s<(a+b) / 2)then mH bg f' l1 a s ((a+b) / 2)else l1)=l2;cases h:decide ((a+b) / 2<(a+b) / 2+m - s)&&decide ((a+b) / 2+m - s<b)with
    |true=>
     simp only[aI,decide_eq_true_eq]at h;exact yB f f' l2 _ _ b h.1 h.2 (by omega) (by omega)
    |false=>rfl
theorem qac(c a m b:Nat)(l:List cU)(hL:l.length<small)(h1:a<m)(h2:m<b)(h3:b≤l.length):LX (l.map aS) [.int .i64 (a:Int),.int .i64 (m:Int),.int .i64 (b:Int),.func c [] []]=some ((qG l a m b).map aS):=by
 have e1:decide ((0:Int)≤(a:Int))=true:=decide_eq_true (by omega);have e2:decide ((a:Int)<(m:Int))=true:=decide_eq_true (by omega);have e3:decide ((m:Int)<(b:Int))=true:=decide_eq_true (by omega);have e4:decide ((b:Int)≤(l.length:Int))=true:=decide_eq_true (by omega);have e5:decide (l.length<small)=true:=decide_eq_true hL;rw[←qab l a m b h1 h2 h3];simp only[LX,pZ,e1,e2,e3,e4,e5,jh,cond_true];rfl
def yC(n:Nat)(xs:List (List U))(rest:List U):Option (List (List U)):=
 match rest with
 |[.int .i64 a,.int .i64 m,.int .i64 b,.func 192 [] []]=>match Am xs with
  |some l=>bif decide (0≤a)&&decide (a<m)&&decide (m<b)&&decide (b≤l.length)&&decide (l.length<small)&&decide (b.toNat - a.toNat≤n)then some ((mH bg (b.toNat - a.toNat) l a.toNat m.toNat b.toNat).map aS)else none
  |none=>none
 |_=>none
theorem GF(n a m b:Nat)(l:List cU)(hL:l.length<small)(h1:a<m)(h2:m<b)(h3:b≤l.length)(h4:b - a≤n)(f:Nat)(hf:b - a≤f):yC n (l.map aS) [.int .i64 (a:Int),.int .i64 (m:Int),.int .i64 (b:Int),.func 192 [] []]=some ((mH bg f l a m b).map aS):=by
 have e1:decide ((0:Int)≤(a:Int))=true:=decide_eq_true (by omega);have e2:decide ((a:Int)<(m:Int))=true:=decide_eq_true (by omega);have e3:decide ((m:Int)<(b:Int))=true:=decide_eq_true (by omega);have e4:decide ((b:Int)≤(l.length:Int))=true:=decide_eq_true (by omega);have e5:decide (l.length<small)=true:=decide_eq_true hL;have e6:decide ((b:Int).toNat - (a:Int).toNat≤n)=true:=decide_eq_true (by simpa using h4);rw[yB f (b - a) l a m b h1 h2 hf (ak _)];simp only[yC,pZ,e1,e2,e3,e4,e5,e6,jh,cond_true];rfl
def Qs(n:Nat):nu:=⟨fun f=>bif f==237 then some LX else bif f==234 then some (yC n)else none,fun _=>none,fun _=>false,fun _=>none⟩
@[simp] theorem qkn(n f:Nat):(Qs n).q f=bif f==237 then some LX else bif f==234 then some (yC n)else none:=rfl
@[simp] theorem qkl(n f:Nat):(Qs n).app f=none:=rfl
@[simp] theorem qlV(n f:Nat):(Qs n).ld f=false:=rfl
@[simp] theorem qkm(n f:Nat):(Qs n).KT f=none:=rfl
theorem tI{i j L:Nat}(hL:L<small)(hj:j≤L)(hlt:i<j):∃ k m:Nat,(i:Int)+(j:Int)=(k:Int)∧aK .i64 (k:Int)=(k:Int)∧aK .u64 (k:Int)=(k:Int)∧aK .i64 ((half k:Nat):Int)=(m:Int)∧aK .i64 ((m:Int)+1)=((m+1:Nat):Int)∧m=(i+j) / 2∧m<j∧i≤m:=by
 refine⟨i+j,(i+j) / 2,by omega,fL (by unfold small at hL;omega),Im (by unfold small at hL;omega),?_,fC (by unfold small at hL;omega),rfl,by omega,by omega⟩;rw[show half (i+j)=(i+j) / 2 by unfold half;rfl];exact fL (by unfold small at hL;omega)
theorem qe9(n a L:Nat)(hL:L<small)(l:List cU)(hl:l.length=L)(ha:a<L)(K:Ex→Vs→Prop)(R:Nat)
  (hK:K .normal ⟨[(0,.own .a 2 (l.map aS)),(10,.int .i64 (R:Int)),(1,.int .i64 (a:Int))],[],0⟩):∀ (f i j:Nat),i≤j→j≤L→j - i≤f→pK (fun h=>bg (l[h]?.getD default) (l[a]?.getD default)) f i j=R→
  gL bu mT (Qs n) pT v234 0 Bh 0 ⟨[(4,.func 192 [] []),(0,.own .a 2 (l.map aS)),(1,.int .i64 (a:Int)),(11,.int .i64 (j:Int)),(10,.int .i64 (i:Int))],[],0⟩ K:=by
 obtain⟨⟨u1,u2⟩,gq⟩:∃ r,l[a]? =some r:=⟨_,aQ (by omega)⟩;have gq' :(l.map aS)[a]? =some [.str u1,.str u2]:=by rw[gE,gq];rfl
 have ij:∀ s',rF s' 2 (some (.own .a 2 (l.map aS))) (some (.int .i64 (a:Int)))=some (.bI .a a 0,s'):=fun s' =>c9 (by simp;omega);intro f
 induction f with
 |zero=>
  intro i j h1 h2 h3 hR;have h0:¬((i:Int)<(j:Int)):=by omega
  rw[pK]at hR;subst hR;rw[ai Bh.eq_1];simp[Df,h0]at hK⊢;simpa using hK
 |succ f ih=>
  intro i j h1 h2 h3 hR;rw[ai Bh.eq_1];rw[pK]at hR;by_cases hlt:i<j
  ·have c1:(i:Int)<(j:Int):=by omega
   obtain⟨k,m,e0,e1,e2,e3,e4,hm,hmj,him⟩:=tI hL h2 hlt;rw[decide_eq_true hlt,cond_true,←hm]at hR;obtain⟨⟨s1,s2⟩,gp⟩:∃ r,l[m]? =some r:=⟨_,aQ (by omega)⟩;have gp' :(l.map aS)[m]? =some [.str s1,.str s2]:=by rw[gE,gp];rfl
   have ip:∀ s',rF s' 2 (some (.own .a 2 (l.map aS))) (some (.int .i64 (m:Int)))=some (.bI .a m 0,s'):=fun s' =>c9 (by simp;omega);have c:=t192 (Q:=Qs n) rfl rfl rfl rfl (s1,s2) (u1,u2);cases hp:lt s1 u1 with
   |true=>
    have hx:bg (l[m]?.getD default) (l[a]?.getD default)=true:=by rw[gp,gq];exact hp
    rw[hx,cond_true]at hR;have ih' :=ih (m+1) j (by omega) h2 (by omega) hR;clear hK;generalize l.map aS=X at*;simp[Df,MZ,az O9,Bg,WV,c1,e0,e1,e2,e3,e4,ip,ij,gp',gq',c,hp,jj,Env.cw,bF];simpa using ih'
   |false=>
    have hx:bg (l[m]?.getD default) (l[a]?.getD default)=false:=by rw[gp,gq];exact hp
    rw[hx,cond_false]at hR;have ih' :=ih i m (by omega) (by omega) (by omega) hR;clear hK;generalize l.map aS=X at*;simp[Df,MZ,az O9,Bg,WW,c1,e0,e1,e2,e3,e4,ip,ij,gp',gq',c,hp,jj,Env.cw,bF];simpa using ih'
  ·have h0:¬((i:Int)<(j:Int)):=by omega
   rw[decide_eq_false hlt,cond_false]at hR;subst hR;simp[Df,h0]at hK⊢;simpa using hK
theorem qfb(n m L:Nat)(hL:L<small)(l:List cU)(hl:l.length=L)(ha:m<L)(K:Ex→Vs→Prop)(R:Nat)
  (hK:K .normal ⟨[(0,.own .a 2 (l.map aS)),(14,.int .i64 (R:Int)),(2,.int .i64 (m:Int))],[],0⟩):∀ (f i j:Nat),i≤j→j≤L→j - i≤f→pK (fun h=> !bg (l[m]?.getD default) (l[h]?.getD default)) f i j=R→
  gL bu mT (Qs n) pT v234 4 xw 0 ⟨[(4,.func 192 [] []),(0,.own .a 2 (l.map aS)),(2,.int .i64 (m:Int)),(15,.int .i64 (j:Int)),(14,.int .i64 (i:Int))],[],0⟩ K:=by
 obtain⟨⟨u1,u2⟩,gq⟩:∃ r,l[m]? =some r:=⟨_,aQ (by omega)⟩;have gq' :(l.map aS)[m]? =some [.str u1,.str u2]:=by rw[gE,gq];rfl
 have ij:∀ s',rF s' 2 (some (.own .a 2 (l.map aS))) (some (.int .i64 (m:Int)))=some (.bI .a m 0,s'):=fun s' =>c9 (by simp;omega);intro f
 induction f with
 |zero=>
  intro i j h1 h2 h3 hR;have h0:¬((i:Int)<(j:Int)):=by omega
  rw[pK]at hR;subst hR;rw[ai xw.eq_1];simp[xh,h0]at hK⊢;simpa using hK
 |succ f ih=>
  intro i j h1 h2 h3 hR;rw[ai xw.eq_1];rw[pK]at hR;by_cases hlt:i<j
  ·have c1:(i:Int)<(j:Int):=by omega
   obtain⟨k,p,e0,e1,e2,e3,e4,hm,hmj,him⟩:=tI hL h2 hlt;rw[decide_eq_true hlt,cond_true,←hm]at hR;obtain⟨⟨s1,s2⟩,gp⟩:∃ r,l[p]? =some r:=⟨_,aQ (by omega)⟩;have gp' :(l.map aS)[p]? =some [.str s1,.str s2]:=by rw[gE,gp];rfl
   have ip:∀ s',rF s' 2 (some (.own .a 2 (l.map aS))) (some (.int .i64 (p:Int)))=some (.bI .a p 0,s'):=fun s' =>c9 (by simp;omega);have c:=t192 (Q:=Qs n) rfl rfl rfl rfl (u1,u2) (s1,s2);cases hp:lt u1 s1 with
   |false=>
    have hx:(!bg (l[m]?.getD default) (l[p]?.getD default))=true:=by rw[gp,gq];show(!(lt u1 s1))=true;rw[hp];rfl
    rw[hx,cond_true]at hR;have ih' :=ih (p+1) j (by omega) h2 (by omega) hR;clear hK;generalize l.map aS=X at*;simp[xh,HC,az Kd,xk,OX,c1,e0,e1,e2,e3,e4,ip,ij,gp',gq',c,hp,jj,Env.cw,bF];simpa using ih'
   |true=>
    have hx:(!bg (l[m]?.getD default) (l[p]?.getD default))=false:=by rw[gp,gq];show(!(lt u1 s1))=false;rw[hp];rfl
    rw[hx,cond_false]at hR;have ih' :=ih i p (by omega) (by omega) (by omega) hR;clear hK;generalize l.map aS=X at*;simp[xh,HC,az Kd,xk,OY,c1,e0,e1,e2,e3,e4,ip,ij,gp',gq',c,hp,jj,Env.cw,bF];simpa using ih'
  ·have h0:¬((i:Int)<(j:Int)):=by omega
   rw[decide_eq_false hlt,cond_false]at hR;subst hR;simp[xh,h0]at hK⊢;simpa using hK
theorem qfd(n a m b mid nn q L:Nat)(hL:L<small)(l:List cU)(hl:l.length=L)(hn:nn<2*small)(hq:nn - 1=q)(K:Ex→Vs→Prop)(R:Nat)
  (hK:K .normal ⟨[(4,.func 192 [] []),(3,.int .i64 (b:Int)),(18,.int .i64 (mid:Int)),(0,.own .a 2 (l.map aS)),(20,.int .i64 (R:Int)),(1,.int .i64 (a:Int)),(2,.int .i64 (m:Int)),(19,.int .i64 (nn:Int))],[],0⟩):
  ∀ (f i j:Nat),i≤j→j≤L→q - i<L→j≤q+1→j - i≤f→pK (fun h=> !bg (l[q - h]?.getD default) (l[h]?.getD default)) f i j=R→
  gL bu mT (Qs n) pT v234 8 xz 0 ⟨[(4,.func 192 [] []),(0,.own .a 2 (l.map aS)),(22,.int .i64 (q:Int)),(21,.int .i64 (j:Int)),(20,.int .i64 (i:Int)),(3,.int .i64 (b:Int)),(18,.int .i64 (mid:Int)),(1,.int .i64 (a:Int)),(2,.int .i64 (m:Int)),(19,.int .i64 (nn:Int))],[],0⟩ K:=by
 intro f
 induction f with
 |zero=>
  intro i j h1 h2 h5 h6 h3 hR;have h0:¬((i:Int)<(j:Int)):=by omega
  rw[pK]at hR;subst hR;rw[ai xz.eq_1];simp[xm,h0]at hK⊢;simpa using hK
 |succ f ih=>
  intro i j h1 h2 h5 h6 h3 hR;rw[ai xz.eq_1];rw[pK]at hR;by_cases hlt:i<j
  ·have c1:(i:Int)<(j:Int):=by omega
   obtain⟨k,p,e0,e1,e2,e3,e4,hm,hmj,him⟩:=tI hL h2 hlt;rw[decide_eq_true hlt,cond_true,←hm]at hR;obtain⟨r,hr⟩:∃ r,r=q - p:=⟨_,rfl⟩;have e5:aK .i64 ((q:Int) - (p:Int))=(r:Int):=by rw[dG (by omega) (by unfold small at hn;omega)];omega
   obtain⟨⟨s1,s2⟩,gp⟩:∃ r,l[p]? =some r:=⟨_,aQ (by omega)⟩;obtain⟨⟨u1,u2⟩,gq⟩:∃ x,l[r]? =some x:=⟨_,aQ (by omega)⟩;have gp' :(l.map aS)[p]? =some [.str s1,.str s2]:=by rw[gE,gp];rfl
   have gq' :(l.map aS)[r]? =some [.str u1,.str u2]:=by rw[gE,gq];rfl
   have ip:∀ s',rF s' 2 (some (.own .a 2 (l.map aS))) (some (.int .i64 (p:Int)))=some (.bI .a p 0,s'):=fun s' =>c9 (by simp;omega);have ij:∀ s',rF s' 2 (some (.own .a 2 (l.map aS))) (some (.int .i64 (r:Int)))=some (.bI .a r 0,s'):=fun s' =>c9 (by simp;omega);have c:=t192 (Q:=Qs n) rfl rfl rfl rfl (u1,u2) (s1,s2);rw[←hr]at hR;cases hp:lt u1 s1 with
   |false=>
    have hx:(!bg (l[r]?.getD default) (l[p]?.getD default))=true:=by rw[gp,gq];show(!(lt u1 s1))=true;rw[hp];rfl
    rw[hx,cond_true]at hR;have ih' :=ih (p+1) j (by omega) h2 (by omega) h6 (by omega) hR;clear hK;generalize l.map aS=X at*;simp[xm,HJ,az Ke,xq,O7,c1,e0,e1,e2,e3,e4,e5,ip,ij,gp',gq',c,hp,jj,Env.cw,bF];simpa using ih'
   |true=>
    have hx:(!bg (l[r]?.getD default) (l[p]?.getD default))=false:=by rw[gp,gq];show(!(lt u1 s1))=false;rw[hp];rfl
    rw[hx,cond_false]at hR;have ih' :=ih i p (by omega) (by omega) (by omega) (by omega) (by omega) hR;clear hK;generalize l.map aS=X at*;simp[xm,HJ,az Ke,xq,O8,c1,e0,e1,e2,e3,e4,e5,ip,ij,gp',gq',c,hp,jj,Env.cw,bF];simpa using ih'
  ·have h0:¬((i:Int)<(j:Int)):=by omega
   rw[decide_eq_false hlt,cond_false]at hR;subst hR;simp[xm,h0]at hK⊢;simpa using hK
theorem qfa(n i L:Nat)(hL:L<small)(hi:i≤L)(R:List cU)(K:Ex→Vs→Prop)(hK:K .normal ⟨[(0,.own .a 2 (R.map aS))],[],0⟩):∀ (k j:Nat) (l:List cU),l.length=L→j+k+1=i→upL k j l=R→
  gL bu mT (Qs n) pT v234 2 xu 0 ⟨[(13,.int .i64 (j:Int)),(0,.own .a 2 (l.map aS)),(10,.int .i64 (i:Int))],[],0⟩ K:=by
 intro k
 induction k with
 |zero=>
  intro j l hl hk hR;have e1:aK .i64 ((i:Int) - 1)=(j:Int):=by rw[dG (by omega) (by unfold small at hL;omega)];omega
  rw[upL]at hR;subst hR;rw[ai xu.eq_1];simp[HB,e1];exact hK
 |succ k ih=>
  intro j l hl hk hR;obtain⟨q,hq⟩:∃ q,q=i - 1:=⟨_,rfl⟩;have e1:aK .i64 ((i:Int) - 1)=(q:Int):=by rw[dG (by omega) (by unfold small at hL;omega)];omega
  have h1:(j:Int)<(q:Int):=by omega
  obtain⟨p,hp⟩:∃ p,p=j+1:=⟨_,rfl⟩;have e2:aK .i64 ((j:Int)+1)=(p:Int):=by rw[dG (by omega) (by unfold small at hL;omega)];omega
  rw[upL,←hp]at hR;have ih' :=ih p (lG l j p) (by simp[lG,hl]) (by omega) hR;obtain⟨⟨s1,s2⟩,gp⟩:∃ r,l[p]? =some r:=⟨_,aQ (by omega)⟩;obtain⟨⟨u1,u2⟩,gq⟩:∃ r,l[j]? =some r:=⟨_,aQ (by omega)⟩;have gp' :(l.map aS)[p]? =some [.str s1,.str s2]:=by rw[gE,gp];rfl
  have gq' :(l.map aS)[j]? =some [.str u1,.str u2]:=by rw[gE,gq];rfl
  have ip:∀ s',rF s' 2 (some (.own .a 2 (l.map aS))) (some (.int .i64 (p:Int)))=some (.bI .a p 0,s'):=fun s' =>c9 (by simp;omega);have ij:∀ s',rF s' 2 (some (.own .a 2 (l.map aS))) (some (.int .i64 (j:Int)))=some (.bI .a j 0,s'):=fun s' =>c9 (by simp;omega);have ip2:∀ (r:List U) s',rF s' 2 (some (.own .a 2 ((l.map aS).set j r))) (some (.int .i64 (p:Int)))=some (.bI .a p 0,s'):=fun r s' =>c9 (by simp;omega);have g3:((l.map aS).set j [.str s1,.str s2])[p]? =some [.str s1,.str s2]:=by
   rw[b9,if_neg (by omega),gp']
  clear hK;simp only[lG,gp,gq,rB,PY,aS]at ih';generalize l.map aS=X at*;rw[ai xu.eq_1];simp[HB,OT,az WR,Dd,h1,e1,e2,ip,ij,ip2,gp',gq',g3,jj,Env.cw,vD,Env.fK,U.fK,bF];simpa using ih'
theorem qfc(n i L:Nat)(hL:L<small)(R:List cU)(K:Ex→Vs→Prop)(hK:K .normal ⟨[(0,.own .a 2 (R.map aS))],[],0⟩):∀ (k j:Nat) (l:List cU),l.length=L→j<L→i+k=j→dnL k j l=R→
  gL bu mT (Qs n) pT v234 6 xy 0 ⟨[(17,.int .i64 (j:Int)),(0,.own .a 2 (l.map aS)),(14,.int .i64 (i:Int))],[],0⟩ K:=by
 intro k
 induction k with
 |zero=>
  intro j l hl hj hk hR;have h1:¬((i:Int)<(j:Int)):=by omega
  rw[dnL]at hR;subst hR;rw[ai xy.eq_1];simp[HD,h1];exact hK
 |succ k ih=>
  intro j l hl hj hk hR;have h1:(i:Int)<(j:Int):=by omega
  obtain⟨p,hp⟩:∃ p,p=j - 1:=⟨_,rfl⟩;have e2:aK .i64 ((j:Int) - 1)=(p:Int):=by rw[dG (by omega) (by unfold small at hL;omega)];omega
  rw[dnL,←hp]at hR;have ih' :=ih p (lG l j p) (by simp[lG,hl]) (by omega) (by omega) hR;obtain⟨⟨s1,s2⟩,gp⟩:∃ r,l[p]? =some r:=⟨_,aQ (by omega)⟩;obtain⟨⟨u1,u2⟩,gq⟩:∃ r,l[j]? =some r:=⟨_,aQ (by omega)⟩;have gp' :(l.map aS)[p]? =some [.str s1,.str s2]:=by rw[gE,gp];rfl
  have gq' :(l.map aS)[j]? =some [.str u1,.str u2]:=by rw[gE,gq];rfl
  have ip:∀ s',rF s' 2 (some (.own .a 2 (l.map aS))) (some (.int .i64 (p:Int)))=some (.bI .a p 0,s'):=fun s' =>c9 (by simp;omega);have ij:∀ s',rF s' 2 (some (.own .a 2 (l.map aS))) (some (.int .i64 (j:Int)))=some (.bI .a j 0,s'):=fun s' =>c9 (by simp;omega);have ip2:∀ (r:List U) s',rF s' 2 (some (.own .a 2 ((l.map aS).set j r))) (some (.int .i64 (p:Int)))=some (.bI .a p 0,s'):=fun r s' =>c9 (by simp;omega);have g3:((l.map aS).set j [.str s1,.str s2])[p]? =some [.str s1,.str s2]:=by
   rw[b9,if_neg (by omega),gp']
  clear hK;simp only[lG,gp,gq,rB,PY,aS]at ih';generalize l.map aS=X at*;rw[ai xy.eq_1];simp[HD,O1,az WT,De,h1,e2,ip,ij,ip2,gp',gq',g3,jj,Env.cw,vD,Env.fK,U.fK,bF];simpa using ih'
theorem t234(n a m b:Nat)(l:List cU)(hL:l.length<small)(ham:a<m)(hmb:m<b)(hb:b≤l.length)(hn:b - a≤n+1):
  gC bu mT (Qs n) pT v234 v234.body ⟨[(0,.own .a 2 (l.map aS)),(1,.int .i64 (a:Int)),(2,.int .i64 (m:Int)),(3,.int .i64 (b:Int)),(4,.func 192 [] [])],[],0⟩ (D9 2 ((mH bg (b - a) l a m b).map aS)):=by
 obtain⟨R,hR⟩:∃ R,mH bg (b - a) l a m b=R:=⟨_,rfl⟩;rw[hR];rw[show b - a=(b - a - 1)+1 by omega]at hR;obtain⟨g,hg⟩:∃ g,g=m - a:=⟨_,rfl⟩;obtain⟨g',hg'⟩:∃ g',g' =b - m:=⟨_,rfl⟩;have e1:aK .i64 ((m:Int) - (a:Int))=(g:Int):=by rw[dG (by omega) (by unfold small at hL;omega)];omega
 have e2:aK .i64 ((b:Int) - (m:Int))=(g' :Int):=by rw[dG (by omega) (by unfold small at hL;omega)];omega
 unfold mH at hR;by_cases hd:m - a=1
 ·rw[decide_eq_true hd,cond_true]at hR;have hma:m=a+1:=by omega
  have i1:(g:Int)=1:=by omega
  obtain⟨b1,b2⟩:=fM (fun h=>bg (l[h]?.getD default) (l[a]?.getD default)) (b - m) m b (by omega);simp[nr,Dc,WQ,WS,e1,i1];refine qe9 n a l.length hL l rfl (by omega) _ _ ?_ (b - m) m b (by omega) hb (by omega) rfl;generalize pK (fun h=>bg (l[h]?.getD default) (l[a]?.getD default)) (b - m) m b=i at b1 b2 hR⊢;rw[hma,←qfl l a i (by omega) (by omega)]at hR;simp[WX];refine qfa n i l.length hL (by omega) R _ ?_ (i - 1 - a) a l rfl (by omega) hR;simp[D9,jj,Env.cw]
 ·rw[decide_eq_false hd,cond_false]at hR;have i1:¬(g:Int)=1:=by omega
  by_cases hd2:b - m=1
  ·rw[decide_eq_true hd2,cond_true]at hR;have i2:(g' :Int)=1:=by omega
   obtain⟨b1,b2⟩:=fM (fun h=> !bg (l[m]?.getD default) (l[h]?.getD default)) (m - a) a m (by omega);simp[nr,Dc,Bf,OU,OV,e1,i1,e2,i2];refine qfb n m l.length hL l rfl (by omega) _ _ ?_ (m - a) a m (by omega) (by omega) (by omega) rfl;generalize pK (fun h=> !bg (l[m]?.getD default) (l[h]?.getD default)) (m - a) a m=i at b1 b2 hR⊢;rw[show b=m+1 by omega,←qdx l i m (by omega) (by omega)]at hR;simp[OZ];refine qfc n i l.length hL R _ ?_ (m - i) m l rfl (by omega) (by omega) hR;simp[D9,jj,Env.cw]
  ·rw[decide_eq_false hd2,cond_false]at hR;have i2:¬(g' :Int)=1:=by omega
   obtain⟨k,mid,f0,f1,f2,f3,f4,hm,hmj,him⟩:=tI hL hb (show a<b by omega);dsimp only at hR;rw[←hm]at hR;obtain⟨nn,hnn⟩:∃ nn,nn=mid+m:=⟨_,rfl⟩;rw[←hnn]at hR;have f5:aK .i64 ((mid:Int)+(m:Int))=(nn:Int):=by rw[dG (by omega) (by unfold small at hL;omega)];omega
   have f6:aK .i64 ((nn:Int) - 1)=((nn - 1:Nat):Int):=by rw[dG (by omega) (by unfold small at hL;omega)];omega
   have hs:∃ s0 r0,s0≤r0∧a≤s0∧r0≤m∧r0≤mid∧nn - s0≤b∧m≤nn - r0∧(bif decide (mid<m)then nn - b else a)=s0∧(bif decide (mid<m)then mid else m)=r0:=by
    cases hmm:decide (mid<m)with
    |true=>have:=of_decide_eq_true hmm;exact⟨nn - b,mid,by omega,by omega,by omega,by omega,by omega,by omega,rfl,rfl⟩
    |false=>have:=of_decide_eq_false hmm;exact⟨a,m,by omega,by omega,by omega,by omega,by omega,by omega,rfl,rfl⟩
   obtain⟨s0,r0,a1,a2,a3,a4,a5,a6,x1,x2⟩:=hs;rw[x1,x2]at hR;obtain⟨b1,b2⟩:=fM (fun c=> !bg (l[nn - 1 - c]?.getD default) (l[c]?.getD default)) (r0 - s0) s0 r0 a1;have loop:=fun K hK=>qfd n a m b mid nn (nn - 1) l.length hL l rfl (by omega) rfl K _ hK (r0 - s0) s0 r0 a1 (by omega) (by omega) (by omega) (by omega) rfl;generalize pK (fun c=> !bg (l[nn - 1 - c]?.getD default) (l[c]?.getD default)) (r0 - s0) s0 r0=s at b1 b2 hR loop;obtain⟨e,he⟩:∃ e,e=nn - s:=⟨_,rfl⟩;have f7:aK .i64 ((nn:Int) - (s:Int))=(e:Int):=by rw[dG (by omega) (by unfold small at hL;omega)];omega
   rw[←he]at hR;have stA:∃ l1:List cU,l1.length=l.length∧(bif decide (s<m)&&decide (m<e)then qG l s m e else l)=l1∧((s<m∧m<e∧True∧LX (l.map aS) [.int .i64 (s:Int),.int .i64 (m:Int),.int .i64 (e:Int),.func 192 [] []]=some (l1.map aS))∨(s<m∧¬m<e∧l1=l∧True)∨(¬s<m∧True∧l1=l∧True)):=by
    by_cases c1:s<m
    ·by_cases c2:m<e
     ·refine⟨qG l s m e,Tk l s m e (by omega) (by omega),by rw[decide_eq_true c1,decide_eq_true c2];rfl,.inl ⟨c1,c2,trivial,qac 192 s m e l hL c1 c2 (by omega)⟩⟩
     ·exact⟨l,rfl,by rw[decide_eq_true c1,decide_eq_false c2];rfl,.inr (.inl ⟨c1,c2,rfl,trivial⟩)⟩
    ·exact⟨l,rfl,by rw[decide_eq_false c1];rfl,.inr (.inr ⟨c1,trivial,rfl,trivial⟩)⟩
   obtain⟨l1,hl1,eA,hA⟩:=stA;rw[eA]at hR;have stB:∃ l2:List cU,l2.length=l1.length∧(bif decide (a<s)&&decide (s<mid)then mH bg (b - a - 1) l1 a s mid else l1)=l2∧((a<s∧s<mid∧True∧yC n (l1.map aS) [.int .i64 (a:Int),.int .i64 (s:Int),.int .i64 (mid:Int),.func 192 [] []]=some (l2.map aS))∨(a<s∧¬s<mid∧l2=l1∧True)∨(¬a<s∧True∧l2=l1∧True)):=by
    by_cases c1:a<s
    ·by_cases c2:s<mid
     ·refine⟨_,CB (b - a - 1) l1 a s mid (by omega) (by omega) (by omega),by rw[decide_eq_true c1,decide_eq_true c2];rfl,.inl ⟨c1,c2,trivial,GF n a s mid l1 (by omega) c1 c2 (by omega) (by omega) _ (by omega)⟩⟩
     ·exact⟨l1,rfl,by rw[decide_eq_true c1,decide_eq_false c2];rfl,.inr (.inl ⟨c1,c2,rfl,trivial⟩)⟩
    ·exact⟨l1,rfl,by rw[decide_eq_false c1];rfl,.inr (.inr ⟨c1,trivial,rfl,trivial⟩)⟩
   obtain⟨l2,hl2,eB,hB⟩:=stB;rw[eB]at hR;have stC:∃ l3:List cU,(bif decide (mid<e)&&decide (e<b)then mH bg (b - a - 1) l2 mid e b else l2)=l3∧((mid<e∧e<b∧True∧yC n (l2.map aS) [.int .i64 (mid:Int),.int .i64 (e:Int),.int .i64 (b:Int),.func 192 [] []]=some (l3.map aS))∨(mid<e∧¬e<b∧l3=l2∧True)∨(¬mid<e∧True∧l3=l2∧True)):=by
    by_cases c1:mid<e
    ·by_cases c2:e<b
     ·refine⟨_,by rw[decide_eq_true c1,decide_eq_true c2];rfl,.inl ⟨c1,c2,trivial,GF n mid e b l2 (by omega) c1 c2 (by omega) (by omega) _ (by omega)⟩⟩
     ·exact⟨l2,by rw[decide_eq_true c1,decide_eq_false c2];rfl,.inr (.inl ⟨c1,c2,rfl,trivial⟩)⟩
    ·exact⟨l2,by rw[decide_eq_false c1];rfl,.inr (.inr ⟨c1,trivial,rfl,trivial⟩)⟩
   obtain⟨l3,eC,hC⟩:=stC;rw[eC]at hR;have tail:∀ K,K=gV bu mT (Qs n) pT v234 (.seq (.region HK) (.seq (.seq (.region HL) (.cond (.t 185) (.region HM) .skip)) (.seq (.seq (.region HN) (.cond (.t 199) (.region HO) .skip)) (.seq (.region HP) (.cond (.t 213) (.region HQ) .skip))))) (D9 2 (R.map aS))→K .normal ⟨[(4,.func 192 [] []),(3,.int .i64 (b:Int)),(18,.int .i64 (mid:Int)),(0,.own .a 2 (l.map aS)),(20,.int .i64 (s:Int)),(1,.int .i64 (a:Int)),(2,.int .i64 (m:Int)),(19,.int .i64 (nn:Int))],[],0⟩:=by
    rintro K rfl;subst hR;clear loop eA eB eC;rcases hA with⟨a1,a2,-,a4⟩|⟨a1,a2,rfl,a4⟩|⟨a1,a2,rfl,a4⟩<;>rcases hB with⟨b1,b2,-,b4⟩|⟨b1,b2,rfl,b4⟩|⟨b1,b2,rfl,b4⟩<;>rcases hC with⟨c1,c2,-,c4⟩|⟨c1,c2,rfl,c4⟩|⟨c1,c2,rfl,c4⟩<;>
     simp[HK,HL,HM,HN,HO,HP,HQ,f7,a1,a2,a4,b1,b2,b4,c1,c2,c4,jj,Env.cw,vD,Env.fK,U.fK,D9]
   have loop' :=loop _ (tail _ rfl);clear loop tail hA hB hC eA eB eC hR;cases hmm:decide (mid<m)with
   |true=>
    rw[hmm,cond_true]at x1 x2;have f8:aK .i64 ((nn:Int) - (b:Int))=(s0:Int):=by have:=of_decide_eq_true hmm;rw[dG (by omega) (by unfold small at hL;omega)];omega
    subst x2;simp[nr,Dc,Bf,HE,HF,HG,HH,O2,O3,HI,e1,i1,e2,i2,f0,f1,f2,f3,f5,f6,f8,hmm];simpa using loop'
   |false=>
    rw[hmm,cond_false]at x1 x2;subst x1;subst x2;simp[nr,Dc,Bf,HE,HF,HG,HH,O4,O5,HI,e1,i1,e2,i2,f0,f1,f2,f3,f5,f6,hmm];simpa using loop'
theorem qeo{C:Nat→Option cq}(n:Nat)(T:lQ C mT bu (Qs n) pT):xU (dz C mT) 234 (yC (n+1)):=by
 refine yp T (T.code 234 v234 rfl) rfl ?_;intro xs rest ys w hh hw;unfold yC at hh;split at hh
 case h_2=>cases hh
 rename_i a m b;split at hh
 case h_2=>cases hh
 rename_i l hl;obtain⟨hb2,hh3⟩:=aO hh;clear hh;have hx:=ou hl;subst hx;simp only[aI,decide_eq_true_eq]at hb2;obtain⟨⟨⟨⟨⟨h1,h2⟩,h3⟩,h4⟩,h5⟩,h6⟩:=hb2;simp only[ag]at hh3;subst hh3;obtain⟨a,rfl⟩:=qm h1;obtain⟨m,rfl⟩:=qm (show 0≤m by omega);obtain⟨b,rfl⟩:=qm (show 0≤b by omega);have hw2:w=2:=by
  cases l with
  |nil=>simp at h4;omega
  |cons s l=>exact(hw (aS s) (by simp)).symm
 subst hw2;have ht:=t234 n a m b l h5 (by omega) (by omega) (by omega) (by simpa using h6);refine⟨fun u hu=> ?_,(by show 4+1≤220;omega),by simp only[oS];exact CB _ _ _ _ _ (by simp;omega) (by simp;omega) (by simp;omega),fun r hr=> ?_,?_,?_⟩
 ·simp at hu;rcases hu with rfl|rfl|rfl|rfl<;>exact⟨rfl,rfl⟩
 ·obtain⟨s,hs,rfl⟩:=cD.1 hr;rfl
 ·exact kZ _
 ·exact ht
theorem qiU{C:Nat→Option cq}(T:lQ C mT bu Q0 pT):∀ n,lQ C mT bu (Qs n) pT∧xU (dz C mT) 234 (yC n):=by
  have mk:∀ n,xU (dz C mT) 234 (yC n)→lQ C mT bu (Qs n) pT:=fun n hq=>
   ⟨T.code,⟨fun f q h=>(by
    rw[qkn]at h;cases hf:f==237 with
    |true=>
     rw[hf]at h;simp only[cond_true,ag]at h;subst h;have:f=237:=by simpa using hf
     subst this;exact qkP T
    |false=>
     rw[hf]at h;simp only[cond_false]at h;cases hf2:f==234 with
     |true=>
      rw[hf2]at h;simp only[cond_true,ag]at h;subst h;have:f=234:=by simpa using hf2
      subst this;exact hq
     |false=>rw[hf2]at h;cases h),fun f q h=>(by cases h),fun f q h=>(by cases h)⟩,T.Jx⟩
  intro n
  induction n with
  |zero=>
   have hq:xU (dz C mT) 234 (yC 0):=by
    intro xs rest ys hh;exfalso;unfold yC at hh;split at hh
    case h_2=>cases hh
    split at hh
    case h_2=>cases hh
    obtain⟨hb2,-⟩:=aO hh;simp only[aI,decide_eq_true_eq]at hb2;obtain⟨⟨⟨⟨⟨h1,h2⟩,h3⟩,h4⟩,h5⟩,h6⟩:=hb2;omega
   exact⟨mk 0 hq,hq⟩
  |succ n ih=>
   have hq:=qeo n ih.1;exact⟨mk (n+1) hq,hq⟩
def qam(xs:List (List U))(rest:List U):Option (List (List U)):=yC small xs rest
theorem qkO{C:Nat→Option cq}(T:lQ C mT bu Q0 pT):xU (dz C mT) 234 qam:=(qiU T small).2
end Go.RE
namespace Go.RE
@[simp] theorem qgW(a b:Int):j8 .mul .no (.int .i64 a) (.int .i64 b)=some (.int .i64 (aK .i64 (a*b))):=rfl
def Qt:nu:=⟨fun f=>bif f==233 then some tE else bif f==234 then some qam else none,fun _=>none,fun _=>false,fun _=>none⟩
@[simp] theorem qkq(f:Nat):Qt.q f=bif f==233 then some tE else bif f==234 then some qam else none:=rfl
@[simp] theorem qko(f:Nat):Qt.app f=none:=rfl
@[simp] theorem qlW(f:Nat):Qt.ld f=false:=rfl
@[simp] theorem qkp(f:Nat):Qt.KT f=none:=rfl
theorem qiV{C:Nat→Option cq}(T:lQ C mT bu Q0 pT):lQ C mT bu Qt pT:=
 ⟨T.code,⟨fun f q h=>(by
  rw[qkq]at h;cases hf:f==233 with
  |true=>
   rw[hf]at h;simp only[cond_true,ag]at h;subst h;have:f=233:=by simpa using hf
   subst this;exact qkN T
  |false=>
   rw[hf]at h;simp only[cond_false]at h;cases hf2:f==234 with
   |true=>
    rw[hf2]at h;simp only[cond_true,ag]at h;subst h;have:f=234:=by simpa using hf2
    subst this;exact qkO T
   |false=>rw[hf2]at h;cases h),fun f q h=>(by cases h),fun f q h=>(by cases h)⟩,T.Jx⟩
theorem Og(a m b:Nat)(l:List cU)(hL:l.length<small)(h1:a<m)(h2:m<b)(h3:b≤l.length)(f:Nat)(hf:b - a≤f):qam (l.map aS) [.int .i64 (a:Int),.int .i64 (m:Int),.int .i64 (b:Int),.func 192 [] []]=some ((mH bg f l a m b).map aS):=
 GF small a m b l hL h1 h2 h3 (by omega) f hf
theorem qe4(n:Nat)(hL:n<small)(K:Ex→Vs→Prop)(R:List cU)
  (hK:∀ (a:Nat) (l:List cU),l.length=n→a≤n→jB bg l a n=R→K .normal ⟨[(6,.int .i64 20),(2,.func 192 [] []),(0,.own .a 2 (l.map aS)),(1,.int .i64 (n:Int)),(7,.int .i64 (a:Int))],[],0⟩):∀ (f a:Nat) (l:List cU),l.length=n→n≤a+f→a≤n→rW bg n f a l=R→
  gL bu mT Qt pT qS 0 xe 0 ⟨[(6,.int .i64 20),(8,.int .i64 ((a+20:Nat):Int)),(2,.func 192 [] []),(7,.int .i64 (a:Int)),(0,.own .a 2 (l.map aS)),(1,.int .i64 (n:Int))],[],0⟩ K:=by
 intro f
 induction f with
 |zero=>
  intro a l hl h1 h2 hR;obtain⟨b,hb⟩:∃ b,b=a+20:=⟨_,rfl⟩;have h0:¬((b:Int)≤(n:Int)):=by omega
  rw[rW]at hR;have:=hK a l hl h2 hR;rw[ai xe.eq_1,←hb];clear hK;simp[C9,h0];simpa using this
 |succ f ih=>
  intro a l hl h1 h2 hR;obtain⟨b,hb⟩:∃ b,b=a+20:=⟨_,rfl⟩;rw[ai xe.eq_1,←hb];rw[rW]at hR;by_cases hd:a+20≤n
  ·rw[decide_eq_true hd,cond_true,←hb]at hR;have h0:(b:Int)≤(n:Int):=by omega
   have c:=u6 a b l (by omega) (by omega) (by omega);obtain⟨b',hb'⟩:∃ b',b' =b+20:=⟨_,rfl⟩;have e1:aK .i64 ((b:Int)+20)=(b' :Int):=by rw[dG (by omega) (by unfold small at hL;omega)];omega
   have ih' :=ih b _ (by rw[rX];exact hl) (by omega) (by omega) hR;rw[←hb']at ih';clear hK;simp[C9,WG,WH,WI,h0,c,e1,jj,Env.cw,vD,Env.fK,U.fK];simpa using ih'
  ·rw[decide_eq_false hd,cond_false]at hR;have h0:¬((b:Int)≤(n:Int)):=by omega
   have:=hK a l hl h2 hR;clear hK;simp[C9,h0];simpa using this
theorem qe5(n bs:Nat)(hL:n<small)(h0b:0<bs)(hbs:bs<n)(K:Ex→Vs→Prop)(R:List cU)
  (hK:∀ (a:Nat) (l:List cU),l.length=n→a≤n→(bif decide (a+bs<n)then mH bg n l a (a+bs) n else l)=R→K .normal ⟨[(2,.func 192 [] []),(0,.own .a 2 (l.map aS)),(1,.int .i64 (n:Int)),(6,.int .i64 (bs:Int)),(7,.int .i64 (a:Int))],[],0⟩):∀ (f a:Nat) (l:List cU),l.length=n→n≤a+f→a≤n→uG bg n bs f a l=R→
  gL bu mT Qt pT qS 4 xd 0 ⟨[(6,.int .i64 (bs:Int)),(8,.int .i64 ((a+2*bs:Nat):Int)),(2,.func 192 [] []),(7,.int .i64 (a:Int)),(0,.own .a 2 (l.map aS)),(1,.int .i64 (n:Int))],[],0⟩ K:=by
 intro f
 induction f with
 |zero=>
  intro a l hl h1 h2 hR;obtain⟨b,hb⟩:∃ b,b=a+2*bs:=⟨_,rfl⟩;have h0:¬((b:Int)≤(n:Int)):=by omega
  rw[uG]at hR;have:=hK a l hl h2 (by rw[decide_eq_false (by omega)];exact hR);rw[ai xd.eq_1,←hb];clear hK;simp[Bc,h0];simpa using this
 |succ f ih=>
  intro a l hl h1 h2 hR;obtain⟨b,hb⟩:∃ b,b=a+2*bs:=⟨_,rfl⟩;rw[ai xd.eq_1,←hb];rw[uG]at hR;by_cases hd:a+2*bs≤n
  ·rw[decide_eq_true hd,cond_true,←hb]at hR;have h0:(b:Int)≤(n:Int):=by omega
   obtain⟨m,hm⟩:∃ m,m=a+bs:=⟨_,rfl⟩;rw[←hm]at hR;have c:=Og a m b l (by omega) (by omega) (by omega) (by omega) (2*bs) (by omega);obtain⟨b',hb'⟩:∃ b',b' =b+2*bs:=⟨_,rfl⟩;obtain⟨b2,hb2⟩:∃ b2,b2=2*bs:=⟨_,rfl⟩;have e0:aK .i64 ((a:Int)+(bs:Int))=(m:Int):=by rw[dG (by omega) (by unfold small at hL;omega)];omega
   have e1:aK .i64 (2*(bs:Int))=(b2:Int):=by rw[dG (by omega) (by unfold small at hL;omega)];omega
   have e2:aK .i64 ((b:Int)+(b2:Int))=(b' :Int):=by rw[dG (by omega) (by unfold small at hL;omega)];omega
   have ih' :=ih b _ (by rw[CB _ _ _ _ _ (by omega) (by omega) (by omega)];exact hl) (by omega) (by omega) hR;rw[←hb']at ih';clear hK;simp[Bc,OO,OP,OQ,h0,c,e0,e1,e2,jj,Env.cw,vD,Env.fK,U.fK];simpa using ih'
  ·rw[decide_eq_false hd,cond_false]at hR;have h0:¬((b:Int)≤(n:Int)):=by omega
   have:=hK a l hl h2 hR;clear hK;simp[Bc,h0];simpa using this
theorem qe6(n:Nat)(hL:n<small)(R:List cU):∀ (f bs:Nat) (l:List cU),l.length=n→n≤bs+f→0<bs→bs<4*small→qF bg n f bs l=R→
  gL bu mT Qt pT qS 2 sM 0 ⟨[(6,.int .i64 (bs:Int)),(2,.func 192 [] []),(0,.own .a 2 (l.map aS)),(1,.int .i64 (n:Int))],[],0⟩ (D9 2 (R.map aS)):=by
 intro f
 induction f with
 |zero=>
  intro bs l hl h1 h2 h3 hR;have h0:¬((bs:Int)<(n:Int)):=by omega
  rw[qF]at hR;subst hR;rw[ai sM.eq_1];simp[Da,h0,D9,jj,Env.cw]
 |succ f ih=>
  intro bs l hl h1 h2 h3 hR;rw[ai sM.eq_1];rw[qF]at hR;by_cases hd:bs<n
  ·rw[decide_eq_true hd,cond_true]at hR;have h0:(bs:Int)<(n:Int):=by omega
   obtain⟨b2,hb2⟩:∃ b2,b2=2*bs:=⟨_,rfl⟩;have e1:aK .i64 (2*(bs:Int))=(b2:Int):=by rw[dG (by omega) (by unfold small at hL;omega)];omega
   have e2:aK .i64 ((bs:Int)*2)=(b2:Int):=by rw[dG (by omega) (by unfold small at hL;omega)];omega
   rw[show bs*2=b2 by omega]at hR;have lp:=fun K hK=>qe5 n bs hL h2 hd K (uG bg n bs n 0 l) hK n 0 l hl (by omega) (by omega) rfl;rw[show 0+2*bs=b2 by omega]at lp;have hlen:(uG bg n bs n 0 l).length=n:=by rw[(vq bg n bs n 0 l (by omega)).length_eq];exact hl
   generalize uG bg n bs n 0 l=l1 at*;have ih' :=ih b2 l1 hlen (by omega) (by omega) (by omega) hR;simp[Da,WJ,h0,e1];refine lp _ ?_;intro a l2 hl2 ha hx;obtain⟨m,hm⟩:∃ m,m=a+bs:=⟨_,rfl⟩;have e0:aK .i64 ((a:Int)+(bs:Int))=(m:Int):=by rw[dG (by omega) (by unfold small at hL;omega)];omega
   rw[←hm]at hx;cases hmn:decide (m<n)with
   |true=>
    rw[hmn,cond_true]at hx;have:=of_decide_eq_true hmn;have c:=Og a m n l2 (by omega) (by omega) (by omega) (by omega) n (by omega);rw[hx]at c;simp[Hu,Hv,Hw,Hy,e0,e2,hmn,c,jj,Env.cw,vD,Env.fK,U.fK];simpa using ih'
   |false=>
    rw[hmn,cond_false]at hx;subst hx;simp[Hu,Hv,Hw,Hy,e0,e2,hmn,jj,Env.cw,vD,Env.fK,U.fK];simpa using ih'
  ·rw[decide_eq_false hd,cond_false]at hR;have h0:¬((bs:Int)<(n:Int)):=by omega
   subst hR;simp[Da,h0,D9,jj,Env.cw]
theorem t223(l:List cU)(hL:l.length<small)(w:Nat)(hw:∀ r∈l.map aS,r.length=w):
  gC bu mT Qt pT qS qS.body ⟨[(0,.own .a w (l.map aS)),(1,.int .i64 (l.length:Int)),(2,.func 192 [] [])],[],0⟩ (D9 w ((ru l).map aS)):=by
 cases l with
 |nil=>
  have c:=u6 0 0 [] (by decide) (by omega) (by simp);simp at c;simp[ue,MV,MW];rw[ai xe.eq_1];simp[C9,MX,c,jj,Env.cw,vD,Env.fK,U.fK];rw[ai sM.eq_1];simp[Da,D9,jj,Env.cw];rfl
 |cons s l=>
  have h2:w=2:=(hw (aS s) (by simp)).symm;subst h2;clear hw;generalize hl:s::l=l' at*;clear hl;obtain⟨n,hn⟩:∃ n,n=l'.length:=⟨_,rfl⟩;rw[←hn];have hlen:(rW bg n n 0 l').length=n:=by rw[(u5 bg n n 0 l' (by omega)).length_eq];exact hn.symm
  have lp:=fun K hK=>qe4 n (by omega) K (rW bg n n 0 l') hK n 0 l' hn.symm (by omega) (by omega) rfl;have fin:=qe6 n (by omega) (ru l') n 20 (rW bg n n 0 l') hlen (by omega) (by decide) (by decide) (by unfold ru AM;rw[←hn]);generalize rW bg n n 0 l' =l1 at*;simp[ue,MV,MW];simp only[kF]at lp;refine lp _ ?_;intro a l2 hl2 ha hx;have c:=u6 a n l2 (by omega) (by omega) (by omega);rw[hx]at c;simp[MX,c,jj,Env.cw,vD,Env.fK,U.fK];simpa using fin
def E9(xs:List (List U))(rest:List U):Option (List (List U)):=
 match rest with
 |[.int .i64 n,.func 192 [] []]=>match Am xs with
  |some l=>bif decide (n=l.length)&&decide (l.length<small)then some ((ru l).map aS)else none
  |none=>none
 |_=>none
theorem Tz(l:List cU)(hL:l.length<small):E9 (l.map aS) [.int .i64 (l.length:Int),.func 192 [] []]=some ((ru l).map aS):=by
 simp only[E9,pZ,decide_eq_true hL,decide_true,jh,cond_true]
theorem qkM{C:Nat→Option cq}(T:lQ C mT bu Q0 pT):xU (dz C mT) 223 E9:=by
 refine yp (qiV T) (T.code 223 qS rfl) rfl ?_;intro xs rest ys w hh hw;unfold E9 at hh;split at hh
 case h_2=>cases hh
 rename_i n;split at hh
 case h_2=>cases hh
 rename_i l hl;obtain⟨hb2,hh3⟩:=aO hh;clear hh;have hx:=ou hl;subst hx;simp only[aI,decide_eq_true_eq]at hb2;obtain⟨h1,h4⟩:=hb2;simp only[ag]at hh3;subst hh3;subst h1;have ht:=t223 l h4 w hw;refine⟨fun u hu=> ?_,(by show 2+1≤63;omega),by simp[ni],fun r hr=> ?_,?_,?_⟩
 ·simp at hu;rcases hu with rfl|rfl<;>exact⟨rfl,rfl⟩
 ·obtain⟨s,hs,rfl⟩:=cD.1 hr;exact hw (aS s) (List.mem_map_of_mem ((qJ bg l).mem_iff.1 hs))
 ·exact kZ _
 ·exact ht
def Qu:nu:=⟨fun f=>bif f==223 then some E9 else none,fun _=>none,fun _=>false,fun _=>none⟩
@[simp] theorem qkt(f:Nat):Qu.q f=bif f==223 then some E9 else none:=rfl
@[simp] theorem qkr(f:Nat):Qu.app f=none:=rfl
@[simp] theorem qlX(f:Nat):Qu.ld f=false:=rfl
@[simp] theorem qks(f:Nat):Qu.KT f=none:=rfl
theorem qiW{C:Nat→Option cq}(T:lQ C mT bu Q0 pT):lQ C mT bu Qu pT:=
 ⟨T.code,⟨fun f q h=>(by
  rw[qkt]at h;cases hf:f==223 with
  |true=>
   rw[hf]at h;simp only[cond_true,ag]at h;subst h;have:f=223:=by simpa using hf
   subst this;exact qkM T
  |false=>rw[hf]at h;cases h),fun f q h=>(by cases h),fun f q h=>(by cases h)⟩,T.Jx⟩
theorem qkL{C:Nat→Option cq}(T:lQ C mT bu Q0 pT):xU (dz C mT) 191 tP:=by
 refine yp (qiW T) (T.code 191 V6 rfl) rfl ?_;intro xs rest ys w hh hw;unfold tP at hh;split at hh
 case h_2=>cases hh
 obtain⟨hb2,hh3⟩:=aO hh;clear hh;split at hh3
 case h_2=>cases hh3
 rename_i l hl;have hx:=ou hl;subst hx;have h4:l.length<small:=by simpa[small]using hb2
 simp only[ag]at hh3;subst hh3;have c:=Tz l h4;refine⟨fun u hu=> ?_,(by show 1+1≤9;omega),by simp[ni],fun r hr=> ?_,?_,?_⟩
 ·simp at hu;rcases hu with rfl;exact⟨rfl,rfl⟩
 ·obtain⟨s,hs,rfl⟩:=cD.1 hr;exact hw (aS s) (List.mem_map_of_mem ((qJ bg l).mem_iff.1 hs))
 ·exact kZ _
 ·simp[zd,V7,c,jj,Env.cw,vD,Env.fK,U.fK]
end Go.RE
namespace Go.RE
def Yf:List V:=[.int .i64 0,.int .u64 0,.int .u64 0,.int .i64 0,.int .i64 0,.ah [] 0 0 2,.ah [] 0 0 2]
def R4(w:Nat)(xs:List (List U))(rest:List U):Option (Nat×List (List U)):=bif xs.isEmpty then none else uU 7 w xs rest
theorem qdi{C:Nat→Option cq}(T:lQ C mT bu Q0 pT)(hC:C 61=some ⟨(mB 7 88 Yf).ntmps,(mB 7 88 Yf).results,(mB 7 88 Yf).body.er⟩):Rr (dz C mT) 61 R4:=by
 refine RV T (Sr T) (fn:=mB 7 88 Yf) hC (t:=2) rfl ?_;intro xs rest w' ys w hh hw;unfold R4 at hh;cases xs with
 |nil=>cases hh
 |cons x xr=>
  simp only[List.isEmpty_cons,cond_false]at hh;unfold uU at hh;split at hh
  case h_2=>cases hh
  obtain⟨hb,hh2⟩:=aO hh;clear hh;simp only[ag,ay]at hh2;obtain⟨rfl,rfl⟩:=hh2;simp only[aI]at hb;obtain⟨⟨hb1,hb2⟩,hb3⟩:=hb;have hw7:=aU hb1;subst hw7;refine⟨(fun u hu=>by cases hu),(by show 0+1≤8;omega),⟨.own .r 7 (x::xr),[],0,?_⟩,?_⟩
  ·have hp:pT 61=some (qq 7):=rfl;rw[Au hp];simp only[qq,Qm,fq,hb2,hb3,jh,cond_true]
  ·have hbl:=dY hb2;have h1:decide ((x::xr).length*88≤bl)=true:=decide_eq_true (by omega);have h2:decide ((x::xr).length≤bl)=true:=decide_eq_true (by omega);have h4:((x::xr).all fun r=>r.all U.aL&&U.bZ 0 r&&decide (r.length=7))=true:=by
    unfold jl at hb3;rw[fF]at hb3⊢;intro r hr;have:=hb3 r hr;simp only[aI,decide_eq_true_eq]at this⊢;exact⟨this.1,aU this.2⟩
   have hn:jo .eql .bB (.own .a 7 (x::xr)) .bB=some (.bool false):=rfl;generalize x::xr=xs at*;simp[mB,qhb,Qd,Yf,h1,h2,h4,hn,Zg]
theorem qg0{C:Nat→Option cq}(T:lQ C mT bu Q0 pT)(hC:C 61=some ⟨(mB 7 88 Yf).ntmps,(mB 7 88 Yf).results,(mB 7 88 Yf).body.er⟩):Rr (dz C mT) 61 (uU 7):=by
 intro w xs rest w' ys hh;cases xs with
 |cons x xr=>exact qdi T hC w (x::xr) rest w' ys hh
 |nil=>
  intro E σ Z ω s f st g v vs d hk hor hlen hr;unfold uU at hh;split at hh
  case h_2=>cases hh
  obtain⟨hb,hh2⟩:=aO hh;clear hh;simp only[ag,ay]at hh2;obtain⟨rfl,rfl⟩:=hh2;simp only[aI]at hb;have hw7:=aU hb.1.1;subst hw7;obtain rfl:vs=[]:=fT hlen.symm;have hlz:∀ b r,mF ω Z b=some r→st.row b=some r:=fun b r hb=>by
   rcases u9 hb with h|⟨g',I,a1,a2,a3⟩
   ·exact hk.qZ b r h
   ·rw[←a2,a3];exact iZ (hk.mq g' I a1)
  have hvz:UR σ (mF ω Z) 0 (.sl 7 []) v:=by
   have:=hor;unfold OR at this;split at this
   ·obtain⟨_,hv⟩:=this;rcases hv with rfl|rfl
    ·exact .slnil
    ·exact .Ak
   ·rename_i I hI;obtain⟨rfl,_,p3,p4,p5,p6⟩:=this;refine .AL rfl (B8 hk hI) p5 p3 (by simp;omega) fun j u x a b=>by simp at a
  have hlu:LU σ (mF ω Z) 0 [.sl 7 []] [v]:=LU.cons hvz LU.nil;have fz:=nA (M:=mT) (zero:=Yf) rfl (by decide) (by decide) hC [.sl 7 []] [] 0 (.own .r 7 []) [] 0 rfl σ (mF ω Z) (fun _=>none) st [v] (hk.iso hlz 0) ⟨ak _,fun i o ho=>by simp at ho⟩ (fun _=>rfl) hlu;refine nw ?_ fz;rintro r st' ⟨_,σ',Z',ω',k1,_,k3⟩;obtain⟨ω2,p1,p2,p3⟩:=hk.It (d:=d) k1 k3 rfl;exact⟨Z,ω2,p1,p2.1,fun b r h=>h⟩
end Go.RE
