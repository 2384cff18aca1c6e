/- A part of a proof. -/
import Derived.Test.YtmpopachilfinaaGreatPart10
set_option linter.unusedVariables false
set_option linter.unusedSimpArgs false
set_option linter.unnecessarySimpa false
namespace Go.RE
def VV(kk:gU)(i:Nat)(k v:U)(s:Vs):Option Uo→Option (U×Vs)
 |some (.map es clock)=>bif dB kk k then
      (let fl:=bif v.low (i+1)then s.fl else s.h.length
      match nJ kk k es 0 with
      |some (some (j,_))=>some (.aX [],{s with h:=s.h.set i (.map (oD j (fun e=>(k,v,e.2.2)) es) clock),fl:=fl})
      |some none=>some (.aX [],{s with h:=s.h.set i (.map (es++[(k,v,clock)]) (clock+1)),fl:=fl})
      |none=>none)else none
 |_=>none
def muX(kk:gU)(i:Nat)(k:U):Option (U×Vs)→Option (U×Vs)
 |some (v,s)=>VV kk i k v s s.h[i]?
 |none=>none
@[simp] theorem qe0(kk:gU)(i:Nat)(k v:U)(s:Vs):muX kk i k (some (v,s))=VV kk i k v s s.h[i]? :=rfl
def muK(kk:gU)(i:Nat)(x:bH):Option (U×Vs)→Option (U×Vs)
 |some (k,s)=>muX kk i k (fM x s)
 |none=>none
@[simp] theorem qeY(kk:gU)(i:Nat)(x:bH)(k:U)(s:Vs):muK kk i x (some (k,s))=muX kk i k (fM x s):=rfl
def muM(kk:gU)(k x:bH):Option (U×Vs)→Option (U×Vs)
 |some (.map i,s)=>muK kk i x (fM k s)
 |_=>none
@[simp] theorem qeZ(kk:gU)(k x:bH)(i:Nat)(s:Vs):muM kk k x (some (.map i,s))=muK kk i x (fM k s):=rfl
@[simp] theorem VY(d:Nat)(s:Vs)(kk:gU)(m k x:bH):pL d s (.mapUpdate kk m k x)=muM kk k x (fM m s):=by
 simp only[pL];cases fM m s with
 |none=>rfl
 |some p=>
  obtain⟨u,s1⟩:=p;cases u with
  |map i=>
   simp only[muM];cases fM k s1 with
   |none=>rfl
   |some p=>
    obtain⟨k,s2⟩:=p;simp only[muK];cases fM x s2 with
    |none=>rfl
    |some p=>
     obtain⟨v,s3⟩:=p;simp only[muX];cases s3.h[i]? with
     |none=>rfl
     |some o=>cases o<;>rfl
  |_=>rfl
def IZ(kk:gU)(i:Nat)(k:U)(s:Vs):Option Uo→Option (U×Vs)
 |some (.map es clock)=>bif dB kk k then(match nJ kk k es 0 with
    |some (some (j,_))=>some (.aX [],{s with h:=s.h.set i (.map (gH j es) clock)})
    |some none=>some (.aX [],s)
    |none=>none)else none
 |_=>none
def qaB(s:Vs)(kk:gU):Option U→Option U→Option (U×Vs)
 |some .bO,some k=>bif dB kk k then some (.aX [],s)else none
 |some (.map i),some k=>IZ kk i k s s.h[i]?
 |_,_=>none
@[simp] theorem qek(s:Vs)(kk:gU)(i:Nat)(k:U):qaB s kk (some (.map i)) (some k)=IZ kk i k s s.h[i]? :=rfl
@[simp] theorem qbj(d:Nat)(s:Vs)(kk:gU)(m k:bH):pL d s (.delete kk m k)=qaB s kk (cq s.e m) (cq s.e k):=by
 simp only[pL];cases cq s.e m with
 |none=>rfl
 |some u=>
  cases cq s.e k with
  |none=>cases u<;>rfl
  |some k=>
   cases u with
   |map i=>
    simp only[qaB];cases s.h[i]? with
    |none=>rfl
    |some o=>cases o<;>rfl
   |_=>rfl
structure Mk(α κ:Type)[DecidableEq κ] where
 kk:gU
 kf:κ→U
 key:α→κ
 val:α→U
 eq:∀ x y,fI kk (kf x) (kf y)=some (decide (x=y))
 pk:∀ x,dB kk (kf x)=true
section
variable{α κ:Type}[DecidableEq κ](F:Mk α κ)
def tD(x:α×Nat):U×U×Nat:=(F.kf (F.key x.1),F.val x.1,x.2)
structure tY(lc:List (α×Nat))(c:Nat):Prop where
 ID:(lc.map (·.2)).Nodup
 lt:∀ x∈lc,x.2<c
 keys:(lc.map fun x=>F.key x.1).Nodup
def jY(o:Option Uo)(l:List α):Prop:=∃ (lc:List (α×Nat)) (c:Nat),lc.map (·.1)=l∧o=some (.map (lc.map (tD F)) c)∧tY F lc c
def fF(k:κ)(l:List α):Option α:=l.find? fun a=>decide (F.key a=k)
def sO(a:α):List α→List α
 |[]=>[]
 |b::r=>bif decide (F.key b=F.key a)then a::r else b::sO a r
def jd(k:κ):List α→List α
 |[]=>[]
 |b::r=>bif decide (F.key b=k)then r else b::jd k r
def lu(a:α)(l:List α):List α:=bif(fF F (F.key a) l).isSome then sO F a l else l++[a]
theorem D9(k:κ):∀ (lc:List (α×Nat)) (j:Nat),(fF F k (lc.map (·.1))=none∧nJ F.kk (F.kf k) (lc.map (tD F)) j=some none)∨
  ∃ i a,fF F k (lc.map (·.1))=some a∧nJ F.kk (F.kf k) (lc.map (tD F)) j=some (some (j+i,F.val a))∧
   (∀ b:α,F.key b=k→∃ lc' :List (α×Nat),lc'.map (·.1)=sO F b (lc.map (·.1))∧lc'.map (·.2)=lc.map (·.2)∧(lc'.map fun x=>F.key x.1)=(lc.map fun x=>F.key x.1)∧oD i (fun e=>(F.kf k,F.val b,e.2.2)) (lc.map (tD F))=lc'.map (tD F))∧
   ∃ lc' :List (α×Nat),lc'.map (·.1)=jd F k (lc.map (·.1))∧lc'.Sublist lc∧gH i (lc.map (tD F))=lc'.map (tD F):=by
 intro lc
 induction lc with
 |nil=>intro j;left;exact⟨rfl,rfl⟩
 |cons x r ih=>
  intro j;have hf:nJ F.kk (F.kf k) ((x::r).map (tD F)) j=(match fI F.kk (F.kf k) (F.kf (F.key x.1))with
   |some true=>some (some (j,F.val x.1))
   |some false=>nJ F.kk (F.kf k) (r.map (tD F)) (j+1)
   |none=>none):=rfl
  rw[F.eq]at hf;by_cases hk:F.key x.1=k
  ·right;have hk' :decide (k=F.key x.1)=true:=decide_eq_true hk.symm;rw[hk']at hf;refine⟨0,x.1,by simp[fF,List.find?_cons,hk],hf,fun b hb=>⟨(b,x.2)::r,?_,rfl,?_,?_⟩,r,?_,List.sublist_cons_self _ _,rfl⟩
   ·simp[sO,hk,hb]
   ·simp[hk,hb]
   ·simp[oD,tD,hb]
   ·simp[jd,hk]
  ·have hk' :decide (k=F.key x.1)=false:=decide_eq_false fun h=>hk h.symm;rw[hk']at hf;have hl:fF F k ((x::r).map (·.1))=fF F k (r.map (·.1)):=by simp[fF,List.find?_cons,hk]
   rcases ih (j+1)with⟨h1,h2⟩|⟨i,a,h1,h2,h3,h4⟩
   ·left;exact⟨by rw[hl];exact h1,by rw[hf];exact h2⟩
   ·right;refine⟨i+1,a,by rw[hl];exact h1,by rw[hf];simp only;rw[h2];simp only[ai,aL,and_true];omega,fun b hb=> ?_,?_⟩
    ·obtain⟨lc',q1,q2,q3,q4⟩:=h3 b hb;refine⟨x::lc',?_,?_,?_,?_⟩
     ·simp only[List.map_cons,sO,hb,hk,decide_false,cond_false];rw[q1]
     ·simp only[List.map_cons];rw[q2]
     ·simp only[List.map_cons];rw[q3]
     ·simp only[List.map_cons,oD];rw[q4]
    ·obtain⟨lc',q1,q2,q3⟩:=h4;refine⟨x::lc',?_,q2.cons_cons x,?_⟩
     ·simp only[List.map_cons,jd,hk,decide_false,cond_false];rw[q1]
     ·simp only[List.map_cons,gH];rw[q3]
theorem LO{k:κ}{l:List α}{a:α}(h:fF F k l=some a):F.key a=k:=by
 have:=List.find?_some h;simpa using this
theorem kQ{k:κ}{l:List α}{a:α}(h:fF F k l=some a):a∈l:=qgs h
theorem nc{l:List α}{m:Nat}{s:Vs}(h:jY F s.h[m]? l)(z:U)(k:κ)(ok:Bool):
  fG s F.kk z ok (.map m) (F.kf k)=some (match fF F k l with|some a=>bif ok then .aX [F.val a,.bool true]else F.val a|none=>bif ok then .aX [z,.bool false]else z):=by
 obtain⟨lc,c,rfl,ho,_⟩:=h;simp only[fG,ho,F.pk,cond_true];rcases D9 F k lc 0 with⟨h1,h2⟩|⟨i,a,h1,h2,_⟩<;>rw[h1,h2]
theorem WU{l:List α}{m:Nat}{s:Vs}(h:jY F s.h[m]? l):NS s 2 (.map m)=some l.length:=by
 obtain⟨lc,c,rfl,ho,_⟩:=h;simp[NS,ho]
theorem map_set{l:List α}{o:Option Uo}(h:jY F o l)(a:α):∃ o',jY F (some o') (lu F a l)∧
  ∀ (m:Nat) (s:Vs),VV F.kk m (F.kf (F.key a)) (F.val a) s o=some (.aX [],⟨s.e,s.h.set m o',bif(F.val a).low (m+1)then s.fl else s.h.length⟩):=by
 obtain⟨lc,c,rfl,ho,hc⟩:=h;subst ho;rcases D9 F (F.key a) lc 0 with⟨h1,h2⟩|⟨i,b,h1,h2,h3,_⟩
 ·refine⟨.map ((lc++[(a,c)]).map (tD F)) (c+1),⟨lc++[(a,c)],c+1,?_,rfl,?_,?_,?_⟩,fun m s=> ?_⟩
  ·simp[lu,h1]
  ·simp only[List.map_append,List.map_cons,List.map_nil,List.nodup_append];refine⟨hc.ID,by simp,fun x hx y hy=> ?_⟩;simp only[dM,List.not_mem_nil,or_false]at hy;obtain⟨z,hz,rfl⟩:=eR.1 hx;have:=hc.lt z hz;omega
  ·intro x hx;rcases gd.1 hx with hx|hx
   ·have:=hc.lt x hx;omega
   ·simp only[dM,List.not_mem_nil,or_false]at hx;subst hx;simp
  ·simp only[List.map_append,List.map_cons,List.map_nil,List.nodup_append];refine⟨hc.keys,by simp,fun x hx y hy=> ?_⟩;simp only[dM,List.not_mem_nil,or_false]at hy;subst hy;obtain⟨z,hz,rfl⟩:=eR.1 hx;intro he;have:=List.find?_eq_none.1 h1 z.1 (eR.2 ⟨z,hz,rfl⟩);simp[he]at this
  ·simp only[VV,F.pk,cond_true,h2,List.map_append,List.map_cons,List.map_nil,tD]
 ·obtain⟨lc',q1,q2,q3,q4⟩:=h3 a rfl;refine⟨.map (lc'.map (tD F)) c,⟨lc',c,?_,rfl,?_,?_,?_⟩,fun m s=> ?_⟩
  ·simp[lu,h1,q1]
  ·rw[q2];exact hc.ID
  ·intro x hx;have:x.2∈lc'.map (·.2):=eR.2 ⟨x,hx,rfl⟩;rw[q2]at this;obtain⟨y,hy,he⟩:=eR.1 this;rw[←he];exact hc.lt y hy
  ·rw[q3];exact hc.keys
  ·simp only[VV,F.pk,cond_true,h2,Nat.zero_add,q4]
theorem LX{l:List α}{o:Option Uo}(h:jY F o l)(k:κ):∃ o',jY F (some o') (jd F k l)∧
  ∀ (m:Nat) (s:Vs),s.h[m]? =o→IZ F.kk m (F.kf k) s o=some (.aX [],⟨s.e,s.h.set m o',s.fl⟩):=by
 obtain⟨lc,c,rfl,ho,hc⟩:=h;subst ho;rcases D9 F k lc 0 with⟨h1,h2⟩|⟨i,b,h1,h2,_,lc',q1,q2,q3⟩
 ·have hd:∀ l:List α,fF F k l=none→jd F k l=l:=by
   intro l
   induction l with
   |nil=>intro _;rfl
   |cons b r ih=>
    intro hh;simp only[fF,List.find?_cons]at hh;by_cases hb:F.key b=k
    ·simp[hb]at hh
    ·simp only[hb,decide_false]at hh;simp only[jd,hb,decide_false,cond_false];rw[ih hh]
  refine⟨.map (lc.map (tD F)) c,⟨lc,c,(hd _ h1).symm,rfl,hc⟩,fun m s hs=> ?_⟩;have hset:s.h.set m (.map (lc.map (tD F)) c)=s.h:=by
   obtain⟨hlt,he⟩:=bn.1 hs;rw[←he];exact List.set_getElem_self hlt
  simp only[IZ,F.pk,cond_true,h2,hset]
 ·refine⟨.map (lc'.map (tD F)) c,⟨lc',c,q1,rfl,?_,?_,?_⟩,fun m s hs=> ?_⟩
  ·exact List.Nodup.sublist (q2.map _) hc.ID
  ·exact fun x hx=>hc.lt x (q2.subset hx)
  ·exact List.Nodup.sublist (q2.map _) hc.keys
  ·simp only[IZ,F.pk,cond_true,h2,Nat.zero_add,q3]
theorem uu:jY F (some (.map [] 0)) []:=⟨[],0,rfl,rfl,⟨List.nodup_nil,fun x hx=>(List.not_mem_nil hx).elim,List.nodup_nil⟩⟩
end
theorem Np{es:List (U×U×Nat)}{c:Nat}(hlt:∀ e∈es,e.2.2<c){seen:List Nat}{x:Option (U×U×Nat)}(hx:x∈td es c seen):
  (x=none∧∀ e∈es,e.2.2∈seen)∨∃ e∈es,e.2.2 ∉ seen∧x=some e:=by
 unfold td at hx;simp only[gd]at hx;rcases hx with hx|hx
 ·left;cases hq:(List.filter (fun e:U×U×Nat=>Nat.blt e.2.2 c) (List.filter (fun e:U×U×Nat=> !seen.contains e.2.2) es)).isEmpty with
  |false=>rw[hq]at hx;simp at hx
  |true=>
   rw[hq]at hx;simp at hx;refine⟨hx,fun e he=> ?_⟩;rw[List.isEmpty_iff]at hq;apply Classical.byContradiction;intro hne;have:e∈List.filter (fun e:U×U×Nat=>Nat.blt e.2.2 c) (List.filter (fun e:U×U×Nat=> !seen.contains e.2.2) es):=by
    rw[List.mem_filter,List.mem_filter];exact⟨⟨he,by simp[hne]⟩,by simp[hlt e he]⟩
   rw[hq]at this;cases this
 ·right;rw[eR]at hx;obtain⟨y,hy,rfl⟩:=hx;rw[gd,List.mem_filter,List.mem_filter]at hy;have hm:y∈List.filter (fun e:U×U×Nat=> !seen.contains e.2.2) es:=by
   rcases hy with hy|hy
   ·exact List.mem_filter.2 hy.1
   ·exact(List.mem_filter.1 hy).1
  rw[List.mem_filter]at hm;exact⟨y,hm.1,by simpa using hm.2,rfl⟩
theorem oE{es:List (U×U×Nat)}{c m:Nat}{h:List Uo}{fl:Nat}{e:Env}{dst:Option Nat}{x:bH}{k:Vs→Prop}{seen:List Nat}(hx:cq e x=some (.ptr h.length 0))(hm:h[m]? =some (.map es c))(hlt:∀ a∈es,a.2.2<c)
  (hend:(∀ a∈es,a.2.2∈seen)→k ⟨iT dst (.aX [.bool false]) e,h++[.iter (some m) c seen c],fl⟩)
  (hstep:∀ a∈es,a.2.2 ∉ seen→k ⟨iT dst (.aX [.bool true,a.1,a.2.1]) e,h++[.iter (some m) c (seen++[a.2.2]) c],fl⟩):
  iu ⟨e,h++[.iter (some m) c seen c],fl⟩ dst x k:=by
 unfold iu;simp only[hx,OG,aT hm];refine⟨?_,fun y hy=> ?_⟩
 ·cases es with
  |nil=>simp
  |cons a r=>
   have:=hlt a (by simp);have hb:Nat.ble c a.2.2=false:=by
    cases hq:Nat.ble c a.2.2 with
    |false=>rfl
    |true=>have:=gb hq;omega
   simp[hb];intro _ h2;omega
 ·rcases Np hlt hy with⟨rfl,hall⟩|⟨a,ha,hn,rfl⟩
  ·exact hend hall
  ·have:=hstep a ha hn;simp only[HA,Qr];exact this
theorem wD{es:List (U×U×Nat)}{c m:Nat}{h:List Uo}{fl:Nat}{e:Env}{seen:List Nat}(hm:h[m]? =some (.map es c))(hn:(es.map (·.2.2)).Nodup){a:U×U×Nat}(ha:a∈es):
  mL ⟨e,h++[.iter (some m) c (seen++[a.2.2]) c],fl⟩ h.length=some (.aX [a.1,a.2.1]):=by
 have hf:es.find? (fun x=>Nat.beq x.2.2 a.2.2)=some a:=by
  clear hm
  induction es with
  |nil=>cases ha
  |cons b r ih=>
   rw[List.find?_cons];simp only[List.map_cons,List.nodup_cons]at hn;rcases dM.1 ha with rfl|ha
   ·simp
   ·have hne:b.2.2≠a.2.2:=fun hh=>hn.1 (by rw[hh];exact eR.2 ⟨a,ha,rfl⟩);have:Nat.beq b.2.2 a.2.2=false:=by simp[hne]
    rw[this];exact ih hn.2 ha
 simp only[mL,OG,aT hm,List.getLast?_concat,iY,cond_true,hf]
end Go.RE
namespace Go.RE
structure Lm where
 keys:Nat
 gA:Nat
 bytes:Nat
 marks:Nat
 records:Nat
 live:Nat
 last:Nat
structure Db where
 lim:Lm
 now:Nat
 keys:List By
 of:List (By×List jB)
 sk:Nat
 sv:Nat
 sb:Nat
def kC(b:By):List U:=[.str b]
@[simp] theorem qfj(l:List By):lW 1 (l.map kC)=true:=N8 (fun _=>rfl) l
theorem ym(x y:By):fI .str (.str x) (.str y)=some (decide (x=y)):=by
 have:fI .str (.str x) (.str y)=some (x==y):=rfl;rw[this];congr 1;cases h:x==y with
 |true=>exact(decide_eq_true (eq_of_beq h)).symm
 |false=>exact(decide_eq_false (fun hh=>by subst hh;rw[beq_self_eq_true]at h;cases h)).symm
theorem HF(x y:Int):fI .int (.int .i64 x) (.int .i64 y)=some (decide (x=y)):=rfl
def kO:Mk (By×List jB) By:=⟨.str,.str,(·.1),fun x=> .sl 3 (x.2.map bX),ym,fun _=>rfl⟩
def chain(d:Db)(k:By):List jB:=((fF kO k d.of).map (·.2)).getD []
def dz(d:Db)(o:Nat)(ks:U):List U:=
 [.int .i64 d.lim.keys,.int .i64 d.lim.gA,.int .i64 d.lim.bytes,.int .i64 d.lim.marks,.int .i64 d.lim.records,.int .i64 d.lim.live,.int .u64 d.lim.last,.int .u64 d.now,ks,.map o,.int .i64 d.sk,.int .i64 d.sv,.int .i64 d.sb]
structure eX(h:List Uo)(s o:Nat)(d:Db)(ks:U):Prop where
 row:h[s]? =some (.row (dz d o ks))
 map:jY kO h[o]? d.of
structure oU(d:Db):Prop where
 keys:d.keys.length<small
 sN:∀ k∈d.keys,k.length<small
 of:∀ x∈d.of,nI x.2
 ED:∀ x∈d.of,cB x.2<small
theorem mH{d:Db}(hd:oU d)(k:By):nI (chain d k):=by
 unfold chain;cases h:fF kO k d.of with
 |none=>exact⟨by decide,fun v hv=>(List.not_mem_nil hv).elim⟩
 |some x=>exact hd.of x (kQ _ h)
theorem t99{h:List Uo}{s o:Nat}{d:Db}{ks:U}(fl:Nat)(hf:fl≤h.length)(hs:h[s]? =some (.row (dz d o ks))):G 99 [.ptr s 0] h fl=some (.bool true,h,fl):=by
 refine bJ (fn:=v99) rfl rfl rfl ?_;simp only[dz]at hs;simp[Cq,qaa,qab,hs,aR hf]
theorem t55{h:List Uo}{s o:Nat}{d:Db}{ks:U}(fl:Nat)(hf:fl≤h.length)(hs:h[s]? =some (.row (dz d o ks))):G 55 [.ptr s 0] h fl=some (.int .u64 (d.now:Int),h,fl):=by
 refine bJ (fn:=v55) rfl rfl rfl ?_;have c:=t99 fl hf hs;have hl:decide (s<h.length)=true:=decide_eq_true (bn.1 hs).1;simp only[dz]at hs;simp[Ca,Zz,ZA,ZB,c,hl,hs,aR hf]
theorem t114{h:List Uo}{s o:Nat}{d:Db}{ks:U}(fl:Nat)(hf:fl≤h.length)(hs:eX h s o d ks)(k:By):G 114 [.ptr s 0,.str k] h fl=some (.sl 3 ((chain d k).map bX),h,fl):=by
 refine bJ (fn:=Rt) rfl rfl rfl ?_;have c:=t99 fl hf hs.row;have hl:decide (s<h.length)=true:=decide_eq_true (bn.1 hs.row).1;have hr:=hs.row;have lk:∀ e,fG ⟨e,h,fl⟩ .str (.sl 3 []) false (.map o) (.str k)=some (.sl 3 ((chain d k).map bX)):=fun e=>by
  have:=nc kO (s:=⟨e,h,fl⟩) (m:=o) hs.map (.sl 3 []) k false;refine this.trans ?_;unfold chain;cases fF kO k d.of<;>rfl
 have hz:V.EL (.ag [] 0 0 3)=some (.sl 3 []):=rfl;simp only[dz]at hr;simp[w9,Ru,Rv,Rx,c,hl,hr,lk,hz,aR hf]
theorem t77{h:List Uo}{s o:Nat}{d:Db}{ks:U}(fl:Nat)(hf:fl≤h.length)(hs:eX h s o d ks)(hd:oU d)(k:By)(t:Nat):G 77 [.ptr s 0,.str k,.int .u64 (t:Int)] h fl=some (sP (pF (chain d k) t),h,fl):=by
 refine bJ (fn:=v77) rfl rfl rfl ?_;have c:=t114 fl hf hs k;have c2:=t113 (chain d k) t (mH hd k);have hl:decide (s<h.length)=true:=decide_eq_true (bn.1 hs.row).1;simp only[sP]at c2;simp[Ck,ZS,ZT,c,c2,hl,sP,aR hf]
theorem t138{h:List Uo}{s o:Nat}{d:Db}{ks:U}(fl:Nat)(hf:fl≤h.length)(hs:eX h s o d ks)(hd:oU d)(k:By):G 138 [.ptr s 0,.str k] h fl=some (.int .u64 (fW (chain d k):Nat),h,fl):=by
 refine bJ (fn:=v138) rfl rfl rfl ?_;have c:=t114 fl hf hs k;have c2:=t189 (chain d k) (mH hd k).1;have hl:decide (s<h.length)=true:=decide_eq_true (bn.1 hs.row).1;simp[xd,RV,RW,c,c2,hl,aR hf]
@[simp] theorem qcK(n:Nat):jG .shr .no (.int .u64 (n:Int)) (.int .u64 1)=some (.int .u64 (half n:Nat)):=by
 show wP .shr .u64 (n:Int) 1=_;have e:((n:Int)).fdiv (2 ^ (min (1:Int).toNat IntKind.u64.bits))=((half n:Nat):Int):=by
  show(n:Int).fdiv 2=_;rw[Int.fdiv_eq_ediv_of_nonneg _ (by decide)];unfold half;omega
 simp only[wP,e];rfl
theorem t148(ks:List By)(i:Nat)(lo:By)(hi:i<ks.length):G 148 [.int .i64 (i:Int),.ptr 0 0,.ptr 1 0] [.row [.sl 1 (ks.map kC)],.row [.str lo]] 0=some (.bool (!lt (ks[i]?.getD []) lo),[.row [.sl 1 (ks.map kC)],.row [.str lo]],0):=by
 refine bJ (fn:=v148) rfl rfl rfl ?_;have e1:(ks.map kC)[i]? =some [.str (ks[i]?.getD [])]:=by simp[kC,hi]
 simp[xy,SA,au Xw,Fh,aS e1,cT]
def ot(ks:List By)(lo:By):Nat:=sU (fun j=>lt (ks[j]?.getD []) lo) (ks.length+1) 0 ks.length
theorem Gs{n:Nat}(h:n≤18446744073709551615):aI .u64 (n:Int)=(n:Int):=by
 show(bif Nat.ble n (AN .u64)then Int.ofNat n else _)=_;have:Nat.ble n (AN .u64)=true:=ou h;rw[this];rfl
theorem qb1(ks:List By)(lo:By)(hl:ks.length<small):∀ (f i j:Nat),j≤ks.length→i≤j→j - i<f→
  gL bq mT qT pT BE 0 Fg 2 ⟨[(1,.func 148 [] [.ptr 0 0,.ptr 1 0]),(6,.int .i64 (j:Int)),(5,.int .i64 (i:Int))],[.row [.sl 1 (ks.map kC)],.row [.str lo]],0⟩
   (gy bq mT qT pT BE (.seq (.region Kp) .ret) (kE 2 BE (.int .i64 (sU (fun j=>lt (ks[j]?.getD []) lo) f i j:Nat),[.row [.sl 1 (ks.map kC)],.row [.str lo]],0))):=by
 intro f
 induction f with
 |zero=>intro i j _ _ hh;omega
 |succ f ih=>
  intro i j h1 h2 h3;rw[ak Fg.eq_1];by_cases hlt:i<j
  ·have c1:(i:Int)<(j:Int):=by omega
   obtain⟨m,hm⟩:∃ m,m=(i+j) / 2:=⟨_,rfl⟩;have hmid:m<ks.length:=by omega
   obtain⟨n,hn⟩:∃ n,n=i+j:=⟨_,rfl⟩;have e0:(i:Int)+(j:Int)=(n:Int):=by omega
   have e1:aI .i64 (n:Int)=(n:Int):=eT (by unfold small at hl;omega);have e2:aI .u64 (n:Int)=(n:Int):=Gs (by unfold small at hl;omega);have e3:aI .i64 (half n:Nat)=((m:Nat):Int):=by
    rw[show half n=m by unfold half;omega];exact eT (by unfold small at hl;omega)
   have e4:aI .i64 (((m:Nat):Int)+1)=((m+1:Nat):Int):=eY (by unfold small at hl;omega);have hx:=t148 ks m lo hmid;simp only[sU,decide_eq_true hlt,cond_true,←hm];cases hp:lt (ks[m]?.getD []) lo with
   |true=>
    rw[hp]at hx;have ih' :=ih (m+1) j h1 (by omega) (by omega);simp[Ff,Kn,Ko,Sx,c1,e0,e1,e2,e3,e4,hx];exact ih'
   |false=>
    rw[hp]at hx;have ih' :=ih i m (by omega) (by omega) (by omega);simp[Ff,Kn,Ko,Sy,c1,e0,e1,e2,e3,e4,hx];exact ih'
  ·have c1:¬(i:Int)<(j:Int):=by omega
   simp only[sU,decide_eq_false hlt,cond_false];simp[Ff,Kp,c1]
theorem t106(ks:List By)(lo:By)(hl:ks.length<small):G 106 [.sl 1 (ks.map kC),.str lo] [] 0=some (.int .i64 (ot ks lo:Nat),[],0):=by
 refine bJ (fn:=Rf) rfl rfl rfl ?_;have h147:G 147 [.int .i64 (ks.length:Int),.func 148 [] [.ptr 0 0,.ptr 1 0]] [.row [.sl 1 (ks.map kC)],.row [.str lo]] 0=some (.int .i64 (ot ks lo:Nat),[.row [.sl 1 (ks.map kC)],.row [.str lo]],0):=by
  refine bJ (fn:=BE) rfl rfl rfl ?_;have:=qb1 ks lo hl (ks.length+1) 0 ks.length (aq _) (dS _) (by omega);simp[xw,Sv,Sw];exact this
 simp[wZ,Rg,Rh,h147]
def yq(d:Db)(hi:By)(t:Nat):List By→List (By×By)
 |[]=>[]
 |k::r=>bif !hi.isEmpty&& !lt k hi then[]else(match pF (chain d k) t with|some b=>[(k,b)]|none=>[])++yq d hi t r
def iU(d:Db)(lo hi:By)(t:Nat):List (By×By):=yq d hi t (d.keys.drop (ot d.keys lo))
def uB(p:By×By):List U:=[.str p.1,.sl 1 (bQ p.2)]
theorem EH(ks:List By)(lo:By):ot ks lo≤ks.length:=(gD _ _ _ _ (dS _)).2
theorem eX.ne{h:List Uo}{s o:Nat}{d:Db}{ks:U}(hs:eX h s o d ks):s≠o:=by
 rintro rfl;obtain⟨lc,c,_,ho,_⟩:=hs.map;rw[hs.row]at ho;cases ho
theorem eX.lM{h:List Uo}{s o:Nat}{d:Db}{ks ks' :U}(hs:eX h s o d ks):eX (h.set s (.row (dz d o ks'))) s o d ks' :=
 ⟨List.getElem?_set_self (bn.1 hs.row).1,by rw[List.getElem?_set_ne hs.ne];exact hs.map⟩
theorem EC{h:List Uo}{s:Nat}{x:Uo}(hs:h[s]? =some x):h.set s x=h:=by
 obtain⟨h1,h2⟩:=bn.1 hs;rw[←h2];exact List.set_getElem_self h1
theorem qfO{h:List Uo}{s o:Nat}{d:Db}(fl:Nat)(hf:fl≤h.length)(hs:eX h s o d (.bE 1 (d.keys.map kC)))(hd:oU d)(hi:By)(t lo len:Nat)(hlo:lo+len=d.keys.length):
  ∀ (j i:Nat) (out:List (By×By)),i+j=len→out.length≤i→
  gL bq mT qT pT v64 0 vS h.length ⟨[(9,.own (.t 9) 2 (out.map uB)),(29,.int .i64 (i:Int)),(3,.int .u64 (t:Int)),(0,.ptr s 0),(2,.str hi),(27,.view (.c s 8) lo len 1),(28,.int .i64 (len:Int))],h,fl⟩
   (gy bq mT qT pT v64 (.seq (.region Ce) .ret) (kE h.length v64 (.own .r 2 ((out++yq d hi t (d.keys.drop (lo+i))).map uB),h,fl))):=by
 have hl:decide (s<h.length)=true:=decide_eq_true (bn.1 hs.row).1;have hlt:=(bn.1 hs.row).1;have hr:=hs.row;simp only[dz]at hr;intro j
 induction j with
 |zero=>
  intro i out hij ho;have h1:¬((i:Int)<(len:Int)):=by omega
  have h2:d.keys.drop (lo+i)=[]:=Gt (by omega);rw[ak vS.eq_1,h2];simp[yC,Ce,h1,aR hf,yq]
 |succ j ih=>
  intro i out hij ho;have h1:((i:Int)<(len:Int)):=by omega
  have e3:aI .i64 ((i:Int)+1)=((i+1:Nat):Int):=eY (by have:=hd.keys;unfold small at this;omega);have hik:lo+i<d.keys.length:=by omega
  obtain⟨k,hk⟩:∃ k,d.keys[lo+i]? =some k:=⟨_,bL hik⟩;have e1:(d.keys.map kC)[lo+i]? =some [.str k]:=by simp[kC,hk]
  have d1:d.keys.drop (lo+i)=k::d.keys.drop (lo+(i+1)):=by
   rw[XF hik,show lo+i+1=lo+(i+1) by omega];congr 1;rw[bL hik]at hk;exact Option.some.inj hk
  have c:=t77 fl (by simpa using hf) (hs.lM (ks' :=.de)) hd k t;have ia:∀ s',qf s' 1 (some (.view (.c s 8) lo len 1)) (some (.int .i64 (i:Int)))=some (.bD (.c s 8) (lo+i) 0,s'):=fun s' =>PC (by omega);have hss:∀ X:Uo,(h.set s X)[s]? =some X:=fun X=>List.getElem?_set_self hlt;have hself:=EC hr;generalize hX:d.keys.map kC=X at*;rw[ak vS.eq_1,d1,yq];simp only[dz]at c;cases hb:hi.isEmpty with
  |true=>
   simp only[Bool.not_true,Bool.false_and,cond_false];cases hg:pF (chain d k) t with
   |none=>
    have ih' :=ih (i+1) out (by omega) (by omega);rw[hg]at c;simp only[sP]at c;simp[yC,DO,DP,It,Iu,Cd,h1,ia,hr,e1,e3,hb,c,hss,hself,hl,aR hf];simpa using ih'
   |some b=>
    have ih' :=ih (i+1) (out++[(k,b)]) (by omega) (by simp;omega);have b1:(out.length+1)*40≤aZ∧out.length+1≤aZ:=by have:=hd.keys;unfold small at this;unfold aZ;omega
    rw[hg]at c;simp only[sP]at c;simp[uB]at ih';simp[yC,DO,DP,It,Iu,Le,Cd,h1,ia,hr,e1,e3,hb,c,hss,hself,hl,aR hf,b1,uB];simpa using ih'
  |false=>
   cases hb2:lt k hi with
   |false=>simp[yC,DO,DP,Ce,h1,ia,hr,e1,hb,hb2,aR hf]
   |true=>
    simp only[Bool.not_true,Bool.and_false,cond_false];cases hg:pF (chain d k) t with
    |none=>
     have ih' :=ih (i+1) out (by omega) (by omega);rw[hg]at c;simp only[sP]at c;simp[yC,DO,DP,It,Iu,Cd,h1,ia,hr,e1,e3,hb,hb2,c,hss,hself,hl,aR hf];simpa using ih'
    |some b=>
     have ih' :=ih (i+1) (out++[(k,b)]) (by omega) (by simp;omega);have b1:(out.length+1)*40≤aZ∧out.length+1≤aZ:=by have:=hd.keys;unfold small at this;unfold aZ;omega
     rw[hg]at c;simp only[sP]at c;simp[uB]at ih';simp[yC,DO,DP,It,Iu,Le,Cd,h1,ia,hr,e1,e3,hb,hb2,c,hss,hself,hl,aR hf,b1,uB];simpa using ih'
def slN(s:Vs)(w:Nat):Option Nat→Option Nat→Option Nat→Option (U×Vs)
 |some 0,some 0,some 0=>some (.nl w,s)
 |_,_,_=>none
@[simp] theorem qiU(s:Vs)(w:Nat):slN s w (some 0) (some 0) (some 0)=some (.nl w,s):=rfl
@[simp] theorem qdH(d w:Nat)(lo hi mx:Option bH)(s:Vs):iz d w lo hi mx (.nl w) s=slN s w (bw s.e hi 0 0) (bw s.e mx 0 0) (bw s.e lo 0 0):=by
 simp only[iz,iY,cond_true];rfl
theorem t64{h:List Uo}{s o:Nat}{d:Db}{ks:U}(fl:Nat)(hf:fl≤h.length)(hs:eX h s o d ks)(hk:ks=.bE 1 (d.keys.map kC)∨(ks=.nl 1∧d.keys=[]))(hd:oU d)(lo hi:By)(t:Nat):
  G 64 [.ptr s 0,.str lo,.str hi,.int .u64 (t:Int)] h fl=some (.own .r 2 ((iU d lo hi t).map uB),h,fl):=by
 refine bJ (fn:=v64) rfl rfl rfl ?_;have hl:decide (s<h.length)=true:=decide_eq_true (bn.1 hs.row).1;have c0:=t99 fl hf hs.row;have c1:=t106 d.keys lo hd.keys;have hle:=EH d.keys lo;have hr:=hs.row;rcases hk with rfl|⟨rfl,hk⟩
 ·have a:=qfO fl hf hs hd hi t (ot d.keys lo) (d.keys.length - ot d.keys lo) (by omega) (d.keys.length - ot d.keys lo) 0 [] (by omega) (by simp);have ek:fK (.int .i64 (ot d.keys lo:Nat)) d.keys.length=some (ot d.keys lo):=by
   show asNat (.int .i64 (ot d.keys lo:Nat)) _=some _;simp only[asNat];rw[if_pos ⟨Int.natCast_nonneg _,by omega⟩];rfl
  simp only[dz]at hr;simp at a;simp[vT,U4,U5,U6,au U7,Lf,c0,c1,hl,hr,ek,aR hf,cT,iU];exact a
 ·have hz:ot d.keys lo=0:=by rw[hk]at hle;simp at hle;rw[hk];exact hle
  have c2:=t106 [] lo (by decide);rw[hk]at hz;rw[hz]at c2;simp only[dz]at hr;simp at c2;have e:iU d lo hi t=[]:=by unfold iU;rw[hk];simp[yq]
  rw[e];have e0:fK (.int .i64 0) 0=some 0:=rfl;simp[vT,U4,U5,U6,au U7,Lf,c0,c2,hl,hr,e0,cT];rw[ak vS.eq_1];simp[yC,Ce,aR hf]
end Go.RE
namespace Go.RE
theorem Xd(l:List cD)(a m b:Nat)(h1:a<m)(h2:m<b)(h3:b≤l.length):A6 (b - a) m (m - a) (b - m) l=pN l a m b:=by
 have e:=nt l a m b (by omega) (by omega);have l1:((l.drop a).take (m - a)).length=m - a:=by simp;omega
 have l2:((l.drop m).take (b - m)).length=b - m:=by simp;omega
 have l0:(l.take a).length=a:=by simp;omega
 unfold pN;generalize l.take a=A at*;generalize (l.drop a).take (m - a)=X at*;generalize (l.drop m).take (b - m)=Y at*;generalize l.drop b=D at*;subst e;exact EA (b - a) m (m - a) (b - m) A X Y D (by omega) (by omega) (by omega) l1 l2 (by omega)
theorem Qn(l:List cD)(a m b:Nat)(h1:a≤m)(h2:m≤b):(pN l a m b).length=l.length:=(r8 l a m b h1 h2).length_eq
def Yf:Nat→Nat→List cD→List cD
 |0,_,l=>l
 |n+1,k,l=>Yf n (k+1) (kL l k (k+1))
def XM:Nat→Nat→List cD→List cD
 |0,_,l=>l
 |n+1,k,l=>XM n (k - 1) (kL l k (k - 1))
theorem Mc:∀ (Y A C:List cD) (x:cD),Yf Y.length A.length (A++x::(Y++C))=A++Y++x::C
 |[],A,C,x=>by simp[Yf]
 |y::Y,A,C,x=>by
  rw[List.length_cons,Yf];have e:=JY A [] (Y++C) x y A.length (A.length+1) rfl (by simp);simp only[List.nil_append,List.cons_append]at e⊢;rw[e];have ih:=Mc Y (A++[y]) C x;simp only[lG,List.length_singleton,kN,List.singleton_append,List.cons_append,List.nil_append]at ih⊢;exact ih
theorem qco(l:List cD)(a i:Nat)(h1:a<i)(h2:i≤l.length):Yf (i - 1 - a) a l=pN l a (a+1) i:=by
 have e:=nt l a (a+1) i (by omega) (by omega);have l1:((l.drop a).take (a+1 - a)).length=1:=by simp;omega
 have l2:((l.drop (a+1)).take (i - (a+1))).length=i - (a+1):=by simp;omega
 have l0:(l.take a).length=a:=by simp;omega
 unfold pN;generalize l.take a=A at*;generalize (l.drop a).take (a+1 - a)=X at*;generalize (l.drop (a+1)).take (i - (a+1))=Y at*;generalize l.drop i=D at*;subst e
 match X,l1 with
 |[x],_=>
  have:=Mc Y A D x;rw[show i - 1 - a=Y.length by omega];subst l0;simpa using this
theorem Lr:∀ (n:Nat) (Y A C:List cD) (x:cD),Y.length=n→XM n (A.length+n) (A++(Y++x::C))=A++x::(Y++C)
 |0,Y,A,C,x,h=>by
  have:=jq h;subst this;simp[XM]
 |n+1,Y,A,C,x,h=>by
  have hy:Y≠[]:=by intro hh;rw[hh]at h;cases h
  obtain⟨Z,y,rfl⟩:∃ Z y,Y=Z++[y]:=⟨Y.dropLast,Y.getLast hy,(List.dropLast_concat_getLast hy).symm⟩;have hz:Z.length=n:=by simpa using h
  rw[XM,show A.length+(n+1) - 1=A.length+n by omega];have e:=JY (A++Z) [] C y x (A.length+n) (A.length+(n+1)) (by simp;omega) (by simp;omega);have sw:∀ (l:List cD) (i j:Nat),i≠j→kL l i j=kL l j i:=by
   intro l i j hij;unfold kL;rw[List.set_comm _ _ hij]
  rw[sw _ _ _ (by omega)];simp only[List.nil_append,kN,List.singleton_append,List.cons_append]at e⊢;rw[e];have ih:=Lr n Z A (y::C) x hz;simpa using ih
theorem qaC(l:List cD)(i m:Nat)(h1:i≤m)(h2:m<l.length):XM (m - i) m l=pN l i m (m+1):=by
 have e:=nt l i m (m+1) h1 (by omega);have l1:((l.drop m).take (m+1 - m)).length=1:=by simp;omega
 have l2:((l.drop i).take (m - i)).length=m - i:=by simp;omega
 have l0:(l.take i).length=i:=by simp;omega
 unfold pN;generalize l.take i=A at*;generalize (l.drop m).take (m+1 - m)=X at*;generalize (l.drop i).take (m - i)=Y at*;generalize l.drop (m+1)=D at*;subst e
 match X,l1 with
 |[x],_=>
  have:=Lr (m - i) Y A D x l2;rw[show A.length+(m - i)=m by omega]at this;simpa using this
theorem Bj(f:Nat)(l:List cD)(a m b:Nat)(h1:a≤m)(h2:m≤b)(h3:b≤l.length):(lP aY f l a m b).length=l.length:=(oK aY f l a m b h1 h2 h3).length_eq
theorem wR:∀ (f f' :Nat) (l:List cD) (a m b:Nat),a<m→m<b→b - a≤f→b - a≤f'→lP aY f l a m b=lP aY f' l a m b
 |0,f',l,a,m,b,h1,h2,h3,h4=>by omega
 |f+1,0,l,a,m,b,h1,h2,h3,h4=>by omega
 |f+1,f'+1,l,a,m,b,h1,h2,h3,h4=>by
  unfold lP;cases hd:decide (m - a=1)with
  |true=>rfl
  |false=>
   cases hd2:decide (b - m=1)with
   |true=>rfl
   |false=>
    have hs:∃ s0 r0,s0≤r0∧a≤s0∧r0≤m∧r0≤(a+b) / 2∧(bif decide ((a+b) / 2<m)then(a+b) / 2+m - b else a)=s0∧(bif decide ((a+b) / 2<m)then(a+b) / 2 else m)=r0:=by
     cases hm:decide ((a+b) / 2<m)with
     |true=>have:=of_decide_eq_true hm;exact⟨(a+b) / 2+m - b,(a+b) / 2,by omega,by omega,by omega,by omega,rfl,rfl⟩
     |false=>have:=of_decide_eq_false hm;exact⟨a,m,by omega,by omega,by omega,by omega,rfl,rfl⟩
    obtain⟨s0,r0,a1,a2,a3,a4,e1,e2⟩:=hs;simp only[cond_false];rw[e1,e2];obtain⟨b1,b2⟩:=gD (fun c=> !aY (l[(a+b) / 2+m - 1 - c]?.getD default) (l[c]?.getD default)) (r0 - s0) s0 r0 a1;generalize sU (fun c=> !aY (l[(a+b) / 2+m - 1 - c]?.getD default) (l[c]?.getD default)) (r0 - s0) s0 r0=s at b1 b2⊢;generalize (bif decide (s<m)&&decide (m<(a+b) / 2+m - s)then pN l s m ((a+b) / 2+m - s)else l)=l1;have p2:(bif decide (a<s)&&decide (s<(a+b) / 2)then lP aY f l1 a s ((a+b) / 2)else l1)=(bif decide (a<s)&&decide (s<(a+b) / 2)then lP aY f' l1 a s ((a+b) / 2)else l1):=by
     cases h:decide (a<s)&&decide (s<(a+b) / 2)with
     |true=>
      simp only[bC,decide_eq_true_eq]at h;exact wR f f' l1 a s _ h.1 h.2 (by omega) (by omega)
     |false=>rfl
    rw[p2];generalize (bif decide (a<s)&&decide (s<(a+b) / 2)then lP aY f' l1 a s ((a+b) / 2)else l1)=l2;cases h:decide ((a+b) / 2<(a+b) / 2+m - s)&&decide ((a+b) / 2+m - s<b)with
    |true=>
     simp only[bC,decide_eq_true_eq]at h;exact wR f f' l2 _ _ b h.1 h.2 (by omega) (by omega)
    |false=>rfl
theorem Xe(c a m b:Nat)(l:List cD)(hL:l.length<small)(h1:a<m)(h2:m<b)(h3:b≤l.length):JN (l.map aP) [.int .i64 (a:Int),.int .i64 (m:Int),.int .i64 (b:Int),.func c [] []]=some ((pN l a m b).map aP):=by
 have e1:decide ((0:Int)≤(a:Int))=true:=decide_eq_true (by omega);have e2:decide ((a:Int)<(m:Int))=true:=decide_eq_true (by omega);have e3:decide ((m:Int)<(b:Int))=true:=decide_eq_true (by omega);have e4:decide ((b:Int)≤(l.length:Int))=true:=decide_eq_true (by omega);have e5:decide (l.length<small)=true:=decide_eq_true hL;rw[←Xd l a m b h1 h2 h3];simp only[JN,oL,e1,e2,e3,e4,e5,Bool.and_self,cond_true];rfl
def wT(n:Nat)(xs:List (List U))(rest:List U):Option (List (List U)):=
 match rest with
 |[.int .i64 a,.int .i64 m,.int .i64 b,.func 192 [] []]=>match yK xs with
  |some l=>bif decide (0≤a)&&decide (a<m)&&decide (m<b)&&decide (b≤l.length)&&decide (l.length<small)&&decide (b.toNat - a.toNat≤n)then some ((lP aY (b.toNat - a.toNat) l a.toNat m.toNat b.toNat).map aP)else none
  |none=>none
 |_=>none
theorem EK(n a m b:Nat)(l:List cD)(hL:l.length<small)(h1:a<m)(h2:m<b)(h3:b≤l.length)(h4:b - a≤n)(f:Nat)(hf:b - a≤f):wT n (l.map aP) [.int .i64 (a:Int),.int .i64 (m:Int),.int .i64 (b:Int),.func 192 [] []]=some ((lP aY f l a m b).map aP):=by
 have e1:decide ((0:Int)≤(a:Int))=true:=decide_eq_true (by omega);have e2:decide ((a:Int)<(m:Int))=true:=decide_eq_true (by omega);have e3:decide ((m:Int)<(b:Int))=true:=decide_eq_true (by omega);have e4:decide ((b:Int)≤(l.length:Int))=true:=decide_eq_true (by omega);have e5:decide (l.length<small)=true:=decide_eq_true hL;have e6:decide ((b:Int).toNat - (a:Int).toNat≤n)=true:=decide_eq_true (by simpa using h4);rw[wR f (b - a) l a m b h1 h2 hf (aq _)];simp only[wT,oL,e1,e2,e3,e4,e5,e6,Bool.and_self,cond_true];rfl
def Qs(n:Nat):mE:=⟨fun f=>bif f==237 then some JN else bif f==234 then some (wT n)else none,fun _=>none,fun _=>false,fun _=>none⟩
@[simp] theorem qhj(n f:Nat):(Qs n).q f=bif f==237 then some JN else bif f==234 then some (wT n)else none:=rfl
@[simp] theorem qhh(n f:Nat):(Qs n).app f=none:=rfl
@[simp] theorem qiK(n f:Nat):(Qs n).ld f=false:=rfl
@[simp] theorem qhi(n f:Nat):(Qs n).IN f=none:=rfl
theorem rX{i j L:Nat}(hL:L<small)(hj:j≤L)(hlt:i<j):∃ k m:Nat,(i:Int)+(j:Int)=(k:Int)∧aI .i64 (k:Int)=(k:Int)∧aI .u64 (k:Int)=(k:Int)∧aI .i64 ((half k:Nat):Int)=(m:Int)∧aI .i64 ((m:Int)+1)=((m+1:Nat):Int)∧m=(i+j) / 2∧m<j∧i≤m:=by
 refine⟨i+j,(i+j) / 2,by omega,eT (by unfold small at hL;omega),Gs (by unfold small at hL;omega),?_,eY (by unfold small at hL;omega),rfl,by omega,by omega⟩;rw[show half (i+j)=(i+j) / 2 by unfold half;rfl];exact eT (by unfold small at hL;omega)
theorem qcc(n a L:Nat)(hL:L<small)(l:List cD)(hl:l.length=L)(ha:a<L)(K:Ex→Vs→Prop)(R:Nat)
  (hK:K .normal ⟨[(0,.own .a 2 (l.map aP)),(10,.int .i64 (R:Int)),(1,.int .i64 (a:Int))],[],0⟩):∀ (f i j:Nat),i≤j→j≤L→j - i≤f→sU (fun h=>aY (l[h]?.getD default) (l[a]?.getD default)) f i j=R→
  gL bq mT (Qs n) pT v234 0 zP 0 ⟨[(4,.func 192 [] []),(0,.own .a 2 (l.map aP)),(1,.int .i64 (a:Int)),(11,.int .i64 (j:Int)),(10,.int .i64 (i:Int))],[],0⟩ K:=by
 obtain⟨⟨u1,u2⟩,gq⟩:∃ r,l[a]? =some r:=⟨_,bL (by omega)⟩;have gq' :(l.map aP)[a]? =some [.str u1,.str u2]:=by rw[List.getElem?_map,gq];rfl
 have ij:∀ s',qf s' 2 (some (.own .a 2 (l.map aP))) (some (.int .i64 (a:Int)))=some (.bD .a a 0,s'):=fun s' =>cz (by simp;omega);intro f
 induction f with
 |zero=>
  intro i j h1 h2 h3 hR;have h0:¬((i:Int)<(j:Int)):=by omega
  rw[sU]at hR;subst hR;rw[ak zP.eq_1];simp[BX,h0]at hK⊢;simpa using hK
 |succ f ih=>
  intro i j h1 h2 h3 hR;rw[ak zP.eq_1];rw[sU]at hR;by_cases hlt:i<j
  ·have c1:(i:Int)<(j:Int):=by omega
   obtain⟨k,m,e0,e1,e2,e3,e4,hm,hmj,him⟩:=rX hL h2 hlt;rw[decide_eq_true hlt,cond_true,←hm]at hR;obtain⟨⟨s1,s2⟩,gp⟩:∃ r,l[m]? =some r:=⟨_,bL (by omega)⟩;have gp' :(l.map aP)[m]? =some [.str s1,.str s2]:=by rw[List.getElem?_map,gp];rfl
   have ip:∀ s',qf s' 2 (some (.own .a 2 (l.map aP))) (some (.int .i64 (m:Int)))=some (.bD .a m 0,s'):=fun s' =>cz (by simp;omega);have c:=t192 (Q:=Qs n) rfl rfl rfl rfl (s1,s2) (u1,u2);cases hp:lt s1 u1 with
   |true=>
    have hx:aY (l[m]?.getD default) (l[a]?.getD default)=true:=by rw[gp,gq];exact hp
    rw[hx,cond_true]at hR;have ih' :=ih (m+1) j (by omega) h2 (by omega) hR;clear hK;generalize l.map aP=X at*;simp[BX,KQ,au MV,zO,Ug,c1,e0,e1,e2,e3,e4,ip,ij,gp',gq',c,hp,iN,Env.cg,cT];simpa using ih'
   |false=>
    have hx:aY (l[m]?.getD default) (l[a]?.getD default)=false:=by rw[gp,gq];exact hp
    rw[hx,cond_false]at hR;have ih' :=ih i m (by omega) (by omega) (by omega) hR;clear hK;generalize l.map aP=X at*;simp[BX,KQ,au MV,zO,Uh,c1,e0,e1,e2,e3,e4,ip,ij,gp',gq',c,hp,iN,Env.cg,cT];simpa using ih'
  ·have h0:¬((i:Int)<(j:Int)):=by omega
   rw[decide_eq_false hlt,cond_false]at hR;subst hR;simp[BX,h0]at hK⊢;simpa using hK
theorem qce(n m L:Nat)(hL:L<small)(l:List cD)(hl:l.length=L)(ha:m<L)(K:Ex→Vs→Prop)(R:Nat)
  (hK:K .normal ⟨[(0,.own .a 2 (l.map aP)),(14,.int .i64 (R:Int)),(2,.int .i64 (m:Int))],[],0⟩):∀ (f i j:Nat),i≤j→j≤L→j - i≤f→sU (fun h=> !aY (l[m]?.getD default) (l[h]?.getD default)) f i j=R→
  gL bq mT (Qs n) pT v234 4 vz 0 ⟨[(4,.func 192 [] []),(0,.own .a 2 (l.map aP)),(2,.int .i64 (m:Int)),(15,.int .i64 (j:Int)),(14,.int .i64 (i:Int))],[],0⟩ K:=by
 obtain⟨⟨u1,u2⟩,gq⟩:∃ r,l[m]? =some r:=⟨_,bL (by omega)⟩;have gq' :(l.map aP)[m]? =some [.str u1,.str u2]:=by rw[List.getElem?_map,gq];rfl
 have ij:∀ s',qf s' 2 (some (.own .a 2 (l.map aP))) (some (.int .i64 (m:Int)))=some (.bD .a m 0,s'):=fun s' =>cz (by simp;omega);intro f
 induction f with
 |zero=>
  intro i j h1 h2 h3 hR;have h0:¬((i:Int)<(j:Int)):=by omega
  rw[sU]at hR;subst hR;rw[ak vz.eq_1];simp[vj,h0]at hK⊢;simpa using hK
 |succ f ih=>
  intro i j h1 h2 h3 hR;rw[ak vz.eq_1];rw[sU]at hR;by_cases hlt:i<j
  ·have c1:(i:Int)<(j:Int):=by omega
   obtain⟨k,p,e0,e1,e2,e3,e4,hm,hmj,him⟩:=rX hL h2 hlt;rw[decide_eq_true hlt,cond_true,←hm]at hR;obtain⟨⟨s1,s2⟩,gp⟩:∃ r,l[p]? =some r:=⟨_,bL (by omega)⟩;have gp' :(l.map aP)[p]? =some [.str s1,.str s2]:=by rw[List.getElem?_map,gp];rfl
   have ip:∀ s',qf s' 2 (some (.own .a 2 (l.map aP))) (some (.int .i64 (p:Int)))=some (.bD .a p 0,s'):=fun s' =>cz (by simp;omega);have c:=t192 (Q:=Qs n) rfl rfl rfl rfl (u1,u2) (s1,s2);cases hp:lt u1 s1 with
   |false=>
    have hx:(!aY (l[m]?.getD default) (l[p]?.getD default))=true:=by rw[gp,gq];show(!(lt u1 s1))=true;rw[hp];rfl
    rw[hx,cond_true]at hR;have ih' :=ih (p+1) j (by omega) h2 (by omega) hR;clear hK;generalize l.map aP=X at*;simp[vj,FD,au Iq,vp,MJ,c1,e0,e1,e2,e3,e4,ip,ij,gp',gq',c,hp,iN,Env.cg,cT];simpa using ih'
   |true=>
    have hx:(!aY (l[m]?.getD default) (l[p]?.getD default))=false:=by rw[gp,gq];show(!(lt u1 s1))=false;rw[hp];rfl
    rw[hx,cond_false]at hR;have ih' :=ih i p (by omega) (by omega) (by omega) hR;clear hK;generalize l.map aP=X at*;simp[vj,FD,au Iq,vp,MK,c1,e0,e1,e2,e3,e4,ip,ij,gp',gq',c,hp,iN,Env.cg,cT];simpa using ih'
  ·have h0:¬((i:Int)<(j:Int)):=by omega
   rw[decide_eq_false hlt,cond_false]at hR;subst hR;simp[vj,h0]at hK⊢;simpa using hK
theorem qcg(n a m b mid nn q L:Nat)(hL:L<small)(l:List cD)(hl:l.length=L)(hn:nn<2*small)(hq:nn - 1=q)(K:Ex→Vs→Prop)(R:Nat)
  (hK:K .normal ⟨[(4,.func 192 [] []),(3,.int .i64 (b:Int)),(18,.int .i64 (mid:Int)),(0,.own .a 2 (l.map aP)),(20,.int .i64 (R:Int)),(1,.int .i64 (a:Int)),(2,.int .i64 (m:Int)),(19,.int .i64 (nn:Int))],[],0⟩):
  ∀ (f i j:Nat),i≤j→j≤L→q - i<L→j≤q+1→j - i≤f→sU (fun h=> !aY (l[q - h]?.getD default) (l[h]?.getD default)) f i j=R→
  gL bq mT (Qs n) pT v234 8 vB 0 ⟨[(4,.func 192 [] []),(0,.own .a 2 (l.map aP)),(22,.int .i64 (q:Int)),(21,.int .i64 (j:Int)),(20,.int .i64 (i:Int)),(3,.int .i64 (b:Int)),(18,.int .i64 (mid:Int)),(1,.int .i64 (a:Int)),(2,.int .i64 (m:Int)),(19,.int .i64 (nn:Int))],[],0⟩ K:=by
 intro f
 induction f with
 |zero=>
  intro i j h1 h2 h5 h6 h3 hR;have h0:¬((i:Int)<(j:Int)):=by omega
  rw[sU]at hR;subst hR;rw[ak vB.eq_1];simp[vq,h0]at hK⊢;simpa using hK
 |succ f ih=>
  intro i j h1 h2 h5 h6 h3 hR;rw[ak vB.eq_1];rw[sU]at hR;by_cases hlt:i<j
  ·have c1:(i:Int)<(j:Int):=by omega
   obtain⟨k,p,e0,e1,e2,e3,e4,hm,hmj,him⟩:=rX hL h2 hlt;rw[decide_eq_true hlt,cond_true,←hm]at hR;obtain⟨r,hr⟩:∃ r,r=q - p:=⟨_,rfl⟩;have e5:aI .i64 ((q:Int) - (p:Int))=(r:Int):=by rw[dh (by omega) (by unfold small at hn;omega)];omega
   obtain⟨⟨s1,s2⟩,gp⟩:∃ r,l[p]? =some r:=⟨_,bL (by omega)⟩;obtain⟨⟨u1,u2⟩,gq⟩:∃ x,l[r]? =some x:=⟨_,bL (by omega)⟩;have gp' :(l.map aP)[p]? =some [.str s1,.str s2]:=by rw[List.getElem?_map,gp];rfl
   have gq' :(l.map aP)[r]? =some [.str u1,.str u2]:=by rw[List.getElem?_map,gq];rfl
   have ip:∀ s',qf s' 2 (some (.own .a 2 (l.map aP))) (some (.int .i64 (p:Int)))=some (.bD .a p 0,s'):=fun s' =>cz (by simp;omega);have ij:∀ s',qf s' 2 (some (.own .a 2 (l.map aP))) (some (.int .i64 (r:Int)))=some (.bD .a r 0,s'):=fun s' =>cz (by simp;omega);have c:=t192 (Q:=Qs n) rfl rfl rfl rfl (u1,u2) (s1,s2);rw[←hr]at hR;cases hp:lt u1 s1 with
   |false=>
    have hx:(!aY (l[r]?.getD default) (l[p]?.getD default))=true:=by rw[gp,gq];show(!(lt u1 s1))=true;rw[hp];rfl
    rw[hx,cond_true]at hR;have ih' :=ih (p+1) j (by omega) h2 (by omega) h6 (by omega) hR;clear hK;generalize l.map aP=X at*;simp[vq,FK,au Ir,vu,MT,c1,e0,e1,e2,e3,e4,e5,ip,ij,gp',gq',c,hp,iN,Env.cg,cT];simpa using ih'
   |true=>
    have hx:(!aY (l[r]?.getD default) (l[p]?.getD default))=false:=by rw[gp,gq];show(!(lt u1 s1))=false;rw[hp];rfl
    rw[hx,cond_false]at hR;have ih' :=ih i p (by omega) (by omega) (by omega) (by omega) (by omega) hR;clear hK;generalize l.map aP=X at*;simp[vq,FK,au Ir,vu,MU,c1,e0,e1,e2,e3,e4,e5,ip,ij,gp',gq',c,hp,iN,Env.cg,cT];simpa using ih'
  ·have h0:¬((i:Int)<(j:Int)):=by omega
   rw[decide_eq_false hlt,cond_false]at hR;subst hR;simp[vq,h0]at hK⊢;simpa using hK
theorem qcd(n i L:Nat)(hL:L<small)(hi:i≤L)(R:List cD)(K:Ex→Vs→Prop)(hK:K .normal ⟨[(0,.own .a 2 (R.map aP))],[],0⟩):∀ (k j:Nat) (l:List cD),l.length=L→j+k+1=i→Yf k j l=R→
  gL bq mT (Qs n) pT v234 2 vw 0 ⟨[(13,.int .i64 (j:Int)),(0,.own .a 2 (l.map aP)),(10,.int .i64 (i:Int))],[],0⟩ K:=by
 intro k
 induction k with
 |zero=>
  intro j l hl hk hR;have e1:aI .i64 ((i:Int) - 1)=(j:Int):=by rw[dh (by omega) (by unfold small at hL;omega)];omega
  rw[Yf]at hR;subst hR;rw[ak vw.eq_1];simp[FC,e1];exact hK
 |succ k ih=>
  intro j l hl hk hR;obtain⟨q,hq⟩:∃ q,q=i - 1:=⟨_,rfl⟩;have e1:aI .i64 ((i:Int) - 1)=(q:Int):=by rw[dh (by omega) (by unfold small at hL;omega)];omega
  have h1:(j:Int)<(q:Int):=by omega
  obtain⟨p,hp⟩:∃ p,p=j+1:=⟨_,rfl⟩;have e2:aI .i64 ((j:Int)+1)=(p:Int):=by rw[dh (by omega) (by unfold small at hL;omega)];omega
  rw[Yf,←hp]at hR;have ih' :=ih p (kL l j p) (by simp[kL,hl]) (by omega) hR;obtain⟨⟨s1,s2⟩,gp⟩:∃ r,l[p]? =some r:=⟨_,bL (by omega)⟩;obtain⟨⟨u1,u2⟩,gq⟩:∃ r,l[j]? =some r:=⟨_,bL (by omega)⟩;have gp' :(l.map aP)[p]? =some [.str s1,.str s2]:=by rw[List.getElem?_map,gp];rfl
  have gq' :(l.map aP)[j]? =some [.str u1,.str u2]:=by rw[List.getElem?_map,gq];rfl
  have ip:∀ s',qf s' 2 (some (.own .a 2 (l.map aP))) (some (.int .i64 (p:Int)))=some (.bD .a p 0,s'):=fun s' =>cz (by simp;omega);have ij:∀ s',qf s' 2 (some (.own .a 2 (l.map aP))) (some (.int .i64 (j:Int)))=some (.bD .a j 0,s'):=fun s' =>cz (by simp;omega);have ip2:∀ (r:List U) s',qf s' 2 (some (.own .a 2 ((l.map aP).set j r))) (some (.int .i64 (p:Int)))=some (.bD .a p 0,s'):=fun r s' =>cz (by simp;omega);have g3:((l.map aP).set j [.str s1,.str s2])[p]? =some [.str s1,.str s2]:=by
   rw[eM,if_neg (by omega),gp']
  clear hK;simp only[kL,gp,gq,Option.getD_some,List.map_set,aP]at ih';generalize l.map aP=X at*;rw[ak vw.eq_1];simp[FC,MF,au Uc,BV,h1,e1,e2,ip,ij,ip2,gp',gq',g3,iN,Env.cg,tL,Env.fB,U.fB,cT];simpa using ih'
theorem qcf(n i L:Nat)(hL:L<small)(R:List cD)(K:Ex→Vs→Prop)(hK:K .normal ⟨[(0,.own .a 2 (R.map aP))],[],0⟩):∀ (k j:Nat) (l:List cD),l.length=L→j<L→i+k=j→XM k j l=R→
  gL bq mT (Qs n) pT v234 6 vA 0 ⟨[(17,.int .i64 (j:Int)),(0,.own .a 2 (l.map aP)),(14,.int .i64 (i:Int))],[],0⟩ K:=by
 intro k
 induction k with
 |zero=>
  intro j l hl hj hk hR;have h1:¬((i:Int)<(j:Int)):=by omega
  rw[XM]at hR;subst hR;rw[ak vA.eq_1];simp[FE,h1];exact hK
 |succ k ih=>
  intro j l hl hj hk hR;have h1:(i:Int)<(j:Int):=by omega
  obtain⟨p,hp⟩:∃ p,p=j - 1:=⟨_,rfl⟩;have e2:aI .i64 ((j:Int) - 1)=(p:Int):=by rw[dh (by omega) (by unfold small at hL;omega)];omega
  rw[XM,←hp]at hR;have ih' :=ih p (kL l j p) (by simp[kL,hl]) (by omega) (by omega) hR;obtain⟨⟨s1,s2⟩,gp⟩:∃ r,l[p]? =some r:=⟨_,bL (by omega)⟩;obtain⟨⟨u1,u2⟩,gq⟩:∃ r,l[j]? =some r:=⟨_,bL (by omega)⟩;have gp' :(l.map aP)[p]? =some [.str s1,.str s2]:=by rw[List.getElem?_map,gp];rfl
  have gq' :(l.map aP)[j]? =some [.str u1,.str u2]:=by rw[List.getElem?_map,gq];rfl
  have ip:∀ s',qf s' 2 (some (.own .a 2 (l.map aP))) (some (.int .i64 (p:Int)))=some (.bD .a p 0,s'):=fun s' =>cz (by simp;omega);have ij:∀ s',qf s' 2 (some (.own .a 2 (l.map aP))) (some (.int .i64 (j:Int)))=some (.bD .a j 0,s'):=fun s' =>cz (by simp;omega);have ip2:∀ (r:List U) s',qf s' 2 (some (.own .a 2 ((l.map aP).set j r))) (some (.int .i64 (p:Int)))=some (.bD .a p 0,s'):=fun r s' =>cz (by simp;omega);have g3:((l.map aP).set j [.str s1,.str s2])[p]? =some [.str s1,.str s2]:=by
   rw[eM,if_neg (by omega),gp']
  clear hK;simp only[kL,gp,gq,Option.getD_some,List.map_set,aP]at ih';generalize l.map aP=X at*;rw[ak vA.eq_1];simp[FE,MN,au Ue,BW,h1,e2,ip,ij,ip2,gp',gq',g3,iN,Env.cg,tL,Env.fB,U.fB,cT];simpa using ih'
theorem t234(n a m b:Nat)(l:List cD)(hL:l.length<small)(ham:a<m)(hmb:m<b)(hb:b≤l.length)(hn:b - a≤n+1):
  gC bq mT (Qs n) pT v234 v234.body ⟨[(0,.own .a 2 (l.map aP)),(1,.int .i64 (a:Int)),(2,.int .i64 (m:Int)),(3,.int .i64 (b:Int)),(4,.func 192 [] [])],[],0⟩ (CH 2 ((lP aY (b - a) l a m b).map aP)):=by
 obtain⟨R,hR⟩:∃ R,lP aY (b - a) l a m b=R:=⟨_,rfl⟩;rw[hR];rw[show b - a=(b - a - 1)+1 by omega]at hR;obtain⟨g,hg⟩:∃ g,g=m - a:=⟨_,rfl⟩;obtain⟨g',hg'⟩:∃ g',g' =b - m:=⟨_,rfl⟩;have e1:aI .i64 ((m:Int) - (a:Int))=(g:Int):=by rw[dh (by omega) (by unfold small at hL;omega)];omega
 have e2:aI .i64 ((b:Int) - (m:Int))=(g' :Int):=by rw[dh (by omega) (by unfold small at hL;omega)];omega
 unfold lP at hR;by_cases hd:m - a=1
 ·rw[decide_eq_true hd,cond_true]at hR;have hma:m=a+1:=by omega
  have i1:(g:Int)=1:=by omega
  obtain⟨b1,b2⟩:=gD (fun h=>aY (l[h]?.getD default) (l[a]?.getD default)) (b - m) m b (by omega);simp[mB,BU,Ub,Ud,e1,i1];refine qcc n a l.length hL l rfl (by omega) _ _ ?_ (b - m) m b (by omega) hb (by omega) rfl;generalize sU (fun h=>aY (l[h]?.getD default) (l[a]?.getD default)) (b - m) m b=i at b1 b2 hR⊢;rw[hma,←qco l a i (by omega) (by omega)]at hR;simp[Ui];refine qcd n i l.length hL (by omega) R _ ?_ (i - 1 - a) a l rfl (by omega) hR;simp[CH,iN,Env.cg]
 ·rw[decide_eq_false hd,cond_false]at hR;have i1:¬(g:Int)=1:=by omega
  by_cases hd2:b - m=1
  ·rw[decide_eq_true hd2,cond_true]at hR;have i2:(g' :Int)=1:=by omega
   obtain⟨b1,b2⟩:=gD (fun h=> !aY (l[m]?.getD default) (l[h]?.getD default)) (m - a) a m (by omega);simp[mB,BU,zN,MG,MH,e1,i1,e2,i2];refine qce n m l.length hL l rfl (by omega) _ _ ?_ (m - a) a m (by omega) (by omega) (by omega) rfl;generalize sU (fun h=> !aY (l[m]?.getD default) (l[h]?.getD default)) (m - a) a m=i at b1 b2 hR⊢;rw[show b=m+1 by omega,←qaC l i m (by omega) (by omega)]at hR;simp[ML];refine qcf n i l.length hL R _ ?_ (m - i) m l rfl (by omega) (by omega) hR;simp[CH,iN,Env.cg]
  ·rw[decide_eq_false hd2,cond_false]at hR;have i2:¬(g' :Int)=1:=by omega
   obtain⟨k,mid,f0,f1,f2,f3,f4,hm,hmj,him⟩:=rX hL hb (show a<b by omega);dsimp only at hR;rw[←hm]at hR;obtain⟨nn,hnn⟩:∃ nn,nn=mid+m:=⟨_,rfl⟩;rw[←hnn]at hR;have f5:aI .i64 ((mid:Int)+(m:Int))=(nn:Int):=by rw[dh (by omega) (by unfold small at hL;omega)];omega
   have f6:aI .i64 ((nn:Int) - 1)=((nn - 1:Nat):Int):=by rw[dh (by omega) (by unfold small at hL;omega)];omega
   have hs:∃ s0 r0,s0≤r0∧a≤s0∧r0≤m∧r0≤mid∧nn - s0≤b∧m≤nn - r0∧(bif decide (mid<m)then nn - b else a)=s0∧(bif decide (mid<m)then mid else m)=r0:=by
    cases hmm:decide (mid<m)with
    |true=>have:=of_decide_eq_true hmm;exact⟨nn - b,mid,by omega,by omega,by omega,by omega,by omega,by omega,rfl,rfl⟩
    |false=>have:=of_decide_eq_false hmm;exact⟨a,m,by omega,by omega,by omega,by omega,by omega,by omega,rfl,rfl⟩
   obtain⟨s0,r0,a1,a2,a3,a4,a5,a6,x1,x2⟩:=hs;rw[x1,x2]at hR;obtain⟨b1,b2⟩:=gD (fun c=> !aY (l[nn - 1 - c]?.getD default) (l[c]?.getD default)) (r0 - s0) s0 r0 a1;have loop:=fun K hK=>qcg n a m b mid nn (nn - 1) l.length hL l rfl (by omega) rfl K _ hK (r0 - s0) s0 r0 a1 (by omega) (by omega) (by omega) (by omega) rfl;generalize sU (fun c=> !aY (l[nn - 1 - c]?.getD default) (l[c]?.getD default)) (r0 - s0) s0 r0=s at b1 b2 hR loop;obtain⟨e,he⟩:∃ e,e=nn - s:=⟨_,rfl⟩;have f7:aI .i64 ((nn:Int) - (s:Int))=(e:Int):=by rw[dh (by omega) (by unfold small at hL;omega)];omega
   rw[←he]at hR;have stA:∃ l1:List cD,l1.length=l.length∧(bif decide (s<m)&&decide (m<e)then pN l s m e else l)=l1∧((s<m∧m<e∧True∧JN (l.map aP) [.int .i64 (s:Int),.int .i64 (m:Int),.int .i64 (e:Int),.func 192 [] []]=some (l1.map aP))∨(s<m∧¬m<e∧l1=l∧True)∨(¬s<m∧True∧l1=l∧True)):=by
    by_cases c1:s<m
    ·by_cases c2:m<e
     ·refine⟨pN l s m e,Qn l s m e (by omega) (by omega),by rw[decide_eq_true c1,decide_eq_true c2];rfl,.inl ⟨c1,c2,trivial,Xe 192 s m e l hL c1 c2 (by omega)⟩⟩
     ·exact⟨l,rfl,by rw[decide_eq_true c1,decide_eq_false c2];rfl,.inr (.inl ⟨c1,c2,rfl,trivial⟩)⟩
    ·exact⟨l,rfl,by rw[decide_eq_false c1];rfl,.inr (.inr ⟨c1,trivial,rfl,trivial⟩)⟩
   obtain⟨l1,hl1,eA,hA⟩:=stA;rw[eA]at hR;have stB:∃ l2:List cD,l2.length=l1.length∧(bif decide (a<s)&&decide (s<mid)then lP aY (b - a - 1) l1 a s mid else l1)=l2∧((a<s∧s<mid∧True∧wT n (l1.map aP) [.int .i64 (a:Int),.int .i64 (s:Int),.int .i64 (mid:Int),.func 192 [] []]=some (l2.map aP))∨(a<s∧¬s<mid∧l2=l1∧True)∨(¬a<s∧True∧l2=l1∧True)):=by
    by_cases c1:a<s
    ·by_cases c2:s<mid
     ·refine⟨_,Bj (b - a - 1) l1 a s mid (by omega) (by omega) (by omega),by rw[decide_eq_true c1,decide_eq_true c2];rfl,.inl ⟨c1,c2,trivial,EK n a s mid l1 (by omega) c1 c2 (by omega) (by omega) _ (by omega)⟩⟩
     ·exact⟨l1,rfl,by rw[decide_eq_true c1,decide_eq_false c2];rfl,.inr (.inl ⟨c1,c2,rfl,trivial⟩)⟩
    ·exact⟨l1,rfl,by rw[decide_eq_false c1];rfl,.inr (.inr ⟨c1,trivial,rfl,trivial⟩)⟩
   obtain⟨l2,hl2,eB,hB⟩:=stB;rw[eB]at hR;have stC:∃ l3:List cD,(bif decide (mid<e)&&decide (e<b)then lP aY (b - a - 1) l2 mid e b else l2)=l3∧((mid<e∧e<b∧True∧wT n (l2.map aP) [.int .i64 (mid:Int),.int .i64 (e:Int),.int .i64 (b:Int),.func 192 [] []]=some (l3.map aP))∨(mid<e∧¬e<b∧l3=l2∧True)∨(¬mid<e∧True∧l3=l2∧True)):=by
    by_cases c1:mid<e
    ·by_cases c2:e<b
     ·refine⟨_,by rw[decide_eq_true c1,decide_eq_true c2];rfl,.inl ⟨c1,c2,trivial,EK n mid e b l2 (by omega) c1 c2 (by omega) (by omega) _ (by omega)⟩⟩
     ·exact⟨l2,by rw[decide_eq_true c1,decide_eq_false c2];rfl,.inr (.inl ⟨c1,c2,rfl,trivial⟩)⟩
    ·exact⟨l2,by rw[decide_eq_false c1];rfl,.inr (.inr ⟨c1,trivial,rfl,trivial⟩)⟩
   obtain⟨l3,eC,hC⟩:=stC;rw[eC]at hR;have tail:∀ K,K=gy bq mT (Qs n) pT v234 (.seq (.region FL) (.seq (.seq (.region FM) (.cond (.t 185) (.region FN) .skip)) (.seq (.seq (.region FO) (.cond (.t 199) (.region FP) .skip)) (.seq (.region FQ) (.cond (.t 213) (.region FR) .skip))))) (CH 2 (R.map aP))→K .normal ⟨[(4,.func 192 [] []),(3,.int .i64 (b:Int)),(18,.int .i64 (mid:Int)),(0,.own .a 2 (l.map aP)),(20,.int .i64 (s:Int)),(1,.int .i64 (a:Int)),(2,.int .i64 (m:Int)),(19,.int .i64 (nn:Int))],[],0⟩:=by
    rintro K rfl;subst hR;clear loop eA eB eC;rcases hA with⟨a1,a2,-,a4⟩|⟨a1,a2,rfl,a4⟩|⟨a1,a2,rfl,a4⟩<;>rcases hB with⟨b1,b2,-,b4⟩|⟨b1,b2,rfl,b4⟩|⟨b1,b2,rfl,b4⟩<;>rcases hC with⟨c1,c2,-,c4⟩|⟨c1,c2,rfl,c4⟩|⟨c1,c2,rfl,c4⟩<;>
     simp[FL,FM,FN,FO,FP,FQ,FR,f7,a1,a2,a4,b1,b2,b4,c1,c2,c4,iN,Env.cg,tL,Env.fB,U.fB,CH]
   have loop' :=loop _ (tail _ rfl);clear loop tail hA hB hC eA eB eC hR;cases hmm:decide (mid<m)with
   |true=>
    rw[hmm,cond_true]at x1 x2;have f8:aI .i64 ((nn:Int) - (b:Int))=(s0:Int):=by have:=of_decide_eq_true hmm;rw[dh (by omega) (by unfold small at hL;omega)];omega
    subst x2;simp[mB,BU,zN,FF,FG,FH,FI,MO,MP,FJ,e1,i1,e2,i2,f0,f1,f2,f3,f5,f6,f8,hmm];simpa using loop'
   |false=>
    rw[hmm,cond_false]at x1 x2;subst x1;subst x2;simp[mB,BU,zN,FF,FG,FH,FI,MQ,MR,FJ,e1,i1,e2,i2,f0,f1,f2,f3,f5,f6,hmm];simpa using loop'
theorem qbr{C:Nat→Option b8}(n:Nat)(T:kS C mT bq (Qs n) pT):vZ (cZ C mT) 234 (wT (n+1)):=by
 refine wK T (T.code 234 v234 rfl) rfl ?_;intro xs rest ys w hh hw;unfold wT at hh;split at hh
 case h_2=>cases hh
 rename_i a m b;split at hh
 case h_2=>cases hh
 rename_i l hl;obtain⟨hb2,hh3⟩:=aM hh;clear hh;have hx:=nD hl;subst hx;simp only[bC,decide_eq_true_eq]at hb2;obtain⟨⟨⟨⟨⟨h1,h2⟩,h3⟩,h4⟩,h5⟩,h6⟩:=hb2;simp only[ai]at hh3;subst hh3;obtain⟨a,rfl⟩:=Int.eq_ofNat_of_zero_le h1;obtain⟨m,rfl⟩:=Int.eq_ofNat_of_zero_le (show 0≤m by omega);obtain⟨b,rfl⟩:=Int.eq_ofNat_of_zero_le (show 0≤b by omega);have hw2:w=2:=by
  cases l with
  |nil=>simp at h4;omega
  |cons s l=>exact(hw (aP s) (by simp)).symm
 subst hw2;have ht:=t234 n a m b l h5 (by omega) (by omega) (by omega) (by simpa using h6);refine⟨fun u hu=> ?_,(by show 4+1≤220;omega),by simp only[List.length_map];exact Bj _ _ _ _ _ (by simp;omega) (by simp;omega) (by simp;omega),fun r hr=> ?_,?_,?_⟩
 ·simp at hu;rcases hu with rfl|rfl|rfl|rfl<;>exact⟨rfl,rfl⟩
 ·obtain⟨s,hs,rfl⟩:=eR.1 hr;rfl
 ·exact j9 _
 ·exact ht
theorem qfW{C:Nat→Option b8}(T:kS C mT bq Q0 pT):∀ n,kS C mT bq (Qs n) pT∧vZ (cZ C mT) 234 (wT n):=by
  have mk:∀ n,vZ (cZ C mT) 234 (wT n)→kS C mT bq (Qs n) pT:=fun n hq=>
   ⟨T.code,⟨fun f q h=>(by
    rw[qhj]at h;cases hf:f==237 with
    |true=>
     rw[hf]at h;simp only[cond_true,ai]at h;subst h;have:f=237:=by simpa using hf
     subst this;exact qhM T
    |false=>
     rw[hf]at h;simp only[cond_false]at h;cases hf2:f==234 with
     |true=>
      rw[hf2]at h;simp only[cond_true,ai]at h;subst h;have:f=234:=by simpa using hf2
      subst this;exact hq
     |false=>rw[hf2]at h;cases h),fun f q h=>(by cases h),fun f q h=>(by cases h)⟩,T.HH⟩
  intro n
  induction n with
  |zero=>
   have hq:vZ (cZ C mT) 234 (wT 0):=by
    intro xs rest ys hh;exfalso;unfold wT at hh;split at hh
    case h_2=>cases hh
    split at hh
    case h_2=>cases hh
    obtain⟨hb2,-⟩:=aM hh;simp only[bC,decide_eq_true_eq]at hb2;obtain⟨⟨⟨⟨⟨h1,h2⟩,h3⟩,h4⟩,h5⟩,h6⟩:=hb2;omega
   exact⟨mk 0 hq,hq⟩
  |succ n ih=>
   have hq:=qbr n ih.1;exact⟨mk (n+1) hq,hq⟩
def Xo(xs:List (List U))(rest:List U):Option (List (List U)):=wT small xs rest
theorem qhL{C:Nat→Option b8}(T:kS C mT bq Q0 pT):vZ (cZ C mT) 234 Xo:=(qfW T small).2
end Go.RE
namespace Go.RE
@[simp] theorem qd1(a b:Int):jG .mul .no (.int .i64 a) (.int .i64 b)=some (.int .i64 (aI .i64 (a*b))):=rfl
def Qt:mE:=⟨fun f=>bif f==233 then some rU else bif f==234 then some Xo else none,fun _=>none,fun _=>false,fun _=>none⟩
@[simp] theorem qhm(f:Nat):Qt.q f=bif f==233 then some rU else bif f==234 then some Xo else none:=rfl
@[simp] theorem qhk(f:Nat):Qt.app f=none:=rfl
@[simp] theorem qiL(f:Nat):Qt.ld f=false:=rfl
@[simp] theorem qhl(f:Nat):Qt.IN f=none:=rfl
theorem qfX{C:Nat→Option b8}(T:kS C mT bq Q0 pT):kS C mT bq Qt pT:=
 ⟨T.code,⟨fun f q h=>(by
  rw[qhm]at h;cases hf:f==233 with
  |true=>
   rw[hf]at h;simp only[cond_true,ai]at h;subst h;have:f=233:=by simpa using hf
   subst this;exact qhK T
  |false=>
   rw[hf]at h;simp only[cond_false]at h;cases hf2:f==234 with
   |true=>
    rw[hf2]at h;simp only[cond_true,ai]at h;subst h;have:f=234:=by simpa using hf2
    subst this;exact qhL T
   |false=>rw[hf2]at h;cases h),fun f q h=>(by cases h),fun f q h=>(by cases h)⟩,T.HH⟩
theorem L8(a m b:Nat)(l:List cD)(hL:l.length<small)(h1:a<m)(h2:m<b)(h3:b≤l.length)(f:Nat)(hf:b - a≤f):Xo (l.map aP) [.int .i64 (a:Int),.int .i64 (m:Int),.int .i64 (b:Int),.func 192 [] []]=some ((lP aY f l a m b).map aP):=
 EK small a m b l hL h1 h2 h3 (by omega) f hf
theorem qb7(n:Nat)(hL:n<small)(K:Ex→Vs→Prop)(R:List cD)
  (hK:∀ (a:Nat) (l:List cD),l.length=n→a≤n→iZ aY l a n=R→K .normal ⟨[(6,.int .i64 20),(2,.func 192 [] []),(0,.own .a 2 (l.map aP)),(1,.int .i64 (n:Int)),(7,.int .i64 (a:Int))],[],0⟩):∀ (f a:Nat) (l:List cD),l.length=n→n≤a+f→a≤n→qD aY n f a l=R→
  gL bq mT Qt pT p7 0 vg 0 ⟨[(6,.int .i64 20),(8,.int .i64 ((a+20:Nat):Int)),(2,.func 192 [] []),(7,.int .i64 (a:Int)),(0,.own .a 2 (l.map aP)),(1,.int .i64 (n:Int))],[],0⟩ K:=by
 intro f
 induction f with
 |zero=>
  intro a l hl h1 h2 hR;obtain⟨b,hb⟩:∃ b,b=a+20:=⟨_,rfl⟩;have h0:¬((b:Int)≤(n:Int)):=by omega
  rw[qD]at hR;have:=hK a l hl h2 hR;rw[ak vg.eq_1,←hb];clear hK;simp[BS,h0];simpa using this
 |succ f ih=>
  intro a l hl h1 h2 hR;obtain⟨b,hb⟩:∃ b,b=a+20:=⟨_,rfl⟩;rw[ak vg.eq_1,←hb];rw[qD]at hR;by_cases hd:a+20≤n
  ·rw[decide_eq_true hd,cond_true,←hb]at hR;have h0:(b:Int)≤(n:Int):=by omega
   have c:=tu a b l (by omega) (by omega) (by omega);obtain⟨b',hb'⟩:∃ b',b' =b+20:=⟨_,rfl⟩;have e1:aI .i64 ((b:Int)+20)=(b' :Int):=by rw[dh (by omega) (by unfold small at hL;omega)];omega
   have ih' :=ih b _ (by rw[qE];exact hl) (by omega) (by omega) hR;rw[←hb']at ih';clear hK;simp[BS,TZ,T0,T3,h0,c,e1,iN,Env.cg,tL,Env.fB,U.fB];simpa using ih'
  ·rw[decide_eq_false hd,cond_false]at hR;have h0:¬((b:Int)≤(n:Int)):=by omega
   have:=hK a l hl h2 hR;clear hK;simp[BS,h0];simpa using this
theorem qb8(n bs:Nat)(hL:n<small)(h0b:0<bs)(hbs:bs<n)(K:Ex→Vs→Prop)(R:List cD)
  (hK:∀ (a:Nat) (l:List cD),l.length=n→a≤n→(bif decide (a+bs<n)then lP aY n l a (a+bs) n else l)=R→K .normal ⟨[(2,.func 192 [] []),(0,.own .a 2 (l.map aP)),(1,.int .i64 (n:Int)),(6,.int .i64 (bs:Int)),(7,.int .i64 (a:Int))],[],0⟩):∀ (f a:Nat) (l:List cD),l.length=n→n≤a+f→a≤n→s6 aY n bs f a l=R→
  gL bq mT Qt pT p7 4 ve 0 ⟨[(6,.int .i64 (bs:Int)),(8,.int .i64 ((a+2*bs:Nat):Int)),(2,.func 192 [] []),(7,.int .i64 (a:Int)),(0,.own .a 2 (l.map aP)),(1,.int .i64 (n:Int))],[],0⟩ K:=by
 intro f
 induction f with
 |zero=>
  intro a l hl h1 h2 hR;obtain⟨b,hb⟩:∃ b,b=a+2*bs:=⟨_,rfl⟩;have h0:¬((b:Int)≤(n:Int)):=by omega
  rw[s6]at hR;have:=hK a l hl h2 (by rw[decide_eq_false (by omega)];exact hR);rw[ak ve.eq_1,←hb];clear hK;simp[zK,h0];simpa using this
 |succ f ih=>
  intro a l hl h1 h2 hR;obtain⟨b,hb⟩:∃ b,b=a+2*bs:=⟨_,rfl⟩;rw[ak ve.eq_1,←hb];rw[s6]at hR;by_cases hd:a+2*bs≤n
  ·rw[decide_eq_true hd,cond_true,←hb]at hR;have h0:(b:Int)≤(n:Int):=by omega
   obtain⟨m,hm⟩:∃ m,m=a+bs:=⟨_,rfl⟩;rw[←hm]at hR;have c:=L8 a m b l (by omega) (by omega) (by omega) (by omega) (2*bs) (by omega);obtain⟨b',hb'⟩:∃ b',b' =b+2*bs:=⟨_,rfl⟩;obtain⟨b2,hb2⟩:∃ b2,b2=2*bs:=⟨_,rfl⟩;have e0:aI .i64 ((a:Int)+(bs:Int))=(m:Int):=by rw[dh (by omega) (by unfold small at hL;omega)];omega
   have e1:aI .i64 (2*(bs:Int))=(b2:Int):=by rw[dh (by omega) (by unfold small at hL;omega)];omega
   have e2:aI .i64 ((b:Int)+(b2:Int))=(b' :Int):=by rw[dh (by omega) (by unfold small at hL;omega)];omega
   have ih' :=ih b _ (by rw[Bj _ _ _ _ _ (by omega) (by omega) (by omega)];exact hl) (by omega) (by omega) hR;rw[←hb']at ih';clear hK;simp[zK,MA,MB,MC,h0,c,e0,e1,e2,iN,Env.cg,tL,Env.fB,U.fB];simpa using ih'
  ·rw[decide_eq_false hd,cond_false]at hR;have h0:¬((b:Int)≤(n:Int)):=by omega
   have:=hK a l hl h2 hR;clear hK;simp[zK,h0];simpa using this
theorem qb9(n:Nat)(hL:n<small)(R:List cD):∀ (f bs:Nat) (l:List cD),l.length=n→n≤bs+f→0<bs→bs<4*small→pM aY n f bs l=R→
  gL bq mT Qt pT p7 2 q9 0 ⟨[(6,.int .i64 (bs:Int)),(2,.func 192 [] []),(0,.own .a 2 (l.map aP)),(1,.int .i64 (n:Int))],[],0⟩ (CH 2 (R.map aP)):=by
 intro f
 induction f with
 |zero=>
  intro bs l hl h1 h2 h3 hR;have h0:¬((bs:Int)<(n:Int)):=by omega
  rw[pM]at hR;subst hR;rw[ak q9.eq_1];simp[BT,h0,CH,iN,Env.cg]
 |succ f ih=>
  intro bs l hl h1 h2 h3 hR;rw[ak q9.eq_1];rw[pM]at hR;by_cases hd:bs<n
  ·rw[decide_eq_true hd,cond_true]at hR;have h0:(bs:Int)<(n:Int):=by omega
   obtain⟨b2,hb2⟩:∃ b2,b2=2*bs:=⟨_,rfl⟩;have e1:aI .i64 (2*(bs:Int))=(b2:Int):=by rw[dh (by omega) (by unfold small at hL;omega)];omega
   have e2:aI .i64 ((bs:Int)*2)=(b2:Int):=by rw[dh (by omega) (by unfold small at hL;omega)];omega
   rw[show bs*2=b2 by omega]at hR;have lp:=fun K hK=>qb8 n bs hL h2 hd K (s6 aY n bs n 0 l) hK n 0 l hl (by omega) (by omega) rfl;rw[show 0+2*bs=b2 by omega]at lp;have hlen:(s6 aY n bs n 0 l).length=n:=by rw[(tG aY n bs n 0 l (by omega)).length_eq];exact hl
   generalize s6 aY n bs n 0 l=l1 at*;have ih' :=ih b2 l1 hlen (by omega) (by omega) (by omega) hR;simp[BT,T4,h0,e1];refine lp _ ?_;intro a l2 hl2 ha hx;obtain⟨m,hm⟩:∃ m,m=a+bs:=⟨_,rfl⟩;have e0:aI .i64 ((a:Int)+(bs:Int))=(m:Int):=by rw[dh (by omega) (by unfold small at hL;omega)];omega
   rw[←hm]at hx;cases hmn:decide (m<n)with
   |true=>
    rw[hmn,cond_true]at hx;have:=of_decide_eq_true hmn;have c:=L8 a m n l2 (by omega) (by omega) (by omega) (by omega) n (by omega);rw[hx]at c;simp[Fw,Fx,Fy,Fz,e0,e2,hmn,c,iN,Env.cg,tL,Env.fB,U.fB];simpa using ih'
   |false=>
    rw[hmn,cond_false]at hx;subst hx;simp[Fw,Fx,Fy,Fz,e0,e2,hmn,iN,Env.cg,tL,Env.fB,U.fB];simpa using ih'
  ·rw[decide_eq_false hd,cond_false]at hR;have h0:¬((bs:Int)<(n:Int)):=by omega
   subst hR;simp[BT,h0,CH,iN,Env.cg]
theorem t223(l:List cD)(hL:l.length<small)(w:Nat)(hw:∀ r∈l.map aP,r.length=w):
  gC bq mT Qt pT p7 p7.body ⟨[(0,.own .a w (l.map aP)),(1,.int .i64 (l.length:Int)),(2,.func 192 [] [])],[],0⟩ (CH w ((qk l).map aP)):=by
 cases l with
 |nil=>
  have c:=tu 0 0 [] (by decide) (by omega) (by simp);simp at c;simp[sD,KM,KN];rw[ak vg.eq_1];simp[BS,KO,c,iN,Env.cg,tL,Env.fB,U.fB];rw[ak q9.eq_1];simp[BT,CH,iN,Env.cg];rfl
 |cons s l=>
  have h2:w=2:=(hw (aP s) (by simp)).symm;subst h2;clear hw;generalize hl:s::l=l' at*;clear hl;obtain⟨n,hn⟩:∃ n,n=l'.length:=⟨_,rfl⟩;rw[←hn];have hlen:(qD aY n n 0 l').length=n:=by rw[(tr aY n n 0 l' (by omega)).length_eq];exact hn.symm
  have lp:=fun K hK=>qb7 n (by omega) K (qD aY n n 0 l') hK n 0 l' hn.symm (by omega) (by omega) rfl;have fin:=qb9 n (by omega) (qk l') n 20 (qD aY n n 0 l') hlen (by omega) (by decide) (by decide) (by unfold qk ze;rw[←hn]);generalize qD aY n n 0 l' =l1 at*;simp[sD,KM,KN];simp only[Nat.zero_add]at lp;refine lp _ ?_;intro a l2 hl2 ha hx;have c:=tu a n l2 (by omega) (by omega) (by omega);rw[hx]at c;simp[KO,c,iN,Env.cg,tL,Env.fB,U.fB];simpa using fin
def DE(xs:List (List U))(rest:List U):Option (List (List U)):=
 match rest with
 |[.int .i64 n,.func 192 [] []]=>match yK xs with
  |some l=>bif decide (n=l.length)&&decide (l.length<small)then some ((qk l).map aP)else none
  |none=>none
 |_=>none
theorem QE(l:List cD)(hL:l.length<small):DE (l.map aP) [.int .i64 (l.length:Int),.func 192 [] []]=some ((qk l).map aP):=by
 simp only[DE,oL,decide_eq_true hL,decide_true,Bool.and_self,cond_true]
theorem qhJ{C:Nat→Option b8}(T:kS C mT bq Q0 pT):vZ (cZ C mT) 223 DE:=by
 refine wK (qfX T) (T.code 223 p7 rfl) rfl ?_;intro xs rest ys w hh hw;unfold DE at hh;split at hh
 case h_2=>cases hh
 rename_i n;split at hh
 case h_2=>cases hh
 rename_i l hl;obtain⟨hb2,hh3⟩:=aM hh;clear hh;have hx:=nD hl;subst hx;simp only[bC,decide_eq_true_eq]at hb2;obtain⟨h1,h4⟩:=hb2;simp only[ai]at hh3;subst hh3;subst h1;have ht:=t223 l h4 w hw;refine⟨fun u hu=> ?_,(by show 2+1≤63;omega),by simp[mu],fun r hr=> ?_,?_,?_⟩
 ·simp at hu;rcases hu with rfl|rfl<;>exact⟨rfl,rfl⟩
 ·obtain⟨s,hs,rfl⟩:=eR.1 hr;exact hw (aP s) (List.mem_map_of_mem ((pQ aY l).mem_iff.1 hs))
 ·exact j9 _
 ·exact ht
def Qu:mE:=⟨fun f=>bif f==223 then some DE else none,fun _=>none,fun _=>false,fun _=>none⟩
@[simp] theorem qhp(f:Nat):Qu.q f=bif f==223 then some DE else none:=rfl
@[simp] theorem qhn(f:Nat):Qu.app f=none:=rfl
@[simp] theorem qiM(f:Nat):Qu.ld f=false:=rfl
@[simp] theorem qho(f:Nat):Qu.IN f=none:=rfl
theorem qfY{C:Nat→Option b8}(T:kS C mT bq Q0 pT):kS C mT bq Qu pT:=
 ⟨T.code,⟨fun f q h=>(by
  rw[qhp]at h;cases hf:f==223 with
  |true=>
   rw[hf]at h;simp only[cond_true,ai]at h;subst h;have:f=223:=by simpa using hf
   subst this;exact qhJ T
  |false=>rw[hf]at h;cases h),fun f q h=>(by cases h),fun f q h=>(by cases h)⟩,T.HH⟩
theorem qhI{C:Nat→Option b8}(T:kS C mT bq Q0 pT):vZ (cZ C mT) 191 r9:=by
 refine wK (qfY T) (T.code 191 Tm rfl) rfl ?_;intro xs rest ys w hh hw;unfold r9 at hh;split at hh
 case h_2=>cases hh
 obtain⟨hb2,hh3⟩:=aM hh;clear hh;split at hh3
 case h_2=>cases hh3
 rename_i l hl;have hx:=nD hl;subst hx;have h4:l.length<small:=by simpa[small]using hb2
 simp only[ai]at hh3;subst hh3;have c:=QE l h4;refine⟨fun u hu=> ?_,(by show 1+1≤9;omega),by simp[mu],fun r hr=> ?_,?_,?_⟩
 ·simp at hu;rcases hu with rfl;exact⟨rfl,rfl⟩
 ·obtain⟨s,hs,rfl⟩:=eR.1 hr;exact hw (aP s) (List.mem_map_of_mem ((pQ aY l).mem_iff.1 hs))
 ·exact j9 _
 ·simp[xH,Tn,c,iN,Env.cg,tL,Env.fB,U.fB]
end Go.RE
namespace Go.RE
def Vx:List V:=[.int .i64 0,.int .u64 0,.int .u64 0,.int .i64 0,.int .i64 0,.ag [] 0 0 2,.ag [] 0 0 2]
def O7(w:Nat)(xs:List (List U))(rest:List U):Option (Nat×List (List U)):=bif xs.isEmpty then none else tf 7 w xs rest
theorem qao{C:Nat→Option b8}(T:kS C mT bq Q0 pT)(hC:C 61=some ⟨(lI 7 88 Vx).ntmps,(lI 7 88 Vx).results,(lI 7 88 Vx).body.er⟩):Oz (cZ C mT) 61 O7:=by
 refine OZ T (Pw T) (fn:=lI 7 88 Vx) hC (t:=2) rfl ?_;intro xs rest w' ys w hh hw;unfold O7 at hh;cases xs with
 |nil=>cases hh
 |cons x xr=>
  simp only[List.isEmpty_cons,cond_false]at hh;unfold tf at hh;split at hh
  case h_2=>cases hh
  obtain⟨hb,hh2⟩:=aM hh;clear hh;simp only[ai,aL]at hh2;obtain⟨rfl,rfl⟩:=hh2;simp only[bC]at hb;obtain⟨⟨hb1,hb2⟩,hb3⟩:=hb;have hw7:=bR hb1;subst hw7;refine⟨(fun u hu=>by cases hu),(by show 0+1≤8;omega),⟨.own .r 7 (x::xr),[],0,?_⟩,?_⟩
  ·have hp:pT 61=some (o7 7):=rfl;rw[yQ hp];simp only[o7,Ny,iY,hb2,hb3,Bool.and_self,cond_true]
  ·have hbl:=gb hb2;have h1:decide ((x::xr).length*88≤aZ)=true:=decide_eq_true (by omega);have h2:decide ((x::xr).length≤aZ)=true:=decide_eq_true (by omega);have h4:((x::xr).all fun r=>r.all U.aJ&&U.bW 0 r&&decide (r.length=7))=true:=by
    unfold iP at hb3;rw[jr]at hb3⊢;intro r hr;have:=hb3 r hr;simp only[bC,decide_eq_true_eq]at this⊢;exact⟨this.1,bR this.2⟩
   have hn:iR .eql .bu (.own .a 7 (x::xr)) .bu=some (.bool false):=rfl;generalize x::xr=xs at*;simp[lI,qef,Nq,Vx,h1,h2,h4,hn,Wj]
theorem qd4{C:Nat→Option b8}(T:kS C mT bq Q0 pT)(hC:C 61=some ⟨(lI 7 88 Vx).ntmps,(lI 7 88 Vx).results,(lI 7 88 Vx).body.er⟩):Oz (cZ C mT) 61 (tf 7):=by
 intro w xs rest w' ys hh;cases xs with
 |cons x xr=>exact qao T hC w (x::xr) rest w' ys hh
 |nil=>
  intro E σ Z ω s f st g v vs d hk hor hlen hr;unfold tf at hh;split at hh
  case h_2=>cases hh
  obtain⟨hb,hh2⟩:=aM hh;clear hh;simp only[ai,aL]at hh2;obtain⟨rfl,rfl⟩:=hh2;simp only[bC]at hb;have hw7:=bR hb.1.1;subst hw7;obtain rfl:vs=[]:=jq hlen.symm;have hlz:∀ b r,lM ω Z b=some r→st.row b=some r:=fun b r hb=>by
   rcases tw hb with h|⟨g',I,a1,a2,a3⟩
   ·exact hk.qc b r h
   ·rw[←a2,a3];exact iG (hk.lF g' I a1)
  have hvz:UR σ (lM ω Z) 0 (.sl 7 []) v:=by
   have:=hor;unfold OR at this;split at this
   ·obtain⟨_,hv⟩:=this;rcases hv with rfl|rfl
    ·exact .slnil
    ·exact .yI
   ·rename_i I hI;obtain⟨rfl,_,p3,p4,p5,p6⟩:=this;refine .zd rfl (AQ hk hI) p5 p3 (by simp;omega) fun j u x a b=>by simp at a
  have hlu:LU σ (lM ω Z) 0 [.sl 7 []] [v]:=LU.cons hvz LU.nil;have fz:=mI (M:=mT) (zero:=Vx) rfl (by decide) (by decide) hC [.sl 7 []] [] 0 (.own .r 7 []) [] 0 rfl σ (lM ω Z) (fun _=>none) st [v] (hk.iso hlz 0) ⟨aq _,fun i o ho=>by simp at ho⟩ (fun _=>rfl) hlu;refine mG ?_ fz;rintro r st' ⟨_,σ',Z',ω',k1,_,k3⟩;obtain⟨ω2,p1,p2,p3⟩:=hk.GB (d:=d) k1 k3 rfl;exact⟨Z,ω2,p1,p2.1,fun b r h=>h⟩
end Go.RE
