/- A part of a proof. -/
import Derived.Test.YtmpopachilfinaaGreatPart14
set_option linter.unusedVariables false
set_option linter.unusedSimpArgs false
set_option linter.unnecessarySimpa false
namespace Go.RE
def tR:U→List U
 | .aX [x,y,z]=>[.int .u64 0,z,x,y,.sl 2 []]
 |_=>[]
def tS:U→List U
 | .aX [x,z]=>[.int .u64 0,z,.sl 1 [],.bool false,x]
 |_=>[]
def tN(n e:Int):List U:=[.int .u64 n,.int .i64 e,.sl 1 [],.bool false,.sl 2 []]
def ue(b:Bs)(o:DU):List U×Bs:=
 bif o.dO==0 then(tN (aI .u64 ((bN b).1:Nat)) ((bN b).2.1:Nat),(bN b).2.2)
 else bif o.dO==1 then(tR (iw b o.id o.w.key).1,(iw b o.id o.w.key).2)
 else bif o.dO==2 then(tS (jO b o.id (o.w.key,o.hi)).1,(jO b o.id (o.w.key,o.hi)).2)
 else bif o.dO==3 then(tN 0 ((dY b o.id o.w).1:Nat),(dY b o.id o.w).2)
 else bif o.dO==4 then(tN ((bP b o.id).1:Nat) ((bP b o.id).2.1:Nat),(bP b o.id).2.2)
 else bif o.dO==5 then(tN 0 ((gE b o.id).1:Nat),(gE b o.id).2)
 else bif o.dO==6 then(tN (aI .u64 (Aj b).1) 0,(Aj b).2)
 else(tN 0 0,b)
theorem uG(b:Bs)(id:Int)(k:By):∃ bs is e,(iw b id k).1=.aX [.sl 1 bs,.bool is,.int .i64 e]:=by
 unfold iw;cases gz b id with
 |none=>exact⟨_,_,_,rfl⟩
 |some t=>dsimp only;cases fF nU k t.ct<;>exact⟨_,_,_,rfl⟩
theorem HV(b:Bs)(id:Int)(s:cD):∃ bs e,(jO b id s).1=.aX [.sl 2 bs,.int .i64 e]:=by
 unfold jO;cases gz b id with
 |none=>exact⟨_,_,rfl⟩
 |some t=>dsimp only;cases dG s<;>exact⟨_,_,rfl⟩
def OE(o:DU):Prop:=o.w.key.length≤300∧o.w.data.length≤5000∧o.hi.length≤300
theorem t16{h:List Uo}{fl:Nat}{i s m o:Nat}{F:List Nat}{b:Bs}{k:Nat}(hb:Cx h fl i s m o F b)(hp:Pre b k)(q:DU)(hq:OE q):
  ∃ h' fl' F',G 16 [.ptr i 0,.agg (eN q)] h fl=some (.agg (ue b q).1,h',fl')∧Left h h' fl fl' i s m o F F' (ue b q).2:=by
 have hF:=hb.lt;have hfl:=hb.fle;have hi:i<h.length:=by
  obtain⟨lv,rc,dn,ks,hb,_⟩:=hb.at_;exact(bn.1 hb.row).1
 have hbx:Cx (h++[.row (eN q),.row [.int .u64 0,.int .i64 0,.sl 1 [],.bool false,.sl 2 []]]) fl i s m o F b:=hb.app;have hlast:∀ {h' :List Uo} {F' :List Nat} {fl' :Nat} {b' :Bs},Left (h++[.row (eN q),.row [.int .u64 0,.int .i64 0,.sl 1 [],.bool false,.sl 2 []]]) h' fl fl' i s m o F F' b'→
   h'[h.length+1]? =some (.row [.int .u64 0,.int .i64 0,.sl 1 [],.bool false,.sl 2 []])∧∀ X:Uo,(h'.set (h.length+1) X)[h.length+1]? =some X:=by
  intro h' F' fl' b' hl;have h1:=hl.gr.2.1 (h.length+1) (by simp) (fun hh=>by have:=hF _ hh;omega);rw[at1]at h1;exact⟨h1,fun X=>List.getElem?_set_self (bn.1 h1).1⟩
 unfold ue;cases e0:q.dO==0 with
 |true=>
  obtain⟨h',fl',F',c,hl⟩:=w17 hbx hp;obtain⟨g1,g2⟩:=hlast hl;refine⟨_,fl',F',?_,hl.fin hfl hF (k:=h.length+1) (by omega) (by simp) (.row (tN (aI .u64 ((bN b).1:Nat)) ((bN b).2.1:Nat)))⟩;refine bJ (fn:=Ol) rfl rfl rfl ?_;have e0' :q.dO=0:=by simpa using e0
  simp only[eN,e0']at c;simp[iX,uY,uZ,u5,Yp,Yq,eN,e0',c,g1,g2,tN]
 |false=>
  have f0:¬(q.dO=0):=by simpa using e0
  rw[cond_false];cases e1:q.dO==1 with
  |true=>
   have d1:q.dO=1:=by simpa using e1
   rw[cond_true];obtain⟨bs,is,e,hsh⟩:=uG b q.id q.w.key;obtain⟨h',F',c,hl⟩:=w36 hbx hp q.id q.w.key (by have:=hq.1;unfold small;omega);obtain⟨g1,g2⟩:=hlast hl;refine⟨_,fl,F',?_,hl.fin hfl hF (k:=h.length+1) (by omega) (by simp) (.row (tR (iw b q.id q.w.key).1))⟩;refine bJ (fn:=Ol) rfl rfl rfl ?_;simp only[eN,d1,hsh]at c;simp[iX,uY,uZ,u5,yA,Yr,Ys,eN,d1,c,g1,g2,tN,tR,tS,hsh]
  |false=>
   have f1:¬(q.dO=1):=by simpa using e1
   rw[cond_false];cases e2:q.dO==2 with
   |true=>
    have d2:q.dO=2:=by simpa using e2
    rw[cond_true];obtain⟨bs,e,hsh⟩:=HV b q.id (q.w.key,q.hi);obtain⟨h',F',c,hl⟩:=w37 hbx hp q.id q.w.key q.hi;obtain⟨g1,g2⟩:=hlast hl;refine⟨_,fl,F',?_,hl.fin hfl hF (k:=h.length+1) (by omega) (by simp) (.row (tS (jO b q.id (q.w.key,q.hi)).1))⟩;refine bJ (fn:=Ol) rfl rfl rfl ?_;simp only[eN,d2,hsh]at c;simp[iX,uY,uZ,u5,yA,BJ,Yt,SR,eN,d2,c,g1,g2,tN,tR,tS,hsh]
   |false=>
    have f2:¬(q.dO=2):=by simpa using e2
    rw[cond_false];cases e3:q.dO==3 with
    |true=>
     have d3:q.dO=3:=by simpa using e3
     rw[cond_true]
     skip
     obtain⟨h',F',c,hl⟩:=w18 hbx q.id q.w ⟨by have:=hq.1;unfold small;omega,by have:=hq.2.1;unfold small;omega⟩;obtain⟨g1,g2⟩:=hlast hl;refine⟨_,fl,F',?_,hl.fin hfl hF (k:=h.length+1) (by omega) (by simp) (.row (tN 0 ((dY b q.id q.w).1:Nat)))⟩;refine bJ (fn:=Ol) rfl rfl rfl ?_;simp only[eN,d3,eO]at c;simp[iX,uY,uZ,u5,yA,BJ,xD,SS,eN,d3,c,g1,g2,tN,tR,tS]
    |false=>
     have f3:¬(q.dO=3):=by simpa using e3
     rw[cond_false];cases e4:q.dO==4 with
     |true=>
      have d4:q.dO=4:=by simpa using e4
      rw[cond_true]
      skip
      obtain⟨h',F',c,hl⟩:=w19 hbx hp q.id;obtain⟨g1,g2⟩:=hlast hl;refine⟨_,fl,F',?_,hl.fin hfl hF (k:=h.length+1) (by omega) (by simp) (.row (tN ((bP b q.id).1:Nat) ((bP b q.id).2.1:Nat)))⟩;refine bJ (fn:=Ol) rfl rfl rfl ?_;simp only[eN,d4]at c;simp[iX,uY,uZ,u5,yA,BJ,xD,BH,SU,SV,eN,d4,c,g1,g2,tN,tR,tS]
     |false=>
      have f4:¬(q.dO=4):=by simpa using e4
      rw[cond_false];cases e5:q.dO==5 with
      |true=>
       have d5:q.dO=5:=by simpa using e5
       rw[cond_true]
       skip
       obtain⟨h',F',c,hl⟩:=w53 hbx hp q.id;obtain⟨g1,g2⟩:=hlast hl;refine⟨_,fl,F',?_,hl.fin hfl hF (k:=h.length+1) (by omega) (by simp) (.row (tN 0 ((gE b q.id).1:Nat)))⟩;refine bJ (fn:=Ol) rfl rfl rfl ?_;simp only[eN,d5]at c;simp[iX,uY,uZ,u5,yA,BJ,xD,BH,Fi,SX,eN,d5,c,g1,g2,tN,tR,tS]
      |false=>
       have f5:¬(q.dO=5):=by simpa using e5
       rw[cond_false];cases e6:q.dO==6 with
       |true=>
        have d6:q.dO=6:=by simpa using e6
        rw[cond_true]
        skip
        obtain⟨h',F',c,hl⟩:=w50 hbx hp;obtain⟨g1,g2⟩:=hlast hl;refine⟨_,fl,F',?_,hl.fin hfl hF (k:=h.length+1) (by omega) (by simp) (.row (tN (aI .u64 (Aj b).1) 0))⟩;refine bJ (fn:=Ol) rfl rfl rfl ?_;simp only[eN,d6]at c;simp[iX,uY,uZ,u5,yA,BJ,xD,BH,Fi,Kt,SY,eN,d6,c,g1,g2,tN,tR,tS]
       |false=>
        have f6:¬(q.dO=6):=by simpa using e6
        rw[cond_false];refine⟨h,fl,F,?_,⟨hb,⟨aq _,fun _ _ _=>rfl,fun j hj=> .inl hj⟩,aq _,.inl ⟨rfl,rfl,fun j hj=>hj⟩⟩⟩;refine bJ (fn:=Ol) rfl rfl rfl ?_;have f0:¬(q.dO=0):=by simpa using e0
        simp[iX,uY,uZ,u5,yA,BJ,xD,BH,Fi,Kt,SZ,eN,f0,f1,f2,f3,f4,f5,f6,tN,th hfl,Aq hfl]
def qN(o:DU):Bool:=decide (o.w.key.length≤300)&&decide (o.w.data.length≤5000)&&decide (o.hi.length≤300)
def I8(l:List DU):Bool:=l.all qN&&decide (l.length≤80)
theorem qfF(l:List DU)(hl:l.length<small):∀ (j i:Nat),i+j=l.length→
  gL bq mT qT pT RH 0 E9 0 ⟨[(7,.int .i64 (i:Int)),(5,.sl 6 (l.map eN)),(0,.sl 6 (l.map eN)),(6,.int .i64 (l.length:Int))],[],0⟩
   (gy bq mT qT pT RH (.seq (.region R6) .ret) (kE 0 RH (.bool ((l.drop i).all qN&&decide (l.length≤80)),[],0))):=by
 intro j
 induction j with
 |zero=>
  intro i hij;obtain⟨h1,h2⟩:=nB hij;have e:decide ((l.length:Int)≤80)=decide (l.length≤80):=by rw[decide_eq_decide];omega
  rw[ak E9.eq_1,h2];simp[DK,R6,h1,e]
 |succ j ih=>
  intro i hij;obtain⟨h1,e3,q,d1,g1⟩:=ql hij hl;have e1:=g1 eN;have ih' :=ih (i+1) (by omega);have k1:decide (300<(q.w.key.length:Int))=decide (300<q.w.key.length):=by rw[decide_eq_decide];omega
  have k2:decide (5000<(q.w.data.length:Int))=decide (5000<q.w.data.length):=by rw[decide_eq_decide];omega
  have k3:decide (300<(q.hi.length:Int))=decide (300<q.hi.length):=by rw[decide_eq_decide];omega
  rw[ak E9.eq_1,d1];simp only[eN]at e1;cases c1:decide (300<q.w.key.length)with
  |true=>
   have hno:qN q=false:=by unfold qN;have:=of_decide_eq_true c1;simp;omega
   rw[c1]at k1;simp[DK,Im,Io,Mq,h1,aS e1,eN,k1,IB,hno]
  |false=>
   rw[c1]at k1;cases c2:decide (5000<q.w.data.length)with
   |true=>
    have hno:qN q=false:=by unfold qN;have:=of_decide_eq_true c2;simp;omega
    rw[c2]at k2;simp[DK,Im,Io,Mq,h1,aS e1,eN,k1,k2,IB,hno]
   |false=>
    rw[c2]at k2;cases c3:decide (300<q.hi.length)with
    |true=>
     have hno:qN q=false:=by unfold qN;have:=of_decide_eq_true c3;simp;omega
     rw[c3]at k3;simp[DK,Im,Io,Mq,h1,aS e1,eN,k1,k2,k3,IB,hno]
    |false=>
     have hyes:qN q=true:=by
      unfold qN;have a1:=of_decide_eq_false c1;have a2:=of_decide_eq_false c2;have a3:=of_decide_eq_false c3;simp;omega
     rw[c3]at k3;simp[DK,Im,Io,Yi,h1,aS e1,e3,eN,k1,k2,k3,IB,hyes];simpa[eN]using ih'
theorem t13(l:List DU)(hl:l.length<small):G 13 [.sl 6 (l.map eN)] [] 0=some (.bool (I8 l),[],0):=by
 refine bJ (fn:=RH) rfl rfl rfl ?_;have:=qfF l hl l.length 0 (by omega);simp only[List.drop_zero]at this;simp[Bz,Yg,Yh,I8];simpa using this
end Go.RE
namespace Go.RE
section
variable{α κ:Type}[DecidableEq κ](F:Mk α κ)
theorem Hs{k:κ}{l:List α}:fF F k l=none↔∀ a∈l,F.key a≠k:=by
 unfold fF;rw[List.find?_eq_none];simp
theorem Hr(k k' :κ):∀ l:List α,(l.map F.key).Nodup→fF F k (jd F k' l)=if k' =k then none else fF F k l
 |[],_=>by simp[jd,fF]
 |b::r,hn=>by
  simp only[List.map_cons,List.nodup_cons]at hn;simp only[jd];by_cases hb:F.key b=k'
  ·simp only[hb,decide_true,cond_true];by_cases hk:k' =k
   ·rw[if_pos hk,Hs];intro a ha hh;exact hn.1 (eR.2 ⟨a,ha,by rw[hh,hb,hk]⟩)
   ·rw[if_neg hk];have:¬F.key b=k:=fun hh=>hk (by rw[←hb,hh]);simp[fF,List.find?_cons,this]
  ·simp only[hb,decide_false,cond_false];have ih:=Hr k k' r hn.2;by_cases hk:F.key b=k
   ·have:¬k' =k:=fun hh=>hb (by rw[hk,hh]);rw[if_neg this];simp[fF,List.find?_cons,hk]
   ·have e1:fF F k (b::jd F k' r)=fF F k (jd F k' r):=by simp[fF,List.find?_cons,hk]
    have e2:fF F k (b::r)=fF F k r:=by simp[fF,List.find?_cons,hk]
    rw[e1,e2,ih]
theorem wJ(a:α):∀ l:List α,(sO F a l).map F.key=l.map F.key
 |[]=>rfl
 |b::r=>by
  simp only[sO];by_cases hb:F.key b=F.key a
  ·simp[hb]
  ·simp[hb,wJ a r]
theorem Be(a:α)(l:List α)(hn:(l.map F.key).Nodup):((lu F a l).map F.key).Nodup:=by
 unfold lu;cases h:(fF F (F.key a) l).isSome with
 |true=>rw[cond_true,wJ];exact hn
 |false=>
  have hno:=(Hs F).1 (by simpa using h:fF F (F.key a) l=none);rw[cond_false,List.map_append,List.map_cons,List.map_nil];refine List.nodup_append.2 ⟨hn,by simp,fun x hx y hy=> ?_⟩;simp at hy;subst hy;obtain⟨z,hz,rfl⟩:=eR.1 hx;exact hno z hz
theorem IY(k:κ)(l:List α)(hn:(l.map F.key).Nodup):((jd F k l).map F.key).Nodup:=List.Nodup.sublist ((jJ F k l).map _) hn
theorem Qv(a:α)(l:List α):(lu F a l).length≤l.length+1:=by
 unfold lu;cases(fF F (F.key a) l).isSome with
 |true=>
  have:(sO F a l).length=l.length:=by
   have:=congrArg List.length (wJ F a l);simpa using this
  rw[cond_true];omega
 |false=>simp
end
abbrev ofN(d:Db):Prop:=(d.of.map kO.key).Nodup
theorem DI(t:Nat):dm [] t=[]:=by
 obtain⟨n,h⟩:=jm [] t;rw[h];simp
theorem IW(low:Nat)(d:Db)(left:List By)(k k' :By)(hn:ofN d):chain (gV low (d,left) k).1 k' =(if k=k' then dm (chain d k) low else chain d k')∧ofN (gV low (d,left) k).1:=by
 unfold gV;dsimp only;cases hc:(dm (chain d k) low).isEmpty with
 |true=>
  refine⟨?_,IY kO k d.of hn⟩;have hc' :dm (chain d k) low=[]:=by simpa using hc
  show((fF kO k' (jd kO k d.of)).map (·.2)).getD []=_;rw[Hr kO k' k d.of hn];by_cases h:k=k'
  ·rw[if_pos h,if_pos h,hc'];rfl
  ·rw[if_neg h,if_neg h];rfl
 |false=>
  refine⟨?_,Be kO (k,dm (chain d k) low) d.of hn⟩;show((fF kO k' (lu kO (k,dm (chain d k) low) d.of)).map (·.2)).getD []=_;rw[Ht];by_cases h:k=k'
  ·have h2:kO.key (k,dm (chain d k) low)=k' :=h;rw[if_pos h2,if_pos h];rfl
  ·have h2:¬kO.key (k,dm (chain d k) low)=k' :=h;rw[if_neg h2,if_neg h];rfl
theorem Nt(low:Nat)(d:Db)(left:List By)(k:By):(gV low (d,left) k).2=bif(dm (chain d k) low).isEmpty then left else left++[k]:=by
 unfold gV;dsimp only;cases(dm (chain d k) low).isEmpty<;>rfl
theorem qeg(low:Nat):∀ (ks:List By) (d:Db) (left:List By),ks.Nodup→ofN d→
  (∀ k',chain (ks.foldl (gV low) (d,left)).1 k' =if k'∈ks then dm (chain d k') low else chain d k')∧ofN (ks.foldl (gV low) (d,left)).1∧
  (ks.foldl (gV low) (d,left)).2=left++ks.filter fun k=> !(dm (chain d k) low).isEmpty
 |[],d,left,_,hn=>⟨fun k' =>by simp,hn,by simp⟩
 |k::r,d,left,hk,hn=>by
  have hk' :=List.nodup_cons.1 hk;have hc:=fun k' =>IW low d left k k' hn;have hl:=Nt low d left k;rw[List.foldl_cons];obtain⟨d1,left1⟩:∃ p,p=gV low (d,left) k:=⟨_,rfl⟩;generalize hp:gV low (d,left) k=p at*;obtain⟨d1,l1⟩:=p;dsimp only at hc hl;obtain⟨a1,a2,a3⟩:=qeg low r d1 l1 hk'.2 (hc k).2;refine⟨fun k' => ?_,a2,?_⟩
  ·rw[a1 k',(hc k').1];by_cases h:k'∈r
   ·have hne:¬k=k' :=fun hh=>hk'.1 (by rw[hh];exact h);rw[if_pos h,if_neg hne,if_pos (gB _ h)]
   ·rw[if_neg h];by_cases h2:k=k'
    ·subst h2;rw[if_pos rfl,if_pos eU]
    ·rw[if_neg h2,if_neg (by simp[h];exact fun hh=>h2 hh.symm)]
  ·rw[a3,hl,List.filter_cons];have hfe:(r.filter fun x=> !(dm (chain d1 x) low).isEmpty)=r.filter fun x=> !(dm (chain d x) low).isEmpty:=by
    refine List.filter_congr fun x hx=> ?_;have hne:¬k=x:=fun hh=>hk'.1 (by rw[hh];exact hx);rw[(hc x).1,if_neg hne]
   rw[hfe];cases(dm (chain d k) low).isEmpty<;>simp
structure DbK(d:Db):Prop where
 ID:d.keys.Nodup
 kc:∀ k,k∈d.keys↔chain d k≠[]
 of:ofN d
theorem wA{d:Db}(hk:DbK d)(low:Nat):(∀ k,chain (b9 d low) k=dm (chain d k) low)∧DbK (b9 d low)∧(b9 d low).keys.length≤d.keys.length:=by
 obtain⟨a1,a2,a3⟩:=qeg low d.keys {d with sk:=0,sv:=0,sb:=0} [] hk.ID hk.of;have e0:∀ k,chain {d with sk:=0,sv:=0,sb:=0} k=chain d k:=fun _=>rfl;have hkeys:(b9 d low).keys=d.keys.filter fun k=> !(dm (chain d k) low).isEmpty:=by
  show(d.keys.foldl (gV low) ({d with sk:=0,sv:=0,sb:=0},[])).2=_;rw[a3];rfl
 have hch:∀ k,chain (b9 d low) k=dm (chain d k) low:=fun k=>by
  have h1:=a1 k;have h2:chain (b9 d low) k=chain (d.keys.foldl (gV low) ({d with sk:=0,sv:=0,sb:=0},[])).1 k:=rfl;rw[h2,h1,e0];by_cases hm:k∈d.keys
  ·rw[if_pos hm]
  ·rw[if_neg hm];have:chain d k=[]:=by
    cases hc:chain d k with
    |nil=>rfl
    |cons a b=>exact absurd ((hk.kc k).2 (by rw[hc];simp)) hm
   rw[this,DI]
 refine⟨hch,⟨?_,fun k=> ?_,a2⟩,?_⟩
 ·rw[hkeys];exact List.Nodup.sublist List.filter_sublist hk.ID
 ·rw[hkeys,hch,List.mem_filter];constructor
  ·rintro⟨_,h⟩ he;rw[he]at h;cases h
  ·intro h;refine⟨(hk.kc k).2 (fun he=>h (by rw[he,DI])),?_⟩;cases hc:dm (chain d k) low with
   |nil=>exact absurd hc h
   |cons a b=>rfl
 ·rw[hkeys];exact List.length_filter_le _ _
theorem rT(ks:List By)(k:By):(mS ks k).Perm (k::ks):=by
 unfold mS;have:(ks.take (ot ks k)++[k]++ks.drop (ot ks k)).Perm (k::(ks.take (ot ks k)++ks.drop (ot ks k))):=by
  rw[kN];exact List.perm_middle
 rw[List.take_append_drop]at this;exact this
theorem qbp{d:Db}(hk:DbK d)(w:Wt):DbK (iO d w):=by
 have hch:=rH d w;refine⟨?_,fun k=> ?_,Be kO (w.key,chain d w.key++[nH d w]) d.of hk.of⟩
 ·show(bif(chain d w.key).isEmpty then mS d.keys w.key else d.keys).Nodup;cases hc:(chain d w.key).isEmpty with
  |true=>
   rw[cond_true,(rT d.keys w.key).nodup_iff,List.nodup_cons];refine⟨fun hm=> ?_,hk.ID⟩;have:=(hk.kc w.key).1 hm;exact this (by simpa using hc)
  |false=>exact hk.ID
 ·rw[hch];show k∈(bif(chain d w.key).isEmpty then mS d.keys w.key else d.keys)↔_;by_cases h:w.key=k
  ·rw[if_pos h];subst h;constructor
   ·intro _;simp
   ·intro _;cases hc:(chain d w.key).isEmpty with
    |true=>rw[cond_true];exact(rT d.keys w.key).symm.subset eU
    |false=>rw[cond_false];exact(hk.kc w.key).2 (fun he=>by rw[he]at hc;cases hc)
  ·rw[if_neg h,←hk.kc];cases hc:(chain d w.key).isEmpty with
   |true=>
    rw[cond_true];constructor
    ·intro hm;rcases dM.1 ((rT d.keys w.key).subset hm)with h2|h2
     ·exact absurd h2.symm h
     ·exact h2
    ·intro hm;exact(rT d.keys w.key).symm.subset (gB _ hm)
   |false=>exact Iff.rfl
end Go.RE
namespace Go.RE
theorem yp(v:jB)(hg:v.qp=true→v.Data=[]):∀ (l:List jB) (a:Nat),eG a l=true→(∀ x,l.getLast? =some x→x.At<v.At)→(l=[]→a<v.At)→eG a (l++[v])=true
 |[],a,_,_,h0=>by
  have h1:=h0 rfl;have a1:decide (v.At≤a)=false:=decide_eq_false (by omega);have a2:(v.qp&&decide (0<v.Data.length))=false:=by
   cases hh:v.qp with
   |false=>rfl
   |true=>rw[hg hh];rfl
  show(!(decide (v.At≤a)||(v.qp&&decide (0<v.Data.length)))&&true)=true;rw[a1,a2];rfl
 |x::r,a,h,hv,_=>by
  simp only[eG,bC]at h;show(!(decide (x.At≤a)||(x.qp&&decide (0<x.Data.length)))&&eG x.At (r++[v]))=true;rw[bC];refine⟨h.1,yp v hg r x.At h.2 (fun y hy=>hv y ?_) (fun hr=>hv x (by rw[hr];rfl))⟩;cases r with
  |nil=>cases hy
  |cons b q=>rw[List.getLast?_cons_cons];exact hy
theorem Js(l:List jB)(v:jB):fW (l++[v])=v.At:=by simp[fW]
theorem NQ{l:List jB}{x:jB}(h:l.getLast? =some x):fW l=x.At:=by simp[fW,h]
theorem qbq{d:Db}(hw:IF d){w:Wt}(hp:qO d w):IF (iO d w):=by
 obtain⟨p1,p2,p3,_⟩:=hp;have hr:eG 0 (chain d w.key++[nH d w])=true:=
  yp (nH d w) p3 _ 0 p2 (fun x hx=>by rw[←NQ hx];exact p1) (fun he=>by show 0<d.now;omega)
 refine⟨fun x hx=> ?_,fun x hx=> ?_⟩
 ·rcases ja hx with rfl|hx
  ·exact hr
  ·exact hw.right x hx
 ·rcases ja hx with rfl|hx
  ·show fW (chain d w.key++[nH d w])≤d.now;rw[Js];exact aq _
  ·exact hw.last x hx
theorem Qf(d:Db)(w:Wt):(iO d w).keys.length≤d.keys.length+1:=by
 show(bif(chain d w.key).isEmpty then mS d.keys w.key else d.keys).length≤_;cases(chain d w.key).isEmpty with
 |true=>rw[cond_true,G8];exact aq _
 |false=>rw[cond_false];omega
theorem Lw:∀ (l:List Wt) (d:Db) (m:Nat),zX d (m+l.length)→5000*(m+l.length)<small→IF d→DbK d→(l.map (·.key)).Nodup→(∀ w∈l,qO d w)→
  zX (l.foldl iO d) m∧IF (l.foldl iO d)∧DbK (l.foldl iO d)∧(l.foldl iO d).keys.length≤d.keys.length+l.length∧
  ∀ k,chain (l.foldl iO d) k=match l.find? (fun w=>w.key=k)with|some w=>chain d k++[nH d w]|none=>chain d k
 |[],d,m,h1,_,h2,h3,_,_=>⟨h1,h2,h3,aq _,fun k=>rfl⟩
 |w::r,d,m,h1,h5,h2,h3,h4,hp=>by
  have hn:=List.nodup_cons.1 h4;have hpw:=hp w eU;have e1:m+(w::r).length=(m+r.length)+1:=by simp;omega
  rw[e1]at h1 h5;have hr:=h1.put h5 w hpw.2.2.2.1 hpw.2.2.2.2;have hpr:∀ v∈r,qO (iO d w) v:=by
   intro v hv;have hvv:=hp v (gB _ hv);have hne:¬w.key=v.key:=fun hh=>hn.1 (eR.2 ⟨v,hv,hh.symm⟩);unfold qO at hvv⊢;rw[rH,if_neg hne];exact hvv
  obtain⟨a1,a2,a3,a4,a5⟩:=Lw r (iO d w) m hr (by omega) (qbq h2 hpw) (qbp h3 w) hn.2 hpr;have hl:=Qf d w;refine⟨a1,a2,a3,by simp only[List.foldl_cons,List.length_cons];omega,fun k=> ?_⟩;rw[List.foldl_cons,a5 k,rH];by_cases hk:w.key=k
  ·have hno:r.find? (fun w=>decide (w.key=k))=none:=by
    refine List.find?_eq_none.2 fun v hv=> ?_;simp only[decide_eq_true_eq];intro hh;exact hn.1 (eR.2 ⟨v,hv,by show v.key=w.key;rw[hh,hk]⟩)
   rw[hno,if_pos hk];simp only[List.find?_cons,hk,decide_true]
  ·rw[if_neg hk];simp only[List.find?_cons,hk,decide_false];cases r.find? (fun w=>decide (w.key=k))<;>rfl
theorem GM(d:Db):∀ (l:List Wt) (z:List Wt×Sz),(∀ w∈l,w.key.length≤256∧w.data.length≤4096)→
  (l.foldl (eP d) z).2.1≤z.2.1+l.length∧(l.foldl (eP d) z).2.2.1≤z.2.2.1+l.length∧(l.foldl (eP d) z).2.2.2≤z.2.2.2+5000*l.length
 |[],z,_=>⟨aq _,aq _,aq _⟩
 |w::l,z,h=>by
  have hw:=h w eU;have h1:(eP d z w).2.1≤z.2.1+1∧(eP d z w).2.2.1≤z.2.2.1+1∧(eP d z w).2.2.2≤z.2.2.2+5000:=by
   unfold eP;cases w.gone&&mW (chain d w.key)with
   |true=>simp only[cond_true];omega
   |false=>
    simp only[cond_false];cases(chain d w.key).isEmpty with
    |true=>simp only[cond_true];omega
    |false=>simp only[cond_false];omega
  obtain⟨a1,a2,a3⟩:=GM d l (eP d z w) (fun x hx=>h x (gB _ hx));rw[List.foldl_cons];simp only[List.length_cons];omega
theorem Wm{d:Db}{m:Nat}(hd:zX d m)(hw:IF d)(hm:5000*m<small)(low:Nat):(b9 d low).sk≤d.keys.length∧(b9 d low).sv≤1000000000*d.keys.length∧(b9 d low).sb≤2000000000*d.keys.length:=by
 have h:=DT.fold (m:=m) low hd.sN hm d.keys 0 ({d with sk:=0,sv:=0,sb:=0},[]) (fun k hk=>hk) ⟨⟨rfl,rfl⟩,hd.len,hd.dat,hd.ED,⟨hw.right,hw.last⟩,⟨by simp,fun k hk=>(List.not_mem_nil hk).elim⟩,⟨dS _,dS _,dS _⟩⟩;rw[Nat.zero_add]at h;exact h.sz
structure Ot(d:Db)(m B:Nat):Prop where
 r:zX d m
 w:IF d
 k:DbK d
 sz:d.sk≤B∧d.sv≤B∧d.sb≤B
theorem GN{d:Db}{m L B:Nat}(h:Ot d (m+L) B)(h5:5000*(m+L)<small){l:List Wt}(hl:l.length≤L)(hc:eF none l=0):
  Ot (ic d (aO d l)) m (B+5000*L)∧(ic d (aO d l)).now=d.now+1∧(ic d (aO d l)).keys.length≤d.keys.length+L∧
  ∀ k,chain (ic d (aO d l)) k=match(aO d l).1.find? (fun w=>w.key=k)with|some w=>chain d k++[⟨d.now+1,w.gone,w.data⟩]|none=>chain d k:=by
 have hsub:=Ak d l;have hle:=hsub.length_le;obtain⟨k1,_,k3⟩:=Ai l none hc;have hp:∀ w∈(aO d l).1,qO {d with now:=d.now+1} w:=by
  intro w hw;obtain⟨b1,b2,_,b4⟩:=k1 w (hsub.subset hw);have:=yO h.w w.key;exact⟨by show fW (chain d w.key)<d.now+1;omega,this.1,b4,by unfold small;omega,by omega⟩
 have hr0:zX {d with now:=d.now+1} (m+(aO d l).1.length):=zX.le (m:=m+L) ⟨h.r.keys,h.r.sN,h.r.len,h.r.dat,h.r.ED⟩ (by omega);have hw0:IF {d with now:=d.now+1}:=⟨h.w.right,fun x hx=>by have:=h.w.last x hx;show fW x.2≤d.now+1;omega⟩;obtain⟨a1,a2,a3,a4,a5⟩:=Lw (aO d l).1 {d with now:=d.now+1} m hr0 (by omega) hw0 ⟨h.k.ID,h.k.kc,h.k.of⟩ (List.Nodup.sublist (hsub.map _) (tq _ k3)) hp;have hs:=GM d l ([],Xp d) (fun w hw=>⟨(k1 w hw).1,(k1 w hw).2.1⟩);obtain⟨s1,s2,s3⟩:=h.sz;refine⟨⟨⟨a1.keys,a1.sN,a1.len,a1.dat,a1.ED⟩,⟨a2.right,a2.last⟩,⟨a3.ID,a3.kc,a3.of⟩,?_⟩,(j5 d _).2,?_,fun k=> ?_⟩
 ·have e1:(ic d (aO d l)).sk=(l.foldl (eP d) ([],Xp d)).2.1:=rfl;have e2:(ic d (aO d l)).sv=(l.foldl (eP d) ([],Xp d)).2.2.1:=rfl;have e3:(ic d (aO d l)).sb=(l.foldl (eP d) ([],Xp d)).2.2.2:=rfl;rw[e1,e2,e3];simp only[Xp]at hs⊢;omega
 ·show((aO d l).1.foldl iO {d with now:=d.now+1}).keys.length≤_;have:({d with now:=d.now+1}:Db).keys.length=d.keys.length:=rfl;omega
 ·have:=a5 k;exact this
theorem O8{d:Db}{m B:Nat}(h:Ot d m B)(h5:5000*m<small)(hB:2000000000*d.keys.length≤B)(low:Nat):Ot (b9 d low) m B:=by
 obtain⟨r1,r2,_,_,_,_⟩:=D1 h.r h.w h5 low;obtain⟨_,k1,k2⟩:=wA h.k low;have hs:=Wm h.r h.w h5 low;exact⟨r1,r2,k1,by omega⟩
theorem Nu{d:Db}{m L B:Nat}(h:Ot d (m+L) B)(h5:5000*(m+L)<small)(hB:2000000000*d.keys.length≤B){l:List Wt}(hl:l.length≤L)(low:Nat):
  Ot (aV d l low).2.2 m (B+5000*L)∧(aV d l low).2.2.now≤d.now+1∧(aV d l low).2.2.keys.length≤d.keys.length+L∧d.now≤(aV d l low).2.2.now:=by
 have same:Ot d m (B+5000*L):=⟨h.r.le (by omega),h.w,h.k,by have:=h.sz;omega⟩;have hcI:=O8 h h5 hB low;obtain⟨_,_,hkl⟩:=wA h.k low;have hcn:=(kU d low).2;unfold aV;cases hc:eF none l==0 with
 |false=>exact⟨same,by show d.now≤_;omega,by show d.keys.length≤_;omega,aq _⟩
 |true=>
  have hc' :eF none l=0:=by simpa using hc
  cases l.isEmpty with
  |true=>exact⟨same,by show d.now≤_;omega,by show d.keys.length≤_;omega,aq _⟩
  |false=>
   cases decide (d.lim.last≤d.now)with
   |true=>exact⟨same,by show d.now≤_;omega,by show d.keys.length≤_;omega,aq _⟩
   |false=>
    cases lS d (aO d l).2 with
    |true=>
     obtain⟨b1,b2,b3,_⟩:=GN h h5 hl hc';exact⟨b1,by show(ic d (aO d l)).now≤_;omega,b3,by show d.now≤(ic d (aO d l)).now;omega⟩
    |false=>
     cases lS (b9 d low) (aO (b9 d low) l).2 with
     |true=>
      obtain⟨b1,b2,b3,_⟩:=GN hcI h5 hl hc';exact⟨b1,by show(ic (b9 d low) (aO (b9 d low) l)).now≤_;omega,by show(ic (b9 d low) (aO (b9 d low) l)).keys.length≤_;omega,by show d.now≤(ic (b9 d low) (aO (b9 d low) l)).now;omega⟩
     |false=>exact⟨⟨hcI.r.le (by omega),hcI.w,hcI.k,by have:=hcI.sz;show(b9 d low).sk≤_∧(b9 d low).sv≤_∧(b9 d low).sb≤_;omega⟩,by show(b9 d low).now≤_;omega,by show(b9 d low).keys.length≤_;omega,by show d.now≤(b9 d low).now;omega⟩
end Go.RE
namespace Go.RE
def L9(n:Nat):Nat:=100000000000000+n*1000000
theorem qbR(n:Nat):L9 n≤L9 (n+1):=by unfold L9;omega
structure BI(b:Bs)(n:Nat):Prop where
 le:n≤200
 d:Ot b.db ((200 - n)*200) (L9 n)
 kl:b.db.keys.length≤200*n
 now:b.db.now≤n
 last:b.last≤n
 ev:b.event≤2*n
 idn:(b.live.map (·.id)).Nodup
 ids:∀ t∈b.live,t.id≤b.last
 live:b.live.length≤n
 marks:∀ t∈b.live,t.marks.length≤n
 ct:∀ t∈b.live,t.ct.length≤n
 wt:∀ t∈b.live,∀ w∈t.ct,ow w
 ah:b.ah.length≤n
 rw:sQ b.ah≤600*n
 dl:b.done.length≤n
 Wq:∀ d∈b.done,zY d
 lim:Gz b.db.lim
theorem BI.pre{b:Bs}{n:Nat}(h:BI b n)(hn:n<200):Pre b 200:=by
 have hm:200≤(200 - n)*200:=by omega
 have hl:=h.lim;have hr:=h.ah;have hrw:=h.rw;have hk:=h.kl;have hnow:=h.now;have hlast:=h.last;have hev:=h.ev;have hlv:=h.live;have hdl:=h.dl;have l1:=hl.m;have l2:=hl.r;have l3:=hl.n;have hrc:RcB b:=⟨by omega,by unfold small;omega,by unfold small;omega,by unfold small;omega⟩;have hz:IJ b.db:=by have:=h.d.sz;have hB:L9 n=100000000000000+n*1000000:=rfl;exact⟨by omega,by omega,by omega⟩
 refine⟨⟨h.d.r.le hm,h.d.w,hz,by unfold small;omega,by unfold small;omega,fun t ht=>by have:=h.ct t ht;omega,⟨h.d.r.ok,⟨by unfold small;omega,by unfold small;omega,by unfold small;omega⟩,fun t ht=> ?_,fun t ht=> ?_,h.wt,by unfold small;omega,h.d.k.ID,by unfold small;omega⟩,hrc,fun t ht=> ?_,by omega,by unfold small;omega,by unfold small;omega⟩,h.ids,by unfold small;omega,by unfold small;omega⟩
 ·have:=h.marks t ht;unfold small;omega
 ·have:=h.ct t ht;unfold small;omega
 ·have:=h.marks t ht;unfold small;omega
theorem room_le(n:Nat):(200 - (n+1))*200≤(200 - n)*200:=by omega
theorem BI.mono{b:Bs}{n:Nat}(h:BI b n)(hn:n<200):BI b (n+1):=
 ⟨hn,⟨zX.le h.d.r (room_le n),h.d.w,h.d.k,by have:=h.d.sz;have:=qbR n;omega⟩,by have:=h.kl;omega,by have:=h.now;omega,by have:=h.last;omega,by have:=h.ev;omega,h.idn,h.ids,by have:=h.live;omega,fun t ht=>by have:=h.marks t ht;omega,fun t ht=>by have:=h.ct t ht;omega,h.wt,by have:=h.ah;omega,by have:=h.rw;omega,by have:=h.dl;omega,h.Wq,h.lim⟩
theorem BI.begin{b:Bs}{n:Nat}(h:BI b n)(hn:n<200):BI (bN b).2.2 (n+1):=by
 unfold bN;cases decide (b.db.lim.live≤b.live.length)with
 |true=>exact h.mono hn
 |false=>
  have h1:=h.mono hn;have hno:∀ t∈b.live,t.id≠b.last+1:=fun t ht hh=>by have:=h.ids t ht;omega
  simp only[cond_false];refine⟨h1.le,h1.d,h1.kl,h1.now,by have:=h.last;show b.last+1≤_;omega,by have:=h.ev;show b.event+1≤_;omega,?_,fun t ht=> ?_,by have:=h.live;simp;omega,fun t ht=> ?_,fun t ht=> ?_,fun t ht=> ?_,h1.ah,h1.rw,h1.dl,h1.Wq,h1.lim⟩
  ·show((b.live++[(⟨b.last+1,b.db.now,b.event+1,[],[]⟩:Tx)]).map (·.id)).Nodup;rw[List.map_append];refine List.nodup_append.2 ⟨h.idn,by simp,fun x hx y hy=> ?_⟩;simp at hy;subst hy;obtain⟨t,ht,rfl⟩:=eR.1 hx;exact hno t ht
  ·rcases gd.1 ht with ht|ht
   ·have:=h.ids t ht;show t.id≤b.last+1;omega
   ·simp at ht;subst ht;exact aq _
  ·rcases gd.1 ht with ht|ht
   ·exact h1.marks t ht
   ·simp at ht;subst ht;exact dS _
  ·rcases gd.1 ht with ht|ht
   ·exact h1.ct t ht
   ·simp at ht;subst ht;exact dS _
  ·rcases gd.1 ht with ht|ht
   ·exact h.wt t ht
   ·simp at ht;subst ht;exact fun w hw=>(List.not_mem_nil hw).elim
theorem mem_set{b:Bs}{t x:Tx}(h:x∈(aK b t).live):x∈b.live∨x=t:=by
 obtain⟨y,hy,rfl⟩:=eR.1 h;by_cases hh:y.id=t.id
 ·rw[if_pos hh];exact .inr rfl
 ·rw[if_neg hh];exact .inl hy
theorem Xi(b:Bs)(t:Tx):(aK b t).live.map (·.id)=b.live.map (·.id):=by
 show(b.live.map _).map _=_;rw[List.map_map];refine List.map_congr_left fun x hx=> ?_;by_cases hh:x.id=t.id<;>simp[hh]
theorem BI.set{b:Bs}{n:Nat}(h:BI b n)(hn:n<200){t t' :Tx}(ht:t∈b.live)(hid:t'.id=t.id)(hm:t'.marks.length≤n+1)(hp:t'.ct.length≤n+1)(hw:∀ w∈t'.ct,ow w):BI (aK b t') (n+1):=by
 have h1:=h.mono hn;refine⟨h1.le,h1.d,h1.kl,h1.now,h1.last,h1.ev,by rw[Xi];exact h.idn,fun x hx=> ?_,by show(b.live.map _).length≤_;rw[List.length_map];exact h1.live,fun x hx=> ?_,fun x hx=> ?_,fun x hx=> ?_,h1.ah,h1.rw,h1.dl,h1.Wq,h1.lim⟩
 ·rcases mem_set hx with hx|rfl
  ·exact h.ids x hx
  ·rw[hid];exact h.ids t ht
 ·rcases mem_set hx with hx|rfl
  ·exact h1.marks x hx
  ·exact hm
 ·rcases mem_set hx with hx|rfl
  ·exact h1.ct x hx
  ·exact hp
 ·rcases mem_set hx with hx|rfl
  ·exact h.wt x hx
  ·exact hw
theorem iW{b:Bs}{id:Int}{t:Tx}(h:gz b id=some t):t∈b.live∧(t.id:Int)=id:=by
 refine⟨qgs h,?_⟩;have:=List.find?_some h;simpa using this
theorem BI.read{b:Bs}{n:Nat}(h:BI b n)(hn:n<200)(id:Int)(k:By):BI (iw b id k).2 (n+1):=by
 unfold iw;cases ht:gz b id with
 |none=>exact h.mono hn
 |some t=>
  obtain⟨hm,_⟩:=iW ht;dsimp only;cases fF nU k t.ct with
  |some w=>exact h.mono hn
  |none=>exact h.set hn hm rfl (by have:=rW b t (wM k);have:=h.marks t hm;omega) (by have:=h.ct t hm;show t.ct.length≤_;omega) (h.wt t hm)
theorem BI.scan{b:Bs}{n:Nat}(h:BI b n)(hn:n<200)(id:Int)(s:cD):BI (jO b id s).2 (n+1):=by
 unfold jO;cases ht:gz b id with
 |none=>exact h.mono hn
 |some t=>
  obtain⟨hm,_⟩:=iW ht;dsimp only;cases dG s with
  |false=>exact h.mono hn
  |true=>exact h.set hn hm rfl (by have:=rW b t s;have:=h.marks t hm;omega) (by have:=h.ct t hm;show t.ct.length≤_;omega) (h.wt t hm)
theorem Qx{a:Wt}{l:List Wt}{x:Wt}(h:x∈lu nU a l):x=a∨x∈l:=by
 have hm:∀ l:List Wt,x∈sO nU a l→x=a∨x∈l:=by
  intro l
  induction l with
  |nil=>intro h;cases h
  |cons b r ih=>
   intro h;simp only[sO]at h;cases hb:decide (nU.key b=nU.key a)with
   |true=>
    rw[hb]at h;rcases dM.1 h with rfl|h
    ·exact .inl rfl
    ·exact .inr (gB _ h)
   |false=>
    rw[hb]at h;rcases dM.1 h with rfl|h
    ·exact .inr eU
    ·rcases ih h with h|h
     ·exact .inl h
     ·exact .inr (gB _ h)
 unfold lu at h;cases hb:(fF nU (nU.key a) l).isSome with
 |true=>rw[hb]at h;exact hm l h
 |false=>
  rw[hb]at h;rcases gd.1 h with h|h
  ·exact .inr h
  ·simp at h;exact .inl h
theorem BI.write{b:Bs}{n:Nat}(h:BI b n)(hn:n<200)(id:Int){w:Wt}(hw:ow w):BI (dY b id w).2 (n+1):=by
 unfold dY;cases ht:gz b id with
 |none=>exact h.mono hn
 |some t=>
  obtain⟨hm,_⟩:=iW ht;dsimp only;cases fL none w==0 with
  |false=>exact h.mono hn
  |true=>
   refine h.set hn hm (t' :=Qg t w) rfl (by have:=h.marks t hm;show t.marks.length≤_;omega) (by have:=h.ct t hm;have:=Qv nU w t.ct;show(lu nU w t.ct).length≤_;omega) (fun x hx=> ?_);rcases Qx hx with rfl|hx
   ·exact hw
   ·exact h.wt t hm x hx
theorem BI.col{b:Bs}{n:Nat}(h:BI b n):BI (Aj b).2 n:=by
 have h5:5000*((200 - n)*200)<small:=by
  have:(200 - n)*200≤200*200:=me _ (by omega);unfold small;omega
 have hle:=h.le;have hkl:=h.kl;obtain⟨_,_,k3⟩:=wA h.d.k (cR b);have hl:=kU b.db (cR b);exact⟨h.le,O8 h.d h5 (by unfold L9;omega) (cR b),by show(b9 b.db (cR b)).keys.length≤_;omega,by show(b9 b.db (cR b)).now≤_;rw[hl.2];exact h.now,h.last,h.ev,h.idn,h.ids,h.live,h.marks,h.ct,h.wt,h.ah,h.rw,h.dl,h.Wq,by show Gz (b9 b.db (cR b)).lim;rw[hl.1];exact h.lim⟩
theorem rK(id:Int):∀ l:List Tx,(jK id l).Sublist l
 |[]=> .slnil
 |t::r=>by
  simp only[jK];cases decide ((t.id:Int)=id)with
  |true=>exact List.sublist_cons_self _ _
  |false=>exact(rK id r).cons_cons t
theorem Lu(n m:Nat):∀ (k:Nat) (l:List Rc),l.length=k→(oe n m l).length≤l.length∧sQ (oe n m l)≤sQ l:=by
 intro k
 induction k with
 |zero=>
  intro l hl;obtain rfl:=List.length_eq_zero_iff.1 hl;simp[oz,qA]
 |succ k ih=>
  intro l hl
  match l,hl with
  |[a],_=>simp[oz,qA]
  |a::b::r,hl=>
   rw[rN];cases decide (n<r.length+2)with
   |false=>exact⟨aq _,aq _⟩
   |true=>
    obtain⟨i1,i2⟩:=ih (qg a b m::r) (by simpa using hl);have:=Nd a b m;simp only[cond_true,sQ,List.length_cons]at*;omega
theorem BI.ends{b:Bs}{n:Nat}(h:BI b n)(id:Int):BI (jW b id) n:=by
 have hs:=rK id b.live;have hf:=Lu (lV b.db.lim.records) b.db.lim.marks _ (bI b.ah (cR (gN b id))) rfl;have h1:(bI b.ah (cR (gN b id))).length≤b.ah.length:=List.length_filter_le _ _;have h2:=sL (fun r=>decide (cR (gN b id)<r.last)) b.ah;have h3:sQ (bI b.ah (cR (gN b id)))≤sQ b.ah:=h2;refine⟨h.le,h.d,h.kl,h.now,h.last,h.ev,List.Nodup.sublist (hs.map _) h.idn,fun t ht=>h.ids t (hs.subset ht),by have:=hs.length_le;have:=h.live;show(jK id b.live).length≤_;omega,fun t ht=>h.marks t (hs.subset ht),fun t ht=>h.ct t (hs.subset ht),fun t ht=>h.wt t (hs.subset ht),?_,?_,h.dl,h.Wq,h.lim⟩
 ·show(oe (lV b.db.lim.records) b.db.lim.marks (bI b.ah (cR (gN b id)))).length≤n;have:=h.ah;omega
 ·show sQ (oe (lV b.db.lim.records) b.db.lim.marks (bI b.ah (cR (gN b id))))≤600*n;have:=h.rw;omega
end Go.RE
namespace Go.RE
theorem Dc(id:Nat)(t' :Tx)(hid:t'.id=id):∀ l:List Tx,(l.map (·.id)).Nodup→jK (id:Int) (l.map fun x=>if x.id=t'.id then t' else x)=jK (id:Int) l
 |[],_=>rfl
 |t::r,hn=>by
  simp only[List.map_cons,List.nodup_cons]at hn;simp only[List.map_cons,jK];by_cases h:t.id=t'.id
  ·have e1:decide (((if t.id=t'.id then t' else t).id:Int)=(id:Int))=true:=by rw[if_pos h];simp[hid]
   have e2:decide ((t.id:Int)=(id:Int))=true:=by simp[h,hid]
   rw[e1,e2,cond_true,cond_true];refine(List.map_congr_left fun x hx=> ?_).trans (List.map_id r);have:¬x.id=t'.id:=fun hh=>hn.1 (eR.2 ⟨x,hx,by show x.id=t.id;rw[hh,h]⟩);rw[if_neg this];rfl
  ·have e1:decide (((if t.id=t'.id then t' else t).id:Int)=(id:Int))=false:=by rw[if_neg h];refine decide_eq_false ?_;rw[←hid];omega
   have e2:decide ((t.id:Int)=(id:Int))=false:=by refine decide_eq_false ?_;rw[←hid];omega
   rw[e1,e2,cond_false,cond_false,if_neg h,Dc id t' hid r hn.2]
theorem BI.fin{b b2:Bs}{n:Nat}(h:BI b n)(hn:n<200)(id:Int)(hd:Ot b2.db ((200 - (n+1))*200) (L9 (n+1)))(hkl:b2.db.keys.length≤200*(n+1))(hnow:b2.db.now≤n+1)(hlim:b2.db.lim=b.db.lim)
  (hlive:jK id b2.live=jK id b.live) (hlast:b2.last=b.last) (hev:b2.event≤2*(n+1)) (hrl:b2.ah.length≤n+1) (hrw:sQ b2.ah≤600*(n+1)) (hdl:b2.done.length≤n+1) (hdon:∀ d∈b2.done,zY d):BI (jW b2 id) (n+1):=by
 have hs:=rK id b.live;have hf:=Lu (lV b2.db.lim.records) b2.db.lim.marks _ (bI b2.ah (cR (gN b2 id))) rfl;have h1:(bI b2.ah (cR (gN b2 id))).length≤b2.ah.length:=List.length_filter_le _ _;have h3:sQ (bI b2.ah (cR (gN b2 id)))≤sQ b2.ah:=sL (fun r=>decide (cR (gN b2 id)<r.last)) b2.ah;have hl:(jW b2 id).live=jK id b.live:=hlive;have hm:=h.mono hn;refine⟨hn,hd,hkl,hnow,?_,hev,by rw[hl];exact List.Nodup.sublist (hs.map _) h.idn,fun t ht=> ?_,by rw[hl];have:=hs.length_le;have:=hm.live;omega,fun t ht=>hm.marks t (hs.subset (by rw[←hl];exact ht)),fun t ht=>hm.ct t (hs.subset (by rw[←hl];exact ht)),fun t ht=>h.wt t (hs.subset (by rw[←hl];exact ht)),?_,?_,hdl,hdon,by show Gz b2.db.lim;rw[hlim];exact h.lim⟩
 ·show b2.last≤_;rw[hlast];exact hm.last
 ·show t.id≤b2.last;rw[hlast];exact h.ids t (hs.subset (by rw[←hl];exact ht))
 ·show(oe (lV b2.db.lim.records) b2.db.lim.marks (bI b2.ah (cR (gN b2 id)))).length≤n+1;omega
 ·show sQ (oe (lV b2.db.lim.records) b2.db.lim.marks (bI b2.ah (cR (gN b2 id))))≤600*(n+1);omega
theorem Xc{n:Nat}(hn:n<200):(200 - n)*200=(200 - (n+1))*200+200:=by omega
theorem Nv{b:Bs}{n:Nat}(h:BI b n)(hn:n<200){t:Tx}(ht:t∈b.live):Ot (aD b t).2.2.2.db ((200 - (n+1))*200) (L9 (n+1))∧(aD b t).2.2.2.db.keys.length≤200*(n+1)∧(aD b t).2.2.2.db.now≤n+1∧b.db.now≤(aD b t).2.2.2.db.now∧
  jK (t.id:Int) (aD b t).2.2.2.live=jK (t.id:Int) b.live:=by
 have hm:=h.mono hn;have hp:=h.ct t ht;have hq:=oC b (qb t) (t,[],[]);have hRdef:(qb t).foldl (eW b) (t,[],[])=aG b t:=rfl;rw[hRdef]at hq;dsimp only at hq;have hw:(qb t).length=t.ct.length:=by unfold qb;rw[kJ]
 simp only[List.length_nil,Nat.zero_add]at hq;have hlive:jK (t.id:Int) (aK b (aG b t).1).live=jK (t.id:Int) b.live:=Dc t.id _ hq.2.2.2.2.2.1 b.live h.idn;have base:Ot b.db ((200 - (n+1))*200) (L9 (n+1))∧b.db.keys.length≤200*(n+1)∧b.db.now≤n+1∧b.db.now≤b.db.now:=⟨hm.d,hm.kl,hm.now,aq _⟩;have hd:=h.d;rw[Xc hn]at hd;have hkl:=h.kl;have hnow:=h.now;have hD:=Nu (L:=200) hd (by
  have:(200 - (n+1))*200+200≤40000:=by omega
  unfold small;omega) (by unfold L9;omega) (l:=(aG b t).2.1) (by omega) (cR (aK b (aG b t).1))
 have hB:L9 n+5000*200=L9 (n+1):=by unfold L9;omega
 rw[hB]at hD;have after:Ot (aV b.db (aG b t).2.1 (cR (aK b (aG b t).1))).2.2 ((200 - (n+1))*200) (L9 (n+1))∧(aV b.db (aG b t).2.1 (cR (aK b (aG b t).1))).2.2.keys.length≤200*(n+1)∧(aV b.db (aG b t).2.1 (cR (aK b (aG b t).1))).2.2.now≤n+1∧b.db.now≤(aV b.db (aG b t).2.1 (cR (aK b (aG b t).1))).2.2.now:=
  ⟨hD.1,by omega,by omega,hD.2.2.2⟩
 unfold aD;cases iM b t with
 |true=>exact⟨base.1,base.2.1,base.2.2.1,base.2.2.2,rfl⟩
 |false=>
  simp only[cond_false];cases jM b.ah (lq b t)with
  |none=>exact⟨base.1,base.2.1,base.2.2.1,base.2.2.2,hlive⟩
  |some out=>
   dsimp only;cases(aV b.db (aG b t).2.1 (cR (aK b (aG b t).1))).2.1==0 with
   |true=>exact⟨after.1,after.2.1,after.2.2.1,after.2.2.2,hlive⟩
   |false=>exact⟨after.1,after.2.1,after.2.2.1,after.2.2.2,hlive⟩
theorem BI.wB{b:Bs}{n:Nat}(h:BI b n)(hn:n<200)(id:Int):BI (bP b id).2.2 (n+1):=by
 unfold bP;cases ht:gz b id with
 |none=>exact h.mono hn
 |some t=>
  obtain⟨hm,hid⟩:=iW ht;subst hid;obtain⟨c1,c2,c3,_,c4⟩:=Nv h hn hm;obtain⟨k1,k2,k3,k4,k5⟩:=o8 b t;have hwt:=An b t;have hmk:=h.marks t hm;have hpk:=h.ct t hm;have hr:=h.ah;have hrw:=h.rw;have hdl:=h.dl;have hev:=h.ev;dsimp only;cases(aD b t).2.2.1==0 with
  |true=>
   refine h.fin hn (t.id:Int) (b2:=gK (aD b t).2.2.2 t (aD b t).1 (aD b t).2.1) c1 c2 c3 k5 c4 k3 (by show(aD b t).2.2.2.event+1≤_;omega) ?_ ?_ ?_ ?_
   ·show((aD b t).2.2.2.ah++[_]).length≤_;rw[k1];simp;omega
   ·show sQ ((aD b t).2.2.2.ah++[_])≤_;rw[k1,Nc];omega
   ·show((aD b t).2.2.2.done++[_]).length≤_;rw[k2];simp;omega
   ·intro d hd;have hd' :d∈(aD b t).2.2.2.done++[mJ t (aD b t).1 (aD b t).2.1 ((aD b t).2.2.2.event+1)]:=hd;rw[k2]at hd';rcases gd.1 hd' with hd' |hd'
    ·exact h.Wq d hd'
    ·simp at hd';subst hd';unfold Vw at hwt;exact⟨by show(aD b t).1.reads.length<small;unfold small;omega,by show(aD b t).1.writes.length<small;unfold small;omega⟩
  |false=>
   exact h.fin hn (t.id:Int) (b2:=(aD b t).2.2.2) c1 c2 c3 k5 c4 k3 (by omega) (by rw[k1];omega) (by rw[k1];omega) (by rw[k2];omega) (by rw[k2];exact h.Wq)
theorem BI.Wo{b:Bs}{n:Nat}(h:BI b n)(hn:n<200){o:DU}(ho:OE o):BI (ue b o).2 (n+1):=by
 unfold ue;cases o.dO==0 with
 |true=>exact h.begin hn
 |false=>
  cases o.dO==1 with
  |true=>exact h.read hn _ _
  |false=>
   cases o.dO==2 with
   |true=>exact h.scan hn _ _
   |false=>
    cases o.dO==3 with
    |true=>exact h.write hn _ ⟨by have:=ho.1;unfold small;omega,by have:=ho.2.1;unfold small;omega⟩
    |false=>
     cases o.dO==4 with
     |true=>exact h.wB hn _
     |false=>
      cases o.dO==5 with
      |true=>
       show BI (gE b o.id).2 (n+1);unfold gE;cases gz b o.id with
       |none=>exact h.mono hn
       |some t=>exact(h.ends o.id).mono hn
      |false=>
       cases o.dO==6 with
       |true=>exact h.col.mono hn
       |false=>exact h.mono hn
theorem BI.zero{l:Lm}(hl:Gz l):BI (Cy l) 0:=
 ⟨by omega,⟨⟨by show 0+_<small;unfold small;omega,fun k hk=>(List.not_mem_nil hk).elim,fun x hx=>(List.not_mem_nil hx).elim,fun x hx=>(List.not_mem_nil hx).elim,fun x hx=>(List.not_mem_nil hx).elim⟩,⟨fun x hx=>(List.not_mem_nil hx).elim,fun x hx=>(List.not_mem_nil hx).elim⟩,⟨List.nodup_nil,fun k=>by show k∈([]:List By)↔chain (Ov l) k≠[];simp[chain,Ov,fF],List.nodup_nil⟩,⟨dS _,dS _,dS _⟩⟩,dS _,dS _,dS _,dS _,List.nodup_nil,fun t ht=>(List.not_mem_nil ht).elim,dS _,fun t ht=>(List.not_mem_nil ht).elim,fun t ht=>(List.not_mem_nil ht).elim,fun t ht=>(List.not_mem_nil ht).elim,dS _,dS _,dS _,fun t ht=>(List.not_mem_nil ht).elim,hl⟩
end Go.RE
namespace Go.RE
theorem OK(l:Lm):Cx [.row (iE l),.row (iE l),.row (iE l),.map [] 0,.row (dz (Ov l) 3 (.nl 1)),.map [] 0,.row (dc (Cy l) 4 5 (.nl 6) (.nl 7))] 0 6 4 5 3 [6,4,5,3] (Cy l):=
 ⟨⟨[],_,_,_,qdP l,.inr ⟨rfl,rfl⟩,.inr ⟨rfl,rfl⟩,.inr ⟨rfl,rfl⟩,rfl⟩,dS _⟩
def Qy:Bs:=(bN (Cy lH)).2.2
def V3:Bs:=(bN Qy).2.2
def sk3:Bs:=(iw V3 1 [97]).2
def sk4:Bs:=(dY sk3 1 ⟨[98],false,[49]⟩).2
def sk5:Bs:=(iw sk4 2 [98]).2
def sk6:Bs:=(dY sk5 2 ⟨[97],false,[49]⟩).2
def sk7:Bs:=(bP sk6 1).2.2
theorem t52:∃ H f,G 52 [] [] 0=some (.int .i64 101,H,f)∧f≤H.length:=by
 have i0:BI (Cy lH) 0:=BI.zero rG;have i1:BI Qy 1:=i0.begin (by omega);have i2:BI V3 2:=i1.begin (by omega);have i3:BI sk3 3:=i2.read (by omega) 1 [97];have i4:BI sk4 4:=i3.write (by omega) 1 ⟨by decide,by decide⟩;have i5:BI sk5 5:=i4.read (by omega) 2 [98];have i6:BI sk6 6:=i5.write (by omega) 2 ⟨by decide,by decide⟩;have i7:BI sk7 7:=i6.wB (by omega) 1;obtain⟨h1,f1,F1,c1,l1⟩:=w17 (OK lH) (i0.pre (by omega));obtain⟨h2,f2,F2,c2,l2⟩:=w17 l1.at_ (i1.pre (by omega));obtain⟨h3,F3,c3,l3⟩:=w36 l2.at_ (i2.pre (by omega)) 1 [97] (by decide);obtain⟨h4,F4,c4,l4⟩:=w18 l3.at_ 1 ⟨[98],false,[49]⟩ ⟨by decide,by decide⟩;obtain⟨h5,F5,c5,l5⟩:=w36 l4.at_ (i4.pre (by omega)) 2 [98] (by decide);obtain⟨h6,F6,c6,l6⟩:=w18 l5.at_ 2 ⟨[97],false,[49]⟩ ⟨by decide,by decide⟩;obtain⟨h7,F7,c7,l7⟩:=w19 l6.at_ (i6.pre (by omega)) 1;obtain⟨h8,F8,c8,l8⟩:=w19 l7.at_ (i7.pre (by omega)) 2;have v1:(bN (Cy lH)).1=1∧(bN (Cy lH)).2.1=0:=⟨rfl,rfl⟩;have v2:(bN Qy).1=2∧(bN Qy).2.1=0:=⟨rfl,rfl⟩;have v7:(bP sk6 1).1=1∧(bP sk6 1).2.1=0:=⟨rfl,rfl⟩;have v8:(bP sk7 2).2.1=101:=rfl;have e1:(bN (Cy lH)).2.2=Qy:=rfl;have e2:(bN Qy).2.2=V3:=rfl;have e3:(iw V3 1 [97]).2=sk3:=rfl;have e4:(dY sk3 1 ⟨[98],false,[49]⟩).2=sk4:=rfl;have e5:(iw sk4 2 [98]).2=sk5:=rfl;have e6:(dY sk5 2 ⟨[97],false,[49]⟩).2=sk6:=rfl;have e7:(bP sk6 1).2.2=sk7:=rfl;rw[e1]at c2;rw[e1,e2]at c3;rw[e1,e2,e3]at c4;rw[e1,e2,e3,e4]at c5;rw[e1,e2,e3,e4,e5]at c6;rw[e1,e2,e3,e4,e5,e6]at c7;rw[e1,e2,e3,e4,e5,e6,e7]at c8;rw[v1.1,v1.2]at c1;rw[v2.1,v2.2]at c2;rw[v7.1,v7.2]at c7;rw[v8]at c8;obtain⟨r3,is3,x3,s3⟩:=uG V3 1 [97];obtain⟨r5,is5,x5,s5⟩:=uG sk4 2 [98];rw[s3]at c3;rw[s5]at c5;have p1:=t51 [98] [49];have p2:=t51 [97] [49];have m1:=t14 lH rG;have m0:=t15;have hle:=l8.at_.fle;refine⟨_,_,bJ (fn:=v52) (R:=(.int .i64 101,cut 0 f2 h8,f2)) rfl rfl rfl ?_,by unfold cut;rw[List.length_take];omega⟩;simp only[eO,iE]at c4 c6 p1 p2 m0;simp only[iE,dz,dc]at m1 c1;simp at c1 c2 c7;simp[B8,Zm,Zn,Zo,Zp,Zq,Zr,Zt,Zu,Zv,UK,UL,UM,UN,m0,m1,c1,c2,c3,c4,c5,c6,c7,c8,p1,p2,jl,dz,dc]
def lw3:Bs:=(dY V3 1 ⟨[98],false,[49]⟩).2
def lw4:Bs:=(dY lw3 2 ⟨[98],false,[50]⟩).2
def lw5:Bs:=(bP lw4 1).2.2
def lw6:Bs:=(bP lw5 2).2.2
theorem t12:∃ H f,G 12 [] [] 0=some (.bool true,H,f)∧f≤H.length:=by
 have i0:BI (Cy lH) 0:=BI.zero rG;have i1:BI Qy 1:=i0.begin (by omega);have i2:BI V3 2:=i1.begin (by omega);have i3:BI lw3 3:=i2.write (by omega) 1 ⟨by decide,by decide⟩;have i4:BI lw4 4:=i3.write (by omega) 2 ⟨by decide,by decide⟩;have i5:BI lw5 5:=i4.wB (by omega) 1;have i6:BI lw6 6:=i5.wB (by omega) 2;obtain⟨h1,f1,F1,c1,l1⟩:=w17 (OK lH) (i0.pre (by omega));obtain⟨h2,f2,F2,c2,l2⟩:=w17 l1.at_ (i1.pre (by omega));obtain⟨h3,F3,c3,l3⟩:=w18 l2.at_ 1 ⟨[98],false,[49]⟩ ⟨by decide,by decide⟩;obtain⟨h4,F4,c4,l4⟩:=w18 l3.at_ 2 ⟨[98],false,[50]⟩ ⟨by decide,by decide⟩;obtain⟨h5,F5,c5,l5⟩:=w19 l4.at_ (i4.pre (by omega)) 1;obtain⟨h6,F6,c6,l6⟩:=w19 l5.at_ (i5.pre (by omega)) 2;obtain⟨⟨lv,rc,dn,ks,b6,r1,_,_,_⟩,hf6⟩:=l6.at_;have c7:=t23 f2 hf6 b6 r1 i6.d.r.ok;have v1:(bN (Cy lH)).1=1∧(bN (Cy lH)).2.1=0:=⟨rfl,rfl⟩;have v2:(bN Qy).1=2∧(bN Qy).2.1=0:=⟨rfl,rfl⟩;have v3:(dY V3 1 ⟨[98],false,[49]⟩).1=0:=rfl;have v4:(dY lw3 2 ⟨[98],false,[50]⟩).1=0:=rfl;have v5:(bP lw4 1).1=1∧(bP lw4 1).2.1=0:=⟨rfl,rfl⟩;have v6:(bP lw5 2).2.1=100:=rfl;have v7:qai lw6=[([98],[49])]:=rfl;have e1:(bN (Cy lH)).2.2=Qy:=rfl;have e2:(bN Qy).2.2=V3:=rfl;have e3:(dY V3 1 ⟨[98],false,[49]⟩).2=lw3:=rfl;have e4:(dY lw3 2 ⟨[98],false,[50]⟩).2=lw4:=rfl;have e5:(bP lw4 1).2.2=lw5:=rfl;have e6:(bP lw5 2).2.2=lw6:=rfl;rw[e1]at c2;rw[e1,e2]at c3;rw[e1,e2,e3]at c4;rw[e1,e2,e3,e4]at c5;rw[e1,e2,e3,e4,e5]at c6;rw[e1,e2,e3,e4,e5,e6]at c7;rw[v1.1,v1.2]at c1;rw[v2.1,v2.2]at c2;rw[v3]at c3;rw[v4]at c4;rw[v5.1,v5.2]at c5;rw[v6]at c6;rw[v7]at c7;have p1:=t51 [98] [49];have p2:=t51 [98] [50];have m1:=t14 lH rG;have m0:=t15;obtain⟨H,f,hs,hfH⟩:=t52;have ub:∀ s,qbQ s (.sl 1 (bQ [49]))=some (.str [49],s):=fun s=>rfl;simp only[eO,iE]at c3 c4 p1 p2 m0;simp only[iE,dz,dc]at m1 c1;simp only[uB,List.map_cons,List.map_nil]at c7;simp at c1 c2 c3 c4 c5 c6;cases H with
 |nil=>
  refine⟨_,_,bJ (fn:=v12) (R:=(.bool true,cut 0 f2 h6,f2)) rfl rfl rfl ?_,by unfold cut;rw[List.length_take];omega⟩;simp[uS,Ry,Rz,RA,RB,RC,RD,RF,RG,Kg,Kh,m0,m1,c1,c2,c3,c4,c5,c6,c7,p1,p2,hs,ub,jl,dz,dc]
 |cons a H=>
  refine⟨_,_,bJ (fn:=v12) (R:=(.bool true,cut 0 (bif Nat.beq f 0 then f2 else h6.length+f) (h6++(a::H).map (eH h6.length)),bif Nat.beq f 0 then f2 else h6.length+f)) rfl rfl rfl ?_,by
   unfold cut;rw[List.length_take];simp only[lG,List.length_map];cases Nat.beq f 0 with
   |true=>simp only[cond_true];omega
   |false=>simp only[cond_false];omega⟩
  simp[uS,Ry,Rz,RA,RB,RC,RD,RF,RG,Kg,Kh,m0,m1,c1,c2,c3,c4,c5,c6,c7,p1,p2,hs,ub,jl,dz,dc]
end Go.RE
namespace Go.RE
theorem qam(l:Lm)(X:List Uo)(fl:Nat)(hfl:fl≤X.length):Cx (X++[.row (iE l),.row (iE l),.row (iE l),.map [] 0,.row (dz (Ov l) (3+X.length) (.nl 1)),.map [] 0,.row (dc (Cy l) (4+X.length) (5+X.length) (.nl 6) (.nl 7))]) fl
  (6+X.length) (4+X.length) (5+X.length) (3+X.length) [6+X.length,4+X.length,5+X.length,3+X.length] (Cy l):=by
 have hg:∀ (k:Nat) (Y:List Uo),(X++Y)[k+X.length]? =Y[k]? :=fun k Y=>by
  rw[eZ (by omega),show k+X.length - X.length=k by omega]
 refine⟨⟨[],.nl 6,.nl 7,.nl 1,⟨by rw[hg];rfl,⟨by rw[hg];rfl,by rw[hg];exact uu kO⟩,by rw[hg];exact uu k8,rfl,fun l hl=>(List.not_mem_nil hl).elim,by simp[bZ]⟩,.inr ⟨rfl,rfl⟩,.inr ⟨rfl,rfl⟩,.inr ⟨rfl,rfl⟩,by simp[bZ]⟩,by simp;omega⟩
theorem Cx.cut{h:List Uo}{fl n:Nat}{i s m o:Nat}{F:List Nat}{b:Bs}(hb:Cx h fl i s m o F b)(hF:∀ x∈F,x<max n fl):Cx (cut n fl h) fl i s m o F b:=by
 obtain⟨⟨lv,rc,dn,ks,hb,r1,r2,r3,rfl⟩,h2⟩:=hb;refine⟨⟨lv,rc,dn,ks,hb.same (fun j hj=> ?_),r1,r2,r3,rfl⟩,?_⟩
 ·unfold RE.cut;rw[jP,if_pos (hF j hj)]
 ·unfold RE.cut;rw[List.length_take];omega
structure VA(h:List Uo)(fl n:Nat)(i s m o:Nat)(F:List Nat)(b:Bs)(W:Uo):Prop where
 at_:Cx h fl i s m o F b
 nle:n≤h.length
 foo:∀ x∈F,x<max n fl∧0<x
 w:h[0]? =some W
 n0:0<n
theorem Left.plain{h x h' :List Uo}{fl fl' :Nat}{i s m o:Nat}{F F' :List Nat}{b' :Bs}(hf:fl≤h.length)(hF:∀ j∈F,j<h.length)(hl:Left (h++x) h' fl fl' i s m o F F' b')(hx:0<x.length):
  Left h (RE.cut h.length fl' h') fl fl' i s m o F F' b' :=by
 have hlen:=hl.gr.1;simp only[lG]at hlen;have hlt:h.length<h'.length:=by omega
 have:=hl.fin hf hF (k:=h.length) (aq _) (by omega) h'[h.length];rw[List.set_getElem_self hlt]at this;exact this
theorem VA.left{h h' :List Uo}{fl fl' n:Nat}{i s m o:Nat}{F F' :List Nat}{b b' :Bs}{W:Uo}(hr:VA h fl n i s m o F b W)(hl:Left h h' fl fl' i s m o F F' b'):VA h' fl' n i s m o F' b' W:=by
 have hn:=hr.nle;have h0:=hr.n0;have hg:=hl.gr;refine⟨hl.at_,Nat.le_trans hn hg.1,fun x hx=>⟨?_,?_⟩,?_,h0⟩
 ·rcases hl.or with⟨e,e2,e3⟩|e
  ·have:=(hr.foo x (e3 x hx)).1;omega
  ·have:=hl.at_.lt x hx;omega
 ·rcases hg.2.2 x hx with h1|h1
  ·exact(hr.foo x h1).2
  ·omega
 ·rw[hg.2.1 0 (by omega) (fun hh=>by have:=(hr.foo 0 hh).2;omega)];exact hr.w
theorem VA.cut{h:List Uo}{fl n:Nat}{i s m o:Nat}{F:List Nat}{b:Bs}{W:Uo}(hr:VA h fl n i s m o F b W):VA (RE.cut n fl h) fl n i s m o F b W:=by
 have hn:=hr.nle;have h0:=hr.n0;refine⟨hr.at_.cut (fun x hx=>(hr.foo x hx).1),?_,hr.foo,?_,h0⟩
 ·unfold RE.cut;rw[List.length_take];omega
 ·unfold RE.cut;rw[jP,if_pos (by omega)];exact hr.w
theorem Wv{l:List DU}(h:I8 l=true):(∀ o∈l,OE o)∧l.length≤80:=by
 unfold I8 at h;simp only[bC,jr,decide_eq_true_eq]at h;refine⟨fun o ho=> ?_,h.2⟩;have:=h.1 o ho;unfold qN at this;simp only[bC,decide_eq_true_eq]at this;exact⟨this.1.1,this.1.2,this.2⟩
end Go.RE
namespace Go.RE
theorem VA.lt{h:List Uo}{fl n:Nat}{i s m o:Nat}{F:List Nat}{b:Bs}{W:Uo}(hr:VA h fl n i s m o F b W):i<h.length:=by
 obtain⟨lv,rc,dn,ks,hb,_⟩:=hr.at_.at_;exact(bn.1 hb.row).1
end Go.RE
namespace Go.RE
structure Rl(b b' :Bs)(id:Int):Prop where
 now:b.db.now≤b'.db.now
 old:∀ t'∈b'.live,∃ t∈b.live,t'.id=t.id∧t'.began=t.began
 keep:∀ x:Int,x≠id→gz b' x=gz b x
theorem Rl.trans{b c d:Bs}{id:Int}(h:Rl b c id)(k:Rl c d id):Rl b d id:=
 ⟨Nat.le_trans h.now k.now,fun t' ht=>by
  obtain⟨t1,m1,e1,e2⟩:=k.old t' ht;obtain⟨t2,m2,e3,e4⟩:=h.old t1 m1;exact⟨t2,m2,e1.trans e3,e2.trans e4⟩,fun x hx=>(k.keep x hx).trans (h.keep x hx)⟩
theorem Rl.db{b b' :Bs}(id:Int)(hl:b'.live=b.live)(hn:b.db.now≤b'.db.now):Rl b b' id:=
 ⟨hn,fun t ht=>⟨t,hl▸ht,rfl,rfl⟩,fun x _=>by unfold gz;rw[hl]⟩
theorem Rl.refl(b:Bs)(id:Int):Rl b b id:=Rl.db id rfl (aq _)
theorem qcn(b:Bs)(t:Tx)(x:Int):gz (aK b t) x=(gz b x).map fun y=>if y.id=t.id then t else y:=by
 unfold gz aK;dsimp only;rw[List.find?_map];congr 1;congr 1;funext y;show decide (((if y.id=t.id then t else y:Tx).id:Int)=x)=decide ((y.id:Int)=x);by_cases h:y.id=t.id
 ·rw[if_pos h,h]
 ·rw[if_neg h]
theorem Rl.set{b:Bs}{id:Int}{t t' :Tx}(ht:t∈b.live)(h1:t'.id=t.id)(h2:t'.began=t.began)(hi:(t.id:Int)=id):Rl b (aK b t') id:=by
 refine⟨aq _,fun y hy=> ?_,fun x hx=> ?_⟩
 ·rcases mem_set hy with h|h
  ·exact⟨y,h,rfl,rfl⟩
  ·exact⟨t,ht,by rw[h,h1],by rw[h,h2]⟩
 ·rw[qcn];cases hb:gz b x with
  |none=>rfl
  |some y=>
   obtain⟨_,e⟩:=iW hb;have:¬y.id=t'.id:=by omega
   simp[this]
theorem Mb(id x:Int)(hx:x≠id):∀ l:List Tx,(jK id l).find? (fun t=>decide ((t.id:Int)=x))=l.find? (fun t=>decide ((t.id:Int)=x))
 |[]=>rfl
 |t::r=>by
  unfold jK;cases h:decide ((t.id:Int)=id)with
  |true=>
   have h' :(t.id:Int)=id:=by simpa using h
   have:decide ((t.id:Int)=x)=false:=by rw[decide_eq_false_iff_not];omega
   rw[cond_true,List.find?_cons,this]
  |false=>rw[cond_false,List.find?_cons,List.find?_cons,Mb id x hx r]
theorem Rl.ends(b:Bs)(id:Int):Rl b (jW b id) id:=
 ⟨aq _,fun t ht=>⟨t,(rK id b.live).subset ht,rfl,rfl⟩,fun x hx=>Mb id x hx b.live⟩
theorem x8(d:Db)(l:List Wt)(low:Nat):d.now≤(aV d l low).2.2.now:=by
 unfold aV;cases eF none l==0 with
 |false=>exact aq _
 |true=>
  cases l.isEmpty with
  |true=>exact aq _
  |false=>
   cases decide (d.lim.last≤d.now)with
   |true=>exact aq _
   |false=>
    have hcn:=(kU d low).2;cases lS d (aO d l).2 with
    |true=>have:=(j5 d (aO d l)).2;show d.now≤(ic d (aO d l)).now;omega
    |false=>
     cases lS (b9 d low) (aO (b9 d low) l).2 with
     |true=>have:=(j5 (b9 d low) (aO (b9 d low) l)).2;show d.now≤(ic (b9 d low) (aO (b9 d low) l)).now;omega
     |false=>show d.now≤(b9 d low).now;omega
theorem Rl.cmT{b:Bs}{t:Tx}{id:Int}(ht:gz b id=some t):Rl b (aD b t).2.2.2 id:=by
 obtain⟨hm,hi⟩:=iW ht;have hl:=oC b (qb t) (t,[],[]);have hs:Rl b (aK b (aG b t).1) id:=Rl.set hm hl.2.2.2.2.2.1 hl.2.2.2.1 hi;unfold aD;cases iM b t with
 |true=>exact Rl.refl b id
 |false=>
  simp only[cond_false];cases jM b.ah (lq b t)with
  |none=>exact hs
  |some out=>
   dsimp only;have hd:Rl (aK b (aG b t).1) {aK b (aG b t).1 with db:=(aV b.db (aG b t).2.1 (cR (aK b (aG b t).1))).2.2} id:=Rl.db id rfl (x8 b.db _ _);cases(aV b.db (aG b t).2.1 (cR (aK b (aG b t).1))).2.1==0 with
   |true=>exact hs.trans hd
   |false=>exact hs.trans hd
theorem Rl.cmB(b:Bs)(id:Int):Rl b (bP b id).2.2 id:=by
 unfold bP;cases ht:gz b id with
 |none=>exact Rl.refl b id
 |some t=>
  dsimp only;have h:=Rl.cmT ht;cases(aD b t).2.2.1==0 with
  |true=>exact(h.trans (Rl.db (b' :=gK (aD b t).2.2.2 t (aD b t).1 (aD b t).2.1) id rfl (aq _))).trans (Rl.ends _ id)
  |false=>exact h.trans (Rl.ends _ id)
theorem Rl.wrB(b:Bs)(id:Int)(w:Wt):Rl b (dY b id w).2 id:=by
 unfold dY;cases ht:gz b id with
 |none=>exact Rl.refl b id
 |some t=>
  dsimp only;obtain⟨hm,hi⟩:=iW ht;cases fL none w==0 with
  |false=>exact Rl.refl b id
  |true=>exact Rl.set hm rfl rfl hi
theorem Rl.rdB(b:Bs)(id:Int)(k:By):Rl b (iw b id k).2 id:=by
 unfold iw;cases ht:gz b id with
 |none=>exact Rl.refl b id
 |some t=>
  obtain⟨hm,hi⟩:=iW ht;dsimp only;cases fF nU k t.ct with
  |some w=>exact Rl.refl b id
  |none=>exact Rl.set hm rfl rfl hi
theorem Rl.scB(b:Bs)(id:Int)(s:cD):Rl b (jO b id s).2 id:=by
 unfold jO;cases ht:gz b id with
 |none=>exact Rl.refl b id
 |some t=>
  obtain⟨hm,hi⟩:=iW ht;dsimp only;cases dG s with
  |false=>exact Rl.refl b id
  |true=>exact Rl.set hm rfl rfl hi
theorem Rl.abB(b:Bs)(id:Int):Rl b (gE b id).2 id:=by
 unfold gE;cases gz b id with
 |none=>exact Rl.refl b id
 |some t=>exact Rl.ends b id
theorem Rl.coB(b:Bs)(id:Int):Rl b (Aj b).2 id:=Rl.db id rfl (by have:=(kU b.db (cR b)).2;show b.db.now≤(b9 b.db (cR b)).now;omega)
end Go.RE
namespace Go.RE
end Go.RE
namespace Go.RE
theorem w20{h:List Uo}{fl:Nat}{i s m o:Nat}{F:List Nat}{b:Bs}(hb:Cx h fl i s m o F b)(hdl:b.done.length<small)(hok:∀ d∈b.done,zY d):G 20 [.ptr i 0] h fl=some (.own .r 7 (b.done.map gG),h,fl):=by
 obtain⟨⟨lv,rc,dn,ks,hb,r1,r2,r3,rfl⟩,h2⟩:=hb;exact t20 fl h2 hb r3 hdl hok
def mK(l:List Vy)(ev:Nat):Nat:=(l.filter fun d=>decide (ev<d.stop)).length
theorem qfH(l:List Vy)(ev:Nat)(hl:l.length<small):∀ (j i n:Nat),i+j=l.length→n≤i→
  gL bq mT qT pT v21 0 Ft 0 ⟨[(10,.int .i64 (i:Int)),(5,.int .i64 (n:Int)),(1,.int .i64 (ev:Int)),(8,.sl 7 (l.map gG)),(9,.int .i64 (l.length:Int))],[],0⟩
   (gy bq mT qT pT v21 (.seq (.region TS) .ret) (kE 0 v21 (.int .i64 ((n+mK (l.drop i) ev:Nat):Int),[],0))):=by
 intro j
 induction j with
 |zero=>
  intro i n hij hn;obtain⟨h1,h2⟩:=nB hij;rw[ak Ft.eq_1,h2];simp[Mz,TS,h1,mK]
 |succ j ih=>
  intro i n hij hn;obtain⟨h1,e3,d,d1,g1⟩:=ql hij hl;have e1:=g1 gG;simp only[gG]at e1;have e4:aI .i64 ((n:Int)+1)=((n+1:Nat):Int):=eY (by unfold small at hl;omega);rw[ak Ft.eq_1,d1];cases hd:decide (ev<d.stop)with
  |true=>
   have ih' :=ih (i+1) (n+1) (by omega) (by omega);have e5:n+mK (d::l.drop (i+1)) ev=n+1+mK (l.drop (i+1)) ev:=by
    unfold mK;rw[List.filter_cons,hd,if_pos rfl,List.length_cons];omega
   rw[e5];simp[Mz,TO,TP,YO,TQ,h1,aS e1,e3,e4,hd];simpa using ih'
  |false=>
   have ih' :=ih (i+1) n (by omega) (by omega);have e5:mK (d::l.drop (i+1)) ev=mK (l.drop (i+1)) ev:=by
    unfold mK;rw[List.filter_cons,hd];simp
   rw[e5];simp[Mz,TO,TP,TQ,h1,aS e1,e3,hd];simpa using ih'
theorem t21(l:List Vy)(ev:Nat)(hl:l.length<small):G 21 [.sl 7 (l.map gG),.int .i64 (ev:Int)] [] 0=some (.int .i64 (mK l ev:Nat),[],0):=by
 refine bJ (fn:=v21) rfl rfl rfl ?_;have a:=qfH l ev hl l.length 0 0 (by omega) (by omega);simp at a;simp[BQ,YL,YM,YN];simpa using a
theorem Wp(b:Bs)(o:DU):∃ N E bs is sc,(ue b o).1=[.int .u64 N,.int .i64 E,.sl 1 bs,.bool is,.sl 2 sc]∧(o.dO=0→N=aI .u64 ((bN b).1:Nat)∧E=((bN b).2.1:Nat))∧(o.dO=4→E=((bP b o.id).2.1:Nat)):=by
 unfold ue;cases e0:o.dO==0 with
 |true=>
  have d0:o.dO=0:=by simpa using e0
  exact⟨_,_,_,_,_,rfl,fun _=>⟨rfl,rfl⟩,fun h=>by omega⟩
 |false=>
  have d0:¬o.dO=0:=by simpa using e0
  cases e1:o.dO==1 with
  |true=>
   have d1:o.dO=1:=by simpa using e1
   obtain⟨bs,is,e,hsh⟩:=uG b o.id o.w.key;exact⟨0,e,bs,is,[],by simp[hsh,tR],fun h=>absurd h d0,fun h=>by omega⟩
  |false=>
   cases e2:o.dO==2 with
   |true=>
    have d2:o.dO=2:=by simpa using e2
    obtain⟨bs,e,hsh⟩:=HV b o.id (o.w.key,o.hi);exact⟨0,e,[],false,bs,by simp[hsh,tS],fun h=>absurd h d0,fun h=>by omega⟩
   |false=>
    cases e3:o.dO==3 with
    |true=>
     have d3:o.dO=3:=by simpa using e3
     exact⟨_,_,_,_,_,rfl,fun h=>absurd h d0,fun h=>by omega⟩
    |false=>
     cases e4:o.dO==4 with
     |true=>exact⟨_,_,_,_,_,rfl,fun h=>absurd h d0,fun _=>rfl⟩
     |false=>
      have d4:¬o.dO=4:=by simpa using e4
      cases e5:o.dO==5 with
      |true=>exact⟨_,_,_,_,_,rfl,fun h=>absurd h d0,fun h=>absurd h d4⟩
      |false=>
       cases e6:o.dO==6 with
       |true=>exact⟨_,_,_,_,_,rfl,fun h=>absurd h d0,fun h=>absurd h d4⟩
       |false=>exact⟨_,_,_,_,_,rfl,fun h=>absurd h d0,fun h=>absurd h d4⟩
theorem Pd{h x:List Uo}{k fl:Nat}(hk:k≤h.length)(hf:fl≤h.length):cut k fl (h++x)=cut k fl h:=by
 unfold cut;rw[List.take_append_of_le_length (by omega)]
end Go.RE
namespace Go.RE
def RP(z:Bool)(M:Nat)(r:Rc):Prop:=r.last≤M∧(z=true→r.writes=[])
def RJ(b:Bs):Prop:=∀ r∈b.ah,RP (b.db.now==0) (lV b.db.now) r
theorem Pr(n m:Nat){Pp:Rc→Prop}(hP:∀ a b,Pp a→Pp b→Pp (qg a b m)):∀ (k:Nat) (l:List Rc),l.length=k→(∀ r∈l,Pp r)→∀ r∈oe n m l,Pp r:=by
 intro k
 induction k with
 |zero=>
  intro l hl h;obtain rfl:=List.length_eq_zero_iff.1 hl;intro r hr;rw[oz]at hr;cases hr
 |succ k ih=>
  intro l hl h
  match l,hl with
  |[a],_=>simpa[qA]using h
  |a::b::r,hl=>
   rw[rN];cases decide (n<r.length+2)with
   |false=>exact h
   |true=>
    refine ih (qg a b m::r) (by simpa using hl) fun x hx=> ?_;rcases dM.1 hx with rfl|hx
    ·exact hP a b (h a (by simp)) (h b (by simp))
    ·exact h x (by simp[hx])
theorem Dh(n:Nat):qo [] n=[]:=jq (by have:=(oA [] n).2;simpa using this)
theorem Jm:kY [] []=[]:=jq (by have:=iD [] [];simp at this;simpa using this)
theorem RP.join{z:Bool}{M m:Nat}(a b:Rc)(ha:RP z M a)(hb:RP z M b):RP z M (qg a b m):=by
 refine⟨?_,fun hz=> ?_⟩
 ·show mx a.last b.last≤M;have:=ha.1;have:=hb.1;unfold mx;omega
 ·show qo (kY a.writes b.writes) m=[];rw[ha.2 hz,hb.2 hz,Jm,Dh]
theorem RJ.ends{b:Bs}(h:RJ b)(id:Int):RJ (jW b id):=by
 intro r hr;refine Pr _ _ (Pp:=RP (b.db.now==0) (lV b.db.now)) (fun a c=>RP.join a c) _ _ rfl (fun x hx=>h x ?_) r hr;exact(List.mem_filter.1 hx).1
theorem D2(d:Db)(l:List Wt)(low:Nat):(aV d l low).2.1<100:=by
 have hc:∀ (l:List Wt) (p:Option By),eF p l<100:=by
  intro l
  induction l with
  |nil=>intro p;show 0<100;omega
  |cons w l ih=>
   intro p;unfold eF;cases fL p w==0 with
   |true=>exact ih _
   |false=>
    rw[cond_false];unfold fL;cases decide (256<w.key.length)with
    |true=>show 3<100;omega
    |false=>
     cases decide (4096<w.data.length)with
     |true=>show 3<100;omega
     |false=>
      cases w.key.isEmpty||uC p w.key||(w.gone&&decide (0<w.data.length))with
      |true=>show 1<100;omega
      |false=>show 0<100;omega
 unfold aV;cases eF none l==0 with
 |false=>exact hc l none
 |true=>
  cases l.isEmpty with
  |true=>show 0<100;omega
  |false=>
   cases decide (d.lim.last≤d.now)with
   |true=>show 5<100;omega
   |false=>
    cases lS d (aO d l).2 with
    |true=>show 0<100;omega
    |false=>
     cases lS (b9 d low) (aO (b9 d low) l).2 with
     |true=>show 0<100;omega
     |false=>show 5<100;omega
theorem Am(d:Db)(l:List Wt)(low:Nat):((aV d l low).2.1=0→(aV d l low).1=(aV d l low).2.2.now∧(l=[]∨1≤(aV d l low).2.2.now))∧(¬(aV d l low).2.1=0→(aV d l low).2.2.now=d.now):=by
 unfold aV;cases hc:eF none l==0 with
 |false=>
  have:¬eF none l=0:=by simpa using hc
  exact⟨fun h=>absurd h this,fun _=>rfl⟩
 |true=>
  cases he:l.isEmpty with
  |true=>exact⟨fun _=>⟨rfl,.inl (List.isEmpty_iff.1 he)⟩,fun h=>absurd rfl h⟩
  |false=>
   cases decide (d.lim.last≤d.now)with
   |true=>exact⟨(fun h=>by cases h),fun _=>rfl⟩
   |false=>
    have hcn:=(kU d low).2;cases lS d (aO d l).2 with
    |true=>
     have:=(j5 d (aO d l)).2;exact⟨fun _=>⟨this.symm,.inr (by show 1≤(ic d (aO d l)).now;omega)⟩,fun h=>absurd rfl h⟩
    |false=>
     cases lS (b9 d low) (aO (b9 d low) l).2 with
     |true=>
      have:=(j5 (b9 d low) (aO (b9 d low) l)).2;exact⟨fun _=>⟨by show d.now+1=(ic (b9 d low) (aO (b9 d low) l)).now;omega,.inr (by show 1≤(ic (b9 d low) (aO (b9 d low) l)).now;omega)⟩,fun h=>absurd rfl h⟩
     |false=>exact⟨(fun h=>by cases h),fun _=>hcn⟩
theorem AW(b:Bs):∀ (L:List Wt) (z:XG),(z.2.1=[]→z.2.2=[])→(L.foldl (eW b) z).2.1=[]→(L.foldl (eW b) z).2.2=[]
 |[],z,h,h2=>h h2
 |w::L,z,h,h2=>by
  rw[List.foldl_cons]at h2⊢;refine AW b L (eW b z w) ?_ h2;unfold eW;cases w.gone&&(pF (chain b.db w.key) z.1.began).isNone with
  |true=>exact h
  |false=>intro h3;simp at h3
structure Al(b b' :Bs)(id:Int):Prop where
 rl:Rl b b' id
 last:b'.last=b.last
 rj:RJ b'
 dn:(b'.done=b.done∧b'.db.now=b.db.now)∨∃ d,b'.done=b.done++[d]∧0<d.stop
structure AI(b:Bs)(bg:List Nat):Prop where
 len:bg.length=b.last
 lv:∀ t∈b.live,1≤t.id∧∃ k,bg[t.id - 1]? =some k∧k≤b.done.length∧(k=b.done.length→b.db.now=t.began)
 rj:RJ b
 st:∀ d∈b.done,0<d.stop
theorem AI.al{b b' :Bs}{bg:List Nat}{id:Int}(h:AI b bg)(a:Al b b' id):AI b' bg:=by
 refine⟨by rw[a.last];exact h.len,fun t' ht=> ?_,a.rj,fun d hd=> ?_⟩
 ·obtain⟨t,hm,e1,e2⟩:=a.rl.old t' ht;obtain⟨h1,k,h2,h3,h4⟩:=h.lv t hm;refine⟨by omega,k,by rw[e1];exact h2,?_⟩;rcases a.dn with⟨d1,d2⟩|⟨d,d1,_⟩
  ·rw[d1,d2];exact⟨h3,fun hk=>by rw[e2];exact h4 hk⟩
  ·rw[d1,lG,List.length_singleton];exact⟨by omega,fun hk=>by omega⟩
 ·rcases a.dn with⟨d1,_⟩|⟨d',d1,d2⟩
  ·rw[d1]at hd;exact h.st d hd
  ·rw[d1]at hd;rcases gd.1 hd with hd|hd
   ·exact h.st d hd
   ·have:=List.mem_singleton.1 hd;subst this;exact d2
theorem Al.same{b b' :Bs}{id:Int}(hr:Rl b b' id)(h1:b'.last=b.last)(h2:b'.ah=b.ah)(h3:b'.done=b.done)(h4:b'.db.now=b.db.now)(hj:RJ b):Al b b' id:=
 ⟨hr,h1,by unfold RJ;rw[h2,h4];exact hj,.inl ⟨h3,h4⟩⟩
theorem AI.near{b:Bs}{bg:List Nat}{n:Nat}(hb:BI b n)(h:AI b bg){t:Tx}(ht:t∈b.live)(hk:bg[t.id - 1]? =some b.done.length):iM b t=false∧jM b.ah (lq b t)≠none:=by
 obtain⟨h1,k,h2,h3,h4⟩:=h.lv t ht;rw[hk]at h2;have hnow:b.db.now=t.began:=h4 (Option.some.inj h2).symm;refine⟨?_,?_⟩
 ·unfold iM;rw[List.any_eq_false];intro w _;have:=(yO hb.d.w w.key).2;show ¬decide (t.began<fW (chain b.db w.key))=true;rw[decide_eq_true_eq];omega
 ·have hbeg:(lq b t).began=t.began:=rfl;have skip:∀ r∈b.ah,(!sZ (lq b t) r|| !sY (lq b t).reads r.writes)=true:=by
   intro r hr;obtain⟨r1,r2⟩:=h.rj r hr;cases hz:b.db.now==0 with
   |true=>
    rw[r2 hz];have:sY (lq b t).reads []=false:=by
     unfold sY;simp
    rw[this];simp
   |false=>
    have hz' :¬b.db.now=0:=by simpa using hz
    have:sZ (lq b t) r=false:=by
     unfold sZ;rw[hbeg];refine decide_eq_false ?_;unfold lV at r1;omega
    rw[this];rfl
  have out:∀ (l:List Rc) (most:Nat) (inn:Bool) (z:Nat×Bool),(∀ r∈l,(!sZ (lq b t) r|| !sY (lq b t).reads r.writes)=true)→yF (lq b t) most inn z l=some z:=by
   intro l
   induction l with
   |nil=>intro _ _ _ _;rfl
   |cons r l ih=>
    intro most inn z hl;rw[yF,hl r eU,cond_true];exact ih most inn z fun x hx=>hl x (gB _ hx)
  unfold jM;dsimp only;rw[out b.ah _ _ _ skip];simp
theorem Al.wB{b:Bs}(hj:RJ b)(id:Int):Al b (bP b id).2.2 id:=by
 have hrl:=Rl.cmB b id;unfold bP at hrl⊢;cases ht:gz b id with
 |none=>exact Al.same (Rl.refl b id) rfl rfl rfl rfl hj
 |some t=>
  rw[ht]at hrl;dsimp only at hrl⊢;obtain⟨k1,k2,k3,k4,k5⟩:=o8 b t;have hq:=AW b (qb t) (t,[],[]) (fun _=>rfl);cases he:(aD b t).2.2.1==0 with
  |true=>
   rw[he]at hrl;have he0:(aD b t).2.2.1=0:=by simpa using he
   -- what the record is
   have key:RP ((aD b t).2.2.2.db.now==0) (lV (aD b t).2.2.2.db.now) (aD b t).1∧b.db.now≤(aD b t).2.2.2.db.now:=by
    unfold aD at he0⊢;cases hc:iM b t with
    |true=>rw[hc]at he0;cases he0
    |false=>
     rw[hc]at he0;simp only[cond_false]at he0⊢;cases hjp:jM b.ah (lq b t)with
     |none=>rw[hjp]at he0;cases he0
     |some out=>
      rw[hjp]at he0;dsimp only at he0⊢;have hat:=Am b.db (aG b t).2.1 (cR (aK b (aG b t).1));have hnw:=x8 b.db (aG b t).2.1 (cR (aK b (aG b t).1));cases hd:(aV b.db (aG b t).2.1 (cR (aK b (aG b t).1))).2.1==0 with
      |false=>
       rw[hd]at he0;have:¬(aV b.db (aG b t).2.1 (cR (aK b (aG b t).1))).2.1=0:=by simpa using hd
       exact absurd he0 this
      |true=>
       have hd0:(aV b.db (aG b t).2.1 (cR (aK b (aG b t).1))).2.1=0:=by simpa using hd
       obtain⟨a1,a2⟩:=hat.1 hd0;refine⟨⟨?_,fun hz=> ?_⟩,hnw⟩
       ·show lV (aV b.db (aG b t).2.1 (cR (aK b (aG b t).1))).1≤lV (aV b.db (aG b t).2.1 (cR (aK b (aG b t).1))).2.2.now;rw[a1];exact aq _
       ·have hz0:(aV b.db (aG b t).2.1 (cR (aK b (aG b t).1))).2.2.now=0:=by simpa using hz
        have hl:(aG b t).2.1=[]:=by
         rcases a2 with h|h
         ·exact h
         ·omega
        show qo (aG b t).2.2 b.db.lim.marks=[];have h22:(aG b t).2.2=[]:=hq hl;rw[h22,Dh]
   refine⟨hrl,?_,?_,.inr ⟨mJ t (aD b t).1 (aD b t).2.1 ((aD b t).2.2.2.event+1),?_,Nat.succ_pos _⟩⟩
   ·show(aD b t).2.2.2.last=b.last;exact k3
   ·refine RJ.ends (b:=gK (aD b t).2.2.2 t (aD b t).1 (aD b t).2.1) ?_ id;intro r hr;have hr' :r∈(aD b t).2.2.2.ah++[(aD b t).1]:=hr;rw[k1]at hr';rcases gd.1 hr' with hr' |hr'
    ·obtain⟨r1,r2⟩:=hj r hr';refine⟨?_,fun hz=>r2 ?_⟩
     ·show r.last≤lV (aD b t).2.2.2.db.now;have:=key.2;unfold lV at*;omega
     ·have hz1:((aD b t).2.2.2.db.now==0)=true:=hz;have hz0:(aD b t).2.2.2.db.now=0:=by simpa using hz1
      have:=key.2;have:b.db.now=0:=by omega
      rw[this];rfl
    ·have:=List.mem_singleton.1 hr';subst this;exact key.1
   ·show(aD b t).2.2.2.done++_=_;rw[k2]
  |false=>
   rw[he]at hrl;have hnow:(aD b t).2.2.2.db.now=b.db.now:=by
    unfold aD at he⊢;cases hc:iM b t with
    |true=>rfl
    |false=>
     rw[hc]at he;simp only[cond_false]at he⊢;cases hjp:jM b.ah (lq b t)with
     |none=>rfl
     |some out=>
      rw[hjp]at he;dsimp only at he⊢;have hat:=Am b.db (aG b t).2.1 (cR (aK b (aG b t).1));cases hd:(aV b.db (aG b t).2.1 (cR (aK b (aG b t).1))).2.1==0 with
      |true=>rw[hd]at he;cases he
      |false=>
       have:¬(aV b.db (aG b t).2.1 (cR (aK b (aG b t).1))).2.1=0:=by simpa using hd
       exact hat.2 this
   refine⟨hrl,?_,?_,.inl ⟨?_,?_⟩⟩
   ·show(aD b t).2.2.2.last=b.last;exact k3
   ·refine RJ.ends (b:=(aD b t).2.2.2) ?_ id;unfold RJ;rw[k1,hnow];exact hj
   ·show(aD b t).2.2.2.done=b.done;exact k2
   ·exact hnow
theorem AI.code{b:Bs}{bg:List Nat}{n:Nat}(hb:BI b n)(h:AI b bg)(id:Int)(hid:1≤id)(hk:bg[id.toNat - 1]? =some b.done.length):(bP b id).2.1<100:=by
 unfold bP;cases ht:gz b id with
 |none=>show 4<100;omega
 |some t=>
  obtain⟨hm,he⟩:=iW ht;have hk' :bg[t.id - 1]? =some b.done.length:=by rw[←hk];congr 2;omega
  obtain⟨h1,h2⟩:=h.near hb hm hk';dsimp only;have hc:(aD b t).2.2.1<100:=by
   unfold aD;rw[h1,cond_false];cases hj:jM b.ah (lq b t)with
   |none=>exact absurd hj h2
   |some out=>
    dsimp only;have hcd:=D2 b.db (aG b t).2.1 (cR (aK b (aG b t).1));cases(aV b.db (aG b t).2.1 (cR (aK b (aG b t).1))).2.1==0 with
    |true=>show 0<100;omega
    |false=>exact hcd
  cases(aD b t).2.2.1==0 with
  |true=>show 0<100;omega
  |false=>exact hc
theorem AI.begin{b:Bs}{bg:List Nat}{n:Nat}(hb:BI b n)(h:AI b bg):AI (bN b).2.2 (bif(bN b).2.1==0 then bg++[b.done.length]else bg):=by
 unfold bN;cases decide (b.db.lim.live≤b.live.length)with
 |true=>exact h
 |false=>
  simp only[cond_false];refine⟨by show(bg++[b.done.length]).length=b.last+1;rw[lG,h.len];rfl,fun t ht=> ?_,h.rj,h.st⟩;show 1≤t.id∧∃ k,(bg++[b.done.length])[t.id - 1]? =some k∧k≤b.done.length∧(k=b.done.length→b.db.now=t.began);rcases gd.1 ht with ht|ht
  ·obtain⟨h1,k,h2,h3⟩:=h.lv t ht;have hlt:=(bn.1 h2).1;exact⟨h1,k,by rw[cw hlt];exact h2,h3⟩
  ·have:=List.mem_singleton.1 ht;subst this;refine⟨by show 1≤b.last+1;omega,b.done.length,?_,aq _,fun _=>rfl⟩;show(bg++[b.done.length])[b.last+1 - 1]? =_;rw[Nat.add_sub_cancel,←h.len,eZ (aq _),Nat.sub_self];rfl
theorem AI.Wo{b:Bs}{bg:List Nat}{n:Nat}(hb:BI b n)(h:AI b bg)(o:DU):AI (ue b o).2 (bif o.dO==0&&(bN b).2.1==0 then bg++[b.done.length]else bg):=by
 unfold ue;cases e0:o.dO==0 with
 |true=>rw[Bool.true_and];exact h.begin hb
 |false=>
  rw[Bool.false_and,cond_false,cond_false];cases e1:o.dO==1 with
  |true=>
   refine h.al (id:=o.id) (Al.same (Rl.rdB b o.id o.w.key) ?_ ?_ ?_ ?_ h.rj)<;>
    (show _;unfold iw;cases gz b o.id with
     |none=>rfl
     |some t=>dsimp only;cases fF nU o.w.key t.ct<;>rfl)
  |false=>
   rw[cond_false];cases e2:o.dO==2 with
   |true=>
    refine h.al (id:=o.id) (Al.same (Rl.scB b o.id (o.w.key,o.hi)) ?_ ?_ ?_ ?_ h.rj)<;>
     (show _;unfold jO;cases gz b o.id with
      |none=>rfl
      |some t=>dsimp only;cases dG (o.w.key,o.hi)<;>rfl)
   |false=>
    rw[cond_false];cases e3:o.dO==3 with
    |true=>
     refine h.al (id:=o.id) (Al.same (Rl.wrB b o.id o.w) ?_ ?_ ?_ ?_ h.rj)<;>
      (show _;unfold dY;cases gz b o.id with
       |none=>rfl
       |some t=>dsimp only;cases fL none o.w==0<;>rfl)
    |false=>
     rw[cond_false];cases e4:o.dO==4 with
     |true=>exact h.al (Al.wB h.rj o.id)
     |false=>
      rw[cond_false];cases e5:o.dO==5 with
      |true=>
       refine h.al (id:=o.id) ?_;show Al b (gE b o.id).2 o.id;have hr:=Rl.abB b o.id;unfold gE at hr⊢;cases ht:gz b o.id with
       |none=>exact Al.same (Rl.refl b o.id) rfl rfl rfl rfl h.rj
       |some t=>rw[ht]at hr;exact⟨hr,rfl,h.rj.ends o.id,.inl ⟨rfl,rfl⟩⟩
      |false=>
       rw[cond_false];cases e6:o.dO==6 with
       |true=>
        have:=(kU b.db (cR b)).2;exact h.al (id:=o.id) (Al.same (Rl.coB b o.id) rfl rfl rfl this h.rj)
       |false=>exact h
theorem AI.zero(l:Lm):AI (Cy l) []:=
 ⟨rfl,fun t ht=>(List.not_mem_nil ht).elim,fun r hr=>(List.not_mem_nil hr).elim,fun d hd=>(List.not_mem_nil hd).elim⟩
theorem NB{b:Bs}{bg:List Nat}(h:AI b bg):mK b.done 0=b.done.length:=by
 unfold mK;rw[List.filter_eq_self.2 fun d hd=>decide_eq_true (h.st d hd)]
end Go.RE
namespace Go.RE
def Lo(k:Nat):List U:=[.int .i64 (k:Int)]
attribute [local simp] CV Ge vG vH vI vJ M5 vK eN
theorem qhV(L:List DU)(hL:L.length<small)(hok:∀ o∈L,OE o)(n i s m o:Nat)(W:Uo)(hi:i<n)(K:Ex→Vs→Prop)
  (hK:∀ h fl F b bg,VA h fl n i s m o F b W→AI b bg→b.done.length<small→(∀ d∈b.done,zY d)→K .normal ⟨[(3,.ptr i 0)],h,fl⟩):
  ∀ (j q c:Nat) (h:List Uo) (fl:Nat) (F:List Nat) (b:Bs) (bg:List Nat),q+j=L.length→c+j<200→BI b c→AI b bg→VA h fl n i s m o F b W→
  gL bq mT qT pT v4 0 Gf n ⟨[(23,.int .i64 (q:Int)),(4,.own (.t 4) 1 (bg.map Lo)),(3,.ptr i 0),(21,.sl 6 (L.map eN)),(22,.int .i64 (L.length:Int))],h,fl⟩ K:=by
 intro j
 induction j with
 |zero=>
  intro q c h fl F b bg hij hc hb ha hr;obtain⟨h1,h2⟩:=nB hij;have hin:decide (i<n)=true:=decide_eq_true hi;have hdl:=hb.dl;rw[ak Gf.eq_1];simp[CV,h1,hin];exact hK _ _ _ _ _ hr.cut ha (by unfold small;omega) hb.Wq
 |succ j ih=>
  intro q c h fl F b bg hij hc hb ha hr;obtain⟨h1,e3,p,d1,g1⟩:=ql hij hL;have e1:=g1 eN;have hp:OE p:=hok p (List.mem_of_mem_drop (i:=q) (by rw[d1];exact eU));have hFl:=hr.at_.lt;have hfl:=hr.at_.fle;have hdl:=hb.dl;have hlast:=hb.last;have hbl:=ha.len;have hlb:(bg.map Lo).length=bg.length:=by simp
  have c20:=w20 (hr.at_.app (x:=[.row (eN p)])) (by unfold small;omega) hb.Wq;obtain⟨h',fl',F',c1,l1⟩:=t16 (hr.at_.app (x:=[.row (eN p)])) (hb.pre (by omega)) p hp;have hop:h'[h.length]? =some (.row (eN p)):=by
   rw[l1.gr.2.1 h.length (by simp) (fun hh=>by have:=hFl _ hh;omega),OG]
  have hlen' :h.length+1≤h'.length:=by have:=l1.gr.1;simpa using this
  have hopx:∀ x,(h'++x)[h.length]? =some (.row (eN p)):=fun x=>aT hop;have hfl' :=l1.at_.fle;have hcm:∀ x,RE.cut h.length fl' (h'++x)=RE.cut h.length fl' h' :=fun x=>Pd (by omega) hfl';have l2:=l1.plain hfl hFl (by simp);have r2:=(hr.left l2).cut;have hb2:=hb.Wo (by omega) hp;have ha2:=ha.Wo hb p;obtain⟨N,E,bs,is,sc,hsh,hN,hE⟩:=Wp b p;have hin:decide (i<n)=true:=decide_eq_true hi;have hih:decide (i<h.length)=true:=decide_eq_true (by have:=hr.nle;omega);rw[hsh]at c1;simp only[eN]at e1 c1 c20 hop hopx;rw[ak Gf.eq_1];by_cases d0:p.dO=0
  ·obtain⟨hN0,hE0⟩:=hN d0;have d4:¬(p.dO=4):=by omega
   cases hbe:(bN b).2.1==0 with
   |true=>
    have hE1:E=0:=by
     have:(bN b).2.1=0:=by simpa using hbe
     rw[hE0,this];rfl
    have hN1:(bN b).1=b.last+1:=by
     unfold bN at hbe⊢;cases hh:decide (b.db.lim.live≤b.live.length)with
     |true=>rw[hh]at hbe;cases hbe
     |false=>rfl
    have w1:aI .u64 ((b.last+1:Nat):Int)=((b.last+1:Nat):Int):=Gs (by omega);have hN2:N=((b.last+1:Nat):Int):=by rw[hN0,hN1,w1]
    have w2:aI .i64 ((b.last+1:Nat):Int)=((b.last+1:Nat):Int):=eT (by omega);have w3:aI .i64 ((bg.length:Int)+1)=((b.last+1:Nat):Int):=by rw[hbl];exact w2
    have hx:(bif p.dO==0&&(bN b).2.1==0 then bg++[b.done.length]else bg)=bg++[b.done.length]:=by
     rw[hbe,d0];rfl
    rw[hx]at ha2;have ih' :=ih (q+1) (c+1) _ _ _ _ _ (by omega) (by omega) hb2 ha2 r2;rw[List.map_append]at ih';have b1:(bg.length+1)*8≤aZ∧bg.length+1≤aZ:=by unfold aZ;omega
    subst hE1;subst hN2;have w4:aI .i64 ((b.last:Int)+1)=(b.last:Int)+1:=by rw[show(b.last:Int)+1=((b.last+1:Nat):Int) by omega];exact w2
    simp only[List.map_cons,List.map_nil,Lo,d0]at ih' c1 c20 hopx;generalize hX:bg.map Lo=X at*;rw[←hlb]at w3 b1;simp[Ze,Zg,h1,aS e1,e3,d0,c20,c1,hin,hih,hopx,w2,w3,w4,b1,hcm];simpa using ih'
   |false=>
    have hE1:¬(E=0):=by
     have:¬(bN b).2.1=0:=by simpa using hbe
     rw[hE0];omega
    have hx:(bif p.dO==0&&(bN b).2.1==0 then bg++[b.done.length]else bg)=bg:=by
     rw[hbe];simp
    rw[hx]at ha2;have ih' :=ih (q+1) (c+1) _ _ _ _ _ (by omega) (by omega) hb2 ha2 r2;simp only[d0]at c1 c20 hopx;simp[h1,aS e1,e3,d0,c20,c1,hin,hih,hopx,hE1,hcm];simpa using ih'
  ·have hx:(bif p.dO==0&&(bN b).2.1==0 then bg++[b.done.length]else bg)=bg:=by
    have:(p.dO==0)=false:=by simpa using d0
    rw[this];rfl
   rw[hx]at ha2;have ih' :=ih (q+1) (c+1) _ _ _ _ _ (by omega) (by omega) hb2 ha2 r2;by_cases d4:p.dO=4
   ·have hE4:=hE d4;by_cases i1:p.id<1
    ·simp only[d4]at c1 c20 hopx;simp[h1,aS e1,e3,d4,c20,c1,hin,hih,hopx,hcm,i1];simpa using ih'
    ·by_cases i2:(bg.length:Int)<p.id
     ·simp only[d4]at c1 c20 hopx;simp[h1,aS e1,e3,d4,c20,c1,hin,hih,hopx,hcm,i1,i2];simpa using ih'
     ·obtain⟨a,ha0⟩:∃ a:Nat,(a:Int)=p.id - 1:=⟨(p.id - 1).toNat,by omega⟩;have hab:a<bg.length:=by omega
      obtain⟨k,hk⟩:∃ k,bg[a]? =some k:=⟨_,bL hab⟩;have w1:aI .i64 (p.id - 1)=(a:Int):=by rw[←ha0];exact eT (by omega)
      have hk' :(bg.map Lo)[a]? =some [.int .i64 (k:Int)]:=by rw[List.getElem?_map,hk];rfl
      have ia:∀ s',qf s' 1 (some (.own (.t 4) 1 (bg.map Lo))) (some (.int .i64 (a:Int)))=some (.bD (.t 4) a 0,s'):=fun s' =>cz (by simpa using hab);have e7:∀ hh:a<(bg.map Lo).length,(bg.map Lo)[a]=[.int .i64 (k:Int)]:=fun hh=>by rw[bL hh]at hk';exact Option.some.inj hk'
      have hab' :a<(bg.map Lo).length:=by rw[hlb];exact hab
      have hno:¬((E=100∨E=101)∧b.done.length=k):=by
       rintro⟨hc1,hc2⟩;have:=ha.code hb p.id (by omega) (by rw[show p.id.toNat - 1=a by omega,hk,hc2]);rw[hE4]at hc1;omega
      simp only[d4]at c1 c20 hopx;clear hE4 hE hN hsh;rw[←hlb]at i2;generalize hX:bg.map Lo=X at*;have f4:∀ x:Int,¬E=x→(E==x)=false:=fun x h=>by simpa using h
      have f2:E=100∨E=101→¬((b.done.length:Int)=(k:Int)):=fun h1 h2=>hno ⟨h1,by omega⟩;by_cases f1:E=100<;>by_cases f3:E=101<;>first|omega|simp[h1,aS e1,e3,d4,c20,c1,hin,hih,hopx,hcm,i1,i2,w1,ia,e7,hk',hab',f1,f2,f3,f4]<;>simpa using ih'
   ·have d0' :(p.dO==0)=false:=by simpa using d0
    have d4' :(p.dO !=4)=true:=by simpa using d4
    simp[h1,aS e1,e3,d0',d4',c20,c1,hin,hih,hopx,hcm];simpa using ih'
theorem qfL(L:List DU)(hl:L.length<small)(hg:I8 L=false):∃ H f,G 4 [.sl 6 (L.map eN)] [] 0=some (.bool true,H,f):=by
 obtain⟨H,f,hv,hvf⟩:=t12;have c1:=t13 L hl;rw[hg]at c1
 suffices hh:∃ r h' fl',G 4 [.sl 6 (L.map eN)] [] 0=some (r,h',fl')∧r=.bool true by
  obtain⟨r,h',fl',h1,rfl⟩:=hh;exact⟨h',fl',h1⟩
 refine XQ (fn:=v4) (P:=fun r _ _=>r=.bool true) rfl rfl rfl rfl ?_;cases H<;>simp[vM,XA,XB,qgg,hv,c1]
theorem qcj(L:List DU)(hg:I8 L=true):∃ H f,G 4 [.sl 6 (L.map eN)] [] 0=some (.bool true,H,f):=by
 obtain⟨hL,hl⟩:=Wv hg;obtain⟨H,f,hv,hvf⟩:=t12;have c1:=t13 L (by unfold small;omega);rw[hg]at c1;have m1:=t14 lH rG;have m0:=t15
 suffices hh:∃ r h' fl',G 4 [.sl 6 (L.map eN)] [] 0=some (r,h',fl')∧r=.bool true by
  obtain⟨r,h',fl',h1,rfl⟩:=hh;exact⟨h',fl',h1⟩
 refine XQ (fn:=v4) (P:=fun r _ _=>r=.bool true) rfl rfl rfl rfl ?_;have run:∀ (X:List Uo) (fl:Nat),fl≤X.length→_:=fun X fl hfl=>
  qhV L (by unfold small;omega) hL (X.length+7) (6+X.length) (4+X.length) (5+X.length) (3+X.length)
   ((X++[.row (iE lH),.row (iE lH),.row (iE lH),.map [] 0,.row (dz (Ov lH) (3+X.length) (.nl 1)),.map [] 0,.row (dc (Cy lH) (4+X.length) (5+X.length) (.nl 6) (.nl 7))])[0]?.getD (.gone)) (by omega)
   (gy bq mT qT pT v4 (.seq (.region UJ) .ret) (kX 0 v4 fun r _ _=>r=.bool true))
   (fun h fl F b bg hr ha hd hdon=>by
    have c20:=w20 hr.at_ hd hdon;have c21:=t21 b.done 0 hd;rw[NB ha]at c21;have hin:decide (6+X.length<h.length)=true:=decide_eq_true hr.lt;simp at c21;simp[UJ,c20,c21,kX])
   L.length 0 0 _ fl [6+X.length,4+X.length,5+X.length,3+X.length] (Cy lH) [] (by omega) (by omega) (BI.zero rG) (AI.zero lH)
   ⟨qam lH X fl hfl,by simp,fun x hx=>by simp at hx;omega,by
    cases X with
    |nil=>rfl
    |cons a X=>rfl,by omega⟩
 simp only[iE]at m0 run;simp only[iE,dz,dc]at m1 run;cases H with
 |nil=>
  have a:=run [] 0 (by simp);simp at a;simp[vM,XA,XB,qcz,qcA,qcB,qcC,hv,c1,m0,m1,jl,dz,dc,RE.cut];simpa using a
 |cons q H=>
  have a:=run ((q::H).map (eH 0)) (bif Nat.beq f 0 then 0 else 0+f) (by
   simp only[List.length_cons,List.length_map]at hvf⊢;cases Nat.beq f 0 with
   |true=>simp only[cond_true];omega
   |false=>simp only[cond_false];omega)
  simp at a;have e9:H.length+1+7=H.length+7+1:=by omega
  rw[e9]at a;have hd:decide (6+(H.length+1)<H.length+7+1)=true:=decide_eq_true (by omega);have hcut:∀ l:List Uo,l.length=H.length+7+1→RE.cut (H.length+7+1) (bif decide (f=0)then 0 else f) l=l:=fun l hl=>by
   unfold RE.cut;exact jU (by rw[hl];omega)
  simp[vM,XA,XB,qcz,qcA,qcB,qcC,hv,c1,m0,m1,jl,dz,dc,hd,hcut];simpa using a
theorem t4(L:List DU)(hl:L.length<small):∃ H f,G 4 [.sl 6 (L.map eN)] [] 0=some (.bool true,H,f):=by
 cases hg:I8 L with
 |false=>exact qfL L hl hg
 |true=>exact qcj L hg
end Go.RE
