/- A part of a proof. -/
import Derived.Test.YtmpopachilfinaaGreatPart14
set_option linter.unusedVariables false
set_option linter.unusedSimpArgs false
set_option linter.unnecessarySimpa false
namespace Go.RE
def tR:U→List U
 | .aZ [x,y,z]=>[.int .u64 0,z,x,y,.sl 2 []]
 |_=>[]
def tS:U→List U
 | .aZ [x,z]=>[.int .u64 0,z,.sl 1 [],.bool false,x]
 |_=>[]
def tN(n e:Int):List U:=[.int .u64 n,.int .i64 e,.sl 1 [],.bool false,.sl 2 []]
def jq(b:Bs)(o:DZ):List U×Bs:=
 bif o.dO==0 then(tN (aK .u64 ((dc b).1:Nat)) ((dc b).2.1:Nat),(dc b).2.2)
 else bif o.dO==1 then(tR (jt b o.id o.w.key).1,(jt b o.id o.w.key).2)
 else bif o.dO==2 then(tS (l9 b o.id (o.w.key,o.hi)).1,(l9 b o.id (o.w.key,o.hi)).2)
 else bif o.dO==3 then(tN 0 ((fh b o.id o.w).1:Nat),(fh b o.id o.w).2)
 else bif o.dO==4 then(tN ((bA b o.id).1:Nat) ((bA b o.id).2.1:Nat),(bA b o.id).2.2)
 else bif o.dO==5 then(tN 0 ((iI b o.id).1:Nat),(iI b o.id).2)
 else bif o.dO==6 then(tN (aK .u64 (D5 b).1) 0,(D5 b).2)
 else(tN 0 0,b)
theorem wE(b:Bs)(id:Int)(k:By):∃ bs is e,(jt b id k).1=.aZ [.sl 1 bs,.bool is,.int .i64 e]:=by
 unfold jt;cases mW b id with
 |none=>exact⟨_,_,_,rfl⟩
 |some t=>dsimp only;cases fW pq k t.cO<;>exact⟨_,_,_,rfl⟩
theorem JM(b:Bs)(id:Int)(s:cU):∃ bs e,(l9 b id s).1=.aZ [.sl 2 bs,.int .i64 e]:=by
 unfold l9;cases mW b id with
 |none=>exact⟨_,_,rfl⟩
 |some t=>dsimp only;cases dX s<;>exact⟨_,_,rfl⟩
def Rv(o:DZ):Prop:=o.w.key.length≤300∧o.w.data.length≤5000∧o.hi.length≤300
theorem t16{h:List Uo}{fl:Nat}{i s m o:Nat}{F:List Nat}{b:Bs}{k:Nat}(hb:Ap h fl i s m o F b)(hp:Pre b k)(q:DZ)(hq:Rv q):
  ∃ h' fl' F',G 16 [.ptr i 0,.agg (eL q)] h fl=some (.agg (jq b q).1,h',fl')∧Left h h' fl fl' i s m o F F' (jq b q).2:=by
 have hF:=hb.lt;have hfl:=hb.fle;have hi:i<h.length:=by
  obtain⟨lv,rc,dn,ks,hb,_⟩:=hb.at_;exact(aH.1 hb.row).1
 have hbx:Ap (h++[.row (eL q),.row [.int .u64 0,.int .i64 0,.sl 1 [],.bool false,.sl 2 []]]) fl i s m o F b:=hb.app;have hlast:∀ {h' :List Uo} {F' :List Nat} {fl' :Nat} {b' :Bs},Left (h++[.row (eL q),.row [.int .u64 0,.int .i64 0,.sl 1 [],.bool false,.sl 2 []]]) h' fl fl' i s m o F F' b'→
   h'[h.length+1]? =some (.row [.int .u64 0,.int .i64 0,.sl 1 [],.bool false,.sl 2 []])∧∀ X:Uo,(h'.set (h.length+1) X)[h.length+1]? =some X:=by
  intro h' F' fl' b' hl;have h1:=hl.gr.2.1 (h.length+1) (by simp) (fun hh=>by have:=hF _ hh;omega);rw[at1]at h1;exact⟨h1,fun X=>eX (aH.1 h1).1⟩
 unfold jq;cases e0:q.dO==0 with
 |true=>
  obtain⟨h',fl',F',c,hl⟩:=w17 hbx hp;obtain⟨g1,g2⟩:=hlast hl;refine⟨_,fl',F',?_,hl.fin hfl hF (k:=h.length+1) (by omega) (by simp) (.row (tN (aK .u64 ((dc b).1:Nat)) ((dc b).2.1:Nat)))⟩;refine bK (fn:=Rf) rfl rfl rfl ?_;have e0' :q.dO=0:=by simpa using e0
  simp only[eL,e0']at c;simp[jy,wY,wZ,w6,qbb,qbc,eL,e0',c,g1,g2,tN]
 |false=>
  have f0:¬(q.dO=0):=by simpa using e0
  rw[cond_false];cases e1:q.dO==1 with
  |true=>
   have d1:q.dO=1:=by simpa using e1
   rw[cond_true];obtain⟨bs,is,e,hsh⟩:=wE b q.id q.w.key;obtain⟨h',F',c,hl⟩:=w36 hbx hp q.id q.w.key (by have:=hq.1;unfold small;omega);obtain⟨g1,g2⟩:=hlast hl;refine⟨_,fl,F',?_,hl.fin hfl hF (k:=h.length+1) (by omega) (by simp) (.row (tR (jt b q.id q.w.key).1))⟩;refine bK (fn:=Rf) rfl rfl rfl ?_;simp only[eL,d1,hsh]at c;simp[jy,wY,wZ,w6,zV,qbd,qbe,eL,d1,c,g1,g2,tN,tR,tS,hsh]
  |false=>
   have f1:¬(q.dO=1):=by simpa using e1
   rw[cond_false];cases e2:q.dO==2 with
   |true=>
    have d2:q.dO=2:=by simpa using e2
    rw[cond_true];obtain⟨bs,e,hsh⟩:=JM b q.id (q.w.key,q.hi);obtain⟨h',F',c,hl⟩:=w37 hbx hp q.id q.w.key q.hi;obtain⟨g1,g2⟩:=hlast hl;refine⟨_,fl,F',?_,hl.fin hfl hF (k:=h.length+1) (by omega) (by simp) (.row (tS (l9 b q.id (q.w.key,q.hi)).1))⟩;refine bK (fn:=Rf) rfl rfl rfl ?_;simp only[eL,d2,hsh]at c;simp[jy,wY,wZ,w6,zV,CY,qbf,VC,eL,d2,c,g1,g2,tN,tR,tS,hsh]
   |false=>
    have f2:¬(q.dO=2):=by simpa using e2
    rw[cond_false];cases e3:q.dO==3 with
    |true=>
     have d3:q.dO=3:=by simpa using e3
     rw[cond_true]
     skip
     obtain⟨h',F',c,hl⟩:=w18 hbx q.id q.w ⟨by have:=hq.1;unfold small;omega,by have:=hq.2.1;unfold small;omega⟩;obtain⟨g1,g2⟩:=hlast hl;refine⟨_,fl,F',?_,hl.fin hfl hF (k:=h.length+1) (by omega) (by simp) (.row (tN 0 ((fh b q.id q.w).1:Nat)))⟩;refine bK (fn:=Rf) rfl rfl rfl ?_;simp only[eL,d3,eY]at c;simp[jy,wY,wZ,w6,zV,CY,y8,VD,eL,d3,c,g1,g2,tN,tR,tS]
    |false=>
     have f3:¬(q.dO=3):=by simpa using e3
     rw[cond_false];cases e4:q.dO==4 with
     |true=>
      have d4:q.dO=4:=by simpa using e4
      rw[cond_true]
      skip
      obtain⟨h',F',c,hl⟩:=w19 hbx hp q.id;obtain⟨g1,g2⟩:=hlast hl;refine⟨_,fl,F',?_,hl.fin hfl hF (k:=h.length+1) (by omega) (by simp) (.row (tN ((bA b q.id).1:Nat) ((bA b q.id).2.1:Nat)))⟩;refine bK (fn:=Rf) rfl rfl rfl ?_;simp only[eL,d4]at c;simp[jy,wY,wZ,w6,zV,CY,y8,CX,VE,VG,eL,d4,c,g1,g2,tN,tR,tS]
     |false=>
      have f4:¬(q.dO=4):=by simpa using e4
      rw[cond_false];cases e5:q.dO==5 with
      |true=>
       have d5:q.dO=5:=by simpa using e5
       rw[cond_true]
       skip
       obtain⟨h',F',c,hl⟩:=w53 hbx hp q.id;obtain⟨g1,g2⟩:=hlast hl;refine⟨_,fl,F',?_,hl.fin hfl hF (k:=h.length+1) (by omega) (by simp) (.row (tN 0 ((iI b q.id).1:Nat)))⟩;refine bK (fn:=Rf) rfl rfl rfl ?_;simp only[eL,d5]at c;simp[jy,wY,wZ,w6,zV,CY,y8,CX,Hh,VH,eL,d5,c,g1,g2,tN,tR,tS]
      |false=>
       have f5:¬(q.dO=5):=by simpa using e5
       rw[cond_false];cases e6:q.dO==6 with
       |true=>
        have d6:q.dO=6:=by simpa using e6
        rw[cond_true]
        skip
        obtain⟨h',F',c,hl⟩:=w50 hbx hp;obtain⟨g1,g2⟩:=hlast hl;refine⟨_,fl,F',?_,hl.fin hfl hF (k:=h.length+1) (by omega) (by simp) (.row (tN (aK .u64 (D5 b).1) 0))⟩;refine bK (fn:=Rf) rfl rfl rfl ?_;simp only[eL,d6]at c;simp[jy,wY,wZ,w6,zV,CY,y8,CX,Hh,MB,VI,eL,d6,c,g1,g2,tN,tR,tS]
       |false=>
        have f6:¬(q.dO=6):=by simpa using e6
        rw[cond_false];refine⟨h,fl,F,?_,⟨hb,⟨ak _,fun _ _ _=>rfl,fun j hj=> .inl hj⟩,ak _,.inl ⟨rfl,rfl,fun j hj=>hj⟩⟩⟩;refine bK (fn:=Rf) rfl rfl rfl ?_;have f0:¬(q.dO=0):=by simpa using e0
        simp[jy,wY,wZ,w6,zV,CY,y8,CX,Hh,MB,VJ,eL,f0,f1,f2,f3,f4,f5,f6,tN,uW hfl,BG hfl]
def su(o:DZ):Bool:=decide (o.w.key.length≤300)&&decide (o.w.data.length≤5000)&&decide (o.hi.length≤300)
def IL(l:List DZ):Bool:=l.all su&&decide (l.length≤80)
theorem qiD(l:List DZ)(hl:l.length<small):∀ (j i:Nat),i+j=l.length→
  gL bu mT qT pT Uz 0 G5 0 ⟨[(7,.int .i64 (i:Int)),(5,.sl 6 (l.map eL)),(0,.sl 6 (l.map eL)),(6,.int .i64 (l.length:Int))],[],0⟩
   (gV bu mT qT pT Uz (.seq (.region UT) .ret) (kE 0 Uz (.bool ((l.drop i).all su&&decide (l.length≤80)),[],0))):=by
 intro j
 induction j with
 |zero=>
  intro i hij;obtain⟨h1,h2⟩:=oq hij;have e:decide ((l.length:Int)≤80)=decide (l.length≤80):=by rw[decide_eq_decide];omega
  rw[ai G5.eq_1,h2];simp[Fi,UT,h1,e]
 |succ j ih=>
  intro i hij;obtain⟨h1,e3,q,d1,g1⟩:=ry hij hl;have e1:=g1 eL;have ih' :=ih (i+1) (by omega);have k1:decide (300<(q.w.key.length:Int))=decide (300<q.w.key.length):=by rw[decide_eq_decide];omega
  have k2:decide (5000<(q.w.data.length:Int))=decide (5000<q.w.data.length):=by rw[decide_eq_decide];omega
  have k3:decide (300<(q.hi.length:Int))=decide (300<q.hi.length):=by rw[decide_eq_decide];omega
  rw[ai G5.eq_1,d1];simp only[eL]at e1;cases c1:decide (300<q.w.key.length)with
  |true=>
   have hno:su q=false:=by unfold su;have:=of_decide_eq_true c1;simp;omega
   rw[c1]at k1;simp[Fi,Ka,Kb,OC,h1,bq e1,eL,k1,KI,hno]
  |false=>
   rw[c1]at k1;cases c2:decide (5000<q.w.data.length)with
   |true=>
    have hno:su q=false:=by unfold su;have:=of_decide_eq_true c2;simp;omega
    rw[c2]at k2;simp[Fi,Ka,Kb,OC,h1,bq e1,eL,k1,k2,KI,hno]
   |false=>
    rw[c2]at k2;cases c3:decide (300<q.hi.length)with
    |true=>
     have hno:su q=false:=by unfold su;have:=of_decide_eq_true c3;simp;omega
     rw[c3]at k3;simp[Fi,Ka,Kb,OC,h1,bq e1,eL,k1,k2,k3,KI,hno]
    |false=>
     have hyes:su q=true:=by
      unfold su;have a1:=of_decide_eq_false c1;have a2:=of_decide_eq_false c2;have a3:=of_decide_eq_false c3;simp;omega
     rw[c3]at k3;simp[Fi,Ka,Kb,qa7,h1,bq e1,e3,eL,k1,k2,k3,KI,hyes];simpa[eL]using ih'
theorem t13(l:List DZ)(hl:l.length<small):G 13 [.sl 6 (l.map eL)] [] 0=some (.bool (IL l),[],0):=by
 refine bK (fn:=Uz) rfl rfl rfl ?_;have:=qiD l hl l.length 0 (by omega);simp only[s8]at this;simp[CP,qa5,qa6,IL];simpa using this
end Go.RE
namespace Go.RE
section
variable{α κ:Type}[DecidableEq κ](F:Mk α κ)
theorem Ji{k:κ}{l:List α}:fW F k l=none↔∀ a∈l,F.key a≠k:=by
 unfold fW;rw[KC];simp
theorem Jh(k k' :κ):∀ l:List α,(l.map F.key).Nodup→fW F k (jE F k' l)=if k' =k then none else fW F k l
 |[],_=>by simp[jE,fW]
 |b::r,hn=>by
  simp only[ct,ql]at hn;simp only[jE];by_cases hb:F.key b=k'
  ·simp only[hb,decide_true,cond_true];by_cases hk:k' =k
   ·rw[if_pos hk,Ji];intro a ha hh;exact hn.1 (cD.2 ⟨a,ha,by rw[hh,hb,hk]⟩)
   ·rw[if_neg hk];have:¬F.key b=k:=fun hh=>hk (by rw[←hb,hh]);simp[fW,kO,this]
  ·simp only[hb,decide_false,cond_false];have ih:=Jh k k' r hn.2;by_cases hk:F.key b=k
   ·have:¬k' =k:=fun hh=>hb (by rw[hk,hh]);rw[if_neg this];simp[fW,kO,hk]
   ·have e1:fW F k (b::jE F k' r)=fW F k (jE F k' r):=by simp[fW,kO,hk]
    have e2:fW F k (b::r)=fW F k r:=by simp[fW,kO,hk]
    rw[e1,e2,ih]
theorem yo(a:α):∀ l:List α,(uz F a l).map F.key=l.map F.key
 |[]=>rfl
 |b::r=>by
  simp only[uz];by_cases hb:F.key b=F.key a
  ·simp[hb]
  ·simp[hb,yo a r]
theorem Cv(a:α)(l:List α)(hn:(l.map F.key).Nodup):((mb F a l).map F.key).Nodup:=by
 unfold mb;cases h:(fW F (F.key a) l).isSome with
 |true=>rw[cond_true,yo];exact hn
 |false=>
  have hno:=(Ji F).1 (by simpa using h:fW F (F.key a) l=none);rw[cond_false,mR,ct,jY];refine DV.2 ⟨hn,by simp,fun x hx y hy=> ?_⟩;simp at hy;subst hy;obtain⟨z,hz,rfl⟩:=cD.1 hx;exact hno z hz
theorem K3(k:κ)(l:List α)(hn:(l.map F.key).Nodup):((jE F k l).map F.key).Nodup:=qk ((ki F k l).map _) hn
theorem Tp(a:α)(l:List α):(mb F a l).length≤l.length+1:=by
 unfold mb;cases(fW F (F.key a) l).isSome with
 |true=>
  have:(uz F a l).length=l.length:=by
   have:=congrArg List.length (yo F a l);simpa using this
  rw[cond_true];omega
 |false=>simp
end
abbrev ofN(d:Db):Prop:=(d.of.map lJ.key).Nodup
theorem Fe(t:Nat):cT [] t=[]:=by
 obtain⟨n,h⟩:=jN [] t;rw[h];simp
theorem K0(low:Nat)(d:Db)(left:List By)(k k' :By)(hn:ofN d):chain (gZ low (d,left) k).1 k' =(if k=k' then cT (chain d k) low else chain d k')∧ofN (gZ low (d,left) k).1:=by
 unfold gZ;dsimp only;cases hc:(cT (chain d k) low).isEmpty with
 |true=>
  refine⟨?_,K3 lJ k d.of hn⟩;have hc' :cT (chain d k) low=[]:=by simpa using hc
  show((fW lJ k' (jE lJ k d.of)).map (·.2)).getD []=_;rw[Jh lJ k' k d.of hn];by_cases h:k=k'
  ·rw[if_pos h,if_pos h,hc'];rfl
  ·rw[if_neg h,if_neg h];rfl
 |false=>
  refine⟨?_,Cv lJ (k,cT (chain d k) low) d.of hn⟩;show((fW lJ k' (mb lJ (k,cT (chain d k) low) d.of)).map (·.2)).getD []=_;rw[Jj];by_cases h:k=k'
  ·have h2:lJ.key (k,cT (chain d k) low)=k' :=h;rw[if_pos h2,if_pos h];rfl
  ·have h2:¬lJ.key (k,cT (chain d k) low)=k' :=h;rw[if_neg h2,if_neg h];rfl
theorem Qg(low:Nat)(d:Db)(left:List By)(k:By):(gZ low (d,left) k).2=bif(cT (chain d k) low).isEmpty then left else left++[k]:=by
 unfold gZ;dsimp only;cases(cT (chain d k) low).isEmpty<;>rfl
theorem qds(low:Nat):∀ (ks:List By) (d:Db) (left:List By),ks.Nodup→ofN d→
  (∀ k',chain (ks.foldl (gZ low) (d,left)).1 k' =if k'∈ks then cT (chain d k') low else chain d k')∧ofN (ks.foldl (gZ low) (d,left)).1∧
  (ks.foldl (gZ low) (d,left)).2=left++ks.filter fun k=> !(cT (chain d k) low).isEmpty
 |[],d,left,_,hn=>⟨fun k' =>by simp,hn,by simp⟩
 |k::r,d,left,hk,hn=>by
  have hk' :=ql.1 hk;have hc:=fun k' =>K0 low d left k k' hn;have hl:=Qg low d left k;rw[mz];obtain⟨d1,left1⟩:∃ p,p=gZ low (d,left) k:=⟨_,rfl⟩;generalize hp:gZ low (d,left) k=p at*;obtain⟨d1,l1⟩:=p;dsimp only at hc hl;obtain⟨a1,a2,a3⟩:=qds low r d1 l1 hk'.2 (hc k).2;refine⟨fun k' => ?_,a2,?_⟩
  ·rw[a1 k',(hc k').1];by_cases h:k'∈r
   ·have hne:¬k=k' :=fun hh=>hk'.1 (by rw[hh];exact h);rw[if_pos h,if_neg hne,if_pos (eu _ h)]
   ·rw[if_neg h];by_cases h2:k=k'
    ·subst h2;rw[if_pos rfl,if_pos cB]
    ·rw[if_neg h2,if_neg (by simp[h];exact fun hh=>h2 hh.symm)]
  ·rw[a3,hl,mw];have hfe:(r.filter fun x=> !(cT (chain d1 x) low).isEmpty)=r.filter fun x=> !(cT (chain d x) low).isEmpty:=by
    refine List.filter_congr fun x hx=> ?_;have hne:¬k=x:=fun hh=>hk'.1 (by rw[hh];exact hx);rw[(hc x).1,if_neg hne]
   rw[hfe];cases(cT (chain d k) low).isEmpty<;>simp
structure Yt(d:Db):Prop where
 Jq:d.keys.Nodup
 kc:∀ k,k∈d.keys↔chain d k≠[]
 of:ofN d
theorem tg{d:Db}(hk:Yt d)(low:Nat):(∀ k,chain (cV d low) k=cT (chain d k) low)∧Yt (cV d low)∧(cV d low).keys.length≤d.keys.length:=by
 obtain⟨a1,a2,a3⟩:=qds low d.keys {d with sk:=0,sv:=0,sb:=0} [] hk.Jq hk.of;have e0:∀ k,chain {d with sk:=0,sv:=0,sb:=0} k=chain d k:=fun _=>rfl;have hkeys:(cV d low).keys=d.keys.filter fun k=> !(cT (chain d k) low).isEmpty:=by
  show(d.keys.foldl (gZ low) ({d with sk:=0,sv:=0,sb:=0},[])).2=_;rw[a3];rfl
 have hch:∀ k,chain (cV d low) k=cT (chain d k) low:=fun k=>by
  have h1:=a1 k;have h2:chain (cV d low) k=chain (d.keys.foldl (gZ low) ({d with sk:=0,sv:=0,sb:=0},[])).1 k:=rfl;rw[h2,h1,e0];by_cases hm:k∈d.keys
  ·rw[if_pos hm]
  ·rw[if_neg hm];have:chain d k=[]:=by
    cases hc:chain d k with
    |nil=>rfl
    |cons a b=>exact absurd ((hk.kc k).2 (by rw[hc];simp)) hm
   rw[this,Fe]
 refine⟨hch,⟨?_,fun k=> ?_,a2⟩,?_⟩
 ·rw[hkeys];exact qk List.filter_sublist hk.Jq
 ·rw[hkeys,hch,qg];constructor
  ·rintro⟨_,h⟩ he;rw[he]at h;cases h
  ·intro h;refine⟨(hk.kc k).2 (fun he=>h (by rw[he,Fe])),?_⟩;cases hc:cT (chain d k) low with
   |nil=>exact absurd hc h
   |cons a b=>rfl
 ·rw[hkeys];exact rC _ _
theorem tD(ks:List By)(k:By):(nJ ks k).Perm (k::ks):=by
 unfold nJ;have:(ks.take (om ks k)++[k]++ks.drop (om ks k)).Perm (k::(ks.take (om ks k)++ks.drop (om ks k))):=by
  rw[gD];exact List.perm_middle
 rw[s9]at this;exact this
theorem qem{d:Db}(hk:Yt d)(w:Wt):Yt (jk d w):=by
 have hch:=td d w;refine⟨?_,fun k=> ?_,Cv lJ (w.key,chain d w.key++[oB d w]) d.of hk.of⟩
 ·show(bif(chain d w.key).isEmpty then nJ d.keys w.key else d.keys).Nodup;cases hc:(chain d w.key).isEmpty with
  |true=>
   rw[cond_true,(tD d.keys w.key).nodup_iff,ql];refine⟨fun hm=> ?_,hk.Jq⟩;have:=(hk.kc w.key).1 hm;exact this (by simpa using hc)
  |false=>exact hk.Jq
 ·rw[hch];show k∈(bif(chain d w.key).isEmpty then nJ d.keys w.key else d.keys)↔_;by_cases h:w.key=k
  ·rw[if_pos h];subst h;constructor
   ·intro _;simp
   ·intro _;cases hc:(chain d w.key).isEmpty with
    |true=>rw[cond_true];exact(tD d.keys w.key).symm.subset cB
    |false=>rw[cond_false];exact(hk.kc w.key).2 (fun he=>by rw[he]at hc;cases hc)
  ·rw[if_neg h,←hk.kc];cases hc:(chain d w.key).isEmpty with
   |true=>
    rw[cond_true];constructor
    ·intro hm;rcases bT.1 ((tD d.keys w.key).subset hm)with h2|h2
     ·exact absurd h2.symm h
     ·exact h2
    ·intro hm;exact(tD d.keys w.key).symm.subset (eu _ hm)
   |false=>exact Iff.rfl
end Go.RE
namespace Go.RE
theorem zQ(v:jb)(hg:v.rE=true→v.Data=[]):∀ (l:List jb) (a:Nat),dg a l=true→(∀ x,l.getLast? =some x→x.At<v.At)→(l=[]→a<v.At)→dg a (l++[v])=true
 |[],a,_,_,h0=>by
  have h1:=h0 rfl;have a1:decide (v.At≤a)=false:=decide_eq_false (by omega);have a2:(v.rE&&decide (0<v.Data.length))=false:=by
   cases hh:v.rE with
   |false=>rfl
   |true=>rw[hg hh];rfl
  show(!(decide (v.At≤a)||(v.rE&&decide (0<v.Data.length)))&&true)=true;rw[a1,a2];rfl
 |x::r,a,h,hv,_=>by
  simp only[dg,aI]at h;show(!(decide (x.At≤a)||(x.rE&&decide (0<x.Data.length)))&&dg x.At (r++[v]))=true;rw[aI];refine⟨h.1,zQ v hg r x.At h.2 (fun y hy=>hv y ?_) (fun hr=>hv x (by rw[hr];rfl))⟩;cases r with
  |nil=>cases hy
  |cons b q=>rw[List.getLast?_cons_cons];exact hy
theorem Lx(l:List jb)(v:jb):gG (l++[v])=v.At:=by simp[gG]
theorem QF{l:List jb}{x:jb}(h:l.getLast? =some x):gG l=x.At:=by simp[gG,h]
theorem qen{d:Db}(hw:Ir d){w:Wt}(hp:sA d w):Ir (jk d w):=by
 obtain⟨p1,p2,p3,_⟩:=hp;have hr:dg 0 (chain d w.key++[oB d w])=true:=
  zQ (oB d w) p3 _ 0 p2 (fun x hx=>by rw[←QF hx];exact p1) (fun he=>by show 0<d.now;omega)
 refine⟨fun x hx=> ?_,fun x hx=> ?_⟩
 ·rcases jC hx with rfl|hx
  ·exact hr
  ·exact hw.right x hx
 ·rcases jC hx with rfl|hx
  ·show gG (chain d w.key++[oB d w])≤d.now;rw[Lx];exact ak _
  ·exact hw.last x hx
theorem Tb(d:Db)(w:Wt):(jk d w).keys.length≤d.keys.length+1:=by
 show(bif(chain d w.key).isEmpty then nJ d.keys w.key else d.keys).length≤_;cases(chain d w.key).isEmpty with
 |true=>rw[cond_true,I5];exact ak _
 |false=>rw[cond_false];omega
theorem NF:∀ (l:List Wt) (d:Db) (m:Nat),Bo d (m+l.length)→5000*(m+l.length)<small→Ir d→Yt d→(l.map (·.key)).Nodup→(∀ w∈l,sA d w)→
  Bo (l.foldl jk d) m∧Ir (l.foldl jk d)∧Yt (l.foldl jk d)∧(l.foldl jk d).keys.length≤d.keys.length+l.length∧
  ∀ k,chain (l.foldl jk d) k=match l.find? (fun w=>w.key=k)with|some w=>chain d k++[oB d w]|none=>chain d k
 |[],d,m,h1,_,h2,h3,_,_=>⟨h1,h2,h3,ak _,fun k=>rfl⟩
 |w::r,d,m,h1,h5,h2,h3,h4,hp=>by
  have hn:=ql.1 h4;have hpw:=hp w cB;have e1:m+(w::r).length=(m+r.length)+1:=by simp;omega
  rw[e1]at h1 h5;have hr:=h1.put h5 w hpw.2.2.2.1 hpw.2.2.2.2;have hpr:∀ v∈r,sA (jk d w) v:=by
   intro v hv;have hvv:=hp v (eu _ hv);have hne:¬w.key=v.key:=fun hh=>hn.1 (cD.2 ⟨v,hv,hh.symm⟩);unfold sA at hvv⊢;rw[td,if_neg hne];exact hvv
  obtain⟨a1,a2,a3,a4,a5⟩:=NF r (jk d w) m hr (by omega) (qen h2 hpw) (qem h3 w) hn.2 hpr;have hl:=Tb d w;refine⟨a1,a2,a3,by simp only[mz,fV];omega,fun k=> ?_⟩;rw[mz,a5 k,td];by_cases hk:w.key=k
  ·have hno:r.find? (fun w=>decide (w.key=k))=none:=by
    refine KC.2 fun v hv=> ?_;simp only[decide_eq_true_eq];intro hh;exact hn.1 (cD.2 ⟨v,hv,by show v.key=w.key;rw[hh,hk]⟩)
   rw[hno,if_pos hk];simp only[kO,hk,decide_true]
  ·rw[if_neg hk];simp only[kO,hk,decide_false];cases r.find? (fun w=>decide (w.key=k))<;>rfl
theorem ID(d:Db):∀ (l:List Wt) (z:List Wt×Sz),(∀ w∈l,w.key.length≤256∧w.data.length≤4096)→
  (l.foldl (fe d) z).2.1≤z.2.1+l.length∧(l.foldl (fe d) z).2.2.1≤z.2.2.1+l.length∧(l.foldl (fe d) z).2.2.2≤z.2.2.2+5000*l.length
 |[],z,_=>⟨ak _,ak _,ak _⟩
 |w::l,z,h=>by
  have hw:=h w cB;have h1:(fe d z w).2.1≤z.2.1+1∧(fe d z w).2.2.1≤z.2.2.1+1∧(fe d z w).2.2.2≤z.2.2.2+5000:=by
   unfold fe;cases w.gone&&nN (chain d w.key)with
   |true=>simp only[cond_true];omega
   |false=>
    simp only[cond_false];cases(chain d w.key).isEmpty with
    |true=>simp only[cond_true];omega
    |false=>simp only[cond_false];omega
  obtain⟨a1,a2,a3⟩:=ID d l (fe d z w) (fun x hx=>h x (eu _ hx));rw[mz];simp only[fV];omega
theorem Zj{d:Db}{m:Nat}(hd:Bo d m)(hw:Ir d)(hm:5000*m<small)(low:Nat):(cV d low).sk≤d.keys.length∧(cV d low).sv≤1000000000*d.keys.length∧(cV d low).sb≤2000000000*d.keys.length:=by
 have h:=FG.fold (m:=m) low hd.uy hm d.keys 0 ({d with sk:=0,sv:=0,sb:=0},[]) (fun k hk=>hk) ⟨⟨rfl,rfl⟩,hd.len,hd.dat,hd.Gx,⟨hw.right,hw.last⟩,⟨by simp,fun k hk=>(fu hk).elim⟩,⟨bU _,bU _,bU _⟩⟩;rw[kF]at h;exact h.sz
structure Rl(d:Db)(m B:Nat):Prop where
 r:Bo d m
 w:Ir d
 k:Yt d
 sz:d.sk≤B∧d.sv≤B∧d.sb≤B
theorem IE{d:Db}{m L B:Nat}(h:Rl d (m+L) B)(h5:5000*(m+L)<small){l:List Wt}(hl:l.length≤L)(hc:fH none l=0):
  Rl (kL d (bw d l)) m (B+5000*L)∧(kL d (bw d l)).now=d.now+1∧(kL d (bw d l)).keys.length≤d.keys.length+L∧
  ∀ k,chain (kL d (bw d l)) k=match(bw d l).1.find? (fun w=>w.key=k)with|some w=>chain d k++[⟨d.now+1,w.gone,w.data⟩]|none=>chain d k:=by
 have hsub:=BC d l;have hle:=hsub.length_le;obtain⟨k1,_,k3⟩:=BB l none hc;have hp:∀ w∈(bw d l).1,sA {d with now:=d.now+1} w:=by
  intro w hw;obtain⟨b1,b2,_,b4⟩:=k1 w (hsub.subset hw);have:=vR h.w w.key;exact⟨by show gG (chain d w.key)<d.now+1;omega,this.1,b4,by unfold small;omega,by omega⟩
 have hr0:Bo {d with now:=d.now+1} (m+(bw d l).1.length):=Bo.le (m:=m+L) ⟨h.r.keys,h.r.uy,h.r.len,h.r.dat,h.r.Gx⟩ (by omega);have hw0:Ir {d with now:=d.now+1}:=⟨h.w.right,fun x hx=>by have:=h.w.last x hx;show gG x.2≤d.now+1;omega⟩;obtain⟨a1,a2,a3,a4,a5⟩:=NF (bw d l).1 {d with now:=d.now+1} m hr0 (by omega) hw0 ⟨h.k.Jq,h.k.kc,h.k.of⟩ (qk (hsub.map _) (uZ _ k3)) hp;have hs:=ID d l ([],szD d) (fun w hw=>⟨(k1 w hw).1,(k1 w hw).2.1⟩);obtain⟨s1,s2,s3⟩:=h.sz;refine⟨⟨⟨a1.keys,a1.uy,a1.len,a1.dat,a1.Gx⟩,⟨a2.right,a2.last⟩,⟨a3.Jq,a3.kc,a3.of⟩,?_⟩,(pM d _).2,?_,fun k=> ?_⟩
 ·have e1:(kL d (bw d l)).sk=(l.foldl (fe d) ([],szD d)).2.1:=rfl;have e2:(kL d (bw d l)).sv=(l.foldl (fe d) ([],szD d)).2.2.1:=rfl;have e3:(kL d (bw d l)).sb=(l.foldl (fe d) ([],szD d)).2.2.2:=rfl;rw[e1,e2,e3];simp only[szD]at hs⊢;omega
 ·show((bw d l).1.foldl jk {d with now:=d.now+1}).keys.length≤_;have:({d with now:=d.now+1}:Db).keys.length=d.keys.length:=rfl;omega
 ·have:=a5 k;exact this
theorem R5{d:Db}{m B:Nat}(h:Rl d m B)(h5:5000*m<small)(hB:2000000000*d.keys.length≤B)(low:Nat):Rl (cV d low) m B:=by
 obtain⟨r1,r2,_,_,_,_⟩:=FM h.r h.w h5 low;obtain⟨_,k1,k2⟩:=tg h.k low;have hs:=Zj h.r h.w h5 low;exact⟨r1,r2,k1,by omega⟩
theorem Qi{d:Db}{m L B:Nat}(h:Rl d (m+L) B)(h5:5000*(m+L)<small)(hB:2000000000*d.keys.length≤B){l:List Wt}(hl:l.length≤L)(low:Nat):
  Rl (bH d l low).2.2 m (B+5000*L)∧(bH d l low).2.2.now≤d.now+1∧(bH d l low).2.2.keys.length≤d.keys.length+L∧d.now≤(bH d l low).2.2.now:=by
 have same:Rl d m (B+5000*L):=⟨h.r.le (by omega),h.w,h.k,by have:=h.sz;omega⟩;have hcI:=R5 h h5 hB low;obtain⟨_,_,hkl⟩:=tg h.k low;have hcn:=(nB d low).2;unfold bH;cases hc:fH none l==0 with
 |false=>exact⟨same,by show d.now≤_;omega,by show d.keys.length≤_;omega,ak _⟩
 |true=>
  have hc' :fH none l=0:=by simpa using hc
  cases l.isEmpty with
  |true=>exact⟨same,by show d.now≤_;omega,by show d.keys.length≤_;omega,ak _⟩
  |false=>
   cases decide (d.lim.last≤d.now)with
   |true=>exact⟨same,by show d.now≤_;omega,by show d.keys.length≤_;omega,ak _⟩
   |false=>
    cases ri d (bw d l).2 with
    |true=>
     obtain⟨b1,b2,b3,_⟩:=IE h h5 hl hc';exact⟨b1,by show(kL d (bw d l)).now≤_;omega,b3,by show d.now≤(kL d (bw d l)).now;omega⟩
    |false=>
     cases ri (cV d low) (bw (cV d low) l).2 with
     |true=>
      obtain⟨b1,b2,b3,_⟩:=IE hcI h5 hl hc';exact⟨b1,by show(kL (cV d low) (bw (cV d low) l)).now≤_;omega,by show(kL (cV d low) (bw (cV d low) l)).keys.length≤_;omega,by show d.now≤(kL (cV d low) (bw (cV d low) l)).now;omega⟩
     |false=>exact⟨⟨hcI.r.le (by omega),hcI.w,hcI.k,by have:=hcI.sz;show(cV d low).sk≤_∧(cV d low).sv≤_∧(cV d low).sb≤_;omega⟩,by show(cV d low).now≤_;omega,by show(cV d low).keys.length≤_;omega,by show d.now≤(cV d low).now;omega⟩
end Go.RE
namespace Go.RE
def Oh(n:Nat):Nat:=100000000000000+n*1000000
theorem qeO(n:Nat):Oh n≤Oh (n+1):=by unfold Oh;omega
structure BI(b:Bs)(n:Nat):Prop where
 le:n≤200
 d:Rl b.db ((200 - n)*200) (Oh n)
 kl:b.db.keys.length≤200*n
 now:b.db.now≤n
 last:b.last≤n
 ev:b.event≤2*n
 idn:(b.live.map (·.id)).Nodup
 ids:∀ t∈b.live,t.id≤b.last
 live:b.live.length≤n
 marks:∀ t∈b.live,t.marks.length≤n
 cO:∀ t∈b.live,t.cO.length≤n
 wt:∀ t∈b.live,∀ w∈t.cO,pI w
 aj:b.aj.length≤n
 rw:uB b.aj≤600*n
 dl:b.done.length≤n
 Zm:∀ d∈b.done,Eo d
 lim:DX b.db.lim
theorem BI.pre{b:Bs}{n:Nat}(h:BI b n)(hn:n<200):Pre b 200:=by
 have hm:200≤(200 - n)*200:=by omega
 have hl:=h.lim;have hr:=h.aj;have hrw:=h.rw;have hk:=h.kl;have hnow:=h.now;have hlast:=h.last;have hev:=h.ev;have hlv:=h.live;have gT:=h.dl;have l1:=hl.m;have l2:=hl.r;have l3:=hl.n;have hrc:RcB b:=⟨by omega,by unfold small;omega,by unfold small;omega,by unfold small;omega⟩;have hz:KO b.db:=by have:=h.d.sz;have hB:Oh n=100000000000000+n*1000000:=rfl;exact⟨by omega,by omega,by omega⟩
 refine⟨⟨h.d.r.le hm,h.d.w,hz,by unfold small;omega,by unfold small;omega,fun t ht=>by have:=h.cO t ht;omega,⟨h.d.r.ok,⟨by unfold small;omega,by unfold small;omega,by unfold small;omega⟩,fun t ht=> ?_,fun t ht=> ?_,h.wt,by unfold small;omega,h.d.k.Jq,by unfold small;omega⟩,hrc,fun t ht=> ?_,by omega,by unfold small;omega,by unfold small;omega⟩,h.ids,by unfold small;omega,by unfold small;omega⟩
 ·have:=h.marks t ht;unfold small;omega
 ·have:=h.cO t ht;unfold small;omega
 ·have:=h.marks t ht;unfold small;omega
theorem room_le(n:Nat):(200 - (n+1))*200≤(200 - n)*200:=by omega
theorem BI.mono{b:Bs}{n:Nat}(h:BI b n)(hn:n<200):BI b (n+1):=
 ⟨hn,⟨Bo.le h.d.r (room_le n),h.d.w,h.d.k,by have:=h.d.sz;have:=qeO n;omega⟩,by have:=h.kl;omega,by have:=h.now;omega,by have:=h.last;omega,by have:=h.ev;omega,h.idn,h.ids,by have:=h.live;omega,fun t ht=>by have:=h.marks t ht;omega,fun t ht=>by have:=h.cO t ht;omega,h.wt,by have:=h.aj;omega,by have:=h.rw;omega,by have:=h.dl;omega,h.Zm,h.lim⟩
theorem BI.begin{b:Bs}{n:Nat}(h:BI b n)(hn:n<200):BI (dc b).2.2 (n+1):=by
 unfold dc;cases decide (b.db.lim.live≤b.live.length)with
 |true=>exact h.mono hn
 |false=>
  have h1:=h.mono hn;have hno:∀ t∈b.live,t.id≠b.last+1:=fun t ht hh=>by have:=h.ids t ht;omega
  simp only[cond_false];refine⟨h1.le,h1.d,h1.kl,h1.now,by have:=h.last;show b.last+1≤_;omega,by have:=h.ev;show b.event+1≤_;omega,?_,fun t ht=> ?_,by have:=h.live;simp;omega,fun t ht=> ?_,fun t ht=> ?_,fun t ht=> ?_,h1.aj,h1.rw,h1.dl,h1.Zm,h1.lim⟩
  ·show((b.live++[(⟨b.last+1,b.db.now,b.event+1,[],[]⟩:Tx)]).map (·.id)).Nodup;rw[mR];refine DV.2 ⟨h.idn,by simp,fun x hx y hy=> ?_⟩;simp at hy;subst hy;obtain⟨t,ht,rfl⟩:=cD.1 hx;exact hno t ht
  ·rcases eH.1 ht with ht|ht
   ·have:=h.ids t ht;show t.id≤b.last+1;omega
   ·simp at ht;subst ht;exact ak _
  ·rcases eH.1 ht with ht|ht
   ·exact h1.marks t ht
   ·simp at ht;subst ht;exact bU _
  ·rcases eH.1 ht with ht|ht
   ·exact h1.cO t ht
   ·simp at ht;subst ht;exact bU _
  ·rcases eH.1 ht with ht|ht
   ·exact h.wt t ht
   ·simp at ht;subst ht;exact fun w hw=>(fu hw).elim
theorem mem_set{b:Bs}{t x:Tx}(h:x∈(aY b t).live):x∈b.live∨x=t:=by
 obtain⟨y,hy,rfl⟩:=cD.1 h;by_cases hh:y.id=t.id
 ·rw[if_pos hh];exact .inr rfl
 ·rw[if_neg hh];exact .inl hy
theorem qag(b:Bs)(t:Tx):(aY b t).live.map (·.id)=b.live.map (·.id):=by
 show(b.live.map _).map _=_;rw[oz];refine KE fun x hx=> ?_;by_cases hh:x.id=t.id<;>simp[hh]
theorem BI.set{b:Bs}{n:Nat}(h:BI b n)(hn:n<200){t t' :Tx}(ht:t∈b.live)(hid:t'.id=t.id)(hm:t'.marks.length≤n+1)(hp:t'.cO.length≤n+1)(hw:∀ w∈t'.cO,pI w):BI (aY b t') (n+1):=by
 have h1:=h.mono hn;refine⟨h1.le,h1.d,h1.kl,h1.now,h1.last,h1.ev,by rw[qag];exact h.idn,fun x hx=> ?_,by show(b.live.map _).length≤_;rw[oS];exact h1.live,fun x hx=> ?_,fun x hx=> ?_,fun x hx=> ?_,h1.aj,h1.rw,h1.dl,h1.Zm,h1.lim⟩
 ·rcases mem_set hx with hx|rfl
  ·exact h.ids x hx
  ·rw[hid];exact h.ids t ht
 ·rcases mem_set hx with hx|rfl
  ·exact h1.marks x hx
  ·exact hm
 ·rcases mem_set hx with hx|rfl
  ·exact h1.cO x hx
  ·exact hp
 ·rcases mem_set hx with hx|rfl
  ·exact h.wt x hx
  ·exact hw
theorem wL{b:Bs}{id:Int}{t:Tx}(h:mW b id=some t):t∈b.live∧(t.id:Int)=id:=by
 refine⟨qc0 h,?_⟩;have:=List.find?_some h;simpa using this
theorem BI.read{b:Bs}{n:Nat}(h:BI b n)(hn:n<200)(id:Int)(k:By):BI (jt b id k).2 (n+1):=by
 unfold jt;cases ht:mW b id with
 |none=>exact h.mono hn
 |some t=>
  obtain⟨hm,_⟩:=wL ht;dsimp only;cases fW pq k t.cO with
  |some w=>exact h.mono hn
  |none=>exact h.set hn hm rfl (by have:=tH b t (yu k);have:=h.marks t hm;omega) (by have:=h.cO t hm;show t.cO.length≤_;omega) (h.wt t hm)
theorem BI.scan{b:Bs}{n:Nat}(h:BI b n)(hn:n<200)(id:Int)(s:cU):BI (l9 b id s).2 (n+1):=by
 unfold l9;cases ht:mW b id with
 |none=>exact h.mono hn
 |some t=>
  obtain⟨hm,_⟩:=wL ht;dsimp only;cases dX s with
  |false=>exact h.mono hn
  |true=>exact h.set hn hm rfl (by have:=tH b t s;have:=h.marks t hm;omega) (by have:=h.cO t hm;show t.cO.length≤_;omega) (h.wt t hm)
theorem Tr{a:Wt}{l:List Wt}{x:Wt}(h:x∈mb pq a l):x=a∨x∈l:=by
 have hm:∀ l:List Wt,x∈uz pq a l→x=a∨x∈l:=by
  intro l
  induction l with
  |nil=>intro h;cases h
  |cons b r ih=>
   intro h;simp only[uz]at h;cases hb:decide (pq.key b=pq.key a)with
   |true=>
    rw[hb]at h;rcases bT.1 h with rfl|h
    ·exact .inl rfl
    ·exact .inr (eu _ h)
   |false=>
    rw[hb]at h;rcases bT.1 h with rfl|h
    ·exact .inr cB
    ·rcases ih h with h|h
     ·exact .inl h
     ·exact .inr (eu _ h)
 unfold mb at h;cases hb:(fW pq (pq.key a) l).isSome with
 |true=>rw[hb]at h;exact hm l h
 |false=>
  rw[hb]at h;rcases eH.1 h with h|h
  ·exact .inr h
  ·simp at h;exact .inl h
theorem BI.write{b:Bs}{n:Nat}(h:BI b n)(hn:n<200)(id:Int){w:Wt}(hw:pI w):BI (fh b id w).2 (n+1):=by
 unfold fh;cases ht:mW b id with
 |none=>exact h.mono hn
 |some t=>
  obtain⟨hm,_⟩:=wL ht;dsimp only;cases gY none w==0 with
  |false=>exact h.mono hn
  |true=>
   refine h.set hn hm (t' :=Tc t w) rfl (by have:=h.marks t hm;show t.marks.length≤_;omega) (by have:=h.cO t hm;have:=Tp pq w t.cO;show(mb pq w t.cO).length≤_;omega) (fun x hx=> ?_);rcases Tr hx with rfl|hx
   ·exact hw
   ·exact h.wt t hm x hx
theorem BI.col{b:Bs}{n:Nat}(h:BI b n):BI (D5 b).2 n:=by
 have h5:5000*((200 - n)*200)<small:=by
  have:(200 - n)*200≤200*200:=iB _ (by omega);unfold small;omega
 have hle:=h.le;have hkl:=h.kl;obtain⟨_,_,k3⟩:=tg h.d.k (dQ b);have hl:=nB b.db (dQ b);exact⟨h.le,R5 h.d h5 (by unfold Oh;omega) (dQ b),by show(cV b.db (dQ b)).keys.length≤_;omega,by show(cV b.db (dQ b)).now≤_;rw[hl.2];exact h.now,h.last,h.ev,h.idn,h.ids,h.live,h.marks,h.cO,h.wt,h.aj,h.rw,h.dl,h.Zm,by show DX (cV b.db (dQ b)).lim;rw[hl.1];exact h.lim⟩
theorem yc(id:Int):∀ l:List Tx,(lU id l).Sublist l
 |[]=> .slnil
 |t::r=>by
  simp only[lU];cases decide ((t.id:Int)=id)with
  |true=>exact PL _ _
  |false=>exact(yc id r).cons_cons t
theorem ND(n m:Nat):∀ (k:Nat) (l:List Rc),l.length=k→(pN n m l).length≤l.length∧uB (pN n m l)≤uB l:=by
 intro k
 induction k with
 |zero=>
  intro l hl;obtain rfl:=PU.1 hl;simp[rS,vX]
 |succ k ih=>
  intro l hl
  match l,hl with
  |[a],_=>simp[rS,vX]
  |a::b::r,hl=>
   rw[yf];cases decide (n<r.length+2)with
   |false=>exact⟨ak _,ak _⟩
   |true=>
    obtain⟨i1,i2⟩:=ih (wh a b m::r) (by simpa using hl);have:=Py a b m;simp only[cond_true,uB,fV]at*;omega
theorem BI.ends{b:Bs}{n:Nat}(h:BI b n)(id:Int):BI (kM b id) n:=by
 have hs:=yc id b.live;have hf:=ND (pF b.db.lim.records) b.db.lim.marks _ (bP b.aj (dQ (ir b id))) rfl;have h1:(bP b.aj (dQ (ir b id))).length≤b.aj.length:=rC _ _;have h2:=uu (fun r=>decide (dQ (ir b id)<r.last)) b.aj;have h3:uB (bP b.aj (dQ (ir b id)))≤uB b.aj:=h2;refine⟨h.le,h.d,h.kl,h.now,h.last,h.ev,qk (hs.map _) h.idn,fun t ht=>h.ids t (hs.subset ht),by have:=hs.length_le;have:=h.live;show(lU id b.live).length≤_;omega,fun t ht=>h.marks t (hs.subset ht),fun t ht=>h.cO t (hs.subset ht),fun t ht=>h.wt t (hs.subset ht),?_,?_,h.dl,h.Zm,h.lim⟩
 ·show(pN (pF b.db.lim.records) b.db.lim.marks (bP b.aj (dQ (ir b id)))).length≤n;have:=h.aj;omega
 ·show uB (pN (pF b.db.lim.records) b.db.lim.marks (bP b.aj (dQ (ir b id))))≤600*n;have:=h.rw;omega
end Go.RE
namespace Go.RE
theorem ED(id:Nat)(t' :Tx)(hid:t'.id=id):∀ l:List Tx,(l.map (·.id)).Nodup→lU (id:Int) (l.map fun x=>if x.id=t'.id then t' else x)=lU (id:Int) l
 |[],_=>rfl
 |t::r,hn=>by
  simp only[ct,ql]at hn;simp only[ct,lU];by_cases h:t.id=t'.id
  ·have e1:decide (((if t.id=t'.id then t' else t).id:Int)=(id:Int))=true:=by rw[if_pos h];simp[hid]
   have e2:decide ((t.id:Int)=(id:Int))=true:=by simp[h,hid]
   rw[e1,e2,cond_true,cond_true];refine(KE fun x hx=> ?_).trans (List.map_id r);have:¬x.id=t'.id:=fun hh=>hn.1 (cD.2 ⟨x,hx,by show x.id=t.id;rw[hh,h]⟩);rw[if_neg this];rfl
  ·have e1:decide (((if t.id=t'.id then t' else t).id:Int)=(id:Int))=false:=by rw[if_neg h];refine decide_eq_false ?_;rw[←hid];omega
   have e2:decide ((t.id:Int)=(id:Int))=false:=by refine decide_eq_false ?_;rw[←hid];omega
   rw[e1,e2,cond_false,cond_false,if_neg h,ED id t' hid r hn.2]
theorem BI.fin{b b2:Bs}{n:Nat}(h:BI b n)(hn:n<200)(id:Int)(hd:Rl b2.db ((200 - (n+1))*200) (Oh (n+1)))(hkl:b2.db.keys.length≤200*(n+1))(hnow:b2.db.now≤n+1)(hlim:b2.db.lim=b.db.lim)
  (hlive:lU id b2.live=lU id b.live) (hlast:b2.last=b.last) (hev:b2.event≤2*(n+1)) (hrl:b2.aj.length≤n+1) (hrw:uB b2.aj≤600*(n+1)) (gT:b2.done.length≤n+1) (hdon:∀ d∈b2.done,Eo d):BI (kM b2 id) (n+1):=by
 have hs:=yc id b.live;have hf:=ND (pF b2.db.lim.records) b2.db.lim.marks _ (bP b2.aj (dQ (ir b2 id))) rfl;have h1:(bP b2.aj (dQ (ir b2 id))).length≤b2.aj.length:=rC _ _;have h3:uB (bP b2.aj (dQ (ir b2 id)))≤uB b2.aj:=uu (fun r=>decide (dQ (ir b2 id)<r.last)) b2.aj;have hl:(kM b2 id).live=lU id b.live:=hlive;have hm:=h.mono hn;refine⟨hn,hd,hkl,hnow,?_,hev,by rw[hl];exact qk (hs.map _) h.idn,fun t ht=> ?_,by rw[hl];have:=hs.length_le;have:=hm.live;omega,fun t ht=>hm.marks t (hs.subset (by rw[←hl];exact ht)),fun t ht=>hm.cO t (hs.subset (by rw[←hl];exact ht)),fun t ht=>h.wt t (hs.subset (by rw[←hl];exact ht)),?_,?_,gT,hdon,by show DX b2.db.lim;rw[hlim];exact h.lim⟩
 ·show b2.last≤_;rw[hlast];exact hm.last
 ·show t.id≤b2.last;rw[hlast];exact h.ids t (hs.subset (by rw[←hl];exact ht))
 ·show(pN (pF b2.db.lim.records) b2.db.lim.marks (bP b2.aj (dQ (ir b2 id)))).length≤n+1;omega
 ·show uB (pN (pF b2.db.lim.records) b2.db.lim.marks (bP b2.aj (dQ (ir b2 id))))≤600*(n+1);omega
theorem qaa{n:Nat}(hn:n<200):(200 - n)*200=(200 - (n+1))*200+200:=by omega
theorem Qj{b:Bs}{n:Nat}(h:BI b n)(hn:n<200){t:Tx}(ht:t∈b.live):Rl (aM b t).2.2.2.db ((200 - (n+1))*200) (Oh (n+1))∧(aM b t).2.2.2.db.keys.length≤200*(n+1)∧(aM b t).2.2.2.db.now≤n+1∧b.db.now≤(aM b t).2.2.2.db.now∧
  lU (t.id:Int) (aM b t).2.2.2.live=lU (t.id:Int) b.live:=by
 have hm:=h.mono hn;have hp:=h.cO t ht;have hq:=tF b (rG t) (t,[],[]);have hRdef:(rG t).foldl (gj b) (t,[],[])=aP b t:=rfl;rw[hRdef]at hq;dsimp only at hq;have hw:(rG t).length=t.cO.length:=by unfold rG;rw[lE]
 simp only[ox,kF]at hq;have hlive:lU (t.id:Int) (aY b (aP b t).1).live=lU (t.id:Int) b.live:=ED t.id _ hq.2.2.2.2.2.1 b.live h.idn;have base:Rl b.db ((200 - (n+1))*200) (Oh (n+1))∧b.db.keys.length≤200*(n+1)∧b.db.now≤n+1∧b.db.now≤b.db.now:=⟨hm.d,hm.kl,hm.now,ak _⟩;have hd:=h.d;rw[qaa hn]at hd;have hkl:=h.kl;have hnow:=h.now;have hD:=Qi (L:=200) hd (by
  have:(200 - (n+1))*200+200≤40000:=by omega
  unfold small;omega) (by unfold Oh;omega) (l:=(aP b t).2.1) (by omega) (dQ (aY b (aP b t).1))
 have hB:Oh n+5000*200=Oh (n+1):=by unfold Oh;omega
 rw[hB]at hD;have after:Rl (bH b.db (aP b t).2.1 (dQ (aY b (aP b t).1))).2.2 ((200 - (n+1))*200) (Oh (n+1))∧(bH b.db (aP b t).2.1 (dQ (aY b (aP b t).1))).2.2.keys.length≤200*(n+1)∧(bH b.db (aP b t).2.1 (dQ (aY b (aP b t).1))).2.2.now≤n+1∧b.db.now≤(bH b.db (aP b t).2.1 (dQ (aY b (aP b t).1))).2.2.now:=
  ⟨hD.1,by omega,by omega,hD.2.2.2⟩
 unfold aM;cases kU b t with
 |true=>exact⟨base.1,base.2.1,base.2.2.1,base.2.2.2,rfl⟩
 |false=>
  simp only[cond_false];cases o9 b.aj (vu b t)with
  |none=>exact⟨base.1,base.2.1,base.2.2.1,base.2.2.2,hlive⟩
  |some out=>
   dsimp only;cases(bH b.db (aP b t).2.1 (dQ (aY b (aP b t).1))).2.1==0 with
   |true=>exact⟨after.1,after.2.1,after.2.2.1,after.2.2.2,hlive⟩
   |false=>exact⟨after.1,after.2.1,after.2.2.1,after.2.2.2,hlive⟩
theorem BI.FN{b:Bs}{n:Nat}(h:BI b n)(hn:n<200)(id:Int):BI (bA b id).2.2 (n+1):=by
 unfold bA;cases ht:mW b id with
 |none=>exact h.mono hn
 |some t=>
  obtain⟨hm,hid⟩:=wL ht;subst hid;obtain⟨c1,c2,c3,_,c4⟩:=Qj h hn hm;obtain⟨k1,k2,k3,k4,k5⟩:=qs b t;have hwt:=BD b t;have hmk:=h.marks t hm;have hpk:=h.cO t hm;have hr:=h.aj;have hrw:=h.rw;have gT:=h.dl;have hev:=h.ev;dsimp only;cases(aM b t).2.2.1==0 with
  |true=>
   refine h.fin hn (t.id:Int) (b2:=ig (aM b t).2.2.2 t (aM b t).1 (aM b t).2.1) c1 c2 c3 k5 c4 k3 (by show(aM b t).2.2.2.event+1≤_;omega) ?_ ?_ ?_ ?_
   ·show((aM b t).2.2.2.aj++[_]).length≤_;rw[k1];simp;omega
   ·show uB ((aM b t).2.2.2.aj++[_])≤_;rw[k1,Px];omega
   ·show((aM b t).2.2.2.done++[_]).length≤_;rw[k2];simp;omega
   ·intro d hd;have hd' :d∈(aM b t).2.2.2.done++[o7 t (aM b t).1 (aM b t).2.1 ((aM b t).2.2.2.event+1)]:=hd;rw[k2]at hd';rcases eH.1 hd' with hd' |hd'
    ·exact h.Zm d hd'
    ·simp at hd';subst hd';unfold Ye at hwt;exact⟨by show(aM b t).1.reads.length<small;unfold small;omega,by show(aM b t).1.writes.length<small;unfold small;omega⟩
  |false=>
   exact h.fin hn (t.id:Int) (b2:=(aM b t).2.2.2) c1 c2 c3 k5 c4 k3 (by omega) (by rw[k1];omega) (by rw[k1];omega) (by rw[k2];omega) (by rw[k2];exact h.Zm)
theorem BI.qhg{b:Bs}{n:Nat}(h:BI b n)(hn:n<200){o:DZ}(ho:Rv o):BI (jq b o).2 (n+1):=by
 unfold jq;cases o.dO==0 with
 |true=>exact h.begin hn
 |false=>
  cases o.dO==1 with
  |true=>exact h.read hn _ _
  |false=>
   cases o.dO==2 with
   |true=>exact h.scan hn _ _
   |false=>
    cases o.dO==3 with
    |true=>exact h.write hn _ ⟨by have:=ho.1;unfold small;omega,by have:=ho.2.1;unfold small;omega⟩
    |false=>
     cases o.dO==4 with
     |true=>exact h.FN hn _
     |false=>
      cases o.dO==5 with
      |true=>
       show BI (iI b o.id).2 (n+1);unfold iI;cases mW b o.id with
       |none=>exact h.mono hn
       |some t=>exact(h.ends o.id).mono hn
      |false=>
       cases o.dO==6 with
       |true=>exact h.col.mono hn
       |false=>exact h.mono hn
theorem BI.zero{l:Lm}(hl:DX l):BI (D1 l) 0:=
 ⟨by omega,⟨⟨by show 0+_<small;unfold small;omega,fun k hk=>(fu hk).elim,fun x hx=>(fu hx).elim,fun x hx=>(fu hx).elim,fun x hx=>(fu hx).elim⟩,⟨fun x hx=>(fu hx).elim,fun x hx=>(fu hx).elim⟩,⟨FC,fun k=>by show k∈([]:List By)↔chain (Rn l) k≠[];simp[chain,Rn,fW],FC⟩,⟨bU _,bU _,bU _⟩⟩,bU _,bU _,bU _,bU _,FC,fun t ht=>(fu ht).elim,bU _,fun t ht=>(fu ht).elim,fun t ht=>(fu ht).elim,fun t ht=>(fu ht).elim,bU _,bU _,bU _,fun t ht=>(fu ht).elim,hl⟩
end Go.RE
namespace Go.RE
theorem RD(l:Lm):Ap [.row (gf l),.row (gf l),.row (gf l),.map [] 0,.row (dD (Rn l) 3 (.nl 1)),.map [] 0,.row (dm (D1 l) 4 5 (.nl 6) (.nl 7))] 0 6 4 5 3 [6,4,5,3] (D1 l):=
 ⟨⟨[],_,_,_,qgK l,.inr ⟨rfl,rfl⟩,.inr ⟨rfl,rfl⟩,.inr ⟨rfl,rfl⟩,rfl⟩,bU _⟩
def Ts:Bs:=(dc (D1 uw)).2.2
def YV:Bs:=(dc Ts).2.2
def sk3:Bs:=(jt YV 1 [97]).2
def sk4:Bs:=(fh sk3 1 ⟨[98],false,[49]⟩).2
def sk5:Bs:=(jt sk4 2 [98]).2
def sk6:Bs:=(fh sk5 2 ⟨[97],false,[49]⟩).2
def sk7:Bs:=(bA sk6 1).2.2
theorem t52:∃ H f,G 52 [] [] 0=some (.int .i64 101,H,f)∧f≤H.length:=by
 have i0:BI (D1 uw) 0:=BI.zero Ar;have i1:BI Ts 1:=i0.begin (by omega);have i2:BI YV 2:=i1.begin (by omega);have i3:BI sk3 3:=i2.read (by omega) 1 [97];have i4:BI sk4 4:=i3.write (by omega) 1 ⟨by decide,by decide⟩;have i5:BI sk5 5:=i4.read (by omega) 2 [98];have i6:BI sk6 6:=i5.write (by omega) 2 ⟨by decide,by decide⟩;have i7:BI sk7 7:=i6.FN (by omega) 1;obtain⟨h1,f1,F1,c1,l1⟩:=w17 (RD uw) (i0.pre (by omega));obtain⟨h2,f2,F2,c2,l2⟩:=w17 l1.at_ (i1.pre (by omega));obtain⟨h3,F3,c3,l3⟩:=w36 l2.at_ (i2.pre (by omega)) 1 [97] (by decide);obtain⟨h4,F4,c4,l4⟩:=w18 l3.at_ 1 ⟨[98],false,[49]⟩ ⟨by decide,by decide⟩;obtain⟨h5,F5,c5,l5⟩:=w36 l4.at_ (i4.pre (by omega)) 2 [98] (by decide);obtain⟨h6,F6,c6,l6⟩:=w18 l5.at_ 2 ⟨[97],false,[49]⟩ ⟨by decide,by decide⟩;obtain⟨h7,F7,c7,l7⟩:=w19 l6.at_ (i6.pre (by omega)) 1;obtain⟨h8,F8,c8,l8⟩:=w19 l7.at_ (i7.pre (by omega)) 2;have v1:(dc (D1 uw)).1=1∧(dc (D1 uw)).2.1=0:=⟨rfl,rfl⟩;have v2:(dc Ts).1=2∧(dc Ts).2.1=0:=⟨rfl,rfl⟩;have v7:(bA sk6 1).1=1∧(bA sk6 1).2.1=0:=⟨rfl,rfl⟩;have v8:(bA sk7 2).2.1=101:=rfl;have e1:(dc (D1 uw)).2.2=Ts:=rfl;have e2:(dc Ts).2.2=YV:=rfl;have e3:(jt YV 1 [97]).2=sk3:=rfl;have e4:(fh sk3 1 ⟨[98],false,[49]⟩).2=sk4:=rfl;have e5:(jt sk4 2 [98]).2=sk5:=rfl;have e6:(fh sk5 2 ⟨[97],false,[49]⟩).2=sk6:=rfl;have e7:(bA sk6 1).2.2=sk7:=rfl;rw[e1]at c2;rw[e1,e2]at c3;rw[e1,e2,e3]at c4;rw[e1,e2,e3,e4]at c5;rw[e1,e2,e3,e4,e5]at c6;rw[e1,e2,e3,e4,e5,e6]at c7;rw[e1,e2,e3,e4,e5,e6,e7]at c8;rw[v1.1,v1.2]at c1;rw[v2.1,v2.2]at c2;rw[v7.1,v7.2]at c7;rw[v8]at c8;obtain⟨r3,is3,x3,s3⟩:=wE YV 1 [97];obtain⟨r5,is5,x5,s5⟩:=wE sk4 2 [98];rw[s3]at c3;rw[s5]at c5;have p1:=t51 [98] [49];have p2:=t51 [97] [49];have m1:=t14 uw Ar;have m0:=t15;have hle:=l8.at_.fle;refine⟨_,_,bK (fn:=v52) (R:=(.int .i64 101,cut 0 f2 h8,f2)) rfl rfl rfl ?_,by unfold cut;rw[iD];omega⟩;simp only[eY,gf]at c4 c6 p1 p2 m0;simp only[gf,dD,dm]at m1 c1;simp at c1 c2 c7;simp[Dr,qcc,qcd,qce,qcf,qcg,qch,qci,qcj,qck,Xm,Xn,Xo,Xp,m0,m1,c1,c2,c3,c4,c5,c6,c7,c8,p1,p2,iS,dD,dm]
def lw3:Bs:=(fh YV 1 ⟨[98],false,[49]⟩).2
def lw4:Bs:=(fh lw3 2 ⟨[98],false,[50]⟩).2
def lw5:Bs:=(bA lw4 1).2.2
def lw6:Bs:=(bA lw5 2).2.2
theorem t12:∃ H f,G 12 [] [] 0=some (.bool true,H,f)∧f≤H.length:=by
 have i0:BI (D1 uw) 0:=BI.zero Ar;have i1:BI Ts 1:=i0.begin (by omega);have i2:BI YV 2:=i1.begin (by omega);have i3:BI lw3 3:=i2.write (by omega) 1 ⟨by decide,by decide⟩;have i4:BI lw4 4:=i3.write (by omega) 2 ⟨by decide,by decide⟩;have i5:BI lw5 5:=i4.FN (by omega) 1;have i6:BI lw6 6:=i5.FN (by omega) 2;obtain⟨h1,f1,F1,c1,l1⟩:=w17 (RD uw) (i0.pre (by omega));obtain⟨h2,f2,F2,c2,l2⟩:=w17 l1.at_ (i1.pre (by omega));obtain⟨h3,F3,c3,l3⟩:=w18 l2.at_ 1 ⟨[98],false,[49]⟩ ⟨by decide,by decide⟩;obtain⟨h4,F4,c4,l4⟩:=w18 l3.at_ 2 ⟨[98],false,[50]⟩ ⟨by decide,by decide⟩;obtain⟨h5,F5,c5,l5⟩:=w19 l4.at_ (i4.pre (by omega)) 1;obtain⟨h6,F6,c6,l6⟩:=w19 l5.at_ (i5.pre (by omega)) 2;obtain⟨⟨lv,rc,dn,ks,b6,r1,_,_,_⟩,hf6⟩:=l6.at_;have c7:=t23 f2 hf6 b6 r1 i6.d.r.ok;have v1:(dc (D1 uw)).1=1∧(dc (D1 uw)).2.1=0:=⟨rfl,rfl⟩;have v2:(dc Ts).1=2∧(dc Ts).2.1=0:=⟨rfl,rfl⟩;have v3:(fh YV 1 ⟨[98],false,[49]⟩).1=0:=rfl;have v4:(fh lw3 2 ⟨[98],false,[50]⟩).1=0:=rfl;have v5:(bA lw4 1).1=1∧(bA lw4 1).2.1=0:=⟨rfl,rfl⟩;have v6:(bA lw5 2).2.1=100:=rfl;have v7:xW lw6=[([98],[49])]:=rfl;have e1:(dc (D1 uw)).2.2=Ts:=rfl;have e2:(dc Ts).2.2=YV:=rfl;have e3:(fh YV 1 ⟨[98],false,[49]⟩).2=lw3:=rfl;have e4:(fh lw3 2 ⟨[98],false,[50]⟩).2=lw4:=rfl;have e5:(bA lw4 1).2.2=lw5:=rfl;have e6:(bA lw5 2).2.2=lw6:=rfl;rw[e1]at c2;rw[e1,e2]at c3;rw[e1,e2,e3]at c4;rw[e1,e2,e3,e4]at c5;rw[e1,e2,e3,e4,e5]at c6;rw[e1,e2,e3,e4,e5,e6]at c7;rw[v1.1,v1.2]at c1;rw[v2.1,v2.2]at c2;rw[v3]at c3;rw[v4]at c4;rw[v5.1,v5.2]at c5;rw[v6]at c6;rw[v7]at c7;have p1:=t51 [98] [49];have p2:=t51 [98] [50];have m1:=t14 uw Ar;have m0:=t15;obtain⟨H,f,hs,hfH⟩:=t52;have ub:∀ s,TA s (.sl 1 (bM [49]))=some (.str [49],s):=fun s=>rfl;simp only[eY,gf]at c3 c4 p1 p2 m0;simp only[gf,dD,dm]at m1 c1;simp only[rH,ct,jY]at c7;simp at c1 c2 c3 c4 c5 c6;cases H with
 |nil=>
  refine⟨_,_,bK (fn:=v12) (R:=(.bool true,cut 0 f2 h6,f2)) rfl rfl rfl ?_,by unfold cut;rw[iD];omega⟩;simp[wR,Ur,Us,Ut,Uu,Uv,Uw,Ux,Uy,Mo,Mp,m0,m1,c1,c2,c3,c4,c5,c6,c7,p1,p2,hs,ub,iS,dD,dm]
 |cons a H=>
  refine⟨_,_,bK (fn:=v12) (R:=(.bool true,cut 0 (bif Nat.beq f 0 then f2 else h6.length+f) (h6++(a::H).map (eV h6.length)),bif Nat.beq f 0 then f2 else h6.length+f)) rfl rfl rfl ?_,by
   unfold cut;rw[iD];simp only[gX,oS];cases Nat.beq f 0 with
   |true=>simp only[cond_true];omega
   |false=>simp only[cond_false];omega⟩
  simp[wR,Ur,Us,Ut,Uu,Uv,Uw,Ux,Uy,Mo,Mp,m0,m1,c1,c2,c3,c4,c5,c6,c7,p1,p2,hs,ub,iS,dD,dm]
end Go.RE
namespace Go.RE
theorem qdg(l:Lm)(X:List Uo)(fl:Nat)(hfl:fl≤X.length):Ap (X++[.row (gf l),.row (gf l),.row (gf l),.map [] 0,.row (dD (Rn l) (3+X.length) (.nl 1)),.map [] 0,.row (dm (D1 l) (4+X.length) (5+X.length) (.nl 6) (.nl 7))]) fl
  (6+X.length) (4+X.length) (5+X.length) (3+X.length) [6+X.length,4+X.length,5+X.length,3+X.length] (D1 l):=by
 have hg:∀ (k:Nat) (Y:List Uo),(X++Y)[k+X.length]? =Y[k]? :=fun k Y=>by
  rw[dh (by omega),show k+X.length - X.length=k by omega]
 refine⟨⟨[],.nl 6,.nl 7,.nl 1,⟨by rw[hg];rfl,⟨by rw[hg];rfl,by rw[hg];exact wj lJ⟩,by rw[hg];exact wj lX,rfl,fun l hl=>(fu hl).elim,by simp[ck]⟩,.inr ⟨rfl,rfl⟩,.inr ⟨rfl,rfl⟩,.inr ⟨rfl,rfl⟩,by simp[ck]⟩,by simp;omega⟩
theorem Ap.cut{h:List Uo}{fl n:Nat}{i s m o:Nat}{F:List Nat}{b:Bs}(hb:Ap h fl i s m o F b)(hF:∀ x∈F,x<max n fl):Ap (cut n fl h) fl i s m o F b:=by
 obtain⟨⟨lv,rc,dn,ks,hb,r1,r2,r3,rfl⟩,h2⟩:=hb;refine⟨⟨lv,rc,dn,ks,hb.same (fun j hj=> ?_),r1,r2,r3,rfl⟩,?_⟩
 ·unfold RE.cut;rw[fU,if_pos (hF j hj)]
 ·unfold RE.cut;rw[iD];omega
structure Run(h:List Uo)(fl n:Nat)(i s m o:Nat)(F:List Nat)(b:Bs)(W:Uo):Prop where
 at_:Ap h fl i s m o F b
 nle:n≤h.length
 foo:∀ x∈F,x<max n fl∧0<x
 w:h[0]? =some W
 n0:0<n
theorem Left.plain{h x h' :List Uo}{fl fl' :Nat}{i s m o:Nat}{F F' :List Nat}{b' :Bs}(hf:fl≤h.length)(hF:∀ j∈F,j<h.length)(hl:Left (h++x) h' fl fl' i s m o F F' b')(hx:0<x.length):
  Left h (RE.cut h.length fl' h') fl fl' i s m o F F' b' :=by
 have hlen:=hl.gr.1;simp only[gX]at hlen;have hlt:h.length<h'.length:=by omega
 have:=hl.fin hf hF (k:=h.length) (ak _) (by omega) h'[h.length];rw[PX hlt]at this;exact this
theorem Run.left{h h' :List Uo}{fl fl' n:Nat}{i s m o:Nat}{F F' :List Nat}{b b' :Bs}{W:Uo}(hr:Run h fl n i s m o F b W)(hl:Left h h' fl fl' i s m o F F' b'):Run h' fl' n i s m o F' b' W:=by
 have hn:=hr.nle;have h0:=hr.n0;have hg:=hl.gr;refine⟨hl.at_,j0 hn hg.1,fun x hx=>⟨?_,?_⟩,?_,h0⟩
 ·rcases hl.or with⟨e,e2,e3⟩|e
  ·have:=(hr.foo x (e3 x hx)).1;omega
  ·have:=hl.at_.lt x hx;omega
 ·rcases hg.2.2 x hx with h1|h1
  ·exact(hr.foo x h1).2
  ·omega
 ·rw[hg.2.1 0 (by omega) (fun hh=>by have:=(hr.foo 0 hh).2;omega)];exact hr.w
theorem Run.cut{h:List Uo}{fl n:Nat}{i s m o:Nat}{F:List Nat}{b:Bs}{W:Uo}(hr:Run h fl n i s m o F b W):Run (RE.cut n fl h) fl n i s m o F b W:=by
 have hn:=hr.nle;have h0:=hr.n0;refine⟨hr.at_.cut (fun x hx=>(hr.foo x hx).1),?_,hr.foo,?_,h0⟩
 ·unfold RE.cut;rw[iD];omega
 ·unfold RE.cut;rw[fU,if_pos (by omega)];exact hr.w
theorem Zq{l:List DZ}(h:IL l=true):(∀ o∈l,Rv o)∧l.length≤80:=by
 unfold IL at h;simp only[aI,fF,decide_eq_true_eq]at h;refine⟨fun o ho=> ?_,h.2⟩;have:=h.1 o ho;unfold su at this;simp only[aI,decide_eq_true_eq]at this;exact⟨this.1.1,this.1.2,this.2⟩
end Go.RE
namespace Go.RE
end Go.RE
namespace Go.RE
end Go.RE
namespace Go.RE
end Go.RE
namespace Go.RE
theorem w20{h:List Uo}{fl:Nat}{i s m o:Nat}{F:List Nat}{b:Bs}(hb:Ap h fl i s m o F b)(gT:b.done.length<small)(hok:∀ d∈b.done,Eo d):G 20 [.ptr i 0] h fl=some (.own .r 7 (b.done.map ji),h,fl):=by
 obtain⟨⟨lv,rc,dn,ks,hb,r1,r2,r3,rfl⟩,h2⟩:=hb;exact t20 fl h2 hb r3 gT hok
theorem Zl(b:Bs)(o:DZ):∃ N E bs is sc,(jq b o).1=[.int .u64 N,.int .i64 E,.sl 1 bs,.bool is,.sl 2 sc]∧(o.dO=0→N=aK .u64 ((dc b).1:Nat)∧E=((dc b).2.1:Nat))∧(o.dO=4→E=((bA b o.id).2.1:Nat)):=by
 unfold jq;cases e0:o.dO==0 with
 |true=>
  have d0:o.dO=0:=by simpa using e0
  exact⟨_,_,_,_,_,rfl,fun _=>⟨rfl,rfl⟩,fun h=>by omega⟩
 |false=>
  have d0:¬o.dO=0:=by simpa using e0
  cases e1:o.dO==1 with
  |true=>
   have d1:o.dO=1:=by simpa using e1
   obtain⟨bs,is,e,hsh⟩:=wE b o.id o.w.key;exact⟨0,e,bs,is,[],by simp[hsh,tR],fun h=>absurd h d0,fun h=>by omega⟩
  |false=>
   cases e2:o.dO==2 with
   |true=>
    have d2:o.dO=2:=by simpa using e2
    obtain⟨bs,e,hsh⟩:=JM b o.id (o.w.key,o.hi);exact⟨0,e,[],false,bs,by simp[hsh,tS],fun h=>absurd h d0,fun h=>by omega⟩
   |false=>
    cases e3:o.dO==3 with
    |true=>
     have d3:o.dO=3:=by simpa using e3
     exact⟨_,_,_,_,_,rfl,fun h=>absurd h d0,fun h=>by omega⟩
    |false=>
     cases e4:o.dO==4 with
     |true=>exact⟨_,_,_,_,_,rfl,fun h=>absurd h d0,fun _=>rfl⟩
     |false=>
      have d4:¬o.dO=4:=by simpa using e4
      cases e5:o.dO==5 with
      |true=>exact⟨_,_,_,_,_,rfl,fun h=>absurd h d0,fun h=>absurd h d4⟩
      |false=>
       cases e6:o.dO==6 with
       |true=>exact⟨_,_,_,_,_,rfl,fun h=>absurd h d0,fun h=>absurd h d4⟩
       |false=>exact⟨_,_,_,_,_,rfl,fun h=>absurd h d0,fun h=>absurd h d4⟩
theorem Sb{h x:List Uo}{k fl:Nat}(hk:k≤h.length)(hf:fl≤h.length):cut k fl (h++x)=cut k fl h:=by
 unfold cut;rw[Fy (by omega)]
end Go.RE
namespace Go.RE
end Go.RE
namespace Go.RE
attribute [local simp] qjh qji qb1 qb2 qb3 qb4 qb5 qb6 eL
end Go.RE
namespace Go.RE
structure Li where
 k:Int
 v:Int
 b:Int
 m:Int
 r:Int
 n:Int
 z:Nat
def pE(l:Li):List U:=[.int .i64 l.k,.int .i64 l.v,.int .i64 l.b,.int .i64 l.m,.int .i64 l.r,.int .i64 l.n,.int .u64 (l.z:Int)]
def D7(x:Int):Bool:= !(decide (x<1)||decide (1048576<x))
def inN(x:Int):Bool:= !(decide (x<1)||decide (64<x))
def Cy(l:Li):Bool:=D7 l.k&&D7 l.v&&D7 l.b&& !((l.z:Int)==0)
def Eb(l:Li):Bool:=Cy l&&D7 l.m&&D7 l.r&&inN l.n
theorem oF{x:Int}(h:D7 x=true):¬(x<1)∧¬(1048576<x):=by
 unfold D7 at h;simp only[Ae,DT,decide_eq_false_iff_not]at h;exact h
theorem EK{x:Int}(h:D7 x=false):x<1∨(¬(x<1)∧1048576<x):=by
 unfold D7 at h;simp only[FB,uN,decide_eq_true_eq]at h;omega
theorem qhK{x:Int}(h:inN x=true):¬(x<1)∧¬(64<x):=by
 unfold inN at h;simp only[Ae,DT,decide_eq_false_iff_not]at h;exact h
theorem qhJ{x:Int}(h:inN x=false):x<1∨(¬(x<1)∧64<x):=by
 unfold inN at h;simp only[FB,uN,decide_eq_true_eq]at h;omega
theorem ZM{l:Li}(h:Eb l=true):∃ L:Lm,pE l=gf L∧DX L:=by
 unfold Eb Cy at h;simp only[aI]at h;obtain⟨⟨⟨⟨⟨⟨h1,h2⟩,h3⟩,h4⟩,h5⟩,h6⟩,h7⟩:=h;have a1:=oF h1;have a2:=oF h2;have a3:=oF h3;have a5:=oF h5;have a6:=oF h6;have a7:=qhK h7;have hz:l.z≠0:=by
  intro hh;rw[hh]at h4;simp at h4
 refine⟨⟨l.k.toNat,l.v.toNat,l.b.toNat,l.m.toNat,l.r.toNat,l.n.toNat,l.z⟩,?_,⟨by show 1≤l.k.toNat∧l.k.toNat≤_;omega,by show 1≤l.v.toNat∧l.v.toNat≤_;omega,by show 1≤l.b.toNat∧l.b.toNat≤_;omega,by show 1≤l.m.toNat∧l.m.toNat≤_;omega,by show 1≤l.r.toNat∧l.r.toNat≤_;omega,by show 1≤l.n.toNat∧l.n.toNat≤_;omega,hz⟩⟩;have e:∀ x:Int,¬(x<1)→((x.toNat:Nat):Int)=x:=fun x hx=>by omega
 simp only[pE,gf,e _ a1.1,e _ a2.1,e _ a3.1,e _ a5.1,e _ a6.1,e _ a7.1]
theorem qeb:aK .i64 1=1∧aK .i64 2=2∧aK .i64 3=3:=⟨rfl,rfl,rfl⟩
theorem qap(l:Li)(hl:Cy l=false):G 86 [.agg (pE l)] [] 0=some (.aZ [.br,.int .i64 1],[],0):=by
 obtain⟨e1,e2,e3⟩:=qeb;refine bK (fn:=YW) rfl rfl rfl ?_;simp[sV,Pt,Pu,pE];rw[ai lI.eq_1];cases h1:D7 l.k with
 |false=>rcases EK h1 with a|⟨a,b⟩<;>simp[mP,qd,qe,Pv,a, *]
 |true=>
  have a1:=oF h1;simp[mP,qd,qe,uK,a1,e1];rw[ai lI.eq_1];cases h2:D7 l.v with
  |false=>rcases EK h2 with a|⟨a,b⟩<;>simp[mP,qd,qe,Pv,a, *]
  |true=>
   have a2:=oF h2;simp[mP,qd,qe,uK,a2,e2];rw[ai lI.eq_1];cases h3:D7 l.b with
   |false=>rcases EK h3 with a|⟨a,b⟩<;>simp[mP,qd,qe,Pv,a, *]
   |true=>
    have a3:=oF h3;have hz:((l.z:Int)==0)=true:=by
     unfold Cy at hl;rw[h1,h2,h3]at hl;simpa using hl
    simp[mP,qd,qe,uK,a3,e3];rw[ai lI.eq_1];simp[mP,Pw,qcV,hz]
theorem TE(l:Li)(hl:Cy l=true):∃ X,G 86 [.agg (pE l)] [] 0=some (.aZ [.ptr 2 0,.int .i64 0],[.row (pE l),.map [] 0,.row (pE l++X)],0):=by
 obtain⟨e1,e2,e3⟩:=qeb;unfold Cy at hl;simp only[aI]at hl;obtain⟨⟨⟨h1,h2⟩,h3⟩,h4⟩:=hl;have a1:=oF h1;have a2:=oF h2;have a3:=oF h3;have hz:((l.z:Int)==0)=false:=by simpa using h4
 have hz' :¬l.z=0:=by intro hh;rw[hh]at hz;simp at hz
 refine⟨[.int .u64 0,.nl 1,.map 1,.int .i64 0,.int .i64 0,.int .i64 0],?_⟩;refine bK (fn:=YW) rfl rfl rfl ?_;simp[sV,Pt,Pu,pE];rw[ai lI.eq_1];simp[mP,qd,qe,uK,a1,a2,a3,e1];rw[ai lI.eq_1];simp[mP,qd,qe,uK,a1,a2,a3,e2];rw[ai lI.eq_1];simp[mP,qd,qe,uK,a1,a2,a3,e3];rw[ai lI.eq_1];simp[mP,Pw,Nt,hz,hz',pE]
theorem qao(l:Li)(hl:Eb l=false):∃ H f,G 41 [.agg (pE l)] [] 0=some (.aZ [.br,.int .i64 1],H,f)∧f≤H.length:=by
 obtain⟨e1,e2,e3⟩:=qeb
 suffices hh:∃ r h' fl',G 41 [.agg (pE l)] [] 0=some (r,h',fl')∧r=.aZ [.br,.int .i64 1]∧fl'≤h'.length by
  obtain⟨r,h',fl',h1,rfl,h2⟩:=hh;exact⟨h',fl',h1,h2⟩
 refine IW (fn:=v41) (P:=fun r h fl=>r=.aZ [.br,.int .i64 1]∧fl≤h.length) rfl rfl rfl rfl ?_;cases hs:Cy l with
 |false=>
  have c:=qap l hs;simp only[pE]at c;simp[sP,Pj,Pk,Pn,qb0,pE,c]
 |true=>
  obtain⟨X,c⟩:=TE l hs;unfold Eb at hl;rw[hs,PJ]at hl;simp only[pE]at c;simp[sP,Pj,Pk,Pn,Xk,pE,c,iS];rw[ai qU.eq_1];cases h1:D7 l.m with
  |false=>rcases EK h1 with a|⟨a,b⟩<;>simp[xC,Dm,Dn,Xl,a, *]
  |true=>
   have a1:=oF h1;simp[xC,Dm,Dn,Kf,a1,e1];rw[ai qU.eq_1];cases h2:D7 l.r with
   |false=>rcases EK h2 with a|⟨a,b⟩<;>simp[xC,Dm,Dn,Xl,a, *]
   |true=>
    have a2:=oF h2;simp[xC,Dm,Dn,Kf,a2,e2];rw[ai qU.eq_1];have h3:inN l.n=false:=by rw[h1,h2]at hl;simpa using hl
    rcases qhJ h3 with a|⟨a,b⟩<;>simp[xC,Nd,Xi,a, *]
theorem qan(l:Li)(hl:Eb l=false):∃ H f,G 14 [.agg (pE l)] [] 0=some (.br,H,f)∧f≤H.length:=by
 obtain⟨H0,f0,c,hf0⟩:=qao l hl
 suffices hh:∃ r h' fl',G 14 [.agg (pE l)] [] 0=some (r,h',fl')∧r=.br∧fl'≤h'.length by
  obtain⟨r,h',fl',h1,rfl,h2⟩:=hh;exact⟨h',fl',h1,h2⟩
 refine IW (fn:=v14) (P:=fun r h fl=>r=.br∧fl≤h.length) rfl rfl rfl rfl ?_;simp only[pE]at c;cases H0 with
 |nil=>simp[sK,OI,OJ,OK,Vo,pE,c]
 |cons a H0=>
  simp[sK,OI,OJ,OK,Vo,pE,c];simp at hf0;unfold RE.cut;rw[iD];simp only[fV,oS];cases decide (f0=0)with
  |true=>rw[cond_true];omega
  |false=>rw[cond_false];omega
theorem t105(x:Int):G 105 [.int .i64 x] [] 0=some (.bool (D7 x),[],0):=by
 refine bK (fn:=v105) rfl rfl rfl ?_;cases h:D7 x with
 |true=>
  have a:=oF h;have b1:1≤x:=by omega
  have b2:x≤1048576:=by omega
  simp[p9,GV,GW,b1,b2]
 |false=>
  rcases EK h with a|⟨a,b⟩
  ·have b1:¬(1≤x):=by omega
   simp[p9,GV,GW,b1]
  ·have b1:1≤x:=by omega
   have b2:¬(x≤1048576):=by omega
   simp[p9,GV,GW,b1,b2]
theorem t63(l:Li):G 63 [.agg (pE l)] [] 0=some (.bool (Cy l),[],0):=by
 refine bK (fn:=v63) rfl rfl rfl ?_;have c1:=t105 l.k;have c2:=t105 l.v;have c3:=t105 l.b;have hz:decide (1≤(l.z:Int))= !((l.z:Int)==0):=by
  cases h:(l.z:Int)==0 with
  |true=>
   have:(l.z:Int)=0:=by simpa using h
   rw[this];rfl
  |false=>
   have:¬(l.z:Int)=0:=by simpa using h
   exact decide_eq_true (by omega)
 unfold Cy;rw[←hz];cases h1:D7 l.k<;>cases h2:D7 l.v<;>cases h3:D7 l.b<;>cases h4:decide (1≤(l.z:Int))<;>rw[h1]at c1<;>rw[h2]at c2<;>rw[h3]at c3<;>
  simp[Dw,qcD,qcE,pE,c1,c2,c3,h4]<;>simpa using h4
theorem t22(l:Li):G 22 [.agg (pE l)] [] 0=some (.bool (Eb l),[],0):=by
 have c:=t63 l
 suffices hh:∃ x,G 22 [.agg (pE l)] [] 0=some (.bool x,[],0)∧x=Eb l by
  obtain⟨x,h1,rfl⟩:=hh;exact h1
 refine⟨Cy l&&(decide (1≤l.m)&&(decide (l.m≤1048576)&&(decide (1≤l.r)&&(decide (l.r≤1048576)&&(decide (1≤l.n)&&decide (l.n≤64)))))),?_,?_⟩
 ·refine bK (fn:=v22) rfl rfl rfl ?_;simp only[pE]at c;cases h0:Cy l with
  |false=>rw[h0]at c;simp[kD,zW,zX,pE,c]
  |true=>
   rw[h0]at c;cases h1:decide (1≤l.m)with
   |false=>simp[kD,zW,zX,pE,c,h1]
   |true=>
    cases h2:decide (l.m≤1048576)with
    |false=>simp[kD,zW,zX,pE,c,h1,h2]
    |true=>
     cases h3:decide (1≤l.r)with
     |false=>simp[kD,zW,zX,pE,c,h1,h2,h3]
     |true=>
      cases h4:decide (l.r≤1048576)with
      |false=>simp[kD,zW,zX,pE,c,h1,h2,h3,h4]
      |true=>
       cases h5:decide (1≤l.n)with
       |false=>simp[kD,zW,zX,pE,c,h1,h2,h3,h4,h5]
       |true=>cases h6:decide (l.n≤64)<;>simp[kD,zW,zX,pE,c,h1,h2,h3,h4,h5,h6]
 ·have e1:∀ x:Int,D7 x=(decide (1≤x)&&decide (x≤1048576)):=fun x=>by
   unfold D7;by_cases a:x<1<;>by_cases b:1048576<x<;>simp[a,b]<;>omega
  have e2:∀ x:Int,inN x=(decide (1≤x)&&decide (x≤64)):=fun x=>by
   unfold inN;by_cases a:x<1<;>by_cases b:64<x<;>simp[a,b]<;>omega
  unfold Eb;rw[e1,e1,e2];simp only[Bool.and_assoc]
theorem Fg:∀ b:By,kz (bM b)=some b
 |[]=>rfl
 |x::b=>by
  have h1:vQ (Es x)=some x:=by
   show some (UInt8.ofNat ((x.toNat:Int)).toNat)=some x;rw[s7];simp
  show(match vQ (Es x)with|some y=>(match kz (bM b)with|some bs=>some (y::bs)|none=>none)|none=>none)=_;rw[h1,Fg b]
theorem qeN(s:Vs)(b:By):TA s (.sl 1 (bM b))=some (.str b,s):=by
 have h:rowsOf s 1 (.sl 1 (bM b))=some (bM b):=rfl;unfold TA;rw[h];show(kz (bM b)).bind _=_;rw[Fg];rfl
theorem qiF(l:List (By×By))(hl:l.length<small):∀ (j i:Nat),i+j=l.length→
  gL bu mT qT pT v25 0 HV 0 ⟨[(13,.int .i64 (i:Int)),(0,.sl 2 (l.map rH)),(1,.sl 2 (l.map rH)),(12,.int .i64 (l.length:Int))],[],0⟩ (gV bu mT qT pT v25 (.seq (.region M5) .ret) (kE 0 v25 (.bool true,[],0))):=by
 intro j
 induction j with
 |zero=>
  intro i hij;obtain⟨h1,h2⟩:=oq hij;rw[ai HV.eq_1];simp[W6,M5,h1]
 |succ j ih=>
  intro i hij;obtain⟨h1,e3,d,d1,g1⟩:=ry hij hl;have e1:=g1 rH;simp only[rH]at e1;have ih' :=ih (i+1) (by omega);rw[ai HV.eq_1];simp[W6,qbH,az qfs,M6,qbJ,h1,bq e1,e3,qeN,bF];simpa using ih'
theorem t25(l:List (By×By))(hl:l.length<small):G 25 [.sl 2 (l.map rH),.sl 2 (l.map rH)] [] 0=some (.bool true,[],0):=by
 refine bK (fn:=v25) rfl rfl rfl ?_;have a:=qiF l hl l.length 0 (by omega);simp at a;simp[Dj,qbE,qbF,qbG];simpa using a
end Go.RE
namespace Go.RE
open Go.Proofs
theorem S4{H:Type}{enc:TypeId×Value→H}{w:World}{bk:DataW H→Nat}{B:Nat}(hk:FF bk):KL enc Tryz.prog w bk B 32 fun us=>∃ l:Li,us=pE l:=by
 refine(vp hk Tryz.underlying32 (Ss:=[_,_,_,_,_,_,_]) (by kernel_rfl) ⟨lN Tryz.underlying3,lN Tryz.underlying3,lN Tryz.underlying3,lN Tryz.underlying3,lN Tryz.underlying3,lN Tryz.underlying3,lN Tryz.underlying30,trivial⟩).imp fun us h=> ?_;obtain⟨_,_,rfl,⟨a,rfl,_⟩,_,_,rfl,⟨b,rfl,_⟩,_,_,rfl,⟨c,rfl,_⟩,_,_,rfl,⟨d,rfl,_⟩,_,_,rfl,⟨e,rfl,_⟩,_,_,rfl,⟨f,rfl,_⟩,_,_,rfl,⟨g,rfl,hg⟩,rfl⟩:=h;have h0:0≤g:=by
  simp[Lit.wf,IntKind.min,IntKind.max,IntKind.bits,IntKind.signed]at hg;omega
 refine⟨⟨a,b,c,d,e,f,g.toNat⟩,?_⟩;show _=[U.int .i64 a,.int .i64 b,.int .i64 c,.int .i64 d,.int .i64 e,.int .i64 f,.int .u64 ((g.toNat:Nat):Int)];rw[Int.toNat_of_nonneg h0];rfl
end Go.RE
namespace Go.RE
theorem RW(p:Nat→Bool):∀ (f i j:Nat),i≤j→j - i<f→(i<pK p f i j→p (pK p f i j - 1)=true)∧(pK p f i j<j→p (pK p f i j)=false):=by
 intro f
 induction f with
 |zero=>intro i j _ h;omega
 |succ f ih=>
  intro i j hij hf;simp only[pK];cases hlt:decide (i<j)with
  |false=>
   have:=of_decide_eq_false hlt;exact⟨fun h=>by simp at h,fun h=>by simp at h;omega⟩
  |true=>
   have hlt' :=of_decide_eq_true hlt;obtain⟨m,hm⟩:∃ m,m=(i+j) / 2:=⟨_,rfl⟩;rw[←hm];simp only[cond_true];cases hp:p m with
   |true=>
    simp only[cond_true];obtain⟨a,b⟩:=ih (m+1) j (by omega) (by omega);have hb:=fM p f (m+1) j (by omega);refine⟨fun _=> ?_,b⟩;by_cases h:m+1<pK p f (m+1) j
    ·exact a h
    ·rw[show pK p f (m+1) j - 1=m by omega];exact hp
   |false=>
    simp only[cond_false];obtain⟨a,b⟩:=ih i m (by omega) (by omega);have hb:=fM p f i m (by omega);refine⟨a,fun _=> ?_⟩;by_cases h:pK p f i m<m
    ·exact b h
    ·rw[show pK p f i m=m by omega];exact hp
theorem JI:∀ (l:List jb) (a:Nat),dg a l=true→∀ i (hi:i<l.length),a<l[i].At
 |[],_,_,i,hi=>absurd hi (Nat.not_lt_zero _)
 |v::r,a,h,i,hi=>by
  simp only[dg,aI,Ae,DT,decide_eq_false_iff_not]at h;cases i with
  |zero=>show a<v.At;omega
  |succ i=>
   have h3:i<r.length:=by simpa using hi
   have:=JI r v.At h.2 i h3;show a<r[i].At;omega
theorem vz:∀ (l:List jb) (a:Nat),dg a l=true→∀ i j (hi:i<j) (hj:j<l.length),l[i].At<l[j].At
 |[],_,_,i,j,_,hj=>absurd hj (Nat.not_lt_zero _)
 |v::r,a,h,i,j,hi,hj=>by
  simp only[dg,aI]at h;cases j with
  |zero=>omega
  |succ j=>
   cases i with
   |zero=>exact JI r v.At h.2 j (by simpa using hj)
   |succ i=>exact vz r v.At h.2 i j (by omega) (by simpa using hj)
theorem sF{l:List jb}{a:Nat}(h:dg a l=true)(t:Nat)(j:Nat)(hj:j<l.length):j<upto l t↔l[j].At≤t:=by
 obtain⟨p1,p2⟩:=RW (fun j=>decide ((l[j]?.getD default).At≤t)) (l.length+1) 0 l.length (bU _) (by omega);have hle:=mX l t;have hg:∀ i (hi:i<l.length),(l[i]?.getD default).At=l[i].At:=fun i hi=>by simp[hi]
 change(0<upto l t→_)at p1;change(upto l t<l.length→decide ((l[upto l t]?.getD default).At≤t)=false)at p2;change(0<upto l t→decide ((l[upto l t - 1]?.getD default).At≤t)=true)at p1;constructor
 ·intro hlt;have a1:=of_decide_eq_true (p1 (by omega));rw[hg (upto l t - 1) (by omega)]at a1;by_cases he:j=upto l t - 1
  ·subst he;exact a1
  ·have:=vz l a h j (upto l t - 1) (by omega) (by omega);omega
 ·intro hat;by_cases hlt:j<upto l t
  ·exact hlt
  ·have a1:=of_decide_eq_false (p2 (by omega));rw[hg (upto l t) (by omega)]at a1;by_cases he:j=upto l t
   ·subst he;omega
   ·have:=vz l a h (upto l t) j (by omega) hj;omega
theorem qar{l:List jb}{a:Nat}(h:dg a l=true)(t n:Nat)(hn:n≤l.length)(hall:∀ j (hj:j<l.length),j<n↔l[j].At≤t):upto l t=n:=by
 have hle:=mX l t;by_cases h1:upto l t<n
 ·have:=(sF h t (upto l t) (by omega)).2 ((hall _ (by omega)).1 h1);omega
 ·by_cases h2:n<upto l t
  ·have:=(hall n (by omega)).2 ((sF h t n (by omega)).1 h2);omega
  ·omega
theorem Fh{l:List jb}{a:Nat}(h:dg a l=true)(t m:Nat)(hm:m≤upto l t):upto (l.drop m) t=upto l t - m:=by
 have hle:=mX l t;refine qar (sB l m a h) t _ (by rw[uO];omega) fun j hj=> ?_;rw[uO]at hj;rw[PR,←sF h t (m+j) (by omega)];omega
theorem Re{l:List jb}{a:Nat}(h:dg a l=true){s t:Nat}(hst:s≤t):upto l s≤upto l t:=by
 have hle:=mX l s;by_cases h1:upto l s≤upto l t
 ·exact h1
 ·have:=(sF h s (upto l t) (by omega)).1 (by omega);have:=(sF h t (upto l t) (by omega)).2 (by omega);omega
theorem J8{l:List jb}(h:dg 0 l=true){low t:Nat}(hlt:low≤t):jI (cT l low) t=jI l t:=by
 have hm:=Re h hlt;have hle:=mX l t;unfold cT;cases hu:upto l low with
 |zero=>rfl
 |succ n=>
  have hnl:n<l.length:=by omega
  have key:∀ m,m<upto l t→jI (l.drop m) t=jI l t:=fun m hm=>by
   unfold jI BR;rw[Fh h t m (by omega)];obtain⟨k,hk⟩:∃ k,upto l t=m+k+1:=⟨upto l t - m - 1,by omega⟩;rw[hk,show m+k+1 - m=k+1 by omega];dsimp only;rw[jX]
  have hg:l[n]?.getD default=l[n]:=by simp[hnl]
  dsimp only;rw[hg];cases hgo:l[n].rE with
  |false=>exact key n (by omega)
  |true=>
   rw[cond_true];by_cases h2:n+1<upto l t
   ·exact key (n+1) h2
   ·have he:upto l t=n+1:=by omega
    unfold jI BR;rw[Fh h t (n+1) (by omega),he,Nat.sub_self];dsimp only;rw[aQ hnl];dsimp only;rw[hgo];rfl
theorem Sv(t:Nat):jI [] t=none:=by
 unfold jI BR;have:=mX [] t;rw[show upto [] t=0 by simpa using this]
theorem qd6(x:By):lt x []=false:=by cases x<;>rfl
theorem JZ(ks:List By):om ks []=0:=by
 obtain⟨p1,_⟩:=RW (fun j=>lt (ks[j]?.getD []) []) (ks.length+1) 0 ks.length (bU _) (by omega);by_cases h:0<om ks []
 ·have:=p1 h;rw[qd6]at this;cases this
 ·omega
theorem Cu(d d' :Db)(hi:By)(t:Nat):∀ ks:List By,(∀ k∈ks,jI (chain d k) t=jI (chain d' k) t)→mO d hi t ks=mO d' hi t ks
 |[],_=>rfl
 |k::r,h=>by
  simp only[mO];rw[h k cB,Cu d d' hi t r fun k hk=>h k (eu _ hk)]
theorem E5(d:Db)(t:Nat)(f:By→Bool):∀ ks:List By,(∀ k∈ks,f k=false→jI (chain d k) t=none)→mO d [] t (ks.filter f)=mO d [] t ks
 |[],_=>rfl
 |k::r,h=>by
  have ih:=E5 d t f r fun k hk=>h k (eu _ hk);rw[mw];cases hf:f k with
  |true=>rw[if_pos rfl];simp only[mO];rw[ih]
  |false=>
   rw[if_neg (by simp),ih];simp only[mO];rw[h k cB hf];simp
theorem Qh{d:Db}(hk:Yt d)(low:Nat):(cV d low).keys=d.keys.filter fun k=> !(cT (chain d k) low).isEmpty:=by
 obtain⟨a1,a2,a3⟩:=qds low d.keys {d with sk:=0,sv:=0,sb:=0} [] hk.Jq hk.of;show(d.keys.foldl (gZ low) ({d with sk:=0,sv:=0,sb:=0},[])).2=_;rw[a3];rfl
theorem R7{d:Db}(hk:Yt d)(hw:Ir d){low t:Nat}(hlt:low≤t)(k:By):jI (chain (cV d low) k) t=jI (chain d k) t:=by
 rw[(tg hk low).1 k];exact J8 (vR hw k).1 hlt
theorem R6{d:Db}(hk:Yt d)(hw:Ir d){low t:Nat}(hlt:low≤t):iA (cV d low) [] [] t=iA d [] [] t:=by
 unfold iA;rw[JZ,JZ,s8,s8,Cu (cV d low) d [] t _ fun k _=>R7 hk hw hlt k,Qh hk];refine E5 d t _ _ fun k _ hf=> ?_;have he:cT (chain d k) low=[]:=by simpa using hf
 rw[←J8 (vR hw k).1 hlt,he,Sv]
theorem ZP(l:List Tx):∀ a:Nat,l.foldl (fun n t=>mn n t.began) a≤a:=by
 induction l with
 |nil=>intro a;exact ak _
 |cons x r ih=>intro a;rw[mz];exact j0 (ih _) (by unfold mn;omega)
theorem NY(b:Bs):dQ b≤b.db.now:=ZP b.live b.db.now
theorem Y5{b:Bs}{n:Nat}(hb:BI b n){low:Nat}(hl:low≤b.db.now)(c:Bs)(hc:c.db=cV b.db low):xW c=xW b:=by
 unfold xW;rw[hc,(nB b.db low).2];exact R6 hb.d.k hb.d.w hl
theorem zD(d:Db)(l:List Wt)(low:Nat):((bH d l low).2.1=0→((bH d l low).2.2=d∧(bH d l low).1=d.now)∨((bH d l low).2.2.now=d.now+1∧(bH d l low).1=d.now+1))∧(¬(bH d l low).2.1=0→(bH d l low).2.2=d∨(bH d l low).2.2=cV d low):=by
 unfold bH;cases hc:fH none l==0 with
 |false=>
  have:¬fH none l=0:=by simpa using hc
  exact⟨fun h=>absurd h this,fun _=> .inl rfl⟩
 |true=>
  cases he:l.isEmpty with
  |true=>exact⟨fun _=> .inl ⟨rfl,rfl⟩,fun h=>absurd rfl h⟩
  |false=>
   cases decide (d.lim.last≤d.now)with
   |true=>exact⟨(fun h=>by cases h),fun _=> .inl rfl⟩
   |false=>
    have hcn:=(nB d low).2;cases ri d (bw d l).2 with
    |true=>exact⟨fun _=> .inr ⟨(pM d (bw d l)).2,rfl⟩,fun h=>absurd rfl h⟩
    |false=>
     cases ri (cV d low) (bw (cV d low) l).2 with
     |true=>exact⟨fun _=> .inr ⟨by have:=(pM (cV d low) (bw (cV d low) l)).2;rw[hcn]at this;exact this,rfl⟩,fun h=>absurd rfl h⟩
     |false=>exact⟨(fun h=>by cases h),fun _=> .inr rfl⟩
structure Quiet(b b' :Bs):Prop where
 now:b'.db.now=b.db.now
 all:xW b' =xW b
theorem Quiet.same{b b' :Bs}(h:b'.db=b.db):Quiet b b' :=⟨by rw[h],by unfold xW;rw[h]⟩
theorem Quiet.col{b b' :Bs}{n:Nat}(hb:BI b n){low:Nat}(hl:low≤b.db.now)(h:b'.db=cV b.db low):Quiet b b' :=⟨by rw[h];exact(nB b.db low).2,Y5 hb hl b' h⟩
theorem vS{b:Bs}{n:Nat}(hb:BI b n)(id:Int):
  ((bA b id).2.1=0→(bA b id).2.2.done.length=b.done.length+1∧(bA b id).1=(bA b id).2.2.db.now∧(Quiet b (bA b id).2.2∨(bA b id).2.2.db.now=b.db.now+1))∧
  (¬(bA b id).2.1=0→(bA b id).2.2.done.length=b.done.length∧Quiet b (bA b id).2.2):=by
 unfold bA;cases ht:mW b id with
 |none=>exact⟨(fun h=>by cases h),fun _=>⟨rfl,.same rfl⟩⟩
 |some t=>
  dsimp only;obtain⟨k1,k2,k3,k4,k5⟩:=qs b t;have hlow:dQ (aY b (aP b t).1)≤b.db.now:=NY (aY b (aP b t).1);cases he:(aM b t).2.2.1==0 with
  |true=>
   have he0:(aM b t).2.2.1=0:=by simpa using he
   refine⟨fun _=>⟨?_,?_⟩,fun h=>absurd rfl h⟩
   ·show((aM b t).2.2.2.done++[_]).length=_;rw[k2,gX];rfl
   ·show(aM b t).2.1=(aM b t).2.2.2.db.now∧(Quiet b (kM (ig (aM b t).2.2.2 t (aM b t).1 (aM b t).2.1) id)∨(aM b t).2.2.2.db.now=b.db.now+1);have hq:(aM b t).2.2.2.db=b.db→Quiet b (kM (ig (aM b t).2.2.2 t (aM b t).1 (aM b t).2.1) id):=fun h=>Quiet.same h;unfold aM at he0 hq⊢;cases hc:kU b t with
    |true=>rw[hc]at he0;cases he0
    |false=>
     rw[hc]at he0 hq;simp only[cond_false]at he0 hq⊢;cases hj:o9 b.aj (vu b t)with
     |none=>rw[hj]at he0;cases he0
     |some out=>
      rw[hj]at he0 hq;dsimp only at he0 hq⊢;have hat:=(zD b.db (aP b t).2.1 (dQ (aY b (aP b t).1))).1;cases hd:(bH b.db (aP b t).2.1 (dQ (aY b (aP b t).1))).2.1==0 with
      |false=>
       rw[hd]at he0;have:¬(bH b.db (aP b t).2.1 (dQ (aY b (aP b t).1))).2.1=0:=by simpa using hd
       exact absurd he0 this
      |true=>
       have hd0:(bH b.db (aP b t).2.1 (dQ (aY b (aP b t).1))).2.1=0:=by simpa using hd
       rw[hd]at hq;simp only[cond_true]at hq⊢;rcases hat hd0 with⟨h1,h2⟩|⟨h1,h2⟩
       ·exact⟨by rw[h1,h2],.inl (hq h1)⟩
       ·exact⟨by rw[h1,h2],.inr h1⟩
  |false=>
   have he0:¬(aM b t).2.2.1=0:=by simpa using he
   refine⟨fun h=>absurd h he0,fun _=>⟨?_,?_⟩⟩
   ·show(aM b t).2.2.2.done.length=_;rw[k2]
   ·have hq:(aM b t).2.2.2.db=b.db∨(aM b t).2.2.2.db=cV b.db (dQ (aY b (aP b t).1)):=by
     unfold aM at he0⊢;cases hc:kU b t with
     |true=>exact .inl rfl
     |false=>
      rw[hc]at he0;simp only[cond_false]at he0⊢;cases hj:o9 b.aj (vu b t)with
      |none=>exact .inl rfl
      |some out=>
       rw[hj]at he0;dsimp only at he0⊢;have hat:=(zD b.db (aP b t).2.1 (dQ (aY b (aP b t).1))).2;cases hd:(bH b.db (aP b t).2.1 (dQ (aY b (aP b t).1))).2.1==0 with
       |true=>rw[hd]at he0;exact absurd rfl he0
       |false=>
        have hd0:¬(bH b.db (aP b t).2.1 (dQ (aY b (aP b t).1))).2.1=0:=by simpa using hd
        exact hat hd0
    rcases hq with h|h
    ·exact .same h
    ·exact .col hb hlow h
theorem K5{b:Bs}{n:Nat}(hb:BI b n)(o:DZ)(h4:¬o.dO=4):(jq b o).2.done.length=b.done.length∧Quiet b (jq b o).2:=by
 have same:∀ b' :Bs,b'.done=b.done→b'.db=b.db→b'.done.length=b.done.length∧Quiet b b' :=fun b' h1 h2=>⟨by rw[h1],.same h2⟩;unfold jq;cases e0:o.dO==0 with
 |true=>
  rw[cond_true];refine same _ ?_ ?_<;>(show _;unfold dc;cases decide (b.db.lim.live≤b.live.length)<;>rfl)
 |false=>
  rw[cond_false];cases e1:o.dO==1 with
  |true=>
   refine same _ ?_ ?_<;>
    (show _;unfold jt;cases mW b o.id with
     |none=>rfl
     |some t=>dsimp only;cases fW pq o.w.key t.cO<;>rfl)
  |false=>
   rw[cond_false];cases e2:o.dO==2 with
   |true=>
    refine same _ ?_ ?_<;>
     (show _;unfold l9;cases mW b o.id with
      |none=>rfl
      |some t=>dsimp only;cases dX (o.w.key,o.hi)<;>rfl)
   |false=>
    rw[cond_false];cases e3:o.dO==3 with
    |true=>
     refine same _ ?_ ?_<;>
      (show _;unfold fh;cases mW b o.id with
       |none=>rfl
       |some t=>dsimp only;cases gY none o.w==0<;>rfl)
    |false=>
     rw[cond_false];cases e4:o.dO==4 with
     |true=>exact absurd (by simpa using e4) h4
     |false=>
      rw[cond_false];cases e5:o.dO==5 with
      |true=>
       rw[cond_true];show(iI b o.id).2.done.length=_∧Quiet b (iI b o.id).2;unfold iI;cases mW b o.id with
       |none=>exact same _ rfl rfl
       |some t=>exact same _ rfl rfl
      |false=>
       rw[cond_false];cases e6:o.dO==6 with
       |true=>exact⟨rfl,.col hb (NY b) rfl⟩
       |false=>exact same _ rfl rfl
theorem Sc(b:Bs)(o:DZ)(h:o.dO=4):jq b o=(tN ((bA b o.id).1:Nat) ((bA b o.id).2.1:Nat),(bA b o.id).2.2):=by
 unfold jq;simp[h]
end Go.RE
namespace Go.RE
theorem w23{h:List Uo}{fl:Nat}{i s m o:Nat}{F:List Nat}{b:Bs}(hb:Ap h fl i s m o F b)(hd:pG b.db):G 23 [.ptr i 0] h fl=some (.own .r 2 ((xW b).map rH),h,fl):=by
 obtain⟨⟨lv,rc,dn,ks,hb,r1,r2,r3,rfl⟩,h2⟩:=hb;exact t23 fl h2 hb r1 hd
theorem w24{h:List Uo}{fl:Nat}{i s m o:Nat}{F:List Nat}{b:Bs}(hb:Ap h fl i s m o F b):G 24 [.ptr i 0] h fl=some (.int .u64 (b.db.now:Int),h,fl):=by
 obtain⟨⟨lv,rc,dn,ks,hb,r1,r2,r3,rfl⟩,h2⟩:=hb;exact t24 fl h2 hb.row hb.st.row
theorem Rx(b:Bs):(xW b).length≤b.db.keys.length:=by
 refine j0 (Q2 _ _ _ _) ?_;rw[uO];omega
theorem qkY(L:List DZ)(hL:L.length<small)(hok:∀ o∈L,Rv o)(n i s m o:Nat)(W:Uo)(hi:i<n)(K:Ex→Vs→Prop)
  (hK:∀ h fl,K .normal ⟨[],h,fl⟩):
  ∀ (j q c:Nat) (h:List Uo) (fl:Nat) (F:List Nat) (b:Bs),q+j=L.length→c+j<200→BI b c→Run h fl n i s m o F b W→
  gL bu mT qT pT v5 0 zu n ⟨[(29,.int .i64 (q:Int)),(5,.ptr i 0),(27,.sl 6 (L.map eL)),(28,.int .i64 (L.length:Int))],h,fl⟩ K:=by
 intro j
 induction j with
 |zero=>
  intro q c h fl F b hij hc hb hr;obtain⟨h1,h2⟩:=oq hij;rw[ai zu.eq_1];simp[Rh,h1];exact hK _ _
 |succ j ih=>
  intro q c h fl F b hij hc hb hr;obtain⟨h1,e3,p,d1,g1⟩:=ry hij hL;have e1:=g1 eL;have hp:Rv p:=hok p (iF (i:=q) (by rw[d1];exact cB));have hFl:=hr.at_.lt;have hfl:=hr.at_.fle;have gT:=hb.dl;have hnw:=hb.now;have hkl:=hb.kl;have b20:=w20 (hr.at_.app (x:=[.row (eL p)])) (by unfold small;omega) hb.Zm;have b23:=w23 (hr.at_.app (x:=[.row (eL p)])) hb.d.r.ok;have b24:=w24 (hr.at_.app (x:=[.row (eL p)]));obtain⟨h',fl',F',c1,l1⟩:=t16 (hr.at_.app (x:=[.row (eL p)])) (hb.pre (by omega)) p hp;have hop:h'[h.length]? =some (.row (eL p)):=by
   rw[l1.gr.2.1 h.length (by simp) (fun hh=>by have:=hFl _ hh;omega),Rz]
  have hlen' :h.length+1≤h'.length:=by have:=l1.gr.1;simpa using this
  have hopx:∀ x,(h'++x)[h.length]? =some (.row (eL p)):=fun x=>aX hop;have hfl' :=l1.at_.fle;have hcm:∀ x,RE.cut h.length fl' (h'++x)=RE.cut h.length fl' h' :=fun x=>Sb (by omega) hfl';have l2:=l1.plain hfl hFl (by simp);have r2:=(hr.left l2).cut;have hb2:=hb.qhg (by omega) hp;have hdl2:=hb2.dl;have hnw2:=hb2.now;have hal:(xW b).length<small:=by have:=Rx b;unfold small;omega
  have c25:=t25 (xW b) hal;have ih' :=ih (q+1) (c+1) _ _ _ _ (by omega) (by omega) hb2 r2;have hin:decide (i<n)=true:=decide_eq_true hi;have hih:decide (i<h.length)=true:=decide_eq_true (by have:=hr.nle;omega);have hilt:i<h'.length:=by have:=hr.nle;omega
  obtain⟨N,E,bs,is,sc,hsh,hN,hE⟩:=Zl b p;have a20:=fun x=>w20 (l1.at_.app (x:=x)) (by unfold small;omega) hb2.Zm;have a23:=fun x=>w23 (l1.at_.app (x:=x)) hb2.d.r.ok;have a24:=fun x=>w24 (l1.at_.app (x:=x));by_cases hq:p.dO=4∧(bA b p.id).2.1=0
  ·obtain⟨d4,he0⟩:=hq;obtain⟨q1,q2,q3⟩:=(vS hb p.id).1 he0;have hd4:=Sc b p d4;have hb' :(jq b p).2=(bA b p.id).2.2:=by rw[hd4]
   rw[←hb']at q1 q2 q3;have hsh2:(jq b p).1=tN ((jq b p).2.db.now:Nat) 0:=by rw[q2.symm];rw[hd4,he0];rfl
   rw[hsh2]at c1;simp only[tN]at c1;have w1:aK .i64 ((b.done.length:Int)+1)=((b.done.length+1:Nat):Int):=fC (by omega);have w2:aK .u64 ((b.db.now:Int)+1)=((b.db.now+1:Nat):Int):=by
    rw[show(b.db.now:Int)+1=((b.db.now+1:Nat):Int) by omega];exact Im (n:=b.db.now+1) (by omega)
   have k1:((jq b p).2.done.length:Int)=(b.done.length:Int)+1:=by omega
   generalize hB:(jq b p).2=B at*;simp only[eL,d4]at e1 c1 hop hopx b20 b23 b24 ih';rw[ai zu.eq_1];have k2:¬((b.db.now:Int)+1<(b.db.now:Int)):=by omega
   have k3:¬((b.done.length:Int)+1=(b.done.length:Int)):=by omega
   have k4:(b.db.now:Int)<(b.db.now:Int)+1:=by omega
   rcases q3 with⟨n1,n2⟩|n1
   ·have a23' :=a23;rw[n2]at a23';have a24' :=a24;rw[n1]at a24' c1;simp[Rh,XH,XI,Kh,Ki,az XE,Np,XF,Kj,Kk,Kl,eL,h1,bq e1,e3,b20,b23,b24,c1,hin,hih,hilt,hopx,hcm,a20,a23',a24',w1,w2,k1,k2,k3,c25,bF];simpa using ih'
   ·have a24' :=a24;rw[n1]at a24' c1;simp[Rh,XH,XI,Kh,Ki,az XE,Np,XF,Kj,Kk,Kl,eL,h1,bq e1,e3,b20,b23,b24,c1,hin,hih,hilt,hopx,hcm,a20,a24',w1,w2,k1,k2,k3,k4,bF];simpa using ih'
  ·have hq2:(jq b p).2.done.length=b.done.length∧Quiet b (jq b p).2:=by
    by_cases d4:p.dO=4
    ·have he0:¬(bA b p.id).2.1=0:=fun hh=>hq ⟨d4,hh⟩;have:=(vS hb p.id).2 he0;rw[Sc b p d4];exact this
    ·exact K5 hb p d4
   obtain⟨q1,n1,n2⟩:=hq2;have hE4:p.dO=4→¬E=0:=fun d4 hh=>hq ⟨d4,by have:=hE d4;omega⟩;rw[hsh]at c1;have a23' :=a23;rw[n2]at a23';have a24' :=a24;rw[n1]at a24';have k1:((jq b p).2.done.length:Int)=(b.done.length:Int):=by omega
   clear hsh hN hE;generalize hB:(jq b p).2=B at*;by_cases d4:p.dO=4
   ·have hE0:=hE4 d4;simp only[eL,d4]at e1 c1 hop hopx b20 b23 b24 ih';rw[ai zu.eq_1];simp[Rh,XH,XI,Kh,Ki,Kj,Kk,Kl,eL,h1,bq e1,e3,b20,b23,b24,c1,hin,hih,hilt,hopx,hcm,a20,a23',a24',k1,c25,hE0];simpa using ih'
   ·have d4' :(p.dO==4)=false:=by simpa using d4
    simp only[eL]at e1 c1 hop hopx b20 b23 b24 ih';rw[ai zu.eq_1];simp[Rh,XH,XI,Kh,Ki,Kj,Kk,Kl,eL,h1,bq e1,e3,b20,b23,b24,c1,hin,hih,hilt,hopx,hcm,a20,a23',a24',k1,c25,d4',d4];simpa using ih'
end Go.RE
namespace Go.RE
theorem qiL(l:Li)(L:List DZ)(hl:L.length<small)(hg:IL L=false):∃ H f,G 5 [.agg (pE l),.sl 6 (L.map eL)] [] 0=some (.bool true,H,f):=by
 obtain⟨H,f,hv,hvf⟩:=t12;have c1:=t13 L hl;rw[hg]at c1
 suffices hh:∃ r h' fl',G 5 [.agg (pE l),.sl 6 (L.map eL)] [] 0=some (r,h',fl')∧r=.bool true by
  obtain⟨r,h',fl',h1,rfl⟩:=hh;exact⟨h',fl',h1⟩
 refine IW (fn:=v5) (P:=fun r _ _=>r=.bool true) rfl rfl rfl rfl ?_;cases H<;>simp[uq,XC,XD,qjq,pE,hv,c1]
theorem qfg(l:Li)(L:List DZ)(hl:L.length<small)(hg:IL L=true)(hb:Eb l=false):∃ H f,G 5 [.agg (pE l),.sl 6 (L.map eL)] [] 0=some (.bool true,H,f):=by
 obtain⟨H,f,hv,hvf⟩:=t12;have c1:=t13 L hl;rw[hg]at c1;obtain⟨H2,f2,m1,hf2⟩:=qan l hb;have m2:=t22 l;rw[hb]at m2
 suffices hh:∃ r h' fl',G 5 [.agg (pE l),.sl 6 (L.map eL)] [] 0=some (r,h',fl')∧r=.bool true by
  obtain⟨r,h',fl',h1,rfl⟩:=hh;exact⟨h',fl',h1⟩
 simp only[pE]at m1 m2;refine IW (fn:=v5) (P:=fun r _ _=>r=.bool true) rfl rfl rfl rfl ?_;cases H<;>cases H2<;>simp[uq,XC,XD,qaA,qaB,qjr,pE,hv,c1,m1,m2]
theorem qfh(M:Lm)(hM:DX M)(L:List DZ)(hg:IL L=true):∃ H f,G 5 [.agg (gf M),.sl 6 (L.map eL)] [] 0=some (.bool true,H,f):=by
 obtain⟨hL,hl⟩:=Zq hg;obtain⟨H,f,hv,hvf⟩:=t12;have c1:=t13 L (by unfold small;omega);rw[hg]at c1;have m1:=t14 M hM
 suffices hh:∃ r h' fl',G 5 [.agg (gf M),.sl 6 (L.map eL)] [] 0=some (r,h',fl')∧r=.bool true by
  obtain⟨r,h',fl',h1,rfl⟩:=hh;exact⟨h',fl',h1⟩
 refine IW (fn:=v5) (P:=fun r _ _=>r=.bool true) rfl rfl rfl rfl ?_;have run:∀ (X:List Uo) (fl:Nat),fl≤X.length→_:=fun X fl hfl=>
  qkY L (by unfold small;omega) hL (X.length+7) (6+X.length) (4+X.length) (5+X.length) (3+X.length)
   ((X++[.row (gf M),.row (gf M),.row (gf M),.map [] 0,.row (dD (Rn M) (3+X.length) (.nl 1)),.map [] 0,.row (dm (D1 M) (4+X.length) (5+X.length) (.nl 6) (.nl 7))])[0]?.getD (.gone)) (by omega)
   (gV bu mT qT pT v5 (.seq (.region XG) .ret) (kX 0 v5 fun r _ _=>r=.bool true))
   (fun h fl=>by simp[XG,kX])
   L.length 0 0 _ fl [6+X.length,4+X.length,5+X.length,3+X.length] (D1 M) (by omega) (by omega) (BI.zero hM)
   ⟨qdg M X fl hfl,by simp,fun x hx=>by simp at hx;omega,by
    cases X with
    |nil=>rfl
    |cons a X=>rfl,by omega⟩
 simp only[gf,dD,dm]at m1 run;cases H with
 |nil=>
  have a:=run [.row (gf M)] 0 (by simp);simp[gf]at a;simp[uq,XC,XD,qaA,qaB,qfz,hv,c1,m1,iS,gf,dD,dm,RE.cut];simpa using a
 |cons q H=>
  have a:=run (.row (gf M)::(q::H).map (eV 1)) (bif Nat.beq f 0 then 0 else 1+f) (by
   simp only[fV,oS]at hvf⊢;cases Nat.beq f 0 with
   |true=>simp only[cond_true];omega
   |false=>simp only[cond_false];omega)
  simp[gf]at a;have e9:H.length+1+1+7=H.length+7+1+1:=by omega
  rw[e9]at a;have hcut:∀ l:List Uo,l.length=H.length+7+1+1→RE.cut (H.length+7+1+1) (bif decide (f=0)then 0 else 1+f) l=l:=fun l hl=>by
   unfold RE.cut;exact gu (by rw[hl];omega)
  have hd:decide (6+(H.length+1+1)<H.length+7+1+1)=true:=decide_eq_true (by omega);simp[uq,XC,XD,qaA,qaB,qfz,hv,c1,m1,iS,gf,dD,dm,hcut,hd];simpa using a
theorem t5(l:Li)(L:List DZ)(hl:L.length<small):∃ H f,G 5 [.agg (pE l),.sl 6 (L.map eL)] [] 0=some (.bool true,H,f):=by
 cases hg:IL L with
 |false=>exact qiL l L hl hg
 |true=>
  cases hb:Eb l with
  |false=>exact qfg l L hl hg hb
  |true=>
   obtain⟨M,e,hM⟩:=ZM hb;rw[e];exact qfh M hM L hg
end Go.RE
