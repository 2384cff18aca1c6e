/- Contracts: Does. -/
import Derived.Test.YtmpopachilfinaaGreatPart20
import Derived.Test.YtmpopachilfinaaGreatPart12
set_option linter.unusedVariables false
set_option linter.unusedSimpArgs false
set_option linter.unnecessarySimpa false
namespace Go.RE
def tR:U→List U
 | .aV [x,y,z]=>[.int .u64 0,z,x,y,.sl 2 []]
 |_=>[]
def tS:U→List U
 | .aV [x,z]=>[.int .u64 0,z,.sl 1 [],.bool false,x]
 |_=>[]
def tN(n e:Int):List U:=[.int .u64 n,.int .i64 e,.sl 1 [],.bool false,.sl 2 []]
def Ao(b:Bs)(o:ta):List U×Bs:=
 bif o.dO==0 then(tN (aI .u64 ((aF b).1:Nat)) ((aF b).2.1:Nat),(aF b).2.2)
 else bif o.dO==1 then(tR (iF b o.id o.w.key).1,(iF b o.id o.w.key).2)
 else bif o.dO==2 then(tS (jW b o.id (o.w.key,o.hi)).1,(jW b o.id (o.w.key,o.hi)).2)
 else bif o.dO==3 then(tN 0 ((bI b o.id o.w).1:Nat),(bI b o.id o.w).2)
 else bif o.dO==4 then(tN ((aU b o.id).1:Nat) ((aU b o.id).2.1:Nat),(aU b o.id).2.2)
 else bif o.dO==5 then(tN 0 ((iH b o.id).1:Nat),(iH b o.id).2)
 else bif o.dO==6 then(tN (aI .u64 (Af b).1) 0,(Af b).2)
 else(tN 0 0,b)
theorem A4(b:Bs)(id:Int)(k:By):∃ bs is e,(iF b id k).1=.aV [.sl 1 bs,.bool is,.int .i64 e]:=by
 unfold iF;cases eR b id with
 |none=>exact⟨_,_,_,rfl⟩
 |some t=>dsimp only;cases fK nA k t.bT<;>exact⟨_,_,_,rfl⟩
theorem QK(b:Bs)(id:Int)(s:cA):∃ bs e,(jW b id s).1=.aV [.sl 2 bs,.int .i64 e]:=by
 unfold jW;cases eR b id with
 |none=>exact⟨_,_,rfl⟩
 |some t=>dsimp only;cases dP s<;>exact⟨_,_,rfl⟩
def yA(o:ta):Prop:=o.w.key.length≤300∧o.w.data.length≤5000∧o.hi.length≤300
theorem t16{h:List Uo}{fl:Nat}{i s m o:Nat}{F:List Nat}{b:Bs}{k:Nat}(hb:Cy h fl i s m o F b)(hp:Pre b k)(q:ta)(hq:yA q):
  ∃ h' fl' F',G 16 [.ptr i 0,.agg (dF q)] h fl=some (.agg (Ao b q).1,h',fl')∧Left h h' fl fl' i s m o F F' (Ao b q).2:=by
 have hF:=hb.lt;have hfl:=hb.fle;have hi:i<h.length:=by
  obtain⟨lv,rc,dn,ks,hb,_⟩:=hb.at_;exact(bn.1 hb.row).1
 have hbx:Cy (h++[.row (dF q),.row [.int .u64 0,.int .i64 0,.sl 1 [],.bool false,.sl 2 []]]) fl i s m o F b:=hb.app;have hlast:∀ {h' :List Uo} {F' :List Nat} {fl' :Nat} {b' :Bs},Left (h++[.row (dF q),.row [.int .u64 0,.int .i64 0,.sl 1 [],.bool false,.sl 2 []]]) h' fl fl' i s m o F F' b'→
   h'[h.length+1]? =some (.row [.int .u64 0,.int .i64 0,.sl 1 [],.bool false,.sl 2 []])∧∀ X:Uo,(h'.set (h.length+1) X)[h.length+1]? =some X:=by
  intro h' F' fl' b' hl;have h1:=hl.gr.2.1 (h.length+1) (by simp) (fun hh=>by have:=hF _ hh;omega);rw[at1]at h1;exact⟨h1,fun X=>List.getElem?_set_self (bn.1 h1).1⟩
 unfold Ao;cases e0:q.dO==0 with
 |true=>
  obtain⟨h',fl',F',c,hl⟩:=w17 hbx hp;obtain⟨g1,g2⟩:=hlast hl;refine⟨_,fl',F',?_,hl.fin hfl hF (k:=h.length+1) (by omega) (by simp) (.row (tN (aI .u64 ((aF b).1:Nat)) ((aF b).2.1:Nat)))⟩;refine bL (fn:=OO) rfl rfl rfl ?_;have e0' :q.dO=0:=by simpa using e0
  simp only[dF,e0']at c;simp[iR,u5,u7,u9,Yr,Ys,dF,e0',c,g1,g2,tN]
 |false=>
  have f0:¬(q.dO=0):=by simpa using e0
  rw[cond_false];cases e1:q.dO==1 with
  |true=>
   have d1:q.dO=1:=by simpa using e1
   rw[cond_true];obtain⟨bs,is,e,hsh⟩:=A4 b q.id q.w.key;obtain⟨h',F',c,hl⟩:=w36 hbx hp q.id q.w.key (by have:=hq.1;unfold small;omega);obtain⟨g1,g2⟩:=hlast hl;refine⟨_,fl,F',?_,hl.fin hfl hF (k:=h.length+1) (by omega) (by simp) (.row (tR (iF b q.id q.w.key).1))⟩;refine bL (fn:=OO) rfl rfl rfl ?_;simp only[dF,d1,hsh]at c;simp[iR,u5,u7,u9,yw,Yt,Yu,dF,d1,c,g1,g2,tN,tR,tS,hsh]
  |false=>
   have f1:¬(q.dO=1):=by simpa using e1
   rw[cond_false];cases e2:q.dO==2 with
   |true=>
    have d2:q.dO=2:=by simpa using e2
    rw[cond_true];obtain⟨bs,e,hsh⟩:=QK b q.id (q.w.key,q.hi);obtain⟨h',F',c,hl⟩:=w37 hbx hp q.id q.w.key q.hi;obtain⟨g1,g2⟩:=hlast hl;refine⟨_,fl,F',?_,hl.fin hfl hF (k:=h.length+1) (by omega) (by simp) (.row (tS (jW b q.id (q.w.key,q.hi)).1))⟩;refine bL (fn:=OO) rfl rfl rfl ?_;simp only[dF,d2,hsh]at c;simp[iR,u5,u7,u9,yw,BJ,Yv,Ta,dF,d2,c,g1,g2,tN,tR,tS,hsh]
   |false=>
    have f2:¬(q.dO=2):=by simpa using e2
    rw[cond_false];cases e3:q.dO==3 with
    |true=>
     have d3:q.dO=3:=by simpa using e3
     rw[cond_true]
     skip
     obtain⟨h',F',c,hl⟩:=w18 hbx q.id q.w ⟨by have:=hq.1;unfold small;omega,by have:=hq.2.1;unfold small;omega⟩;obtain⟨g1,g2⟩:=hlast hl;refine⟨_,fl,F',?_,hl.fin hfl hF (k:=h.length+1) (by omega) (by simp) (.row (tN 0 ((bI b q.id q.w).1:Nat)))⟩;refine bL (fn:=OO) rfl rfl rfl ?_;simp only[dF,d3,dI]at c;simp[iR,u5,u7,u9,yw,BJ,xB,Tb,dF,d3,c,g1,g2,tN,tR,tS]
    |false=>
     have f3:¬(q.dO=3):=by simpa using e3
     rw[cond_false];cases e4:q.dO==4 with
     |true=>
      have d4:q.dO=4:=by simpa using e4
      rw[cond_true]
      skip
      obtain⟨h',F',c,hl⟩:=w19 hbx hp q.id;obtain⟨g1,g2⟩:=hlast hl;refine⟨_,fl,F',?_,hl.fin hfl hF (k:=h.length+1) (by omega) (by simp) (.row (tN ((aU b q.id).1:Nat) ((aU b q.id).2.1:Nat)))⟩;refine bL (fn:=OO) rfl rfl rfl ?_;simp only[dF,d4]at c;simp[iR,u5,u7,u9,yw,BJ,xB,BH,Tc,Td,dF,d4,c,g1,g2,tN,tR,tS]
     |false=>
      have f4:¬(q.dO=4):=by simpa using e4
      rw[cond_false];cases e5:q.dO==5 with
      |true=>
       have d5:q.dO=5:=by simpa using e5
       rw[cond_true]
       skip
       obtain⟨h',F',c,hl⟩:=w53 hbx hp q.id;obtain⟨g1,g2⟩:=hlast hl;refine⟨_,fl,F',?_,hl.fin hfl hF (k:=h.length+1) (by omega) (by simp) (.row (tN 0 ((iH b q.id).1:Nat)))⟩;refine bL (fn:=OO) rfl rfl rfl ?_;simp only[dF,d5]at c;simp[iR,u5,u7,u9,yw,BJ,xB,BH,Fu,Te,dF,d5,c,g1,g2,tN,tR,tS]
      |false=>
       have f5:¬(q.dO=5):=by simpa using e5
       rw[cond_false];cases e6:q.dO==6 with
       |true=>
        have d6:q.dO=6:=by simpa using e6
        rw[cond_true]
        skip
        obtain⟨h',F',c,hl⟩:=w50 hbx hp;obtain⟨g1,g2⟩:=hlast hl;refine⟨_,fl,F',?_,hl.fin hfl hF (k:=h.length+1) (by omega) (by simp) (.row (tN (aI .u64 (Af b).1) 0))⟩;refine bL (fn:=OO) rfl rfl rfl ?_;simp only[dF,d6]at c;simp[iR,u5,u7,u9,yw,BJ,xB,BH,Fu,KN,Tf,dF,d6,c,g1,g2,tN,tR,tS]
       |false=>
        have f6:¬(q.dO=6):=by simpa using e6
        rw[cond_false];refine⟨h,fl,F,?_,⟨hb,⟨aq _,fun _ _ _=>rfl,fun j hj=> .inl hj⟩,aq _,.inl ⟨rfl,rfl,fun j hj=>hj⟩⟩⟩;refine bL (fn:=OO) rfl rfl rfl ?_;have f0:¬(q.dO=0):=by simpa using e0
        simp[iR,u5,u7,u9,yw,BJ,xB,BH,Fu,KN,Th,dF,f0,f1,f2,f3,f4,f5,f6,tN,qA hfl,Al hfl]
def qS(o:ta):Bool:=decide (o.w.key.length≤300)&&decide (o.w.data.length≤5000)&&decide (o.hi.length≤300)
def G2(l:List ta):Bool:=l.all qS&&decide (l.length≤80)
theorem qfy(l:List ta)(hl:l.length<small):∀ (j i:Nat),i+j=l.length→
  gL br mT qT pT R4 0 Fj 0 ⟨[(7,.int .i64 (i:Int)),(5,.sl 6 (l.map dF)),(0,.sl 6 (l.map dF)),(6,.int .i64 (l.length:Int))],[],0⟩
   (gI br mT qT pT R4 (.seq (.region Sp) .ret) (kE 0 R4 (.bool ((l.drop i).all qS&&decide (l.length≤80)),[],0))):=by
 intro j
 induction j with
 |zero=>
  intro i hij;obtain⟨h1,h2⟩:=nB hij;have e:decide ((l.length:Int)≤80)=decide (l.length≤80):=by rw[decide_eq_decide];omega
  rw[ak Fj.eq_1,h2];simp[DN,Sp,h1,e]
 |succ j ih=>
  intro i hij;obtain⟨h1,e3,q,d1,g1⟩:=qn hij hl;have e1:=g1 dF;have ih' :=ih (i+1) (by omega);have k1:decide (300<(q.w.key.length:Int))=decide (300<q.w.key.length):=by rw[decide_eq_decide];omega
  have k2:decide (5000<(q.w.data.length:Int))=decide (5000<q.w.data.length):=by rw[decide_eq_decide];omega
  have k3:decide (300<(q.hi.length:Int))=decide (300<q.hi.length):=by rw[decide_eq_decide];omega
  rw[ak Fj.eq_1,d1];simp only[dF]at e1;cases c1:decide (300<q.w.key.length)with
  |true=>
   have hno:qS q=false:=by unfold qS;have:=of_decide_eq_true c1;simp;omega
   rw[c1]at k1;simp[DN,Iw,Ix,MQ,h1,bg e1,dF,k1,D2,hno]
  |false=>
   rw[c1]at k1;cases c2:decide (5000<q.w.data.length)with
   |true=>
    have hno:qS q=false:=by unfold qS;have:=of_decide_eq_true c2;simp;omega
    rw[c2]at k2;simp[DN,Iw,Ix,MQ,h1,bg e1,dF,k1,k2,D2,hno]
   |false=>
    rw[c2]at k2;cases c3:decide (300<q.hi.length)with
    |true=>
     have hno:qS q=false:=by unfold qS;have:=of_decide_eq_true c3;simp;omega
     rw[c3]at k3;simp[DN,Iw,Ix,MQ,h1,bg e1,dF,k1,k2,k3,D2,hno]
    |false=>
     have hyes:qS q=true:=by
      unfold qS;have a1:=of_decide_eq_false c1;have a2:=of_decide_eq_false c2;have a3:=of_decide_eq_false c3;simp;omega
     rw[c3]at k3;simp[DN,Iw,Ix,Yk,h1,bg e1,e3,dF,k1,k2,k3,D2,hyes];simpa[dF]using ih'
theorem t13(l:List ta)(hl:l.length<small):G 13 [.sl 6 (l.map dF)] [] 0=some (.bool (G2 l),[],0):=by
 refine bL (fn:=R4) rfl rfl rfl ?_;have:=qfy l hl l.length 0 (by omega);simp only[List.drop_zero]at this;simp[Bz,Yi,Yj,G2];simpa using this
end Go.RE
namespace Go.RE
section
variable{α κ:Type}[DecidableEq κ](F:Mk α κ)
theorem HC{k:κ}{l:List α}:fK F k l=none↔∀ a∈l,F.key a≠k:=by
 unfold fK;rw[List.find?_eq_none];simp
theorem HB(k k' :κ):∀ l:List α,(l.map F.key).Nodup→fK F k (iY F k' l)=if k' =k then none else fK F k l
 |[],_=>by simp[iY,fK]
 |b::r,hn=>by
  simp only[List.map_cons,List.nodup_cons]at hn;simp only[iY];by_cases hb:F.key b=k'
  ·simp only[hb,decide_true,cond_true];by_cases hk:k' =k
   ·rw[if_pos hk,HC];intro a ha hh;exact hn.1 (eS.2 ⟨a,ha,by rw[hh,hb,hk]⟩)
   ·rw[if_neg hk];have:¬F.key b=k:=fun hh=>hk (by rw[←hb,hh]);simp[fK,List.find?_cons,this]
  ·simp only[hb,decide_false,cond_false];have ih:=HB k k' r hn.2;by_cases hk:F.key b=k
   ·have:¬k' =k:=fun hh=>hb (by rw[hk,hh]);rw[if_neg this];simp[fK,List.find?_cons,hk]
   ·have e1:fK F k (b::iY F k' r)=fK F k (iY F k' r):=by simp[fK,List.find?_cons,hk]
    have e2:fK F k (b::r)=fK F k r:=by simp[fK,List.find?_cons,hk]
    rw[e1,e2,ih]
theorem wH(a:α):∀ l:List α,(sR F a l).map F.key=l.map F.key
 |[]=>rfl
 |b::r=>by
  simp only[sR];by_cases hb:F.key b=F.key a
  ·simp[hb]
  ·simp[hb,wH a r]
theorem Bd(a:α)(l:List α)(hn:(l.map F.key).Nodup):((lq F a l).map F.key).Nodup:=by
 unfold lq;cases h:(fK F (F.key a) l).isSome with
 |true=>rw[cond_true,wH];exact hn
 |false=>
  have hno:=(HC F).1 (by simpa using h:fK F (F.key a) l=none);rw[cond_false,List.map_append,List.map_cons,List.map_nil];refine List.nodup_append.2 ⟨hn,by simp,fun x hx y hy=> ?_⟩;simp at hy;subst hy;obtain⟨z,hz,rfl⟩:=eS.1 hx;exact hno z hz
theorem Jl(k:κ)(l:List α)(hn:(l.map F.key).Nodup):((iY F k l).map F.key).Nodup:=List.Nodup.sublist ((jI F k l).map _) hn
theorem QM(a:α)(l:List α):(lq F a l).length≤l.length+1:=by
 unfold lq;cases(fK F (F.key a) l).isSome with
 |true=>
  have:(sR F a l).length=l.length:=by
   have:=congrArg List.length (wH F a l);simpa using this
  rw[cond_true];omega
 |false=>simp
end
abbrev ofN(d:Db):Prop:=(d.of.map kP.key).Nodup
theorem DL(t:Nat):dh [] t=[]:=by
 obtain⟨n,h⟩:=jk [] t;rw[h];simp
theorem Ji(low:Nat)(d:Db)(left:List By)(k k' :By)(hn:ofN d):chain (gT low (d,left) k).1 k' =(if k=k' then dh (chain d k) low else chain d k')∧ofN (gT low (d,left) k).1:=by
 unfold gT;dsimp only;cases hc:(dh (chain d k) low).isEmpty with
 |true=>
  refine⟨?_,Jl kP k d.of hn⟩;have hc' :dh (chain d k) low=[]:=by simpa using hc
  show((fK kP k' (iY kP k d.of)).map (·.2)).getD []=_;rw[HB kP k' k d.of hn];by_cases h:k=k'
  ·rw[if_pos h,if_pos h,hc'];rfl
  ·rw[if_neg h,if_neg h];rfl
 |false=>
  refine⟨?_,Bd kP (k,dh (chain d k) low) d.of hn⟩;show((fK kP k' (lq kP (k,dh (chain d k) low) d.of)).map (·.2)).getD []=_;rw[AQ];by_cases h:k=k'
  ·have h2:kP.key (k,dh (chain d k) low)=k' :=h;rw[if_pos h2,if_pos h];rfl
  ·have h2:¬kP.key (k,dh (chain d k) low)=k' :=h;rw[if_neg h2,if_neg h];rfl
theorem NU(low:Nat)(d:Db)(left:List By)(k:By):(gT low (d,left) k).2=bif(dh (chain d k) low).isEmpty then left else left++[k]:=by
 unfold gT;dsimp only;cases(dh (chain d k) low).isEmpty<;>rfl
theorem qea(low:Nat):∀ (ks:List By) (d:Db) (left:List By),ks.Nodup→ofN d→
  (∀ k',chain (ks.foldl (gT low) (d,left)).1 k' =if k'∈ks then dh (chain d k') low else chain d k')∧ofN (ks.foldl (gT low) (d,left)).1∧
  (ks.foldl (gT low) (d,left)).2=left++ks.filter fun k=> !(dh (chain d k) low).isEmpty
 |[],d,left,_,hn=>⟨fun k' =>by simp,hn,by simp⟩
 |k::r,d,left,hk,hn=>by
  have hk' :=List.nodup_cons.1 hk;have hc:=fun k' =>Ji low d left k k' hn;have hl:=NU low d left k;rw[List.foldl_cons];obtain⟨d1,left1⟩:∃ p,p=gT low (d,left) k:=⟨_,rfl⟩;generalize hp:gT low (d,left) k=p at*;obtain⟨d1,l1⟩:=p;dsimp only at hc hl;obtain⟨a1,a2,a3⟩:=qea low r d1 l1 hk'.2 (hc k).2;refine⟨fun k' => ?_,a2,?_⟩
  ·rw[a1 k',(hc k').1];by_cases h:k'∈r
   ·have hne:¬k=k' :=fun hh=>hk'.1 (by rw[hh];exact h);rw[if_pos h,if_neg hne,if_pos (gB _ h)]
   ·rw[if_neg h];by_cases h2:k=k'
    ·subst h2;rw[if_pos rfl,if_pos eU]
    ·rw[if_neg h2,if_neg (by simp[h];exact fun hh=>h2 hh.symm)]
  ·rw[a3,hl,List.filter_cons];have hfe:(r.filter fun x=> !(dh (chain d1 x) low).isEmpty)=r.filter fun x=> !(dh (chain d x) low).isEmpty:=by
    refine List.filter_congr fun x hx=> ?_;have hne:¬k=x:=fun hh=>hk'.1 (by rw[hh];exact hx);rw[(hc x).1,if_neg hne]
   rw[hfe];cases(dh (chain d k) low).isEmpty<;>simp
structure DbK(d:Db):Prop where
 IZ:d.keys.Nodup
 kc:∀ k,k∈d.keys↔chain d k≠[]
 of:ofN d
theorem wo{d:Db}(hk:DbK d)(low:Nat):(∀ k,chain (cK d low) k=dh (chain d k) low)∧DbK (cK d low)∧(cK d low).keys.length≤d.keys.length:=by
 obtain⟨a1,a2,a3⟩:=qea low d.keys {d with sk:=0,sv:=0,sb:=0} [] hk.IZ hk.of;have e0:∀ k,chain {d with sk:=0,sv:=0,sb:=0} k=chain d k:=fun _=>rfl;have hkeys:(cK d low).keys=d.keys.filter fun k=> !(dh (chain d k) low).isEmpty:=by
  show(d.keys.foldl (gT low) ({d with sk:=0,sv:=0,sb:=0},[])).2=_;rw[a3];rfl
 have hch:∀ k,chain (cK d low) k=dh (chain d k) low:=fun k=>by
  have h1:=a1 k;have h2:chain (cK d low) k=chain (d.keys.foldl (gT low) ({d with sk:=0,sv:=0,sb:=0},[])).1 k:=rfl;rw[h2,h1,e0];by_cases hm:k∈d.keys
  ·rw[if_pos hm]
  ·rw[if_neg hm];have:chain d k=[]:=by
    cases hc:chain d k with
    |nil=>rfl
    |cons a b=>exact absurd ((hk.kc k).2 (by rw[hc];simp)) hm
   rw[this,DL]
 refine⟨hch,⟨?_,fun k=> ?_,a2⟩,?_⟩
 ·rw[hkeys];exact List.Nodup.sublist List.filter_sublist hk.IZ
 ·rw[hkeys,hch,List.mem_filter];constructor
  ·rintro⟨_,h⟩ he;rw[he]at h;cases h
  ·intro h;refine⟨(hk.kc k).2 (fun he=>h (by rw[he,DL])),?_⟩;cases hc:dh (chain d k) low with
   |nil=>exact absurd hc h
   |cons a b=>rfl
 ·rw[hkeys];exact List.length_filter_le _ _
theorem rW(ks:List By)(k:By):(mM ks k).Perm (k::ks):=by
 unfold mM;have:(ks.take (ot ks k)++[k]++ks.drop (ot ks k)).Perm (k::(ks.take (ot ks k)++ks.drop (ot ks k))):=by
  rw[kO];exact List.perm_middle
 rw[List.take_append_drop]at this;exact this
theorem qbn{d:Db}(hk:DbK d)(w:Wt):DbK (iJ d w):=by
 have hch:=rK d w;refine⟨?_,fun k=> ?_,Bd kP (w.key,chain d w.key++[nC d w]) d.of hk.of⟩
 ·show(bif(chain d w.key).isEmpty then mM d.keys w.key else d.keys).Nodup;cases hc:(chain d w.key).isEmpty with
  |true=>
   rw[cond_true,(rW d.keys w.key).nodup_iff,List.nodup_cons];refine⟨fun hm=> ?_,hk.IZ⟩;have:=(hk.kc w.key).1 hm;exact this (by simpa using hc)
  |false=>exact hk.IZ
 ·rw[hch];show k∈(bif(chain d w.key).isEmpty then mM d.keys w.key else d.keys)↔_;by_cases h:w.key=k
  ·rw[if_pos h];subst h;constructor
   ·intro _;simp
   ·intro _;cases hc:(chain d w.key).isEmpty with
    |true=>rw[cond_true];exact(rW d.keys w.key).symm.subset eU
    |false=>rw[cond_false];exact(hk.kc w.key).2 (fun he=>by rw[he]at hc;cases hc)
  ·rw[if_neg h,←hk.kc];cases hc:(chain d w.key).isEmpty with
   |true=>
    rw[cond_true];constructor
    ·intro hm;rcases dS.1 ((rW d.keys w.key).subset hm)with h2|h2
     ·exact absurd h2.symm h
     ·exact h2
    ·intro hm;exact(rW d.keys w.key).symm.subset (gB _ hm)
   |false=>exact Iff.rfl
end Go.RE
namespace Go.RE
theorem yl(v:jw)(hg:v.qp=true→v.Data=[]):∀ (l:List jw) (a:Nat),eH a l=true→(∀ x,l.getLast? =some x→x.At<v.At)→(l=[]→a<v.At)→eH a (l++[v])=true
 |[],a,_,_,h0=>by
  have h1:=h0 rfl;have a1:decide (v.At≤a)=false:=decide_eq_false (by omega);have a2:(v.qp&&decide (0<v.Data.length))=false:=by
   cases hh:v.qp with
   |false=>rfl
   |true=>rw[hg hh];rfl
  show(!(decide (v.At≤a)||(v.qp&&decide (0<v.Data.length)))&&true)=true;rw[a1,a2];rfl
 |x::r,a,h,hv,_=>by
  simp only[eH,bC]at h;show(!(decide (x.At≤a)||(x.qp&&decide (0<x.Data.length)))&&eH x.At (r++[v]))=true;rw[bC];refine⟨h.1,yl v hg r x.At h.2 (fun y hy=>hv y ?_) (fun hr=>hv x (by rw[hr];rfl))⟩;cases r with
  |nil=>cases hy
  |cons b q=>rw[List.getLast?_cons_cons];exact hy
theorem AM(l:List jw)(v:jw):fm (l++[v])=v.At:=by simp[fm]
theorem Oh{l:List jw}{x:jw}(h:l.getLast? =some x):fm l=x.At:=by simp[fm,h]
theorem qbo{d:Db}(hw:I4 d){w:Wt}(hp:qU d w):I4 (iJ d w):=by
 obtain⟨p1,p2,p3,_⟩:=hp;have hr:eH 0 (chain d w.key++[nC d w])=true:=
  yl (nC d w) p3 _ 0 p2 (fun x hx=>by rw[←Oh hx];exact p1) (fun he=>by show 0<d.now;omega)
 refine⟨fun x hx=> ?_,fun x hx=> ?_⟩
 ·rcases iU hx with rfl|hx
  ·exact hr
  ·exact hw.right x hx
 ·rcases iU hx with rfl|hx
  ·show fm (chain d w.key++[nC d w])≤d.now;rw[AM];exact aq _
  ·exact hw.last x hx
theorem Qz(d:Db)(w:Wt):(iJ d w).keys.length≤d.keys.length+1:=by
 show(bif(chain d w.key).isEmpty then mM d.keys w.key else d.keys).length≤_;cases(chain d w.key).isEmpty with
 |true=>rw[cond_true,Hl];exact aq _
 |false=>rw[cond_false];omega
theorem LY:∀ (l:List Wt) (d:Db) (m:Nat),zU d (m+l.length)→5000*(m+l.length)<small→I4 d→DbK d→(l.map (·.key)).Nodup→(∀ w∈l,qU d w)→
  zU (l.foldl iJ d) m∧I4 (l.foldl iJ d)∧DbK (l.foldl iJ d)∧(l.foldl iJ d).keys.length≤d.keys.length+l.length∧
  ∀ k,chain (l.foldl iJ d) k=match l.find? (fun w=>w.key=k)with|some w=>chain d k++[nC d w]|none=>chain d k
 |[],d,m,h1,_,h2,h3,_,_=>⟨h1,h2,h3,aq _,fun k=>rfl⟩
 |w::r,d,m,h1,h5,h2,h3,h4,hp=>by
  have hn:=List.nodup_cons.1 h4;have hpw:=hp w eU;have e1:m+(w::r).length=(m+r.length)+1:=by simp;omega
  rw[e1]at h1 h5;have hr:=h1.put h5 w hpw.2.2.2.1 hpw.2.2.2.2;have hpr:∀ v∈r,qU (iJ d w) v:=by
   intro v hv;have hvv:=hp v (gB _ hv);have hne:¬w.key=v.key:=fun hh=>hn.1 (eS.2 ⟨v,hv,hh.symm⟩);unfold qU at hvv⊢;rw[rK,if_neg hne];exact hvv
  obtain⟨a1,a2,a3,a4,a5⟩:=LY r (iJ d w) m hr (by omega) (qbo h2 hpw) (qbn h3 w) hn.2 hpr;have hl:=Qz d w;refine⟨a1,a2,a3,by simp only[List.foldl_cons,List.length_cons];omega,fun k=> ?_⟩;rw[List.foldl_cons,a5 k,rK];by_cases hk:w.key=k
  ·have hno:r.find? (fun w=>decide (w.key=k))=none:=by
    refine List.find?_eq_none.2 fun v hv=> ?_;simp only[decide_eq_true_eq];intro hh;exact hn.1 (eS.2 ⟨v,hv,by show v.key=w.key;rw[hh,hk]⟩)
   rw[hno,if_pos hk];simp only[List.find?_cons,hk,decide_true]
  ·rw[if_neg hk];simp only[List.find?_cons,hk,decide_false];cases r.find? (fun w=>decide (w.key=k))<;>rfl
theorem GU(d:Db):∀ (l:List Wt) (z:List Wt×Sz),(∀ w∈l,w.key.length≤256∧w.data.length≤4096)→
  (l.foldl (eo d) z).2.1≤z.2.1+l.length∧(l.foldl (eo d) z).2.2.1≤z.2.2.1+l.length∧(l.foldl (eo d) z).2.2.2≤z.2.2.2+5000*l.length
 |[],z,_=>⟨aq _,aq _,aq _⟩
 |w::l,z,h=>by
  have hw:=h w eU;have h1:(eo d z w).2.1≤z.2.1+1∧(eo d z w).2.2.1≤z.2.2.1+1∧(eo d z w).2.2.2≤z.2.2.2+5000:=by
   unfold eo;cases w.gone&&kY (chain d w.key)with
   |true=>simp only[cond_true];omega
   |false=>
    simp only[cond_false];cases(chain d w.key).isEmpty with
    |true=>simp only[cond_true];omega
    |false=>simp only[cond_false];omega
  obtain⟨a1,a2,a3⟩:=GU d l (eo d z w) (fun x hx=>h x (gB _ hx));rw[List.foldl_cons];simp only[List.length_cons];omega
theorem Wr{d:Db}{m:Nat}(hd:zU d m)(hw:I4 d)(hm:5000*m<small)(low:Nat):(cK d low).sk≤d.keys.length∧(cK d low).sv≤1000000000*d.keys.length∧(cK d low).sb≤2000000000*d.keys.length:=by
 have h:=DX.fold (m:=m) low hd.sQ hm d.keys 0 ({d with sk:=0,sv:=0,sb:=0},[]) (fun k hk=>hk) ⟨⟨rfl,rfl⟩,hd.len,hd.dat,hd.EM,⟨hw.right,hw.last⟩,⟨by simp,fun k hk=>(List.not_mem_nil hk).elim⟩,⟨dW _,dW _,dW _⟩⟩;rw[Nat.zero_add]at h;exact h.sz
structure LJ(d:Db)(m B:Nat):Prop where
 r:zU d m
 w:I4 d
 k:DbK d
 sz:d.sk≤B∧d.sv≤B∧d.sb≤B
theorem An{d:Db}{m L B:Nat}(h:LJ d (m+L) B)(h5:5000*(m+L)<small){l:List Wt}(hl:l.length≤L)(hc:eP none l=0):
  LJ (iL d (aT d l)) m (B+5000*L)∧(iL d (aT d l)).now=d.now+1∧(iL d (aT d l)).keys.length≤d.keys.length+L∧
  ∀ k,chain (iL d (aT d l)) k=match(aT d l).1.find? (fun w=>w.key=k)with|some w=>chain d k++[⟨d.now+1,w.gone,w.data⟩]|none=>chain d k:=by
 have hsub:=Ag d l;have hle:=hsub.length_le;obtain⟨k1,_,k3⟩:=Ae l none hc;have hp:∀ w∈(aT d l).1,qU {d with now:=d.now+1} w:=by
  intro w hw;obtain⟨b1,b2,_,b4⟩:=k1 w (hsub.subset hw);have:=D4 h.w w.key;exact⟨by show fm (chain d w.key)<d.now+1;omega,this.1,b4,by unfold small;omega,by omega⟩
 have hr0:zU {d with now:=d.now+1} (m+(aT d l).1.length):=zU.le (m:=m+L) ⟨h.r.keys,h.r.sQ,h.r.len,h.r.dat,h.r.EM⟩ (by omega);have hw0:I4 {d with now:=d.now+1}:=⟨h.w.right,fun x hx=>by have:=h.w.last x hx;show fm x.2≤d.now+1;omega⟩;obtain⟨a1,a2,a3,a4,a5⟩:=LY (aT d l).1 {d with now:=d.now+1} m hr0 (by omega) hw0 ⟨h.k.IZ,h.k.kc,h.k.of⟩ (List.Nodup.sublist (hsub.map _) (tr _ k3)) hp;have hs:=GU d l ([],Xn d) (fun w hw=>⟨(k1 w hw).1,(k1 w hw).2.1⟩);obtain⟨s1,s2,s3⟩:=h.sz;refine⟨⟨⟨a1.keys,a1.sQ,a1.len,a1.dat,a1.EM⟩,⟨a2.right,a2.last⟩,⟨a3.IZ,a3.kc,a3.of⟩,?_⟩,(oA d _).2,?_,fun k=> ?_⟩
 ·have e1:(iL d (aT d l)).sk=(l.foldl (eo d) ([],Xn d)).2.1:=rfl;have e2:(iL d (aT d l)).sv=(l.foldl (eo d) ([],Xn d)).2.2.1:=rfl;have e3:(iL d (aT d l)).sb=(l.foldl (eo d) ([],Xn d)).2.2.2:=rfl;rw[e1,e2,e3];simp only[Xn]at hs⊢;omega
 ·show((aT d l).1.foldl iJ {d with now:=d.now+1}).keys.length≤_;have:({d with now:=d.now+1}:Db).keys.length=d.keys.length:=rfl;omega
 ·have:=a5 k;exact this
theorem Jj{d:Db}{m B:Nat}(h:LJ d m B)(h5:5000*m<small)(hB:2000000000*d.keys.length≤B)(low:Nat):LJ (cK d low) m B:=by
 obtain⟨r1,r2,_,_,_,_⟩:=D6 h.r h.w h5 low;obtain⟨_,k1,k2⟩:=wo h.k low;have hs:=Wr h.r h.w h5 low;exact⟨r1,r2,k1,by omega⟩
theorem NV{d:Db}{m L B:Nat}(h:LJ d (m+L) B)(h5:5000*(m+L)<small)(hB:2000000000*d.keys.length≤B){l:List Wt}(hl:l.length≤L)(low:Nat):
  LJ (bN d l low).2.2 m (B+5000*L)∧(bN d l low).2.2.now≤d.now+1∧(bN d l low).2.2.keys.length≤d.keys.length+L∧d.now≤(bN d l low).2.2.now:=by
 have same:LJ d m (B+5000*L):=⟨h.r.le (by omega),h.w,h.k,by have:=h.sz;omega⟩;have hcI:=Jj h h5 hB low;obtain⟨_,_,hkl⟩:=wo h.k low;have hcn:=(mE d low).2;unfold bN;cases hc:eP none l==0 with
 |false=>exact⟨same,by show d.now≤_;omega,by show d.keys.length≤_;omega,aq _⟩
 |true=>
  have hc' :eP none l=0:=by simpa using hc
  cases l.isEmpty with
  |true=>exact⟨same,by show d.now≤_;omega,by show d.keys.length≤_;omega,aq _⟩
  |false=>
   cases decide (d.lim.last≤d.now)with
   |true=>exact⟨same,by show d.now≤_;omega,by show d.keys.length≤_;omega,aq _⟩
   |false=>
    cases nH d (aT d l).2 with
    |true=>
     obtain⟨b1,b2,b3,_⟩:=An h h5 hl hc';exact⟨b1,by show(iL d (aT d l)).now≤_;omega,b3,by show d.now≤(iL d (aT d l)).now;omega⟩
    |false=>
     cases nH (cK d low) (aT (cK d low) l).2 with
     |true=>
      obtain⟨b1,b2,b3,_⟩:=An hcI h5 hl hc';exact⟨b1,by show(iL (cK d low) (aT (cK d low) l)).now≤_;omega,by show(iL (cK d low) (aT (cK d low) l)).keys.length≤_;omega,by show d.now≤(iL (cK d low) (aT (cK d low) l)).now;omega⟩
     |false=>exact⟨⟨hcI.r.le (by omega),hcI.w,hcI.k,by have:=hcI.sz;show(cK d low).sk≤_∧(cK d low).sv≤_∧(cK d low).sb≤_;omega⟩,by show(cK d low).now≤_;omega,by show(cK d low).keys.length≤_;omega,by show d.now≤(cK d low).now;omega⟩
end Go.RE
namespace Go.RE
def Kl(n:Nat):Nat:=100000000000000+n*1000000
theorem qbP(n:Nat):Kl n≤Kl (n+1):=by unfold Kl;omega
structure BI(b:Bs)(n:Nat):Prop where
 le:n≤200
 d:LJ b.db ((200 - n)*200) (Kl n)
 kl:b.db.keys.length≤200*n
 now:b.db.now≤n
 last:b.last≤n
 ev:b.event≤2*n
 idn:(b.live.map (·.id)).Nodup
 ids:∀ t∈b.live,t.id≤b.last
 live:b.live.length≤n
 marks:∀ t∈b.live,t.marks.length≤n
 bT:∀ t∈b.live,t.bT.length≤n
 wt:∀ t∈b.live,∀ w∈t.bT,lS w
 ah:b.ah.length≤n
 rw:sU b.ah≤600*n
 dl:b.done.length≤n
 don:∀ d∈b.done,XE d
 lim:GG b.db.lim
theorem BI.pre{b:Bs}{n:Nat}(h:BI b n)(hn:n<200):Pre b 200:=by
 have hm:200≤(200 - n)*200:=by omega
 have hl:=h.lim;have hr:=h.ah;have hrw:=h.rw;have hk:=h.kl;have hnow:=h.now;have hlast:=h.last;have hev:=h.ev;have hlv:=h.live;have hdl:=h.dl;have l1:=hl.m;have l2:=hl.r;have l3:=hl.n;have hrc:RcB b:=⟨by omega,by unfold small;omega,by unfold small;omega,by unfold small;omega⟩;have hz:I7 b.db:=by have:=h.d.sz;have hB:Kl n=100000000000000+n*1000000:=rfl;exact⟨by omega,by omega,by omega⟩
 refine⟨⟨h.d.r.le hm,h.d.w,hz,by unfold small;omega,by unfold small;omega,fun t ht=>by have:=h.bT t ht;omega,⟨h.d.r.ok,⟨by unfold small;omega,by unfold small;omega,by unfold small;omega⟩,fun t ht=> ?_,fun t ht=> ?_,h.wt,by unfold small;omega,h.d.k.IZ,by unfold small;omega⟩,hrc,fun t ht=> ?_,by omega,by unfold small;omega,by unfold small;omega⟩,h.ids,by unfold small;omega,by unfold small;omega⟩
 ·have:=h.marks t ht;unfold small;omega
 ·have:=h.bT t ht;unfold small;omega
 ·have:=h.marks t ht;unfold small;omega
theorem room_le(n:Nat):(200 - (n+1))*200≤(200 - n)*200:=by omega
theorem BI.mono{b:Bs}{n:Nat}(h:BI b n)(hn:n<200):BI b (n+1):=
 ⟨hn,⟨zU.le h.d.r (room_le n),h.d.w,h.d.k,by have:=h.d.sz;have:=qbP n;omega⟩,by have:=h.kl;omega,by have:=h.now;omega,by have:=h.last;omega,by have:=h.ev;omega,h.idn,h.ids,by have:=h.live;omega,fun t ht=>by have:=h.marks t ht;omega,fun t ht=>by have:=h.bT t ht;omega,h.wt,by have:=h.ah;omega,by have:=h.rw;omega,by have:=h.dl;omega,h.don,h.lim⟩
theorem BI.begin{b:Bs}{n:Nat}(h:BI b n)(hn:n<200):BI (aF b).2.2 (n+1):=by
 unfold aF;cases decide (b.db.lim.live≤b.live.length)with
 |true=>exact h.mono hn
 |false=>
  have h1:=h.mono hn;have hno:∀ t∈b.live,t.id≠b.last+1:=fun t ht hh=>by have:=h.ids t ht;omega
  simp only[cond_false];refine⟨h1.le,h1.d,h1.kl,h1.now,by have:=h.last;show b.last+1≤_;omega,by have:=h.ev;show b.event+1≤_;omega,?_,fun t ht=> ?_,by have:=h.live;simp;omega,fun t ht=> ?_,fun t ht=> ?_,fun t ht=> ?_,h1.ah,h1.rw,h1.dl,h1.don,h1.lim⟩
  ·show((b.live++[(⟨b.last+1,b.db.now,b.event+1,[],[]⟩:Tx)]).map (·.id)).Nodup;rw[List.map_append];refine List.nodup_append.2 ⟨h.idn,by simp,fun x hx y hy=> ?_⟩;simp at hy;subst hy;obtain⟨t,ht,rfl⟩:=eS.1 hx;exact hno t ht
  ·rcases gD.1 ht with ht|ht
   ·have:=h.ids t ht;show t.id≤b.last+1;omega
   ·simp at ht;subst ht;exact aq _
  ·rcases gD.1 ht with ht|ht
   ·exact h1.marks t ht
   ·simp at ht;subst ht;exact dW _
  ·rcases gD.1 ht with ht|ht
   ·exact h1.bT t ht
   ·simp at ht;subst ht;exact dW _
  ·rcases gD.1 ht with ht|ht
   ·exact h.wt t ht
   ·simp at ht;subst ht;exact fun w hw=>(List.not_mem_nil hw).elim
theorem mem_set{b:Bs}{t x:Tx}(h:x∈(aP b t).live):x∈b.live∨x=t:=by
 obtain⟨y,hy,rfl⟩:=eS.1 h;by_cases hh:y.id=t.id
 ·rw[if_pos hh];exact .inr rfl
 ·rw[if_neg hh];exact .inl hy
theorem Xg(b:Bs)(t:Tx):(aP b t).live.map (·.id)=b.live.map (·.id):=by
 show(b.live.map _).map _=_;rw[List.map_map];refine List.map_congr_left fun x hx=> ?_;by_cases hh:x.id=t.id<;>simp[hh]
theorem BI.set{b:Bs}{n:Nat}(h:BI b n)(hn:n<200){t t' :Tx}(ht:t∈b.live)(hid:t'.id=t.id)(hm:t'.marks.length≤n+1)(hp:t'.bT.length≤n+1)(hw:∀ w∈t'.bT,lS w):BI (aP b t') (n+1):=by
 have h1:=h.mono hn;refine⟨h1.le,h1.d,h1.kl,h1.now,h1.last,h1.ev,by rw[Xg];exact h.idn,fun x hx=> ?_,by show(b.live.map _).length≤_;rw[List.length_map];exact h1.live,fun x hx=> ?_,fun x hx=> ?_,fun x hx=> ?_,h1.ah,h1.rw,h1.dl,h1.don,h1.lim⟩
 ·rcases mem_set hx with hx|rfl
  ·exact h.ids x hx
  ·rw[hid];exact h.ids t ht
 ·rcases mem_set hx with hx|rfl
  ·exact h1.marks x hx
  ·exact hm
 ·rcases mem_set hx with hx|rfl
  ·exact h1.bT x hx
  ·exact hp
 ·rcases mem_set hx with hx|rfl
  ·exact h.wt x hx
  ·exact hw
theorem gz{b:Bs}{id:Int}{t:Tx}(h:eR b id=some t):t∈b.live∧(t.id:Int)=id:=by
 refine⟨qcC h,?_⟩;have:=List.find?_some h;simpa using this
theorem BI.read{b:Bs}{n:Nat}(h:BI b n)(hn:n<200)(id:Int)(k:By):BI (iF b id k).2 (n+1):=by
 unfold iF;cases ht:eR b id with
 |none=>exact h.mono hn
 |some t=>
  obtain⟨hm,_⟩:=gz ht;dsimp only;cases fK nA k t.bT with
  |some w=>exact h.mono hn
  |none=>exact h.set hn hm rfl (by have:=rZ b t (wK k);have:=h.marks t hm;omega) (by have:=h.bT t hm;show t.bT.length≤_;omega) (h.wt t hm)
theorem BI.scan{b:Bs}{n:Nat}(h:BI b n)(hn:n<200)(id:Int)(s:cA):BI (jW b id s).2 (n+1):=by
 unfold jW;cases ht:eR b id with
 |none=>exact h.mono hn
 |some t=>
  obtain⟨hm,_⟩:=gz ht;dsimp only;cases dP s with
  |false=>exact h.mono hn
  |true=>exact h.set hn hm rfl (by have:=rZ b t s;have:=h.marks t hm;omega) (by have:=h.bT t hm;show t.bT.length≤_;omega) (h.wt t hm)
theorem QO{a:Wt}{l:List Wt}{x:Wt}(h:x∈lq nA a l):x=a∨x∈l:=by
 have hm:∀ l:List Wt,x∈sR nA a l→x=a∨x∈l:=by
  intro l
  induction l with
  |nil=>intro h;cases h
  |cons b r ih=>
   intro h;simp only[sR]at h;cases hb:decide (nA.key b=nA.key a)with
   |true=>
    rw[hb]at h;rcases dS.1 h with rfl|h
    ·exact .inl rfl
    ·exact .inr (gB _ h)
   |false=>
    rw[hb]at h;rcases dS.1 h with rfl|h
    ·exact .inr eU
    ·rcases ih h with h|h
     ·exact .inl h
     ·exact .inr (gB _ h)
 unfold lq at h;cases hb:(fK nA (nA.key a) l).isSome with
 |true=>rw[hb]at h;exact hm l h
 |false=>
  rw[hb]at h;rcases gD.1 h with h|h
  ·exact .inr h
  ·simp at h;exact .inl h
theorem BI.write{b:Bs}{n:Nat}(h:BI b n)(hn:n<200)(id:Int){w:Wt}(hw:lS w):BI (bI b id w).2 (n+1):=by
 unfold bI;cases ht:eR b id with
 |none=>exact h.mono hn
 |some t=>
  obtain⟨hm,_⟩:=gz ht;dsimp only;cases fV none w==0 with
  |false=>exact h.mono hn
  |true=>
   refine h.set hn hm (t' :=yE t w) rfl (by have:=h.marks t hm;show t.marks.length≤_;omega) (by have:=h.bT t hm;have:=QM nA w t.bT;show(lq nA w t.bT).length≤_;omega) (fun x hx=> ?_);rcases QO hx with rfl|hx
   ·exact hw
   ·exact h.wt t hm x hx
theorem BI.col{b:Bs}{n:Nat}(h:BI b n):BI (Af b).2 n:=by
 have h5:5000*((200 - n)*200)<small:=by
  have:(200 - n)*200≤200*200:=lY _ (by omega);unfold small;omega
 have hle:=h.le;have hkl:=h.kl;obtain⟨_,_,k3⟩:=wo h.d.k (dR b);have hl:=mE b.db (dR b);exact⟨h.le,Jj h.d h5 (by unfold Kl;omega) (dR b),by show(cK b.db (dR b)).keys.length≤_;omega,by show(cK b.db (dR b)).now≤_;rw[hl.2];exact h.now,h.last,h.ev,h.idn,h.ids,h.live,h.marks,h.bT,h.wt,h.ah,h.rw,h.dl,h.don,by show GG (cK b.db (dR b)).lim;rw[hl.1];exact h.lim⟩
theorem rN(id:Int):∀ l:List Tx,(jJ id l).Sublist l
 |[]=> .slnil
 |t::r=>by
  simp only[jJ];cases decide ((t.id:Int)=id)with
  |true=>exact List.sublist_cons_self _ _
  |false=>exact(rN id r).cons_cons t
theorem LS(n m:Nat):∀ (k:Nat) (l:List Rc),l.length=k→(oB n m l).length≤l.length∧sU (oB n m l)≤sU l:=by
 intro k
 induction k with
 |zero=>
  intro l hl;obtain rfl:=List.length_eq_zero_iff.1 hl;simp[qC,uq]
 |succ k ih=>
  intro l hl
  match l,hl with
  |[a],_=>simp[qC,uq]
  |a::b::r,hl=>
   rw[wB];cases decide (n<r.length+2)with
   |false=>exact⟨aq _,aq _⟩
   |true=>
    obtain⟨i1,i2⟩:=ih (uy a b m::r) (by simpa using hl);have:=NI a b m;simp only[cond_true,sU,List.length_cons]at*;omega
theorem BI.ends{b:Bs}{n:Nat}(h:BI b n)(id:Int):BI (kW b id) n:=by
 have hs:=rN id b.live;have hf:=LS (ou b.db.lim.records) b.db.lim.marks _ (bK b.ah (dR (gM b id))) rfl;have h1:(bK b.ah (dR (gM b id))).length≤b.ah.length:=List.length_filter_le _ _;have h2:=sO (fun r=>decide (dR (gM b id)<r.last)) b.ah;have h3:sU (bK b.ah (dR (gM b id)))≤sU b.ah:=h2;refine⟨h.le,h.d,h.kl,h.now,h.last,h.ev,List.Nodup.sublist (hs.map _) h.idn,fun t ht=>h.ids t (hs.subset ht),by have:=hs.length_le;have:=h.live;show(jJ id b.live).length≤_;omega,fun t ht=>h.marks t (hs.subset ht),fun t ht=>h.bT t (hs.subset ht),fun t ht=>h.wt t (hs.subset ht),?_,?_,h.dl,h.don,h.lim⟩
 ·show(oB (ou b.db.lim.records) b.db.lim.marks (bK b.ah (dR (gM b id)))).length≤n;have:=h.ah;omega
 ·show sU (oB (ou b.db.lim.records) b.db.lim.marks (bK b.ah (dR (gM b id))))≤600*n;have:=h.rw;omega
end Go.RE
namespace Go.RE
theorem Dd(id:Nat)(t' :Tx)(hid:t'.id=id):∀ l:List Tx,(l.map (·.id)).Nodup→jJ (id:Int) (l.map fun x=>if x.id=t'.id then t' else x)=jJ (id:Int) l
 |[],_=>rfl
 |t::r,hn=>by
  simp only[List.map_cons,List.nodup_cons]at hn;simp only[List.map_cons,jJ];by_cases h:t.id=t'.id
  ·have e1:decide (((if t.id=t'.id then t' else t).id:Int)=(id:Int))=true:=by rw[if_pos h];simp[hid]
   have e2:decide ((t.id:Int)=(id:Int))=true:=by simp[h,hid]
   rw[e1,e2,cond_true,cond_true];refine(List.map_congr_left fun x hx=> ?_).trans (List.map_id r);have:¬x.id=t'.id:=fun hh=>hn.1 (eS.2 ⟨x,hx,by show x.id=t.id;rw[hh,h]⟩);rw[if_neg this];rfl
  ·have e1:decide (((if t.id=t'.id then t' else t).id:Int)=(id:Int))=false:=by rw[if_neg h];refine decide_eq_false ?_;rw[←hid];omega
   have e2:decide ((t.id:Int)=(id:Int))=false:=by refine decide_eq_false ?_;rw[←hid];omega
   rw[e1,e2,cond_false,cond_false,if_neg h,Dd id t' hid r hn.2]
theorem BI.fin{b b2:Bs}{n:Nat}(h:BI b n)(hn:n<200)(id:Int)(hd:LJ b2.db ((200 - (n+1))*200) (Kl (n+1)))(hkl:b2.db.keys.length≤200*(n+1))(hnow:b2.db.now≤n+1)(hlim:b2.db.lim=b.db.lim)
  (hlive:jJ id b2.live=jJ id b.live) (hlast:b2.last=b.last) (hev:b2.event≤2*(n+1)) (hrl:b2.ah.length≤n+1) (hrw:sU b2.ah≤600*(n+1)) (hdl:b2.done.length≤n+1) (hdon:∀ d∈b2.done,XE d):BI (kW b2 id) (n+1):=by
 have hs:=rN id b.live;have hf:=LS (ou b2.db.lim.records) b2.db.lim.marks _ (bK b2.ah (dR (gM b2 id))) rfl;have h1:(bK b2.ah (dR (gM b2 id))).length≤b2.ah.length:=List.length_filter_le _ _;have h3:sU (bK b2.ah (dR (gM b2 id)))≤sU b2.ah:=sO (fun r=>decide (dR (gM b2 id)<r.last)) b2.ah;have hl:(kW b2 id).live=jJ id b.live:=hlive;have hm:=h.mono hn;refine⟨hn,hd,hkl,hnow,?_,hev,by rw[hl];exact List.Nodup.sublist (hs.map _) h.idn,fun t ht=> ?_,by rw[hl];have:=hs.length_le;have:=hm.live;omega,fun t ht=>hm.marks t (hs.subset (by rw[←hl];exact ht)),fun t ht=>hm.bT t (hs.subset (by rw[←hl];exact ht)),fun t ht=>h.wt t (hs.subset (by rw[←hl];exact ht)),?_,?_,hdl,hdon,by show GG b2.db.lim;rw[hlim];exact h.lim⟩
 ·show b2.last≤_;rw[hlast];exact hm.last
 ·show t.id≤b2.last;rw[hlast];exact h.ids t (hs.subset (by rw[←hl];exact ht))
 ·show(oB (ou b2.db.lim.records) b2.db.lim.marks (bK b2.ah (dR (gM b2 id)))).length≤n+1;omega
 ·show sU (oB (ou b2.db.lim.records) b2.db.lim.marks (bK b2.ah (dR (gM b2 id))))≤600*(n+1);omega
theorem Ms{n:Nat}(hn:n<200):(200 - n)*200=(200 - (n+1))*200+200:=by omega
theorem NW{b:Bs}{n:Nat}(h:BI b n)(hn:n<200){t:Tx}(ht:t∈b.live):LJ (aM b t).2.2.2.db ((200 - (n+1))*200) (Kl (n+1))∧(aM b t).2.2.2.db.keys.length≤200*(n+1)∧(aM b t).2.2.2.db.now≤n+1∧b.db.now≤(aM b t).2.2.2.db.now∧
  jJ (t.id:Int) (aM b t).2.2.2.live=jJ (t.id:Int) b.live:=by
 have hm:=h.mono hn;have hp:=h.bT t ht;have hq:=me b (ov t) (t,[],[]);have hRdef:(ov t).foldl (eY b) (t,[],[])=aL b t:=rfl;rw[hRdef]at hq;dsimp only at hq;have hw:(ov t).length=t.bT.length:=by unfold ov;rw[jj]
 simp only[List.length_nil,Nat.zero_add]at hq;have hlive:jJ (t.id:Int) (aP b (aL b t).1).live=jJ (t.id:Int) b.live:=Dd t.id _ hq.2.2.2.2.2.1 b.live h.idn;have base:LJ b.db ((200 - (n+1))*200) (Kl (n+1))∧b.db.keys.length≤200*(n+1)∧b.db.now≤n+1∧b.db.now≤b.db.now:=⟨hm.d,hm.kl,hm.now,aq _⟩;have hd:=h.d;rw[Ms hn]at hd;have hkl:=h.kl;have hnow:=h.now;have hD:=NV (L:=200) hd (by
  have:(200 - (n+1))*200+200≤40000:=by omega
  unfold small;omega) (by unfold Kl;omega) (l:=(aL b t).2.1) (by omega) (dR (aP b (aL b t).1))
 have hB:Kl n+5000*200=Kl (n+1):=by unfold Kl;omega
 rw[hB]at hD;have after:LJ (bN b.db (aL b t).2.1 (dR (aP b (aL b t).1))).2.2 ((200 - (n+1))*200) (Kl (n+1))∧(bN b.db (aL b t).2.1 (dR (aP b (aL b t).1))).2.2.keys.length≤200*(n+1)∧(bN b.db (aL b t).2.1 (dR (aP b (aL b t).1))).2.2.now≤n+1∧b.db.now≤(bN b.db (aL b t).2.1 (dR (aP b (aL b t).1))).2.2.now:=
  ⟨hD.1,by omega,by omega,hD.2.2.2⟩
 unfold aM;cases iX b t with
 |true=>exact⟨base.1,base.2.1,base.2.2.1,base.2.2.2,rfl⟩
 |false=>
  simp only[cond_false];cases oe b.ah (tH b t)with
  |none=>exact⟨base.1,base.2.1,base.2.2.1,base.2.2.2,hlive⟩
  |some out=>
   dsimp only;cases(bN b.db (aL b t).2.1 (dR (aP b (aL b t).1))).2.1==0 with
   |true=>exact⟨after.1,after.2.1,after.2.2.1,after.2.2.2,hlive⟩
   |false=>exact⟨after.1,after.2.1,after.2.2.1,after.2.2.2,hlive⟩
theorem BI.Ah{b:Bs}{n:Nat}(h:BI b n)(hn:n<200)(id:Int):BI (aU b id).2.2 (n+1):=by
 unfold aU;cases ht:eR b id with
 |none=>exact h.mono hn
 |some t=>
  obtain⟨hm,hid⟩:=gz ht;subst hid;obtain⟨c1,c2,c3,_,c4⟩:=NW h hn hm;obtain⟨k1,k2,k3,k4,k5⟩:=ug b t;have hwt:=Ai b t;have hmk:=h.marks t hm;have hpk:=h.bT t hm;have hr:=h.ah;have hrw:=h.rw;have hdl:=h.dl;have hev:=h.ev;dsimp only;cases(aM b t).2.2.1==0 with
  |true=>
   refine h.fin hn (t.id:Int) (b2:=iy (aM b t).2.2.2 t (aM b t).1 (aM b t).2.1) c1 c2 c3 k5 c4 k3 (by show(aM b t).2.2.2.event+1≤_;omega) ?_ ?_ ?_ ?_
   ·show((aM b t).2.2.2.ah++[_]).length≤_;rw[k1];simp;omega
   ·show sU ((aM b t).2.2.2.ah++[_])≤_;rw[k1,NH];omega
   ·show((aM b t).2.2.2.done++[_]).length≤_;rw[k2];simp;omega
   ·intro d hd;have hd' :d∈(aM b t).2.2.2.done++[oa t (aM b t).1 (aM b t).2.1 ((aM b t).2.2.2.event+1)]:=hd;rw[k2]at hd';rcases gD.1 hd' with hd' |hd'
    ·exact h.don d hd'
    ·simp at hd';subst hd';unfold VD at hwt;exact⟨by show(aM b t).1.reads.length<small;unfold small;omega,by show(aM b t).1.writes.length<small;unfold small;omega⟩
  |false=>
   exact h.fin hn (t.id:Int) (b2:=(aM b t).2.2.2) c1 c2 c3 k5 c4 k3 (by omega) (by rw[k1];omega) (by rw[k1];omega) (by rw[k2];omega) (by rw[k2];exact h.don)
theorem BI.Eb{b:Bs}{n:Nat}(h:BI b n)(hn:n<200){o:ta}(ho:yA o):BI (Ao b o).2 (n+1):=by
 unfold Ao;cases o.dO==0 with
 |true=>exact h.begin hn
 |false=>
  cases o.dO==1 with
  |true=>exact h.read hn _ _
  |false=>
   cases o.dO==2 with
   |true=>exact h.scan hn _ _
   |false=>
    cases o.dO==3 with
    |true=>exact h.write hn _ ⟨by have:=ho.1;unfold small;omega,by have:=ho.2.1;unfold small;omega⟩
    |false=>
     cases o.dO==4 with
     |true=>exact h.Ah hn _
     |false=>
      cases o.dO==5 with
      |true=>
       show BI (iH b o.id).2 (n+1);unfold iH;cases eR b o.id with
       |none=>exact h.mono hn
       |some t=>exact(h.ends o.id).mono hn
      |false=>
       cases o.dO==6 with
       |true=>exact h.col.mono hn
       |false=>exact h.mono hn
theorem BI.zero{l:Lm}(hl:GG l):BI (vU l) 0:=
 ⟨by omega,⟨⟨by show 0+_<small;unfold small;omega,fun k hk=>(List.not_mem_nil hk).elim,fun x hx=>(List.not_mem_nil hx).elim,fun x hx=>(List.not_mem_nil hx).elim,fun x hx=>(List.not_mem_nil hx).elim⟩,⟨fun x hx=>(List.not_mem_nil hx).elim,fun x hx=>(List.not_mem_nil hx).elim⟩,⟨List.nodup_nil,fun k=>by show k∈([]:List By)↔chain (PA l) k≠[];simp[chain,PA,fK],List.nodup_nil⟩,⟨dW _,dW _,dW _⟩⟩,dW _,dW _,dW _,dW _,List.nodup_nil,fun t ht=>(List.not_mem_nil ht).elim,dW _,fun t ht=>(List.not_mem_nil ht).elim,fun t ht=>(List.not_mem_nil ht).elim,fun t ht=>(List.not_mem_nil ht).elim,dW _,dW _,dW _,fun t ht=>(List.not_mem_nil ht).elim,hl⟩
end Go.RE
namespace Go.RE
theorem O6(l:Lm):Cy [.row (je l),.row (je l),.row (je l),.map [] 0,.row (dG (PA l) 3 (.nl 1)),.map [] 0,.row (dz (vU l) 4 5 (.nl 6) (.nl 7))] 0 6 4 5 3 [6,4,5,3] (vU l):=
 ⟨⟨[],_,_,_,qdL l,.inr ⟨rfl,rfl⟩,.inr ⟨rfl,rfl⟩,.inr ⟨rfl,rfl⟩,rfl⟩,dW _⟩
def QS:Bs:=(aF (vU jZ)).2.2
def V8:Bs:=(aF QS).2.2
def sk3:Bs:=(iF V8 1 [97]).2
def sk4:Bs:=(bI sk3 1 ⟨[98],false,[49]⟩).2
def sk5:Bs:=(iF sk4 2 [98]).2
def sk6:Bs:=(bI sk5 2 ⟨[97],false,[49]⟩).2
def sk7:Bs:=(aU sk6 1).2.2
theorem t52:∃ H f,G 52 [] [] 0=some (.int .i64 101,H,f)∧f≤H.length:=by
 have i0:BI (vU jZ) 0:=BI.zero nF;have i1:BI QS 1:=i0.begin (by omega);have i2:BI V8 2:=i1.begin (by omega);have i3:BI sk3 3:=i2.read (by omega) 1 [97];have i4:BI sk4 4:=i3.write (by omega) 1 ⟨by decide,by decide⟩;have i5:BI sk5 5:=i4.read (by omega) 2 [98];have i6:BI sk6 6:=i5.write (by omega) 2 ⟨by decide,by decide⟩;have i7:BI sk7 7:=i6.Ah (by omega) 1;obtain⟨h1,f1,F1,c1,l1⟩:=w17 (O6 jZ) (i0.pre (by omega));obtain⟨h2,f2,F2,c2,l2⟩:=w17 l1.at_ (i1.pre (by omega));obtain⟨h3,F3,c3,l3⟩:=w36 l2.at_ (i2.pre (by omega)) 1 [97] (by decide);obtain⟨h4,F4,c4,l4⟩:=w18 l3.at_ 1 ⟨[98],false,[49]⟩ ⟨by decide,by decide⟩;obtain⟨h5,F5,c5,l5⟩:=w36 l4.at_ (i4.pre (by omega)) 2 [98] (by decide);obtain⟨h6,F6,c6,l6⟩:=w18 l5.at_ 2 ⟨[97],false,[49]⟩ ⟨by decide,by decide⟩;obtain⟨h7,F7,c7,l7⟩:=w19 l6.at_ (i6.pre (by omega)) 1;obtain⟨h8,F8,c8,l8⟩:=w19 l7.at_ (i7.pre (by omega)) 2;have v1:(aF (vU jZ)).1=1∧(aF (vU jZ)).2.1=0:=⟨rfl,rfl⟩;have v2:(aF QS).1=2∧(aF QS).2.1=0:=⟨rfl,rfl⟩;have v7:(aU sk6 1).1=1∧(aU sk6 1).2.1=0:=⟨rfl,rfl⟩;have v8:(aU sk7 2).2.1=101:=rfl;have e1:(aF (vU jZ)).2.2=QS:=rfl;have e2:(aF QS).2.2=V8:=rfl;have e3:(iF V8 1 [97]).2=sk3:=rfl;have e4:(bI sk3 1 ⟨[98],false,[49]⟩).2=sk4:=rfl;have e5:(iF sk4 2 [98]).2=sk5:=rfl;have e6:(bI sk5 2 ⟨[97],false,[49]⟩).2=sk6:=rfl;have e7:(aU sk6 1).2.2=sk7:=rfl;rw[e1]at c2;rw[e1,e2]at c3;rw[e1,e2,e3]at c4;rw[e1,e2,e3,e4]at c5;rw[e1,e2,e3,e4,e5]at c6;rw[e1,e2,e3,e4,e5,e6]at c7;rw[e1,e2,e3,e4,e5,e6,e7]at c8;rw[v1.1,v1.2]at c1;rw[v2.1,v2.2]at c2;rw[v7.1,v7.2]at c7;rw[v8]at c8;obtain⟨r3,is3,x3,s3⟩:=A4 V8 1 [97];obtain⟨r5,is5,x5,s5⟩:=A4 sk4 2 [98];rw[s3]at c3;rw[s5]at c5;have p1:=t51 [98] [49];have p2:=t51 [97] [49];have m1:=t14 jZ nF;have m0:=t15;have hle:=l8.at_.fle;refine⟨_,_,bL (fn:=v52) (R:=(.int .i64 101,cut 0 f2 h8,f2)) rfl rfl rfl ?_,by unfold cut;rw[List.length_take];omega⟩;simp only[dI,je]at c4 c6 p1 p2 m0;simp only[je,dG,dz]at m1 c1;simp at c1 c2 c7;simp[B8,Zh,Zi,Zj,Zk,Zl,Zm,Zn,Zo,Zp,US,UT,UU,UW,m0,m1,c1,c2,c3,c4,c5,c6,c7,c8,p1,p2,ji,dG,dz]
def lw3:Bs:=(bI V8 1 ⟨[98],false,[49]⟩).2
def lw4:Bs:=(bI lw3 2 ⟨[98],false,[50]⟩).2
def lw5:Bs:=(aU lw4 1).2.2
def lw6:Bs:=(aU lw5 2).2.2
theorem t12:∃ H f,G 12 [] [] 0=some (.bool true,H,f)∧f≤H.length:=by
 have i0:BI (vU jZ) 0:=BI.zero nF;have i1:BI QS 1:=i0.begin (by omega);have i2:BI V8 2:=i1.begin (by omega);have i3:BI lw3 3:=i2.write (by omega) 1 ⟨by decide,by decide⟩;have i4:BI lw4 4:=i3.write (by omega) 2 ⟨by decide,by decide⟩;have i5:BI lw5 5:=i4.Ah (by omega) 1;have i6:BI lw6 6:=i5.Ah (by omega) 2;obtain⟨h1,f1,F1,c1,l1⟩:=w17 (O6 jZ) (i0.pre (by omega));obtain⟨h2,f2,F2,c2,l2⟩:=w17 l1.at_ (i1.pre (by omega));obtain⟨h3,F3,c3,l3⟩:=w18 l2.at_ 1 ⟨[98],false,[49]⟩ ⟨by decide,by decide⟩;obtain⟨h4,F4,c4,l4⟩:=w18 l3.at_ 2 ⟨[98],false,[50]⟩ ⟨by decide,by decide⟩;obtain⟨h5,F5,c5,l5⟩:=w19 l4.at_ (i4.pre (by omega)) 1;obtain⟨h6,F6,c6,l6⟩:=w19 l5.at_ (i5.pre (by omega)) 2;obtain⟨⟨lv,rc,dn,ks,b6,r1,_,_,_⟩,hf6⟩:=l6.at_;have c7:=t23 f2 hf6 b6 r1 i6.d.r.ok;have v1:(aF (vU jZ)).1=1∧(aF (vU jZ)).2.1=0:=⟨rfl,rfl⟩;have v2:(aF QS).1=2∧(aF QS).2.1=0:=⟨rfl,rfl⟩;have v3:(bI V8 1 ⟨[98],false,[49]⟩).1=0:=rfl;have v4:(bI lw3 2 ⟨[98],false,[50]⟩).1=0:=rfl;have v5:(aU lw4 1).1=1∧(aU lw4 1).2.1=0:=⟨rfl,rfl⟩;have v6:(aU lw5 2).2.1=100:=rfl;have v7:qaf lw6=[([98],[49])]:=rfl;have e1:(aF (vU jZ)).2.2=QS:=rfl;have e2:(aF QS).2.2=V8:=rfl;have e3:(bI V8 1 ⟨[98],false,[49]⟩).2=lw3:=rfl;have e4:(bI lw3 2 ⟨[98],false,[50]⟩).2=lw4:=rfl;have e5:(aU lw4 1).2.2=lw5:=rfl;have e6:(aU lw5 2).2.2=lw6:=rfl;rw[e1]at c2;rw[e1,e2]at c3;rw[e1,e2,e3]at c4;rw[e1,e2,e3,e4]at c5;rw[e1,e2,e3,e4,e5]at c6;rw[e1,e2,e3,e4,e5,e6]at c7;rw[v1.1,v1.2]at c1;rw[v2.1,v2.2]at c2;rw[v3]at c3;rw[v4]at c4;rw[v5.1,v5.2]at c5;rw[v6]at c6;rw[v7]at c7;have p1:=t51 [98] [49];have p2:=t51 [98] [50];have m1:=t14 jZ nF;have m0:=t15;obtain⟨H,f,hs,hfH⟩:=t52;have ub:∀ s,qbO s (.sl 1 (bE [49]))=some (.str [49],s):=fun s=>rfl;simp only[dI,je]at c3 c4 p1 p2 m0;simp only[je,dG,dz]at m1 c1;simp only[uF,List.map_cons,List.map_nil]at c7;simp at c1 c2 c3 c4 c5 c6;cases H with
 |nil=>
  refine⟨_,_,bL (fn:=v12) (R:=(.bool true,cut 0 f2 h6,f2)) rfl rfl rfl ?_,by unfold cut;rw[List.length_take];omega⟩;simp[uU,RV,RW,RX,RY,RZ,R1,R2,R3,KA,KB,m0,m1,c1,c2,c3,c4,c5,c6,c7,p1,p2,hs,ub,ji,dG,dz]
 |cons a H=>
  refine⟨_,_,bL (fn:=v12) (R:=(.bool true,cut 0 (bif Nat.beq f 0 then f2 else h6.length+f) (h6++(a::H).map (eL h6.length)),bif Nat.beq f 0 then f2 else h6.length+f)) rfl rfl rfl ?_,by
   unfold cut;rw[List.length_take];simp only[lZ,List.length_map];cases Nat.beq f 0 with
   |true=>simp only[cond_true];omega
   |false=>simp only[cond_false];omega⟩
  simp[uU,RV,RW,RX,RY,RZ,R1,R2,R3,KA,KB,m0,m1,c1,c2,c3,c4,c5,c6,c7,p1,p2,hs,ub,ji,dG,dz]
end Go.RE
namespace Go.RE
theorem qaj(l:Lm)(X:List Uo)(fl:Nat)(hfl:fl≤X.length):Cy (X++[.row (je l),.row (je l),.row (je l),.map [] 0,.row (dG (PA l) (3+X.length) (.nl 1)),.map [] 0,.row (dz (vU l) (4+X.length) (5+X.length) (.nl 6) (.nl 7))]) fl
  (6+X.length) (4+X.length) (5+X.length) (3+X.length) [6+X.length,4+X.length,5+X.length,3+X.length] (vU l):=by
 have hg:∀ (k:Nat) (Y:List Uo),(X++Y)[k+X.length]? =Y[k]? :=fun k Y=>by
  rw[fh (by omega),show k+X.length - X.length=k by omega]
 refine⟨⟨[],.nl 6,.nl 7,.nl 1,⟨by rw[hg];rfl,⟨by rw[hg];rfl,by rw[hg];exact uz kP⟩,by rw[hg];exact uz k8,rfl,fun l hl=>(List.not_mem_nil hl).elim,by simp[bZ]⟩,.inr ⟨rfl,rfl⟩,.inr ⟨rfl,rfl⟩,.inr ⟨rfl,rfl⟩,by simp[bZ]⟩,by simp;omega⟩
theorem Cy.cut{h:List Uo}{fl n:Nat}{i s m o:Nat}{F:List Nat}{b:Bs}(hb:Cy h fl i s m o F b)(hF:∀ x∈F,x<max n fl):Cy (cut n fl h) fl i s m o F b:=by
 obtain⟨⟨lv,rc,dn,ks,hb,r1,r2,r3,rfl⟩,h2⟩:=hb;refine⟨⟨lv,rc,dn,ks,hb.same (fun j hj=> ?_),r1,r2,r3,rfl⟩,?_⟩
 ·unfold RE.cut;rw[jN,if_pos (hF j hj)]
 ·unfold RE.cut;rw[List.length_take];omega
structure CA(h:List Uo)(fl n:Nat)(i s m o:Nat)(F:List Nat)(b:Bs)(W:Uo):Prop where
 at_:Cy h fl i s m o F b
 Ql:n≤h.length
 foo:∀ x∈F,x<max n fl∧0<x
 w:h[0]? =some W
 n0:0<n
theorem Left.plain{h x h' :List Uo}{fl fl' :Nat}{i s m o:Nat}{F F' :List Nat}{b' :Bs}(hf:fl≤h.length)(hF:∀ j∈F,j<h.length)(hl:Left (h++x) h' fl fl' i s m o F F' b')(hx:0<x.length):
  Left h (RE.cut h.length fl' h') fl fl' i s m o F F' b' :=by
 have hlen:=hl.gr.1;simp only[lZ]at hlen;have hlt:h.length<h'.length:=by omega
 have:=hl.fin hf hF (k:=h.length) (aq _) (by omega) h'[h.length];rw[List.set_getElem_self hlt]at this;exact this
theorem CA.left{h h' :List Uo}{fl fl' n:Nat}{i s m o:Nat}{F F' :List Nat}{b b' :Bs}{W:Uo}(hr:CA h fl n i s m o F b W)(hl:Left h h' fl fl' i s m o F F' b'):CA h' fl' n i s m o F' b' W:=by
 have hn:=hr.Ql;have h0:=hr.n0;have hg:=hl.gr;refine⟨hl.at_,Nat.le_trans hn hg.1,fun x hx=>⟨?_,?_⟩,?_,h0⟩
 ·rcases hl.or with⟨e,e2,e3⟩|e
  ·have:=(hr.foo x (e3 x hx)).1;omega
  ·have:=hl.at_.lt x hx;omega
 ·rcases hg.2.2 x hx with h1|h1
  ·exact(hr.foo x h1).2
  ·omega
 ·rw[hg.2.1 0 (by omega) (fun hh=>by have:=(hr.foo 0 hh).2;omega)];exact hr.w
theorem CA.cut{h:List Uo}{fl n:Nat}{i s m o:Nat}{F:List Nat}{b:Bs}{W:Uo}(hr:CA h fl n i s m o F b W):CA (RE.cut n fl h) fl n i s m o F b W:=by
 have hn:=hr.Ql;have h0:=hr.n0;refine⟨hr.at_.cut (fun x hx=>(hr.foo x hx).1),?_,hr.foo,?_,h0⟩
 ·unfold RE.cut;rw[List.length_take];omega
 ·unfold RE.cut;rw[jN,if_pos (by omega)];exact hr.w
def nr(b:Bs)(o:ta):Bs:=(Ao b o).2
theorem qhK(L M:List ta)(D:List (List U))(hL:L.length<small)(hok:∀ o∈L,yA o)(n i s m o:Nat)(W:Uo)(hi:i<n)(K:Ex→Vs→Prop)(R:Bs)
  (hK:∀ h fl F,CA h fl n i s m o F R W→K .normal ⟨[(9,.ptr i 0),(1,.sl 6 (M.map dF)),(6,.ptr 0 0),(3,.sl 1 D)],h,fl⟩):
  ∀ (j q c:Nat) (h:List Uo) (fl:Nat) (F:List Nat) (b:Bs),q+j=L.length→c+j<200→BI b c→CA h fl n i s m o F b W→(L.drop q).foldl nr b=R→
  gL br mT qT pT v3 0 B4 n ⟨[(60,.int .i64 (q:Int)),(9,.ptr i 0),(58,.sl 6 (L.map dF)),(1,.sl 6 (M.map dF)),(6,.ptr 0 0),(3,.sl 1 D),(59,.int .i64 (L.length:Int))],h,fl⟩ K:=by
 intro j
 induction j with
 |zero=>
  intro q c h fl F b hij hc hb hr hR;obtain⟨h1,h2⟩:=nB hij;rw[h2]at hR;simp only[List.foldl_nil]at hR;subst hR;have hin:decide (i<n)=true:=decide_eq_true hi;have h0n:decide (0<n)=true:=decide_eq_true hr.n0;rw[ak B4.eq_1];simp[qcx,h1,hin,h0n,hr.n0];exact hK _ _ _ hr.cut
 |succ j ih=>
  intro q c h fl F b hij hc hb hr hR;obtain⟨h1,e3,p,d1,g1⟩:=qn hij hL;have e1:=g1 dF;have hp:yA p:=hok p (List.mem_of_mem_drop (i:=q) (by rw[d1];exact eU));rw[d1,List.foldl_cons]at hR;have hFl:=hr.at_.lt;have hfl:=hr.at_.fle;obtain⟨h',fl',F',c1,l1⟩:=t16 (hr.at_.app (x:=[.row (dF p)])) (hb.pre (by omega)) p hp;have l2:=l1.plain hfl hFl (by simp);have r2:=(hr.left l2).cut;have hb2:=hb.Eb (by omega) hp;have ih' :=ih (q+1) (c+1) _ _ _ _ (by omega) (by omega) hb2 r2 hR;have hin:decide (i<n)=true:=decide_eq_true hi;have hih:decide (i<h.length)=true:=decide_eq_true (by have:=hr.Ql;omega);have h0n:decide (0<n)=true:=decide_eq_true hr.n0;have h0h:decide (0<h.length)=true:=decide_eq_true (by have:=hr.Ql;have:=hr.n0;omega);have h0h' :0<h.length:=by have:=hr.Ql;have:=hr.n0;omega
  simp only[dF]at e1 c1;rw[ak B4.eq_1];simp[qcx,qf3,qf4,Y5,dF,h1,bg e1,e3,c1,hin,hih,h0n,h0h,hr.n0,h0h'];simpa using ih'
def iQ(x y:Int)(b:Bs)(o:ta):Bs:=bif !(o.id==x)&& !(o.id==y)then nr b o else b
theorem qhL(L:List ta)(x y:Int)(hL:L.length<small)(hok:∀ o∈L,yA o)(n i s m o:Nat)(W:Uo)(hi:i<n)(K:Ex→Vs→Prop)(R:Bs)
  (hK:∀ h fl F c,c<190→BI R c→CA h fl n i s m o F R W→K .normal ⟨[(14,.int .i64 y),(9,.ptr i 0),(12,.int .i64 x)],h,fl⟩):
  ∀ (j q c:Nat) (h:List Uo) (fl:Nat) (F:List Nat) (b:Bs),q+j=L.length→c+j<190→BI b c→CA h fl n i s m o F b W→(L.drop q).foldl (iQ x y) b=R→
  gL br mT qT pT v3 2 tX n ⟨[(97,.int .i64 (q:Int)),(9,.ptr i 0),(14,.int .i64 y),(12,.int .i64 x),(95,.sl 6 (L.map dF)),(96,.int .i64 (L.length:Int))],h,fl⟩ K:=by
 intro j
 induction j with
 |zero=>
  intro q c h fl F b hij hc hb hr hR;obtain⟨h1,h2⟩:=nB hij;rw[h2]at hR;simp only[List.foldl_nil]at hR;subst hR;have hin:decide (i<n)=true:=decide_eq_true hi;rw[ak tX.eq_1];simp[IJ,h1,hin];exact hK _ _ _ c (by omega) hb hr.cut
 |succ j ih=>
  intro q c h fl F b hij hc hb hr hR;obtain⟨h1,e3,p,d1,g1⟩:=qn hij hL;have e1:=g1 dF;have hp:yA p:=hok p (List.mem_of_mem_drop (i:=q) (by rw[d1];exact eU));rw[d1,List.foldl_cons]at hR;have hFl:=hr.at_.lt;have hfl:=hr.at_.fle;have hin:decide (i<n)=true:=decide_eq_true hi;have hih:decide (i<h.length)=true:=decide_eq_true (by have:=hr.Ql;omega);have hnle:=hr.Ql;simp only[dF]at e1;cases k1:p.id==x with
  |true=>
   have hs:iQ x y b p=b:=by simp[iQ,k1]
   rw[hs]at hR;have k1' :p.id=x:=by simpa using k1
   have r2:CA (RE.cut n fl (RE.cut h.length fl (h++[.row (dF p)]))) fl n i s m o F b W:=by rw[qA hfl];exact hr.cut
   have ih' :=ih (q+1) c _ _ _ _ (by omega) (by omega) hb r2 hR;simp only[dF,k1']at ih';rw[ak tX.eq_1];simp[IJ,Nw,Nx,Ny,dF,h1,bg e1,e3,k1',hin,hih];simpa using ih'
  |false=>
   have k1' :¬(p.id=x):=by simpa using k1
   have k1'' :(p.id !=x)=true:=by simpa using k1'
   cases k2:p.id==y with
   |true=>
    have hs:iQ x y b p=b:=by simp[iQ,k2]
    rw[hs]at hR;have k2' :p.id=y:=by simpa using k2
    have r2:CA (RE.cut n fl (RE.cut h.length fl (h++[.row (dF p)]))) fl n i s m o F b W:=by rw[qA hfl];exact hr.cut
    have ih' :=ih (q+1) c _ _ _ _ (by omega) (by omega) hb r2 hR;simp only[dF,k2']at ih';rw[k2']at k1'';rw[ak tX.eq_1];simp[IJ,Nw,Nx,Ny,dF,h1,bg e1,e3,k2',k1'',hin,hih];simpa using ih'
   |false=>
    have k2' :¬(p.id=y):=by simpa using k2
    have k2'' :(p.id !=y)=true:=by simpa using k2'
    have hs:iQ x y b p=nr b p:=by simp[iQ,k1,k2]
    rw[hs]at hR;obtain⟨h',fl',F',c1,l1⟩:=t16 (hr.at_.app (x:=[.row (dF p)])) (hb.pre (by omega)) p hp;have l2:=l1.plain hfl hFl (by simp);have r2:=(hr.left l2).cut;have hb2:=hb.Eb (by omega) hp;have ih' :=ih (q+1) (c+1) _ _ _ _ (by omega) (by omega) hb2 r2 hR;simp only[dF]at c1;rw[ak tX.eq_1];simp[IJ,Nw,Nx,Y6,Ny,dF,h1,bg e1,e3,k1',k1'',k2',k2'',c1,hin,hih];simpa using ih'
def pz(L M:List ta)(w:Wt)(data:By):Bool:=
 let b1:=L.foldl nr (vU jZ);let x:=(aF b1).1;let b2:=(aF b1).2.2;let y:=(aF b2).1;let b3:=(aF b2).2.2;let e:=(bI b3 (x:Int) ⟨w.key,false,w.data⟩).1;let b4:=(bI b3 (x:Int) ⟨w.key,false,w.data⟩).2;let f:=(bI b4 (y:Int) ⟨w.key,false,data⟩).1;let b5:=(bI b4 (y:Int) ⟨w.key,false,data⟩).2
 bif !(e==0)|| !(f==0)then true else
 let b6:=M.foldl (iQ (x:Int) (y:Int)) b5
 !((aU b6 (x:Int)).2.1==0)||(aU (aU b6 (x:Int)).2.2 (y:Int)).2.1==100
def qH(L M:List ta)(w:Wt)(data:By):Bool:=G2 L&&G2 M&&decide (w.key.length≤300)&&decide (w.data.length≤5000)&&decide (data.length≤5000)
theorem yM{l:List ta}(h:G2 l=true):(∀ o∈l,yA o)∧l.length≤80:=by
 unfold G2 at h;simp only[bC,jD,decide_eq_true_eq]at h;refine⟨fun o ho=> ?_,h.2⟩;have:=h.1 o ho;unfold qS at this;simp only[bC,decide_eq_true_eq]at this;exact⟨this.1.1,this.1.2,this.2⟩
theorem qfC(L M:List ta)(w:Wt)(data:By)(hl:L.length<small)(hm:M.length<small)(hg:qH L M w data=false):∃ H f,G 3 [.sl 6 (L.map dF),.sl 6 (M.map dF),.agg (dI w),.sl 1 (bE data)] [] 0=some (.bool true,H,f):=by
 obtain⟨H,f,hv,hvf⟩:=t12;have c1:=t13 L hl;have c2:=t13 M hm;have k1:decide (300<(w.key.length:Int))=decide (300<w.key.length):=by rw[decide_eq_decide];omega
 have k2:decide (5000<(w.data.length:Int))=decide (5000<w.data.length):=by rw[decide_eq_decide];omega
 have k3:decide (5000<(data.length:Int))=decide (5000<data.length):=by rw[decide_eq_decide];omega
 have m1:decide (w.key.length≤300)= !decide (300<w.key.length):=by
  cases h:decide (300<w.key.length)with
  |true=>have:=of_decide_eq_true h;exact decide_eq_false (by omega)
  |false=>have:=of_decide_eq_false h;exact decide_eq_true (by omega)
 have m2:decide (w.data.length≤5000)= !decide (5000<w.data.length):=by
  cases h:decide (5000<w.data.length)with
  |true=>have:=of_decide_eq_true h;exact decide_eq_false (by omega)
  |false=>have:=of_decide_eq_false h;exact decide_eq_true (by omega)
 have m3:decide (data.length≤5000)= !decide (5000<data.length):=by
  cases h:decide (5000<data.length)with
  |true=>have:=of_decide_eq_true h;exact decide_eq_false (by omega)
  |false=>have:=of_decide_eq_false h;exact decide_eq_true (by omega)
 unfold qH at hg;rw[m1,m2,m3]at hg
 suffices hh:∃ r h' fl',G 3 [.sl 6 (L.map dF),.sl 6 (M.map dF),.agg (dI w),.sl 1 (bE data)] [] 0=some (r,h',fl')∧r=.bool true by
  obtain⟨r,h',fl',h1,rfl⟩:=hh;exact⟨h',fl',h1⟩
 refine XP (fn:=v3) (P:=fun r _ _=>r=.bool true) rfl rfl rfl rfl ?_;cases H<;>cases f1:G2 L<;>cases f2:G2 M<;>cases f3:decide (300<w.key.length)<;>cases f4:decide (5000<w.data.length)<;>cases f5:decide (5000<data.length)<;>
  (first|(rw[f1,f2,f3,f4,f5]at hg;simp at hg;done)|(rw[f1]at c1;rw[f2]at c2;rw[f3]at k1;rw[f4]at k2;rw[f5]at k3;simp[vI,Xy,Xz,qf2,dI,hv,c1,c2,k1,k2,k3,D2]))
end Go.RE
namespace Go.RE
theorem BI.run:∀ (L:List ta) (b:Bs) (c:Nat),(∀ o∈L,yA o)→c+L.length<200→BI b c→BI (L.foldl nr b) (c+L.length)
 |[],b,c,_,_,h=>h
 |o::r,b,c,ho,hc,h=>by
  simp only[List.length_cons]at hc;have:=BI.run r (nr b o) (c+1) (fun x hx=>ho x (gB _ hx)) (by omega) (h.Eb (by omega) (ho o eU));rw[List.foldl_cons,List.length_cons,show c+(r.length+1)=c+1+r.length by omega];exact this
theorem CA.Ib{h:List Uo}{fl n:Nat}{i s m o:Nat}{F:List Nat}{b:Bs}{W:Uo}(hr:CA h fl n i s m o F b W)(W' :Uo):CA (h.set 0 W') fl n i s m o F b W' :=by
 have hF:=hr.foo;have hn:=hr.Ql;have h0:=hr.n0;obtain⟨⟨lv,rc,dn,ks,hb,r1,r2,r3,rfl⟩,h2⟩:=hr.at_;exact⟨⟨⟨lv,rc,dn,ks,hb.same (fun j hj=>List.getElem?_set_ne (by have:=(hF j hj).2;omega)),r1,r2,r3,rfl⟩,by simpa using h2⟩,by simpa using hn,hF,List.getElem?_set_self (by omega),h0⟩
theorem CA.now{h:List Uo}{fl n:Nat}{i s m o:Nat}{F:List Nat}{b:Bs}{W:Uo}(hr:CA h fl n i s m o F b W):CA h fl h.length i s m o F b W:=
 ⟨hr.at_,aq _,fun x hx=>⟨by have:=hr.at_.lt x hx;omega,(hr.foo x hx).2⟩,hr.w,by have:=hr.Ql;have:=hr.n0;omega⟩
theorem CA.lt{h:List Uo}{fl n:Nat}{i s m o:Nat}{F:List Nat}{b:Bs}{W:Uo}(hr:CA h fl n i s m o F b W):i<h.length:=by
 obtain⟨lv,rc,dn,ks,hb,_⟩:=hr.at_.at_;exact(bn.1 hb.row).1
def Gx(w:Wt)(d:By):Wt:=⟨w.key,false,d⟩
theorem qhM(L M:List ta)(w:Wt)(data:By)(hL:∀ o∈L,yA o)(hM:∀ o∈M,yA o)(hl:L.length≤80)(hm:M.length≤80)(hw1:w.key.length≤300)(hw2:w.data.length≤5000)(hw3:data.length≤5000)
  (n i s m o:Nat) (hi:i<n) (h:List Uo) (fl:Nat) (F:List Nat) (hr:CA h fl n i s m o F (vU jZ) (.row (dI w))):
  gL br mT qT pT v3 0 B4 n ⟨[(60,.int .i64 0),(9,.ptr i 0),(58,.sl 6 (L.map dF)),(1,.sl 6 (M.map dF)),(6,.ptr 0 0),(3,.sl 1 (bE data)),(59,.int .i64 (L.length:Int))],h,fl⟩
   (gI br mT qT pT v3 (.seq (.region IB) (.seq (.region IC) (.seq (.region ID) (.seq (.region IE) (.seq (.region IF) (.seq (.region IG) (.seq (.seq (.region II) (.cond (.t 94) (.seq (.region Nv) .ret) .skip))
    (.seq (.seq (.region UL) (.block 2 (.loop tX))) (.seq (.region IK) (.seq (.region IL) (.seq (.region IM) .ret))))))))))) (kX 0 v3 fun r _ _=>r=.bool (pz L M w data))):=by
 have hB:=BI.run L (vU jZ) 0 hL (by omega) (BI.zero nF);rw[Nat.zero_add]at hB;refine qhK L M (bE data) (by unfold small;omega) hL n i s m o (.row (dI w)) hi _ (L.foldl nr (vU jZ)) (fun h fl F hr=> ?_) L.length 0 0 h fl F (vU jZ) (by omega) (by omega) (BI.zero nF) hr rfl
 -- two begin
 generalize hb1:L.foldl nr (vU jZ)=b1 at*;obtain⟨h1,f1,F1,c1,l1⟩:=w17 hr.at_ (hB.pre (by omega));have r1:=hr.left l1;have i1:=hB.begin (by omega);obtain⟨h2,f2,F2,c2,l2⟩:=w17 r1.at_ (i1.pre (by omega));have r2:=r1.left l2;have i2:=i1.begin (by omega);have r3:=r2.Ib (.row (dI (Gx w w.data)));have hwo:lS (Gx w w.data):=⟨by show w.key.length<small;unfold small;omega,by show w.data.length<small;unfold small;omega⟩;have hwd:lS (Gx w data):=⟨by show w.key.length<small;unfold small;omega,by show data.length<small;unfold small;omega⟩;obtain⟨h4,F4,c4,l4⟩:=w18 r3.at_ ((aF b1).1:Int) (Gx w w.data) hwo;have r4:=r3.left l4;have i4:=i2.write (by omega) ((aF b1).1:Int) hwo;have r5:=r4.Ib (.row (dI (Gx w data)));obtain⟨h6,F6,c6,l6⟩:=w18 r5.at_ ((aF (aF b1).2.2).1:Int) (Gx w data) hwd;have r6:=r5.left l6;have i6:=i4.write (by omega) ((aF (aF b1).2.2).1:Int) hwd;have g2:=r2.w;have g4:=r4.w;have g5:=r5.w;have g3:=r3.w;have hz2:∀ X:Uo,(h2.set 0 X)[0]? =some X:=fun X=>List.getElem?_set_self (by have:=r2.Ql;have:=r2.n0;omega);have hz4:∀ X:Uo,(h4.set 0 X)[0]? =some X:=fun X=>List.getElem?_set_self (by have:=r4.Ql;have:=r4.n0;omega);have hfirst:pz L M w data=(bif !((bI (aF (aF b1).2.2).2.2 ((aF b1).1:Int) (Gx w w.data)).1==0)|| !((bI (bI (aF (aF b1).2.2).2.2 ((aF b1).1:Int) (Gx w w.data)).2 ((aF (aF b1).2.2).1:Int) (Gx w data)).1==0)then true else
   !((aU (M.foldl (iQ ((aF b1).1:Int) ((aF (aF b1).2.2).1:Int)) (bI (bI (aF (aF b1).2.2).2.2 ((aF b1).1:Int) (Gx w w.data)).2 ((aF (aF b1).2.2).1:Int) (Gx w data)).2) ((aF b1).1:Int)).2.1==0)||(aU (aU (M.foldl (iQ ((aF b1).1:Int) ((aF (aF b1).2.2).1:Int)) (bI (bI (aF (aF b1).2.2).2.2 ((aF b1).1:Int) (Gx w w.data)).2 ((aF (aF b1).2.2).1:Int) (Gx w data)).2) ((aF b1).1:Int)).2.2 ((aF (aF b1).2.2).1:Int)).2.1==100):=by
  unfold pz;rw[hb1];rfl
 rw[hfirst];generalize hx:((aF b1).1:Int)=x at*;generalize hy:((aF (aF b1).2.2).1:Int)=y at*;generalize he:(bI (aF (aF b1).2.2).2.2 x (Gx w w.data)).1=e at*;generalize hbb:(bI (aF (aF b1).2.2).2.2 x (Gx w w.data)).2=b4 at*;generalize hf:(bI b4 y (Gx w data)).1=f at*;generalize hbb5:(bI b4 y (Gx w data)).2=b5 at*;have hin:decide (i<h.length)=true:=decide_eq_true hr.lt;simp only[dI,Gx]at c4 c6 g2 g3 g4 g5;cases k1:e==0 with
 |false=>
  have k1' :¬(e=0):=by simpa using k1
  have k1'' :((e:Int) !=0)=true:=by simp;omega
  simp[IB,IC,ID,IE,IF,IG,II,Nv,c1,c2,c4,c6,g2,g3,g4,g5,hz2,hz4,k1',k1'']
 |true=>
  have k1' :e=0:=by simpa using k1
  subst k1';cases k2:f==0 with
  |false=>
   have k2' :¬(f=0):=by simpa using k2
   have k2'' :((f:Int) !=0)=true:=by simp;omega
   simp[IB,IC,ID,IE,IF,IG,II,Nv,c1,c2,c4,c6,g2,g3,g4,g5,hz2,hz4,k2',k2'']
  |true=>
   have k2' :f=0:=by simpa using k2
   subst k2';have a:=qhL M x y (by unfold small;omega) hM h6.length i s m o (.row (dI (Gx w data))) r6.lt (gI br mT qT pT v3 (.seq (.region IK) (.seq (.region IL) (.seq (.region IM) .ret))) (kX 0 v3 fun r _ _=>r=.bool (!((aU (M.foldl (iQ x y) b5) x).2.1==0)||(aU (aU (M.foldl (iQ x y) b5) x).2.2 y).2.1==100))) (M.foldl (iQ x y) b5) (fun h fl F c hc hB7 hr7=>by
    obtain⟨h8,F8,c8,l8⟩:=w19 hr7.at_ (hB7.pre (by omega)) x;have i8:=hB7.Ah (by omega) x;obtain⟨h9,F9,c9,l9⟩:=w19 l8.at_ (i8.pre (by omega)) y;generalize aU (M.foldl (iQ x y) b5) x=C at*;generalize aU C.2.2 y=D at*;have z1:((C.2.1:Int) !=0)= !(C.2.1==0):=by
     cases hq:C.2.1==0 with
     |true=>
      have:C.2.1=0:=by simpa using hq
      rw[this];rfl
     |false=>
      have:¬C.2.1=0:=by simpa using hq
      simp;omega
    have z2:((D.2.1:Int)==100)=(D.2.1==100):=by
     cases hq:D.2.1==100 with
     |true=>
      have:D.2.1=100:=by simpa using hq
      rw[this];rfl
     |false=>
      have:¬D.2.1=100:=by simpa using hq
      rw[beq_eq_false_iff_ne];omega
    cases hq:C.2.1==0 with
    |true=>
     have e1:C.2.1=0:=by simpa using hq
     rw[e1]at c8;simp[IK,IL,IM,c8,c9,z2]
    |false=>
     rw[hq]at z1;have e1:¬C.2.1=0:=by simpa using hq
     simp[IK,IL,IM,c8,c9,z1,e1]) M.length 0 (L.length+1+1+1+1) h6 f2 F6 b5 (by omega) (by omega) i6 r6.now rfl
   have hi6:decide (i<h6.length)=true:=decide_eq_true r6.lt;have hc6:RE.cut h6.length f2 h6=h6:=aZ r6.at_.fle;simp only[Bool.not_true,Bool.or_self,cond_false,beq_self_eq_true];simp at a;simp[IB,IC,ID,IE,IF,IG,II,UL,c1,c2,c4,c6,g2,g3,g4,g5,hz2,hz4,hi6,hc6];simpa using a
theorem qch(L M:List ta)(w:Wt)(data:By)(hg:qH L M w data=true):∃ H f,G 3 [.sl 6 (L.map dF),.sl 6 (M.map dF),.agg (dI w),.sl 1 (bE data)] [] 0=some (.bool (pz L M w data),H,f):=by
 unfold qH at hg;simp only[bC,decide_eq_true_eq]at hg;obtain⟨⟨⟨⟨g1,g2⟩,g3⟩,g4⟩,g5⟩:=hg;obtain⟨hL,hl⟩:=yM g1;obtain⟨hM,hm⟩:=yM g2;obtain⟨H,f,hv,hvf⟩:=t12;have c1:=t13 L (by unfold small;omega);have c2:=t13 M (by unfold small;omega);rw[g1]at c1;rw[g2]at c2;have m1:=t14 jZ nF;have m0:=t15;have k1:¬(300<(w.key.length:Int)):=by omega
 have k2:¬(5000<(w.data.length:Int)):=by omega
 have k3:¬(5000<(data.length:Int)):=by omega
 suffices hh:∃ r h' fl',G 3 [.sl 6 (L.map dF),.sl 6 (M.map dF),.agg (dI w),.sl 1 (bE data)] [] 0=some (r,h',fl')∧r=.bool (pz L M w data) by
  obtain⟨r,h',fl',h1,rfl⟩:=hh;exact⟨h',fl',h1⟩
 refine XP (fn:=v3) (P:=fun r _ _=>r=.bool (pz L M w data)) rfl rfl rfl rfl ?_;have run:∀ (X:List Uo) (fl:Nat),fl≤X.length→X[0]? =some (.row (dI w))→_:=fun X fl hfl hX=>
  qhM L M w data hL hM hl hm g3 g4 g5 (X.length+7) (6+X.length) (4+X.length) (5+X.length) (3+X.length) (by omega) _ fl [6+X.length,4+X.length,5+X.length,3+X.length]
   ⟨qaj jZ X fl hfl,by simp,fun x hx=>by
    have h0:=(bn.1 hX).1;simp at hx;omega,aS hX,by omega⟩
 simp only[dI,je]at m0 run;simp only[je,dG,dz]at m1 run;cases H with
 |nil=>
  have a:=run [.row (dI w)] 0 (by simp) rfl;simp only[dI]at a;simp at a;simp[vI,Xy,Xz,qcu,qcv,qcw,dI,hv,c1,c2,k1,k2,k3,D2,m0,m1,ji,dG,dz,RE.cut];simpa using a
 |cons q H=>
  have a:=run (.row (dI w)::(q::H).map (eL 1)) (bif Nat.beq f 0 then 0 else 1+f) (by
   simp only[List.length_cons,List.length_map]at hvf⊢;cases Nat.beq f 0 with
   |true=>simp only[cond_true];omega
   |false=>simp only[cond_false];omega) rfl
  simp only[dI]at a;simp at a;have e9:H.length+1+1+7=H.length+7+1+1:=by omega
  rw[e9]at a;have hd:decide (6+(H.length+1+1)<H.length+7+1+1)=true:=decide_eq_true (by omega);have hcut:∀ l:List Uo,l.length=H.length+7+1+1→RE.cut (H.length+7+1+1) (bif decide (f=0)then 0 else 1+f) l=l:=fun l hl=>by
   unfold RE.cut;exact jU (by rw[hl];omega)
  simp[vI,Xy,Xz,qcu,qcv,qcw,dI,hv,c1,c2,k1,k2,k3,D2,m0,m1,ji,dG,dz,hd,hcut];simpa using a
theorem t3(L M:List ta)(w:Wt)(data:By)(hl:L.length<small)(hm:M.length<small)(hT:qH L M w data=true→pz L M w data=true):∃ H f,G 3 [.sl 6 (L.map dF),.sl 6 (M.map dF),.agg (dI w),.sl 1 (bE data)] [] 0=some (.bool true,H,f):=by
 cases hg:qH L M w data with
 |false=>exact qfC L M w data hl hm hg
 |true=>
  have:=qch L M w data hg;rw[hT hg]at this;exact this
end Go.RE
namespace Go.RE
structure Rl(b b' :Bs)(id:Int):Prop where
 now:b.db.now≤b'.db.now
 old:∀ t'∈b'.live,∃ t∈b.live,t'.id=t.id∧t'.began=t.began
 keep:∀ x:Int,x≠id→eR b' x=eR b x
theorem Rl.trans{b c d:Bs}{id:Int}(h:Rl b c id)(k:Rl c d id):Rl b d id:=
 ⟨Nat.le_trans h.now k.now,fun t' ht=>by
  obtain⟨t1,m1,e1,e2⟩:=k.old t' ht;obtain⟨t2,m2,e3,e4⟩:=h.old t1 m1;exact⟨t2,m2,e1.trans e3,e2.trans e4⟩,fun x hx=>(k.keep x hx).trans (h.keep x hx)⟩
theorem Rl.db{b b' :Bs}(id:Int)(hl:b'.live=b.live)(hn:b.db.now≤b'.db.now):Rl b b' id:=
 ⟨hn,fun t ht=>⟨t,hl▸ht,rfl,rfl⟩,fun x _=>by unfold eR;rw[hl]⟩
theorem Rl.refl(b:Bs)(id:Int):Rl b b id:=Rl.db id rfl (aq _)
theorem Q6(b:Bs)(t:Tx)(x:Int):eR (aP b t) x=(eR b x).map fun y=>if y.id=t.id then t else y:=by
 unfold eR aP;dsimp only;rw[List.find?_map];congr 1;congr 1;funext y;show decide (((if y.id=t.id then t else y:Tx).id:Int)=x)=decide ((y.id:Int)=x);by_cases h:y.id=t.id
 ·rw[if_pos h,h]
 ·rw[if_neg h]
theorem Rl.set{b:Bs}{id:Int}{t t' :Tx}(ht:t∈b.live)(h1:t'.id=t.id)(h2:t'.began=t.began)(hi:(t.id:Int)=id):Rl b (aP b t') id:=by
 refine⟨aq _,fun y hy=> ?_,fun x hx=> ?_⟩
 ·rcases mem_set hy with h|h
  ·exact⟨y,h,rfl,rfl⟩
  ·exact⟨t,ht,by rw[h,h1],by rw[h,h2]⟩
 ·rw[Q6];cases hb:eR b x with
  |none=>rfl
  |some y=>
   obtain⟨_,e⟩:=gz hb;have:¬y.id=t'.id:=by omega
   simp[this]
theorem MB(id x:Int)(hx:x≠id):∀ l:List Tx,(jJ id l).find? (fun t=>decide ((t.id:Int)=x))=l.find? (fun t=>decide ((t.id:Int)=x))
 |[]=>rfl
 |t::r=>by
  unfold jJ;cases h:decide ((t.id:Int)=id)with
  |true=>
   have h' :(t.id:Int)=id:=by simpa using h
   have:decide ((t.id:Int)=x)=false:=by rw[decide_eq_false_iff_not];omega
   rw[cond_true,List.find?_cons,this]
  |false=>rw[cond_false,List.find?_cons,List.find?_cons,MB id x hx r]
theorem Rl.ends(b:Bs)(id:Int):Rl b (kW b id) id:=
 ⟨aq _,fun t ht=>⟨t,(rN id b.live).subset ht,rfl,rfl⟩,fun x hx=>MB id x hx b.live⟩
theorem GV(d:Db)(l:List Wt)(low:Nat):d.now≤(bN d l low).2.2.now:=by
 unfold bN;cases eP none l==0 with
 |false=>exact aq _
 |true=>
  cases l.isEmpty with
  |true=>exact aq _
  |false=>
   cases decide (d.lim.last≤d.now)with
   |true=>exact aq _
   |false=>
    have hcn:=(mE d low).2;cases nH d (aT d l).2 with
    |true=>have:=(oA d (aT d l)).2;show d.now≤(iL d (aT d l)).now;omega
    |false=>
     cases nH (cK d low) (aT (cK d low) l).2 with
     |true=>have:=(oA (cK d low) (aT (cK d low) l)).2;show d.now≤(iL (cK d low) (aT (cK d low) l)).now;omega
     |false=>show d.now≤(cK d low).now;omega
theorem Rl.cmT{b:Bs}{t:Tx}{id:Int}(ht:eR b id=some t):Rl b (aM b t).2.2.2 id:=by
 obtain⟨hm,hi⟩:=gz ht;have hl:=me b (ov t) (t,[],[]);have hs:Rl b (aP b (aL b t).1) id:=Rl.set hm hl.2.2.2.2.2.1 hl.2.2.2.1 hi;unfold aM;cases iX b t with
 |true=>exact Rl.refl b id
 |false=>
  simp only[cond_false];cases oe b.ah (tH b t)with
  |none=>exact hs
  |some out=>
   dsimp only;have hd:Rl (aP b (aL b t).1) {aP b (aL b t).1 with db:=(bN b.db (aL b t).2.1 (dR (aP b (aL b t).1))).2.2} id:=Rl.db id rfl (GV b.db _ _);cases(bN b.db (aL b t).2.1 (dR (aP b (aL b t).1))).2.1==0 with
   |true=>exact hs.trans hd
   |false=>exact hs.trans hd
theorem Rl.cmB(b:Bs)(id:Int):Rl b (aU b id).2.2 id:=by
 unfold aU;cases ht:eR b id with
 |none=>exact Rl.refl b id
 |some t=>
  dsimp only;have h:=Rl.cmT ht;cases(aM b t).2.2.1==0 with
  |true=>exact(h.trans (Rl.db (b' :=iy (aM b t).2.2.2 t (aM b t).1 (aM b t).2.1) id rfl (aq _))).trans (Rl.ends _ id)
  |false=>exact h.trans (Rl.ends _ id)
theorem Rl.wrB(b:Bs)(id:Int)(w:Wt):Rl b (bI b id w).2 id:=by
 unfold bI;cases ht:eR b id with
 |none=>exact Rl.refl b id
 |some t=>
  dsimp only;obtain⟨hm,hi⟩:=gz ht;cases fV none w==0 with
  |false=>exact Rl.refl b id
  |true=>exact Rl.set hm rfl rfl hi
theorem Rl.rdB(b:Bs)(id:Int)(k:By):Rl b (iF b id k).2 id:=by
 unfold iF;cases ht:eR b id with
 |none=>exact Rl.refl b id
 |some t=>
  obtain⟨hm,hi⟩:=gz ht;dsimp only;cases fK nA k t.bT with
  |some w=>exact Rl.refl b id
  |none=>exact Rl.set hm rfl rfl hi
theorem Rl.scB(b:Bs)(id:Int)(s:cA):Rl b (jW b id s).2 id:=by
 unfold jW;cases ht:eR b id with
 |none=>exact Rl.refl b id
 |some t=>
  obtain⟨hm,hi⟩:=gz ht;dsimp only;cases dP s with
  |false=>exact Rl.refl b id
  |true=>exact Rl.set hm rfl rfl hi
theorem Rl.abB(b:Bs)(id:Int):Rl b (iH b id).2 id:=by
 unfold iH;cases eR b id with
 |none=>exact Rl.refl b id
 |some t=>exact Rl.ends b id
theorem Rl.coB(b:Bs)(id:Int):Rl b (Af b).2 id:=Rl.db id rfl (by have:=(mE b.db (dR b)).2;show b.db.now≤(cK b.db (dR b)).now;omega)
def Jv(b:Bs):Prop:=∀ t∈b.live,1≤t.id∧t.began≤b.db.now
theorem Rl.jv{b b' :Bs}{id:Int}(h:Rl b b' id)(j:Jv b):Jv b' :=fun t' ht=>by
 obtain⟨t,hm,e1,e2⟩:=h.old t' ht;have:=j t hm;have:=h.now;omega
theorem Jv.begin{b:Bs}(j:Jv b):Jv (aF b).2.2:=by
 unfold aF;cases decide (b.db.lim.live≤b.live.length)with
 |true=>exact j
 |false=>
  intro t ht;rcases gD.1 ht with h|h
  ·exact j t h
  ·have:=List.mem_singleton.1 h;subst this;exact⟨by show 1≤b.last+1;omega,aq _⟩
theorem Q4{b:Bs}{x:Int}{t:Tx}(h:eR b x=some t):eR (aF b).2.2 x=some t:=by
 unfold aF;cases decide (b.db.lim.live≤b.live.length)with
 |true=>exact h
 |false=>
  unfold eR at h⊢;simp[h]
theorem Da{b:Bs}{o:ta}(j:Jv b):Jv (nr b o)∧∀ (x:Int) (t:Tx),x≠o.id→eR b x=some t→eR (nr b o) x=some t:=by
 have go:∀ b',Rl b b' o.id→Jv b'∧∀ (x:Int) (t:Tx),x≠o.id→eR b x=some t→eR b' x=some t:=fun b' h=>⟨h.jv j,fun x t hx ht=>(h.keep x hx).trans ht⟩;unfold nr Ao;cases o.dO==0 with
 |true=>exact⟨j.begin,fun x t _ ht=>Q4 ht⟩
 |false=>
  cases o.dO==1 with
  |true=>exact go _ (Rl.rdB b _ _)
  |false=>
   cases o.dO==2 with
   |true=>exact go _ (Rl.scB b _ _)
   |false=>
    cases o.dO==3 with
    |true=>exact go _ (Rl.wrB b _ _)
    |false=>
     cases o.dO==4 with
     |true=>exact go _ (Rl.cmB b _)
     |false=>
      cases o.dO==5 with
      |true=>exact go _ (Rl.abB b _)
      |false=>
       cases o.dO==6 with
       |true=>exact go _ (Rl.coB b _)
       |false=>exact go _ (Rl.refl b _)
theorem LX:∀ (L:List ta) (b:Bs),Jv b→Jv (L.foldl nr b)
 |[],_,j=>j
 |o::L,b,j=>LX L _ (Da j).1
theorem Jy(x y:Int):∀ (M:List ta) (b:Bs),Jv b→Jv (M.foldl (iQ x y) b)∧∀ (z:Int) (t:Tx),z=x∨z=y→eR b z=some t→eR (M.foldl (iQ x y) b) z=some t
 |[],_,j=>⟨j,fun _ _ _ h=>h⟩
 |o::M,b,j=>by
  rw[List.foldl_cons];unfold iQ;cases hc: !(o.id==x)&& !(o.id==y)with
  |false=>exact Jy x y M b j
  |true=>
   simp only[cond_true];simp only[bC,Bool.not_eq_true',beq_eq_false_iff_ne]at hc;have h1:=Da (o:=o) j;have h2:=Jy x y M _ h1.1;refine⟨h2.1,fun z t hz ht=>h2.2 z t hz (h1.2 z t ?_ ht)⟩;rcases hz with rfl|rfl
   ·exact fun e=>hc.1 e.symm
   ·exact fun e=>hc.2 e.symm
theorem LV:∀ (L:List ta) (b:Bs) (n:Nat),BI b n→n+L.length≤200→(∀ o∈L,yA o)→BI (L.foldl nr b) (n+L.length)
 |[],_,_,h,_,_=>h
 |o::L,b,n,h,hn,ho=>by
  have hn' :n+(L.length+1)≤200:=hn;have:=LV L _ (n+1) (h.Eb (by omega) (ho o (.head _))) (by omega) fun p hp=>ho p (.tail _ hp);have e:n+(o::L).length=n+1+L.length:=by simp;omega
  rw[e];exact this
theorem LW(x y:Int):∀ (L:List ta) (b:Bs) (n:Nat),BI b n→n+L.length≤200→(∀ o∈L,yA o)→BI (L.foldl (iQ x y) b) (n+L.length)
 |[],_,_,h,_,_=>h
 |o::L,b,n,h,hn,ho=>by
  have hn' :n+(L.length+1)≤200:=hn;have hb:BI (iQ x y b o) (n+1):=by
   unfold iQ;cases !(o.id==x)&& !(o.id==y)with
   |true=>exact h.Eb (by omega) (ho o (.head _))
   |false=>exact h.mono (by omega)
  have:=LW x y L _ (n+1) hb (by omega) fun p hp=>ho p (.tail _ hp);have e:n+(o::L).length=n+1+L.length:=by simp;omega
  rw[e];exact this
end Go.RE
namespace Go.RE
theorem rV{α:Type}(key:α→By)(a x:α):∀ l:List α,x=a∨x∈l→x∈dD key a l
 |[],h=>by
  rcases h with h|h
  ·simp[dD,h]
  ·cases h
 |b::l,h=>by
  unfold dD;cases lt (key b) (key a)with
  |true=>
   rcases h with h|h
   ·exact .tail _ (rV key a x l (.inl h))
   ·cases h with
    |head=>exact .head _
    |tail _ h=>exact .tail _ (rV key a x l (.inr h))
  |false=>
   rcases h with h|h
   ·simp[h]
   ·exact .tail _ h
theorem DD{α:Type}(key:α→By)(x:α):∀ l:List α,x∈l→x∈dQ key l
 |[],h=>by cases h
 |b::l,h=>by
  show x∈dD key b (dQ key l);cases h with
  |head=>exact rV key _ _ _ (.inl rfl)
  |tail _ h=>exact rV key _ _ _ (.inr (DD key x l h))
theorem HE(b:Bs)(w:Wt)(hg:w.gone=false):∀ (L:List Wt) (z:XF),w∈z.2.1∨w∈L→w∈(L.foldl (eY b) z).2.1
 |[],z,h=>by
  rcases h with h|h
  ·exact h
  ·cases h
 |v::L,z,h=>by
  rw[List.foldl_cons];refine HE b w hg L _ ?_;unfold eY;rcases h with h|h
  ·left;cases v.gone&&(pG (chain b.db v.key) z.1.began).isNone with
   |true=>exact h
   |false=>exact List.mem_append_left _ h
  ·cases h with
   |head=>
    left;rw[hg];exact List.mem_append_right _ (.head _)
   |tail _ h=>exact .inr h
theorem GS(d:Db)(w:Wt)(hg:w.gone=false):∀ (L:List Wt) (z:List Wt×Sz),w∈z.1∨w∈L→w∈(L.foldl (eo d) z).1
 |[],z,h=>by
  rcases h with h|h
  ·exact h
  ·cases h
 |v::L,z,h=>by
  rw[List.foldl_cons];refine GS d w hg L _ ?_;unfold eo;rcases h with h|h
  ·left;cases v.gone&&kY (chain d v.key)with
   |true=>exact h
   |false=>cases(chain d v.key).isEmpty<;>exact List.mem_append_left _ h
  ·cases h with
   |head=>
    left;rw[hg];cases(chain d w.key).isEmpty<;>exact List.mem_append_right _ (.head _)
   |tail _ h=>exact .inr h
theorem Am{d:Db}{m L B:Nat}(h:LJ d (m+L) B)(h5:5000*(m+L)<small){l:List Wt}(hl:l.length≤L)(hc:eP none l=0){w:Wt}(hw:w∈l)(hg:w.gone=false):
  fm (chain (iL d (aT d l)) w.key)=d.now+1:=by
 obtain⟨_,_,_,a⟩:=An h h5 hl hc;rw[a w.key];have hm:w∈(aT d l).1:=GS d w hg l _ (.inr hw);cases hf:(aT d l).1.find? (fun v=>decide (v.key=w.key))with
 |none=>
  have:=List.find?_eq_none.1 hf w hm;simp at this
 |some v=>exact AM _ _
theorem D8{d:Db}{m L B:Nat}(h:LJ d (m+L) B)(h5:5000*(m+L)<small)(hB:2000000000*d.keys.length≤B){l:List Wt}(hl:l.length≤L)(low:Nat){w:Wt}(hw:w∈l)(hg:w.gone=false)
  (h0:(bN d l low).2.1=0):fm (chain (bN d l low).2.2 w.key)=d.now+1:=by
 have hcI:=Jj h h5 hB low;have hcn:=(mE d low).2;revert h0;unfold bN;cases hc:eP none l==0 with
 |false=>
  intro h0;have:eP none l=0:=h0;rw[this]at hc;cases hc
 |true=>
  have hc' :eP none l=0:=by simpa using hc
  cases he:l.isEmpty with
  |true=>
   have:l=[]:=by simpa using he
   rw[this]at hw;cases hw
  |false=>
   cases decide (d.lim.last≤d.now)with
   |true=>intro h0;cases h0
   |false=>
    cases nH d (aT d l).2 with
    |true=>intro _;exact Am h h5 hl hc' hw hg
    |false=>
     cases nH (cK d low) (aT (cK d low) l).2 with
     |true=>
      intro _;have:=Am hcI h5 hl hc' hw hg;rw[hcn]at this;exact this
     |false=>intro h0;cases h0
theorem D9{b:Bs}{n:Nat}(h:BI b n)(hn:n<200){t:Tx}(ht:t∈b.live){w:Wt}(hw:w∈t.bT)(hg:w.gone=false)(h0:(aM b t).2.2.1=0):
  fm (chain (aM b t).2.2.2.db w.key)=b.db.now+1:=by
 have hp:=h.bT t ht;have hq:=me b (ov t) (t,[],[]);have hRdef:(ov t).foldl (eY b) (t,[],[])=aL b t:=rfl;rw[hRdef]at hq;dsimp only at hq;have hlw:(ov t).length=t.bT.length:=by unfold ov;rw[jj]
 simp only[List.length_nil,Nat.zero_add]at hq;have hd:=h.d;rw[Ms hn]at hd;have hkl:=h.kl;have hin:w∈(aL b t).2.1:=HE b w hg _ _ (.inr (DD Wt.key w _ hw));have hD:=D8 (L:=200) hd (by
  have:(200 - (n+1))*200+200≤40000:=by omega
  unfold small;omega) (by unfold Kl;omega) (l:=(aL b t).2.1) (by omega) (dR (aP b (aL b t).1)) hin hg
 revert h0;unfold aM;cases iX b t with
 |true=>intro h0;cases h0
 |false=>
  simp only[cond_false];cases oe b.ah (tH b t)with
  |none=>intro h0;cases h0
  |some out=>
   dsimp only;cases hz:(bN b.db (aL b t).2.1 (dR (aP b (aL b t).1))).2.1==0 with
   |true=>
    intro _;exact hD (by simpa using hz)
   |false=>
    intro h0;have h0' :(bN b.db (aL b t).2.1 (dR (aP b (aL b t).1))).2.1=0:=h0;rw[h0']at hz;cases hz
theorem D7{b:Bs}{n:Nat}(h:BI b n)(hn:n<200){x:Int}{t:Tx}(ht:eR b x=some t){w:Wt}(hw:w∈t.bT)(hg:w.gone=false)(h0:(aU b x).2.1=0):
  fm (chain (aU b x).2.2.db w.key)=b.db.now+1:=by
 obtain⟨hm,_⟩:=gz ht;have hl:=D9 h hn hm hw hg;revert h0;unfold aU;rw[ht];dsimp only;cases hz:(aM b t).2.2.1==0 with
 |true=>
  intro _;exact hl (by simpa using hz)
 |false=>
  intro h0;have h0' :(aM b t).2.2.1=0:=h0;rw[h0']at hz;cases hz
theorem late{b:Bs}{n:Nat}(h:BI b n)(hn:n<200)(j:Jv b){x y:Int}(hxy:y≠x){t u:Tx}(ht:eR b x=some t)(hu:eR b y=some u){w v:Wt}(hw:w∈t.bT)(hg:w.gone=false)(hv:v∈u.bT)(he:v.key=w.key)
  (h0:(aU b x).2.1=0):(aU (aU b x).2.2 y).2.1=100:=by
 have hl:=D7 h hn ht hw hg h0;have hk:=(Rl.cmB b x).keep y hxy;rw[hu]at hk;have hj:=(j u (gz hu).1).2;have hc:iX (aU b x).2.2 u=true:=by
  unfold iX;refine List.any_eq_true.2 ⟨v,hv,?_⟩;unfold tf;rw[he,hl];exact decide_eq_true (by omega)
 generalize aU b x=C at*;have hT:aM C.2.2 u=(nX,0,100,C.2.2):=by unfold aM;rw[hc];rfl
 unfold aU;rw[hk];dsimp only;rw[hT];rfl
theorem DW{b:Bs}{x:Int}{w:Wt}(h0:(bI b x w).1=0):∃ t,eR b x=some t∧eR (bI b x w).2 x=some (yE t w):=by
 revert h0;unfold bI;cases ht:eR b x with
 |none=>intro h0;cases h0
 |some t=>
  dsimp only;cases hz:fV none w==0 with
  |true=>
   intro _;refine⟨t,rfl,?_⟩;show eR (aP b (yE t w)) x=_;rw[Q6,ht];have e:t.id=(yE t w).id:=rfl;show some (if t.id=(yE t w).id then yE t w else t)=_;rw[if_pos e]
  |false=>
   intro h0;have h0' :fV none w=0:=h0;rw[h0']at hz;cases hz
theorem QA(t:Tx)(w:Wt):w∈(yE t w).bT:=by
 have h:=AQ nA w.key w t.bT;have e:nA.key w=w.key:=rfl;rw[if_pos e]at h;exact qcC h
theorem GI(b:Bs):(aF b).1=0∨((aF b).1=b.last+1∧(aF b).2.2.last=b.last+1):=by
 unfold aF;cases decide (b.db.lim.live≤b.live.length)with
 |true=>exact .inl rfl
 |false=>exact .inr ⟨rfl,rfl⟩
theorem Q5{b:Bs}(j:Jv b){x:Int}{t:Tx}(h:eR b x=some t):1≤x:=by
 obtain⟨hm,e⟩:=gz h;have:=(j t hm).1;omega
theorem Jw(L M:List ta)(w:Wt)(data:By)(hg:qH L M w data=true):pz L M w data=true:=by
 unfold qH at hg;simp only[bC,decide_eq_true_eq]at hg;obtain⟨⟨⟨⟨g1,g2⟩,g3⟩,g4⟩,g5⟩:=hg;obtain⟨hL,hl⟩:=yM g1;obtain⟨hM,hm⟩:=yM g2;unfold pz;dsimp only;have i1:=LV L (vU jZ) 0 (BI.zero nF) (by omega) hL;have j1:Jv (L.foldl nr (vU jZ)):=LX L _ (fun t ht=>(List.not_mem_nil ht).elim);generalize L.foldl nr (vU jZ)=b1 at*;have i2:=i1.begin (by omega);have j2:=j1.begin;have d1:=GI b1;have d2:=GI (aF b1).2.2;have i3:=i2.begin (by omega);have j3:=j2.begin;generalize (aF (aF b1).2.2).2.2=b3 at*;generalize hy:(aF (aF b1).2.2).1=y at*;generalize (aF b1).2.2=b2 at*;generalize hx:(aF b1).1=x at*;have w1:lS ⟨w.key,false,w.data⟩:=⟨by show w.key.length<small;unfold small;omega,by show w.data.length<small;unfold small;omega⟩;have w2:lS ⟨w.key,false,data⟩:=⟨by show w.key.length<small;unfold small;omega,by show data.length<small;unfold small;omega⟩;have i4:=i3.write (by omega) (x:Int) w1;have j4:=(Rl.wrB b3 (x:Int) ⟨w.key,false,w.data⟩).jv j3;have i5:=i4.write (by omega) (y:Int) w2;have k5:=Rl.wrB (bI b3 (x:Int) ⟨w.key,false,w.data⟩).2 (y:Int) ⟨w.key,false,data⟩;have j5:=k5.jv j4;cases hc: !((bI b3 (x:Int) ⟨w.key,false,w.data⟩).1==0)|| !((bI (bI b3 (x:Int) ⟨w.key,false,w.data⟩).2 (y:Int) ⟨w.key,false,data⟩).1==0)with
 |true=>rfl
 |false=>
  simp only[Bool.or_eq_false_iff,Bool.not_eq_false',beq_iff_eq]at hc;obtain⟨t,t1,t2⟩:=DW hc.1;obtain⟨u,u1,u2⟩:=DW hc.2;have p1:=Q5 j3 t1;have p2:=Q5 j4 u1;have hxy:(y:Int)≠(x:Int):=by
   rcases d1 with d1|⟨d1,e1⟩
   ·omega
   ·rcases d2 with d2|⟨d2,e2⟩
    ·omega
    ·omega
  generalize (bI b3 (x:Int) ⟨w.key,false,w.data⟩).2=b4 at*;have t3:eR (bI b4 (y:Int) ⟨w.key,false,data⟩).2 (x:Int)=some (yE t ⟨w.key,false,w.data⟩):=(k5.keep _ (Ne.symm hxy)).trans t2;generalize (bI b4 (y:Int) ⟨w.key,false,data⟩).2=b5 at*;have i6:=LW (x:Int) (y:Int) M b5 _ i5 (by omega) hM;obtain⟨j6,k6⟩:=Jy (x:Int) (y:Int) M b5 j5;have t6:=k6 _ _ (.inl rfl) t3;have u6:=k6 _ _ (.inr rfl) u2;generalize M.foldl (iQ (x:Int) (y:Int)) b5=b6 at*;simp only[cond_false];cases hq:(aU b6 (x:Int)).2.1==0 with
  |false=>rfl
  |true=>
   have:=late i6 (by omega) j6 hxy t6 u6 (QA t ⟨w.key,false,w.data⟩) rfl (QA u ⟨w.key,false,data⟩) rfl (by simpa using hq);rw[this];rfl
theorem t3' (L M:List ta)(w:Wt)(data:By)(hl:L.length<small)(hm:M.length<small):∃ H f,G 3 [.sl 6 (L.map dF),.sl 6 (M.map dF),.agg (dI w),.sl 1 (bE data)] [] 0=some (.bool true,H,f):=
 t3 L M w data hl hm (Jw L M w data)
end Go.RE
