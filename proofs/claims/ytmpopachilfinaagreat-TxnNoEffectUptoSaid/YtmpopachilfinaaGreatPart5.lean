/- A part of a proof. -/
import Derived.Test.YtmpopachilfinaaGreatPart4
set_option linter.unusedVariables false
set_option linter.unusedSimpArgs false
set_option linter.constructorNameAsVariable false
namespace Go.RE
section
variable{E:q9}{σ:Sg}{Z:Zs}{ω:Om}{s s' :Vs}{e:PT V}{st:St}{n:Nat}
theorem dA(g:Tg)(s:Vs):(s.kill g).h.length=s.h.length:=by
 unfold Vs.kill;split
 ·unfold setCell;split<;>simp
 ·rfl
theorem Ok.Gl(h:Ok E σ Z ω s e st)(d:Nat):∃ ω',Ok E σ Z ω' (s.kill (.t d)) e st∧ω' (.t d)=none∧∀ g,g≠.t d→ω' g=ω g:=
 ⟨_,(h.kill (.t d)).Cw (fD _ _) (by simp) (o:=none) (fun I hI=>by cases hI),bt _ _ _,fun g hg=>dy _ _ hg⟩
theorem TR.empty{d w:Nat}{v:V}(h:ω (.t d)=none)(hv:v=.bB∨v=.bQ):TR σ Z ω n (.own (.t d) w []) v:=by
 refine⟨?_,fun i off hh=>by cases hh⟩;unfold OR;rw[h];exact⟨rfl,hv⟩
theorem nh{a:List U}{row:List V}{off L i k:Nat}(h:LU σ Z n a ((row.drop off).take L))(hk:k≤L):LU σ Z n ((a.take k).drop i) ((row.drop (off+i)).take (k - i)):=by
 have e:(((row.drop off).take L).take k).drop i=(row.drop (off+i)).take (k - i):=by
  rw[Yl,Fw hk,Ac,Ad]
 rw[←e];exact(h.take k).drop i
theorem QU(h:Ok E σ Z ω s e st){d:Nat}{g:Tg}{w:Nat}{xs:List (List U)}{v:V}(hga:g≠.a)(hv:OR σ Z ω g w xs v){l hh:Nat}(h1:l≤hh)(h2:hh≤xs.length):
  ∃ ω' v',Ok E σ Z ω' ((s.kill g).kill (.t d)) e st∧OR σ Z ω' (.t d) w ((xs.take hh).drop l) v'∧
   (match v with
   | .bB=>v' =.bB
   | .bQ=>v' =.bQ
   | .slice b off len cap sz ex=>v' =.slice b (off+l*sz) (hh - l) (cap - l) sz ex∧sz=w∧len=xs.length∧hh≤cap
   |_=>False):=by
 have hk1:=h.kill g;have hk2:=hk1.kill (.t d);unfold OR at hv;split at hv
 ·rename_i hg;obtain⟨rfl,hvv⟩:=hv;have hh0:hh=0:=by simpa using h2
  have hl0:l=0:=by omega
  subst hh0;subst hl0;refine⟨_,v,hk2.Cw (fD _ _) (by simp) (o:=none) (fun I hI=>by cases hI),?_,?_⟩
  ·unfold OR;rw[bt];exact⟨by simp,hvv⟩
  ·rcases hvv with rfl|rfl<;>rfl
 ·rename_i I hg;obtain⟨rfl,e0,e1,e2,e3,e4⟩:=hv
  -- the old tag is given up,the new one takes what it had
  have hgr:g≠.r:=fun hh=>by subst hh;rw[h.wr]at hg;cases hg
  have hnt:pH g ((s.kill g).kill (.t d)):=(fD g s).kill;have hka:=hk2.Cw hnt hgr (o:=none) (fun I hI=>by cases hI) hga;have hlen:((s.kill g).kill (.t d)).h.length=s.h.length:=by rw[dA,dA]
  have hwl:∀ a:Nat,I.off+a*w+(I.cap - a)*w≤I.row.length∨¬a≤I.cap:=fun a=>by
   by_cases ha:a≤I.cap
   ·left;have:a*w+(I.cap - a)*w=I.cap*w:=by rw[←qj];congr 1;omega
    omega
   ·exact .inr ha
  have hkb:=hka.Cw (g:=.t d) (fD _ _) (by simp) (o:=some ⟨I.b,I.off+l*w,I.cap - l,I.ex,w,I.row,(xs.take hh).drop l⟩) (fun J hJ=>by
   cases hJ;refine⟨h.mq g I hg,fun i hi=>h.sw i g I (by omega) hg,h.wz g I hg,fun g' I' hg' hI' hb=> ?_,fun b hb hbI=> ?_,fun i off hh=>by cases hh⟩
   ·by_cases hgg:g' =g
    ·subst hgg;rw[bt]at hI';cases hI'
    ·rw[dy _ _ hgg]at hI';exact hgg (h.ic g' g I' I hI' hg hb)
   ·exact(h.out b hb hbI).2.2.1 g I hg)
  refine⟨_,_,hkb,?_,rfl,rfl,rfl,by omega⟩;unfold OR;rw[bt];have hle:((xs.take hh).drop l).length=hh - l:=by simp;omega
  refine⟨by rw[hle],⟨rfl,rfl⟩,by rw[hle];simp only;omega,?_,fun r hr=>e3 r (ta (iF hr)),?_⟩
  ·rcases hwl l with hq|hq
   ·exact hq
   ·omega
  ·rw[tu (fun r hr=>e3 r (ta hr)),tv e3,hle];rw[show(hh - l)*w=hh*w - l*w from Nat.sub_mul _ _ _];exact nh e4 (iB _ h2)
theorem JR{d w:Nat}{lo hi mx:Option bO}{u u' :U}{v:V}{x:bO}(h:Ok E σ Z ω s e st)(hx:x.er.ev e=some v)(hu:TR σ Z ω s.h.length u v)(hs:iT d w lo hi mx u s=some (u',s')):
  ∃ Z' ω' v',cZ e st (.slice w x.er (bL lo) (bL hi) (bL mx))=some v'∧Ok E σ Z' ω' s' e st∧TR σ Z' ω' s'.h.length u' v'∧s'.h.length=s.h.length∧∀ b r,Z b=some r→Z' b=some r:=by
 have hmx:(bL mx).isSome=mx.isSome:=by cases mx<;>rfl
 cases u with
 |sl w' xs=>
  simp only[iT]at hs;cases hb:Nat.beq w' w with
  |false=>rw[hb]at hs;simp at hs
  |true=>
   have hww:w' =w:=aU hb;subst hww;rw[hb]at hs;simp only[cond_true]at hs;cases n2:bC s.e hi xs.length xs.length with
   |none=>rw[n2]at hs;simp at hs
   |some hh=>
    rw[n2]at hs;simp only at hs;cases n1:bC s.e lo 0 hh with
    |none=>rw[n1]at hs;simp at hs
    |some l=>
     rw[n1]at hs;simp only at hs;have q2:=h.aD n2;have q1:=h.aD n1;have b1:l≤hh:=dK (bU _) q1;have b2:hh≤xs.length:=dK (ak _) q2
     -- what a part shows
     have part:∀ {n:Nat},UR σ Z n (.sl w' xs) v→∀ (m:Nat),hh≤m→m≤xs.length→(∀ k,aD e (bL mx) k k=if mx.isSome then(if m≤k then some m else none)else some k)→
       (mx.isSome=false→m=xs.length)→(mx.isSome=true→hh=m)→
       ∃ y,cZ e st (.slice w' x.er (bL lo) (bL hi) (bL mx))=some y∧((mx.isSome&&Nat.beq m 0)=false→UR σ Z n (.sl w' ((xs.take hh).drop l)) y)∧((mx.isSome&&Nat.beq m 0)=true→y=.bB∨y=.bQ):=by
      intro n hur m hm1 hm2 hopt hm3 hm4;have hl0:(bL hi=none∨∀ a b,aD e (bL hi) a b=aD e (bL hi) b b):=by
       cases hi with
       |none=>exact .inl rfl
       |some y=>exact .inr fun a b=>rfl
      have q2m:∀ k,aD e (bL hi) xs.length m=some k→k=hh:=fun k hk=>by
       cases hi with
       |none=>simp[bL,aD]at hk q2;omega
       |some y=>
        simp only[bL,aD]at hk q2;cases hyv:y.er.ev e with
        |none=>rw[hyv]at hk;simp at hk
        |some a=>
         rw[hyv]at hk q2;simp only at hk q2;cases a<;>simp[asNat]at hk q2;omega
      have q2' :aD e (bL hi) xs.length m=some hh:=by
       cases hi with
       |none=>
        simp only[bL,aD,ag]at q2⊢;cases hq:mx.isSome with
        |true=>omega
        |false=>omega
       |some y=>
        simp only[bL,aD]at q2⊢;cases hyv:y.er.ev e with
        |none=>rw[hyv]at q2;simp at q2
        |some a=>
         rw[hyv]at q2;simp only at q2⊢;cases a<;>simp[asNat]at q2⊢;omega
      cases hur with
      |slnil=>
       have z1:hh=0:=by simpa using b2
       have z2:m=0:=by simpa using hm2
       have z3:l=0:=by omega
       subst z1;subst z2;subst z3;have h3:aD e (bL mx) 0 0=some 0:=by rw[hopt];cases mx.isSome<;>simp
       refine⟨.bB,?_,fun _=>by simpa using UR.slnil,fun _=> .inl rfl⟩;simp only[cZ,hx,h3];simp only[ox]at q2';simp only[q2',q1]
      |Ak=>
       have z1:hh=0:=by simpa using b2
       have z2:m=0:=by simpa using hm2
       have z3:l=0:=by omega
       subst z1;subst z2;subst z3;have h3:aD e (bL mx) 0 0=some 0:=by rw[hopt];cases mx.isSome<;>simp
       refine⟨.bQ,?_,fun _=>by simpa using UR.Ak,fun _=> .inr rfl⟩;simp only[cZ,hx,h3];simp only[ox]at q2';simp only[q2',q1]
      |AL hn hz hl hcap hr hv=>
       rename_i b off len cap ex row';subst hn
       -- the room
       have hM:∃ M,aD e (bL mx) cap cap=some M∧m≤M∧M≤cap∧aD e (bL hi) xs.length M=some hh∧(mx.isSome=true→M=m):=by
        rw[hopt];cases hq:mx.isSome with
        |true=>exact⟨m,by simp;omega,ak _,by omega,q2',fun _=>rfl⟩
        |false=>
         refine⟨cap,by simp,by omega,ak _,?_,fun hh=>by simp at hh⟩;cases hi with
         |none=>simpa[bL,aD]using q2
         |some y=>
          simp only[bL,aD]at q2⊢;cases hyv:y.er.ev e with
          |none=>rw[hyv]at q2;simp at q2
          |some a=>
           rw[hyv]at q2;simp only at q2⊢;cases a<;>simp[asNat]at q2⊢;omega
       obtain⟨M,m1,m2,m3,m4,m5⟩:=hM;have hev:cZ e st (.slice w' x.er (bL lo) (bL hi) (bL mx))=(bif(bL mx).isSome&&Nat.beq M 0 then some .bQ else some (.slice b (off+l*w') (hh - l) (M - l) w' (ex||(bL mx).isSome))):=by
        simp only[cZ,hx,m1,m4,q1,fq,cond_true]
       rw[hev,hmx];cases hz0:(mx.isSome&&Nat.beq M 0)with
       |true=>
        simp only[aI]at hz0;have hMm:=m5 hz0.1;have hm0:M=0:=aU hz0.2;refine⟨.bQ,rfl,fun hf=> ?_,fun _=> .inr rfl⟩;rw[hz0.1,←hMm,hz0.2]at hf;simp at hf
       |false=>
        refine⟨_,rfl,fun _=> ?_,fun ht=> ?_⟩
        ·have hle:((xs.take hh).drop l).length=hh - l:=by simp;omega
         have hmul:hh*w'≤xs.length*w' :=iB _ b2;have hsub:(hh - l)*w' =hh*w' - l*w' :=Nat.sub_mul _ _ _;have hlw:l*w'≤hh*w' :=iB _ b1;refine .AL hle.symm hz (fun r hr=>hl r (ta (iF hr))) (by omega) (by rw[hle];omega) fun j a c ha hc=> ?_;rw[tu (fun r hr=>hl r (ta hr)),tv hl]at ha;rw[hle]at hc;have hlu:LU σ Z 0 xs.flatten ((row'.drop off).take (xs.length*w')):=⟨by rw[dM hl];simp;omega,hv⟩;exact(nh hlu hmul).2 j a c ha (by rw[←hsub];exact hc)
        ·simp only[aI]at ht;have:=m5 ht.1;rw[this,ht.1,ht.2]at hz0;simp at hz0
      |Eh hn hl hr hv=>
       rename_i off len row';subst hn;have h3:aD e (bL mx) xs.length xs.length=some m:=by
        rw[hopt];cases hq:mx.isSome with
        |true=>simp;omega
        |false=>simp[hm3 hq]
       have hev:cZ e st (.slice w' x.er (bL lo) (bL hi) (bL mx))=(bif(bL mx).isSome&&Nat.beq m 0 then some .bQ else some (.ah row' (off+l*w') (hh - l) w')):=by
        simp only[cZ,hx,h3,q2',q1,fq,cond_true]
       rw[hev,hmx];cases hz0:(mx.isSome&&Nat.beq m 0)with
       |true=>exact⟨.bQ,rfl,(fun hf=>by cases hf),fun _=> .inr rfl⟩
       |false=>
        refine⟨_,rfl,fun _=> ?_,fun ht=>by cases ht⟩;have hle:((xs.take hh).drop l).length=hh - l:=by simp;omega
        have hmul:hh*w'≤xs.length*w' :=iB _ b2;have hsub:(hh - l)*w' =hh*w' - l*w' :=Nat.sub_mul _ _ _;have hlw:l*w'≤hh*w' :=iB _ b1;refine .Eh hle.symm (fun r hr=>hl r (ta (iF hr))) (by rw[hle];omega) fun j a c ha hc=> ?_;rw[tu (fun r hr=>hl r (ta hr)),tv hl]at ha;rw[hle]at hc;have hlu:LU σ Z 0 xs.flatten ((row'.drop off).take (xs.length*w')):=⟨by rw[dM hl];simp;omega,hv⟩;exact(nh hlu hmul).2 j a c ha (by rw[←hsub];exact hc)
     have hu0:UR σ Z s.h.length (.sl w' xs) v:=hu;cases mx with
     |none=>
      simp only[ag,ay]at hs;obtain⟨rfl,rfl⟩:=hs;obtain⟨y,y1,y2,_⟩:=part hu0 xs.length b2 (ak _) (fun k=>by simp[bL,aD]) (fun _=>rfl) (fun hh=>by simp at hh);exact⟨Z,ω,y,y1,h,TR.bE (y2 (by simp)),rfl,fun _ _ h=>h⟩
     |some mo=>
      simp only at hs;cases n3:bC s.e (some mo) xs.length xs.length with
      |none=>rw[n3]at hs;simp at hs
      |some m=>
       rw[n3]at hs;simp only at hs;have q3:=h.aD n3;have b3:m≤xs.length:=dK (ak _) q3;cases hb2:Nat.beq m hh with
       |false=>rw[hb2]at hs;simp at hs
       |true=>
        have hmh:m=hh:=aU hb2;rw[hb2]at hs;simp only[cond_true]at hs;have hopt:∀ k,aD e (bL (some mo)) k k=if(some mo).isSome then(if m≤k then some m else none)else some k:=fun k=>by
         simp only[bL,aD]at q3⊢;cases hyv:mo.er.ev e with
         |none=>rw[hyv]at q3;simp at q3
         |some a=>
          rw[hyv]at q3;simp only at q3⊢;cases a<;>simp[asNat]at q3⊢;by_cases hk:m≤k
          ·rw[if_pos hk,if_pos (by omega)];simp;omega
          ·rw[if_neg hk,if_neg (by omega)]
        obtain⟨y,y1,y2,y3⟩:=part hu0 m (by omega) b3 hopt (fun hh=>by simp at hh) (fun _=>hmh.symm);cases hb0:Nat.beq m 0 with
        |true=>
         rw[hb0]at hs;simp only[cond_true,ag,ay]at hs;obtain⟨rfl,rfl⟩:=hs;obtain⟨ω',k1,k2,k3⟩:=h.Gl d;exact⟨Z,ω',y,y1,k1,TR.empty k2 (y3 (by simp[hb0])),rfl,fun _ _ h=>h⟩
        |false=>
         rw[hb0]at hs;simp only[cond_false,ag,ay]at hs;obtain⟨rfl,rfl⟩:=hs;exact⟨Z,ω,y,y1,h,TR.bE (y2 (by simp[hb0])),rfl,fun _ _ h=>h⟩
 |own g w' xs=>
  simp only[iT]at hs;cases hb:Nat.beq w' w with
  |false=>rw[hb]at hs;simp at hs
  |true=>
   have hww:w' =w:=aU hb;subst hww;rw[hb]at hs;simp only[cond_true]at hs;cases mx with
   |none=>
    simp only at hs;cases n2:bC s.e hi xs.length xs.length with
    |none=>rw[n2]at hs;simp at hs
    |some hh=>
     rw[n2]at hs;simp only at hs;cases n1:bC s.e lo 0 hh with
     |none=>rw[n1]at hs;simp at hs
     |some l=>
      rw[n1]at hs;have q2:=h.aD n2;have q1:=h.aD n1;have b1:l≤hh:=dK (bU _) q1;have b2:hh≤xs.length:=dK (ak _) q2;cases hgl:g.Jg with
      |true=>
       simp only[hgl,cond_true,ag,ay]at hs;obtain⟨rfl,rfl⟩:=hs;have hor:=hu.1;have key:∀ {v'},cZ e st (.slice w' x.er (bL lo) (bL hi) (bL none))=some v'→VW ω g l (hh - l) w' v'→∃ Z' ω' v',cZ e st (.slice w' x.er (bL lo) (bL hi) (bL none))=some v'∧Ok E σ Z' ω' s e st∧
         TR σ Z' ω' s.h.length (.view g l (hh - l) w') v'∧s.h.length=s.h.length∧∀ b r,Z b=some r→Z' b=some r:=fun {v'} k1 k2=>⟨Z,ω,v',k1,h,⟨k2,hu.2⟩,rfl,fun _ _ h=>h⟩
       unfold OR at hor;split at hor
       ·rename_i hg;obtain⟨rfl,hvv⟩:=hor;simp only[ox]at q2;have z1:hh=0:=by simpa using b2
        subst z1;have z2:l=0:=by omega
        subst z2;have q3:aD e (bL none) 0 0=some 0:=rfl;refine key (v' :=v) ?_ ?_
        ·rcases hvv with rfl|rfl<;>simp only[cZ,hx,q3,q2,q1]
        ·unfold VW;rw[hg];exact⟨rfl,hvv⟩
       ·rename_i I hg;obtain⟨rfl,e0,e1,_⟩:=hor;have q2' :aD e (bL hi) xs.length I.cap=some hh:=by
         cases hi with
         |none=>simpa[bL,aD]using q2
         |some y=>
          simp only[bL,aD]at q2⊢;cases hyv:y.er.ev e with
          |none=>rw[hyv]at q2;simp at q2
          |some a=>
           rw[hyv]at q2;simp only at q2⊢;cases a<;>simp[asNat]at q2⊢;omega
        have q3' :aD e (bL none) I.cap I.cap=some I.cap:=rfl;refine key (v' :=.slice I.b (I.off+l*w') (hh - l) (I.cap - l) w' I.ex) ?_ ?_
        ·simp only[cZ,hx,q3',q2',q1,fq,cond_true];simp[bL]
        ·unfold VW;rw[hg];exact .inl ⟨⟨_,_,rfl,by omega⟩,e0.1,by rw[e0.2];omega⟩
      |false=>
      simp only[hgl,cond_false,ag,ay]at hs;obtain⟨rfl,rfl⟩:=hs;obtain⟨ω',v',k1,k2,k3⟩:=QU (d:=d) h (by rintro rfl;cases hgl) hu.1 b1 b2;refine⟨Z,ω',v',?_,k1,⟨k2,fun i off hh=>by cases hh⟩,by rw[dA,dA],fun _ _ h=>h⟩;have hor:=hu.1;unfold OR at hor;split at hor
      ·obtain⟨rfl,rfl|rfl⟩:=hor
       ·simp only at k3;subst k3;simp only[ox]at q2;have z1:hh=0:=by simpa using b2
        subst z1;have q3:aD e (bL none) 0 0=some 0:=rfl;simp only[cZ,hx,q3,q2,q1]
       ·simp only at k3;subst k3;simp only[ox]at q2;have z1:hh=0:=by simpa using b2
        subst z1;have q3:aD e (bL none) 0 0=some 0:=rfl;simp only[cZ,hx,q3,q2,q1]
      ·rename_i I hg;obtain⟨rfl,_⟩:=hor;simp only at k3;obtain⟨rfl,_,_,k4⟩:=k3;have q2' :aD e (bL hi) xs.length I.cap=some hh:=by
        cases hi with
        |none=>simpa[bL,aD]using q2
        |some y=>
         simp only[bL,aD]at q2⊢;cases hyv:y.er.ev e with
         |none=>rw[hyv]at q2;simp at q2
         |some a=>
          rw[hyv]at q2;simp only at q2⊢;cases a<;>simp[asNat]at q2⊢;omega
       have q3' :aD e (bL none) I.cap I.cap=some I.cap:=rfl;simp only[cZ,hx,q3',q2',q1,fq,cond_true];simp[bL]
   |some mo=>
    simp only at hs;split at hs<;>simp only[ag,ay,reduceCtorEq]at hs;rename_i n2 n3 n1;obtain⟨rfl,rfl⟩:=hs;have q2:=h.aD n2;have q3:=h.aD n3;have q1:=h.aD n1;obtain⟨ω',k1,k2,k3⟩:=h.Gl d;have hm0:∀ k,aD e (bL (some mo)) k k=some 0:=fun k=>by
     simp only[bL,aD]at q3⊢;cases hyv:mo.er.ev e with
     |none=>rw[hyv]at q3;simp at q3
     |some a=>
      rw[hyv]at q3;simp only at q3⊢;cases a<;>simp[asNat]at q3⊢;omega
    have hh0:aD e (bL hi) xs.length 0=some 0:=by
     cases hi with
     |none=>simpa[bL,aD]using q2
     |some y=>
      simp only[bL,aD]at q2⊢;cases hyv:y.er.ev e with
      |none=>rw[hyv]at q2;simp at q2
      |some a=>
       rw[hyv]at q2;simp only at q2⊢;cases a<;>simp[asNat]at q2⊢;omega
    have hor:=hu.1;unfold OR at hor;split at hor
    ·obtain⟨rfl,rfl|rfl⟩:=hor
     ·refine⟨Z,ω',.bB,?_,k1,TR.empty k2 (.inl rfl),rfl,fun _ _ h=>h⟩;simp only[ox]at hh0;simp only[cZ,hx,hm0,hh0,q1]
     ·refine⟨Z,ω',.bQ,?_,k1,TR.empty k2 (.inr rfl),rfl,fun _ _ h=>h⟩;simp only[ox]at hh0;simp only[cZ,hx,hm0,hh0,q1]
    ·rename_i I hg;obtain⟨rfl,_⟩:=hor;refine⟨Z,ω',.bQ,?_,k1,TR.empty k2 (.inr rfl),rfl,fun _ _ h=>h⟩;simp only[cZ,hx,hm0,hh0,q1,fq,cond_true];rfl
 |nl w' =>
  simp only[iT]at hs;cases hb:Nat.beq w' w with
  |false=>rw[hb]at hs;simp at hs
  |true=>
   have hww:w' =w:=aU hb;subst hww;rw[hb]at hs;simp only[cond_true]at hs;split at hs<;>simp only[ag,ay,reduceCtorEq]at hs;rename_i n2 n3 n1;obtain⟨rfl,rfl⟩:=hs;have q2:=h.aD n2;have q3:=h.aD n3;have q1:=h.aD n1;have hur:UR σ Z s.h.length (.nl w') v:=hu;cases hur with
   |Ec=>exact⟨Z,ω,.bB,by simp only[cZ,hx,q3,q2,q1],h,TR.bE .Ec,rfl,fun _ _ h=>h⟩
   |EU=>exact⟨Z,ω,.bQ,by simp only[cZ,hx,q3,q2,q1],h,TR.bE .EU,rfl,fun _ _ h=>h⟩
 |_=>simp[iT]at hs
end
end Go.RE
namespace Go.RE
section
variable{E:q9}{σ:Sg}{Z:Zs}{ω:Om}{s s' :Vs}{e:PT V}{st:St}{n:Nat}
theorem Ok.nW(h:Ok E σ Z ω s e st):∀ {xs:List bO} {us:List U},j4 s.e xs=some us→∃ vs,La e (nX xs)=some vs∧us.length=vs.length∧∀ (j:Nat) u v,us[j]? =some u→vs[j]? =some v→TR σ Z ω s.h.length u v:=by
 intro xs
 induction xs with
 |nil=>intro us h;simp[j4]at h;subst h;exact⟨[],rfl,rfl,fun j u v h=>by simp at h⟩
 |cons x xs ih=>
  intro us hx;simp only[j4]at hx;cases hq:cA s.e x with
  |none=>rw[hq]at hx;simp at hx
  |some u=>
   rw[hq]at hx;simp only at hx;cases hr:j4 s.e xs with
   |none=>rw[hr]at hx;simp at hx
   |some us' =>
    rw[hr]at hx;simp only[ag]at hx;subst hx;obtain⟨v,a1,a2⟩:=h.cW hq;obtain⟨vs,b1,b2,b3⟩:=ih hr;refine⟨v::vs,by simp only[nX,La,a1,b1],by simp[b2],fun j p q hp hq=> ?_⟩;cases j with
    |zero=>simp at hp hq;subst hp;subst hq;exact a2
    |succ j=>simp at hp hq;exact b3 j p q hp hq
theorem NG{f:V→V→Option V}:∀ {us:List U} {vs:List V} {a r:U} {x:V},us.length=vs.length→(∀ (j:Nat) u v,us[j]? =some u→vs[j]? =some v→TR σ Z ω n u v)→TR σ Z ω n a x→nG (mG f) a us=some r→
  ∃ y,zJ f x vs=some y∧TR σ Z ω n r y:=by
 intro us
 induction us with
 |nil=>intro vs a r x hl _ ha h;simp[nG]at h;subst h;have:vs=[]:=fT hl.symm;subst this;exact⟨x,rfl,ha⟩
 |cons u us ih=>
  intro vs a r x hl hr ha h;cases vs with
  |nil=>simp at hl
  |cons v vs=>
   simp only[nG]at h;cases hq:mG f a u with
   |none=>rw[hq]at h;simp at h
   |some c=>
    rw[hq]at h;simp only at h;unfold mG at hq;split at hq<;>try (simp at hq;done)
    rename_i p q e1 e2;obtain⟨y,y1,y2⟩:=GH (σ:=σ) (Z:=Z) (n:=n) hq;have hx:=sE e1 ha;have hv:=sE e2 (hr 0 u v rfl rfl);subst hx;subst hv;simp only[zJ,y1];exact ih (by simpa using hl) (fun j p q hp hq=>hr (j+1) p q (by simpa using hp) (by simpa using hq)) (TR.bE y2) h
set_option maxHeartbeats 1000000 in
theorem Ze{k:Nat}:∀ {es:List (U×U×Nat)} {es' :List ME} {x:U×U×Nat},es.length=es'.length→(∀ (j:Nat) e e',es[j]? =some e→es'[j]? =some e'→UR σ Z n e.1 e'.key∧UR σ Z n e.2.1 e'.val∧e'.born=e.2.2)→
  es.find? (fun e=>Nat.beq e.2.2 k)=some x→∃ x',es'.find? (fun e=>Nat.beq e.born k)=some x'∧UR σ Z n x.1 x'.key∧UR σ Z n x.2.1 x'.val:=by
 intro es
 induction es with
 |nil=>intro es' x _ _ h;simp at h
 |cons e es ih=>
  intro es' x hl hr h;cases es' with
  |nil=>simp at hl
  |cons e' es' =>
   obtain⟨r1,r2,r3⟩:=hr 0 e e' rfl rfl;rw[kO]at h⊢;rw[r3];cases hb:Nat.beq e.2.2 k with
   |true=>rw[hb]at h;simp at h;subst h;exact⟨e',rfl,r1,r2⟩
   |false=>
    rw[hb]at h;exact ih (by simpa using hl) (fun j a b ha hb=>hr (j+1) a b (by simpa using ha) (by simpa using hb)) h
theorem Se(h:Ok E σ Z ω s e st){q:Nat}{u:U}(hu:nC s q=some u):∃ v,BJ st (σ q)=some v∧UR σ Z s.h.length u v:=by
 unfold nC at hu;split at hu<;>try (simp at hu;done)
 rename_i m since seen last hq;split at hu<;>try (simp at hu;done)
 rename_i es clock k hm hk;obtain⟨hb,hu⟩:Nat.beq clock last=true∧_:=by
  cases hb:Nat.beq clock last with
  |false=>rw[hb]at hu;simp at hu
  |true=>rw[hb]at hu;exact⟨rfl,hu⟩
 simp only[cond_true]at hu;split at hu<;>simp only[ag,reduceCtorEq]at hu;rename_i x hx;subst hu;obtain⟨g1,g2⟩:=h.obj q _ hq;obtain⟨es',m1,m2,m3⟩:=h.obj m _ hm;obtain⟨x',f1,f2,f3⟩:=Ze m2 m3 hx;refine⟨.aZ [x'.key,x'.val],?_,UR.aZ rfl (LU.cons f2 (LU.cons f3 .nil)).2⟩;unfold BJ;simp only[g1,kP,m1,hk,hb,cond_true,f1]
theorem EX{d:Nat}{o:gv}{u:U}(h:gm d s o=some (u,s'))(hk:Ok E σ Z ω s e st):
  ∃ Z' ω' v,cZ e st o.er=some v∧Ok E σ Z' ω' s' e st∧TR σ Z' ω' s'.h.length u v∧s'.h.length=s.h.length∧∀ b r,Z b=some r→Z' b=some r:=by
 have same:∀ {v},cZ e st o.er=some v→TR σ Z ω s.h.length u v→s' =s→∃ Z' ω' v,cZ e st o.er=some v∧Ok E σ Z' ω' s' e st∧TR σ Z' ω' s'.h.length u v∧s'.h.length=s.h.length∧∀ b r,Z b=some r→Z' b=some r:=
  fun {v} h1 h2 h3=>by subst h3;exact⟨Z,ω,v,h1,hk,h2,rfl,fun _ _ h=>h⟩
 cases o with
 |bn x=>
  simp only[gm]at h;split at h
  ·rename_i w xs hx;simp only[ag,ay]at h;obtain⟨rfl,rfl⟩:=h;obtain⟨v,h1,h2⟩:=hk.cW hx;have h3:=h2.1;unfold OR at h3;rw[hk.wr]at h3;obtain⟨rfl,h4⟩:=h3;obtain⟨ω',k1,k2,_⟩:=hk.Gl d;exact⟨Z,ω',v,h1,k1,TR.empty k2 h4,rfl,fun _ _ h=>h⟩
  ·rename_i u' hno hx;simp only[ag,ay]at h;obtain⟨rfl,rfl⟩:=h;obtain⟨v,h1,h2⟩:=hk.cW hx;exact same h1 h2 rfl
  ·simp at h
 |pick c a b=>
  simp only[gm]at h;split at h
  ·rename_i hc;split at h<;>simp only[ag,ay,reduceCtorEq]at h;rename_i hx;obtain⟨rfl,rfl⟩:=h;obtain⟨vc,c1,c2⟩:=hk.cW hc;obtain⟨v,h1,h2⟩:=hk.cW hx;obtain rfl:=TR.bool c2;exact same (by simp only[gv.er,cZ,c1,h1]) h2 rfl
  ·rename_i hc;split at h<;>simp only[ag,ay,reduceCtorEq]at h;rename_i hx;obtain⟨rfl,rfl⟩:=h;obtain⟨vc,c1,c2⟩:=hk.cW hc;obtain⟨v,h1,h2⟩:=hk.cW hx;obtain rfl:=TR.bool c2;exact same (by simp only[gv.er,cZ,c1,h1]) h2 rfl
  ·simp at h
 |load k x=>
  simp only[gm]at h;split at h
  ·rename_i i off hx;split at h<;>try (simp at h;done)
   rename_i cs hi;split at h<;>simp only[ag,ay,reduceCtorEq]at h;rename_i v0 hl;obtain⟨rfl,rfl⟩:=h;obtain⟨v,h1,h2⟩:=hk.cW hx;obtain⟨_,rfl⟩:=TR.ptr h2;obtain⟨cs',y,y1,y2,y3⟩:=Ca hk hi hl;exact same (by simp only[gv.er,cZ,h1,y1,y2]) y3 rfl
  ·rename_i row off hx;split at h<;>simp only[ag,ay,reduceCtorEq]at h;rename_i v0 hl;obtain⟨rfl,rfl⟩:=h;obtain⟨v,h1,h2⟩:=hk.cW hx;have up:∀ {y},UR σ Z 0 v0 y→TR σ Z ω s.h.length v0 y:=fun hh=>TR.bE (hh.mono (bU _) (fun _ _=>rfl) (fun _ _ h=>h));cases h2 with
   |jS hz hr hv=>
    obtain⟨y,y1,y2⟩:=Ay ⟨by simp;omega,hv⟩ hl;exact same (by simp only[gv.er,cZ,h1,(hk.qZ _ _ hz)];exact nP hr y1) (up y2) rfl
   |jR hr hv=>
    obtain⟨y,y1,y2⟩:=Ay ⟨by simp;omega,hv⟩ hl;exact same (by simp only[gv.er,cZ,h1];exact nP hr y1) (up y2) rfl
  ·rename_i g i f hx;split at h<;>try (simp at h;done)
   rename_i w xs hc;split at h<;>try (simp at h;done)
   rename_i r hr;split at h<;>simp only[ag,ay,reduceCtorEq]at h;rename_i v0 hl;obtain⟨rfl,rfl⟩:=h;obtain⟨v,h1,⟨I,hg,rfl⟩,_⟩:=hk.cW hx;obtain⟨vo,hor⟩:=AG hk hc;unfold OR at hor;rw[hg]at hor;obtain⟨rfl,e0,e1,e2,e3,e4⟩:=hor;obtain⟨f1,f2⟩:=BT e3 hr;have hlen:r.length=w:=e3 r (oT hr);have hlu:LU σ Z 0 r ((I.row.drop (I.off+i*w)).take w):=by
    have hle:i*w+w≤xs.length*w:=by rw[dM e3]at f1;exact f1
    have:=nh (i:=i*w) (k:=i*w+w) e4 hle;rw[uM,Ac,uM]at this;rw[←f2];exact this
   have hle:i*w+w≤xs.length*w:=by rw[dM e3]at f1;exact f1
   have hcap:xs.length*w≤I.cap*w:=iB _ e1;obtain⟨y,y1,y2⟩:=Ay hlu hl;refine same (v:=y) ?_ (TR.bE (y2.mono (bU _) (fun _ _=>rfl) (fun _ _ h=>h))) rfl;simp only[gv.er,cZ,h1,iZ (hk.mq g I hg),e0.1];exact nP (by omega) y1
  ·simp at h
 |nilCheck x=>
  simp only[gm]at h;split at h<;>simp only[ag,ay,reduceCtorEq]at h
  all_goals
   rename_i hx;obtain⟨rfl,rfl⟩:=h;obtain⟨v,h1,h2⟩:=hk.cW hx;refine same (v:=v) ?_ h2 rfl;simp only[gv.er,cZ,h1]
  ·obtain⟨_,rfl⟩:=TR.ptr h2;rfl
  ·cases h2<;>rfl
  ·obtain⟨⟨I,_,rfl⟩,_⟩:=h2;rfl
  ·obtain⟨a,b,rfl,_⟩:=TR.func h2;rfl
  ·obtain⟨a,rfl,_⟩:=TR.iface h2;rfl
 |bin op ek x y=>
  simp only[gm]at h;split at h<;>try (simp at h;done)
  rename_i a b ha hb;split at h<;>simp only[ag,ay,reduceCtorEq]at h;rename_i u' hr;obtain⟨rfl,rfl⟩:=h;obtain⟨va,a1,a2⟩:=hk.cW ha;obtain⟨vb,b1,b2⟩:=hk.cW hb;unfold jo at hr;split at hr
  ·obtain rfl:=TR.int a2;obtain rfl:=TR.int b2;obtain⟨r,r1,r2⟩:=GH (σ:=σ) (Z:=Z) (n:=s.h.length) hr;exact same (by simp only[gv.er,cZ,a1,b1,r1]) (TR.bE r2) rfl
  ·obtain rfl:=TR.str a2;obtain rfl:=TR.str b2;obtain⟨r,r1,r2⟩:=GH (σ:=σ) (Z:=Z) (n:=s.h.length) hr;refine same (v:=r) ?_ (TR.bE r2) rfl;simp only[gv.er,cZ,a1,b1];cases op<;>first|exact r1|(simp[lF]at r1)
  ·rename_i n1 n2;have key:∀ {c:Bool},NC ek a b=some c→∀ neg:Bool,(op=.eql∧neg=false∨op=.neq∧neg=true)→j8 op ek va vb=some (.bool (if neg then !c else c)):=by
    intro c hc neg hop;have hq:=qhj hc a2 b2;have hni:∀ k x j y,¬(va=.int k x∧vb=.int j y):=fun k x j y hh=>by
     obtain⟨rfl,rfl⟩:=hh;cases ek<;>simp[Ip]at hq
    have hns:∀ x y,¬(va=.str x∧vb=.str y):=fun x y hh=>by
     obtain⟨rfl,rfl⟩:=hh;cases ek<;>simp[Ip]at hq
    rcases hop with⟨rfl,rfl⟩|⟨rfl,rfl⟩
    all_goals
     unfold j8;split
     all_goals first
      |(exact absurd ⟨rfl,rfl⟩ (hni _ _ _ _))
      |(exact absurd ⟨rfl,rfl⟩ (hns _ _))
      |(rw[hq];rfl)
      |simp_all
   split at hr
   ·split at hr<;>simp only[ag,reduceCtorEq]at hr;rename_i c hc;subst hr;have:=key hc false (.inl ⟨rfl,rfl⟩);exact same (by simp only[gv.er,cZ,a1,b1];exact this) (TR.bE (.bool _)) rfl
   ·split at hr<;>simp only[ag,reduceCtorEq]at hr;rename_i c hc;subst hr;have:=key hc true (.inr ⟨rfl,rfl⟩);exact same (by simp only[gv.er,cZ,a1,b1];exact this) (TR.bE (.bool _)) rfl
   ·simp at hr
 |un op x=>
  simp only[gm]at h;split at h<;>try (simp at h;done)
  rename_i a ha;split at h<;>simp only[ag,ay,reduceCtorEq]at h;rename_i u' hr;obtain⟨rfl,rfl⟩:=h;obtain⟨va,a1,a2⟩:=hk.cW ha;unfold unU at hr;split at hr<;>try (simp at hr;done)
  rename_i p e1;obtain rfl:=sE e1 a2;obtain⟨y,y1,y2⟩:=GH (σ:=σ) (Z:=Z) (n:=s.h.length) hr;exact same (by simp only[gv.er,cZ,a1,y1]) (TR.bE y2) rfl
 |eP k x=>
  simp only[gm]at h;split at h<;>simp only[ag,ay,reduceCtorEq]at h;rename_i kk m hx;obtain⟨rfl,rfl⟩:=h;obtain⟨v,h1,h2⟩:=hk.cW hx;obtain rfl:=TR.int h2;exact same (by simp only[gv.er,cZ,h1]) (TR.bE (.int _ _)) rfl
 |uV x=>
  simp only[gm]at h;split at h<;>simp only[ag,ay,reduceCtorEq]at h;rename_i b hx;obtain⟨rfl,rfl⟩:=h;obtain⟨v,h1,h2⟩:=hk.cW hx;obtain rfl:=TR.str h2;exact same (by simp only[gv.er,cZ,h1]) (TR.bE (.str _)) rfl
 |toStr x=>
  simp only[gm]at h;split at h<;>try (simp at h;done)
  rename_i a ha;split at h<;>try (simp at h;done)
  rename_i xs hxs;split at h<;>simp only[ag,ay,reduceCtorEq]at h;rename_i bs hbs;obtain⟨rfl,rfl⟩:=h;obtain⟨v,h1,h2⟩:=hk.cW ha;obtain⟨cs,c1,c2,_⟩:=Cq hk hxs h2;exact same (by simp only[gv.er,cZ,h1,c1,Em hbs c2]) (TR.bE (.str _)) rfl
 |oJ t x=>
  simp only[gm]at h;split at h<;>simp only[ag,ay,reduceCtorEq]at h;rename_i u' s1 hx;obtain⟨rfl,rfl⟩:=h;obtain⟨Z',ω',v,a1,a2,a3,a4,a5⟩:=hk.gb hx;exact⟨Z',ω',.iface t v,by simp only[gv.er,cZ,a1],a2,by rw[a4];exact TR.bE (.iface a3),a4,a5⟩
 |jK f a b=>
  simp only[gm]at h;split at h<;>try (simp at h;done)
  rename_i us s1 hx;split at h<;>simp only[ag,ay,reduceCtorEq]at h;rename_i ws s2 hy;obtain⟨rfl,rfl⟩:=h;obtain⟨Z1,ω1,v1,a1,a2,a3,a4,a5⟩:=hk.gy hx;obtain⟨Z2,ω2,v2,b1,b2,b3,b4,b5⟩:=a2.gy hy;have a3' :=a3.mono (ak _) (σ' :=σ) (fun _ _=>rfl) b5;rw[a4]at b3;exact⟨Z2,ω2,.func f v1 v2,by simp only[gv.er,cZ,a1,b1],b2,by rw[b4,a4];exact TR.bE (.func a3'.1 b3.1 a3'.2 b3.2),by omega,fun b r hb=>b5 b r (a5 b r hb)⟩
 |build z p=>
  simp only[gm]at h;cases hz:(V.dF z).all U.aL with
  |false=>rw[hz]at h;simp at h
  |true=>
   rw[hz]at h;simp only[cond_true]at h;split at h<;>simp only[ag,ay,reduceCtorEq]at h;rename_i cs s1 hf;obtain⟨rfl,rfl⟩:=h;obtain⟨Z1,ω1,ws,a1,a2,a3,a4,a5⟩:=hk.fill (jQ z hz) hf;exact⟨Z1,ω1,.agg ws,by simp only[gv.er,cZ,a1],a2,by rw[a4];exact TR.bE (.agg a3.1 a3.2),a4,a5⟩
 |oh x lo hi=>
  simp only[gm]at h;split at h<;>try (simp at h;done)
  rename_i b hx;split at h<;>try (simp at h;done)
  rename_i hh n2;split at h<;>simp only[ag,ay,reduceCtorEq]at h;rename_i l n1;obtain⟨rfl,rfl⟩:=h;obtain⟨v,h1,h2⟩:=hk.cW hx;obtain rfl:=TR.str h2;exact same (by simp only[gv.er,cZ,h1,hk.aD n2,hk.aD n1]) (TR.bE (.str _)) rfl
 |slice w x lo hi mx=>
  simp only[gm]at h;split at h<;>try (simp at h;done)
  rename_i a ha;obtain⟨v,h1,h2⟩:=hk.cW ha;exact JR hk h1 h2 h
 |jw len w x lo hi=>
  simp only[gm]at h;split at h<;>try (simp at h;done)
  rename_i i off hx;split at h<;>try (simp at h;done)
  rename_i hh n2;split at h<;>try (simp at h;done)
  rename_i l n1;split at h<;>try (simp at h;done)
  rename_i cs hi';cases hb:Nat.ble (off+len*w) cs.length with
  |false=>rw[hb]at h;simp at h
  |true=>
   rw[hb]at h;simp only[cond_true,ag,ay]at h;obtain⟨rfl,rfl⟩:=h;obtain⟨v,h1,h2⟩:=hk.cW hx;obtain⟨hlt,rfl⟩:=TR.ptr h2;obtain⟨cs',g1,g2,g3⟩:=hk.obj i _ hi';have q2:=hk.aD n2;have q1:=hk.aD n1;have b2:hh≤len:=dK (ak _) q2;rw[g2]at hb;refine same (v:=.slice (σ i) (off+l*w) (hh - l) (len - l) w true) ?_ ⟨hlt,_,by omega,rfl⟩ rfl;simp only[gv.er,cZ,h1,q2,q1,iZ g1,hb,cond_true]
 |fieldAddr off x=>
  simp only[gm]at h;split at h<;>simp only[ag,ay,reduceCtorEq]at h
  ·rename_i i o hx;obtain⟨rfl,rfl⟩:=h;obtain⟨v,h1,h2⟩:=hk.cW hx;obtain⟨hlt,rfl⟩:=TR.ptr h2;exact same (by simp only[gv.er,cZ,h1]) (TR.bE (.ptr hlt)) rfl
  ·rename_i row o hx;obtain⟨rfl,rfl⟩:=h;obtain⟨v,h1,h2⟩:=hk.cW hx;cases h2 with
   |jS hz hr hv=>exact same (by simp only[gv.er,cZ,h1,gI]) (TR.bE (.jS hz hr hv)) rfl
   |jR hr hv=>exact same (by simp only[gv.er,cZ,h1,gI]) (TR.bE (.jR hr hv)) rfl
  ·rename_i g i o hx;obtain⟨rfl,rfl⟩:=h;obtain⟨v,h1,⟨I,hg,rfl⟩,h3⟩:=hk.cW hx;exact same (by simp only[gv.er,cZ,h1];rfl) ⟨⟨I,hg,by rw[gI]⟩,h3⟩ rfl
 |field off k x=>
  simp only[gm]at h;split at h<;>try (simp at h;done)
  rename_i cs hx;split at h<;>simp only[ag,ay,reduceCtorEq]at h;rename_i v0 hl;obtain⟨rfl,rfl⟩:=h;obtain⟨v,h1,h2⟩:=hk.cW hx;obtain⟨cs',rfl,h3⟩:=TR.agg h2;obtain⟨y,y1,y2⟩:=Ay h3 hl;exact same (by simp only[gv.er,cZ,h1,y1]) (TR.bE y2) rfl
 |indexAddr w x i=>
  simp only[gm]at h;split at h
  ·rename_i w' xs k m hx hi;split at h<;>try (simp at h;done)
   rename_i hm;split at h<;>try (simp at h;done)
   rename_i r hr;cases hb:Nat.beq w' w with
   |false=>rw[hb]at h;simp at h
   |true=>
    have hww:w' =w:=aU hb;subst hww;rw[hb]at h;simp only[cond_true,ag,ay]at h;obtain⟨rfl,rfl⟩:=h;obtain⟨v,h1,h2⟩:=hk.cW hx;obtain⟨vi,i1,i2⟩:=hk.cW hi;obtain rfl:=TR.int i2;have hlt:m.toNat<xs.length:=(aH.1 hr).1;have hlt' :m<(xs.length:Int):=by omega
    have hmem:=oT hr;cases h2 with
    |slnil=>simp at hlt
    |Ak=>simp at hlt
    |AL hn hz hl hcap hro hv=>
     subst hn;obtain⟨f1,f2⟩:=BT hl hr;have hle:m.toNat*w'+w'≤xs.length*w' :=by rw[dM hl]at f1;exact f1
     refine same (by simp only[gv.er,cZ,h1,i1,hm,hlt',and_self,if_true,fq,cond_true];rfl) (TR.bE (.jS (o:=_) (off:=0) hz ?_ ?_)) rfl
     ·rw[hl r hmem];show(_+m.toNat*w')+w'≤_;omega
     ·rw[hl r hmem];intro j u v hu hv';rw[←f2]at hu;rename_i off _ _ row';have hlu:LU σ Z 0 xs.flatten ((row'.drop off).take (xs.length*w')):=⟨by rw[dM hl];simp;omega,hv⟩;have:=nh (i:=m.toNat*w') (k:=m.toNat*w'+w') hlu hle;rw[uM,Ac,uM]at this;exact this.2 j u v hu hv'
    |Eh hn hl hro hv=>
     subst hn;obtain⟨f1,f2⟩:=BT hl hr;have hle:m.toNat*w'+w'≤xs.length*w' :=by rw[dM hl]at f1;exact f1
     refine same (by simp only[gv.er,cZ,h1,i1,hm,hlt',and_self,if_true,fq,cond_true];rfl) (TR.bE (.jR (o:=_) (off:=0) ?_ ?_)) rfl
     ·rw[hl r hmem];show(_+m.toNat*w')+w'≤_;omega
     ·rw[hl r hmem];intro j u v hu hv';rw[←f2]at hu;rename_i off row';have hlu:LU σ Z 0 xs.flatten ((row'.drop off).take (xs.length*w')):=⟨by rw[dM hl];simp;omega,hv⟩;have:=nh (i:=m.toNat*w') (k:=m.toNat*w'+w') hlu hle;rw[uM,Ac,uM]at this;exact this.2 j u v hu hv'
  ·rename_i g w' xs k m hx hi;split at h<;>try (simp at h;done)
   rename_i hm;cases hb:Nat.beq w' w with
   |false=>rw[hb]at h;simp at h
   |true=>
    have hww:w' =w:=aU hb;subst hww;rw[hb]at h;simp only[cond_true,ag,ay]at h;obtain⟨rfl,rfl⟩:=h;obtain⟨v,h1,h2,h2c⟩:=hk.cW hx;obtain⟨vi,i1,i2⟩:=hk.cW hi;obtain rfl:=TR.int i2;unfold OR at h2;split at h2
    ·obtain⟨rfl,_⟩:=h2;exfalso;have:=hm.2;simp at this;omega
    ·rename_i I hg;obtain⟨rfl,e0,_⟩:=h2;exact same (by simp only[gv.er,cZ,h1,i1,hm,and_self,if_true,fq,cond_true];rfl) ⟨⟨I,hg,by rw[e0.1];rfl⟩,h2c⟩ rfl
  ·rename_i j off len w' k m hx hi;split at h<;>try (simp at h;done)
   rename_i hm;cases hb:Nat.beq w' w with
   |false=>rw[hb]at h;simp at h
   |true=>
    have hww:w' =w:=aU hb;subst hww;rw[hb]at h;simp only[cond_true,ag,ay]at h;obtain⟨rfl,rfl⟩:=h;obtain⟨v,h1,hlt,cap,_,rfl⟩:=hk.cW hx;obtain⟨vi,i1,i2⟩:=hk.cW hi;obtain rfl:=TR.int i2;exact same (by simp only[gv.er,cZ,h1,i1,hm,and_self,if_true,fq,cond_true]) (TR.bE (.ptr hlt)) rfl
  ·rename_i g lo len w' k m hx hi;split at h<;>try (simp at h;done)
   rename_i hm;cases hb:Nat.beq w' w with
   |false=>rw[hb]at h;simp at h
   |true=>
    have hww:w' =w:=aU hb;subst hww;rw[hb]at h;simp only[cond_true,ag,ay]at h;obtain⟨rfl,rfl⟩:=h;obtain⟨v,h1,h2,h2c⟩:=hk.cW hx;obtain⟨vi,i1,i2⟩:=hk.cW hi;obtain rfl:=TR.int i2;unfold VW at h2;split at h2
    ·obtain⟨rfl,_⟩:=h2;exfalso;omega
    ·rename_i I hg;rcases h2 with⟨⟨cap,ex,rfl,hcap⟩,e0,_⟩|⟨rfl,_⟩
     ·exact same (by simp only[gv.er,cZ,h1,i1,hm,and_self,if_true,fq,cond_true];rfl) ⟨⟨I,hg,by rw[e0,qj];simp[gI]⟩,h2c⟩ rfl
     ·exfalso;omega
  ·simp at h
 |nI len w x i=>
  simp only[gm]at h;split at h
  ·rename_i j off k m hx hi;split at h<;>simp only[ag,ay,reduceCtorEq]at h;rename_i hm;obtain⟨rfl,rfl⟩:=h;obtain⟨v,h1,h2⟩:=hk.cW hx;obtain⟨hlt,rfl⟩:=TR.ptr h2;obtain⟨vi,i1,i2⟩:=hk.cW hi;obtain rfl:=TR.int i2;exact same (by simp only[gv.er,cZ,h1,i1,hm,and_self,if_true]) (TR.bE (.ptr hlt)) rfl
  ·rename_i row off k m hx hi;split at h<;>simp only[ag,ay,reduceCtorEq]at h;rename_i hm;obtain⟨rfl,rfl⟩:=h;obtain⟨v,h1,h2⟩:=hk.cW hx;obtain⟨vi,i1,i2⟩:=hk.cW hi;obtain rfl:=TR.int i2;cases h2 with
   |jS hz hr hv=>exact same (by simp only[gv.er,cZ,h1,i1,hm,and_self,if_true,gI]) (TR.bE (.jS hz hr hv)) rfl
   |jR hr hv=>exact same (by simp only[gv.er,cZ,h1,i1,hm,and_self,if_true,gI]) (TR.bE (.jR hr hv)) rfl
  ·simp at h
 |index x i=>
  simp only[gm]at h;split at h<;>try (simp at h;done)
  rename_i b k m hx hi;split at h<;>try (simp at h;done)
  rename_i hm;split at h<;>simp only[ag,ay,reduceCtorEq]at h;rename_i c hc;obtain⟨rfl,rfl⟩:=h;obtain⟨v,h1,h2⟩:=hk.cW hx;obtain rfl:=TR.str h2;obtain⟨vi,i1,i2⟩:=hk.cW hi;obtain rfl:=TR.int i2;exact same (by simp only[gv.er,cZ,h1,i1,hm,if_true,hc]) (TR.bE (.int _ _)) rfl
 |D0 len x i=>
  simp only[gm]at h;split at h<;>try (simp at h;done)
  rename_i cs k m hx hi;split at h<;>try (simp at h;done)
  rename_i hm;split at h<;>simp only[ag,ay,reduceCtorEq]at h;rename_i c hc;obtain⟨rfl,rfl⟩:=h;obtain⟨v,h1,h2⟩:=hk.cW hx;obtain⟨cs',rfl,h3⟩:=TR.agg h2;obtain⟨vi,i1,i2⟩:=hk.cW hi;obtain rfl:=TR.int i2;obtain⟨y,y1,y2⟩:=h3.get hc;exact same (by simp only[gv.er,cZ,h1,i1,hm,and_self,if_true,y1]) (TR.bE y2) rfl
 |lookup kk z ok x i=>
  simp only[gm]at h;split at h<;>try (simp at h;done)
  rename_i z0 m k hz hm hkk;split at h<;>simp only[ag,ay,reduceCtorEq]at h;rename_i v0 hl;obtain⟨rfl,rfl⟩:=h;obtain⟨vm,m1,m2⟩:=hk.cW hm;obtain⟨vk,k1,k2⟩:=hk.cW hkk;obtain⟨y,y1,y2⟩:=QJ hk (Ma hz) m2 k2 hl;exact same (by simp only[gv.er,cZ,m1,k1,y1]) (TR.bE y2) rfl
 |extract i x=>
  simp only[gm]at h;split at h<;>try (simp at h;done)
  rename_i vs hx;split at h<;>simp only[ag,ay,reduceCtorEq]at h;rename_i v0 hv;obtain⟨rfl,rfl⟩:=h;obtain⟨v,h1,h2⟩:=hk.cW hx;obtain⟨vs',rfl,h3⟩:=TR.aZ h2;obtain⟨y,y1,y2⟩:=h3.get hv;exact same (by simp only[gv.er,cZ,h1,y1]) (TR.bE y2) rfl
 |len k x=>
  simp only[gm]at h;split at h<;>try (simp at h;done)
  rename_i a ha;split at h<;>simp only[ag,ay,reduceCtorEq]at h;rename_i m hl;obtain⟨rfl,rfl⟩:=h;obtain⟨v,h1,h2⟩:=hk.cW ha;have hlen:mE st k v=some m:=by
   unfold QH at hl;split at hl
   ·obtain rfl:=TR.str h2;exact hl
   ·rename_i w xs;cases hb:Nat.beq k 1 with
    |false=>rw[hb]at hl;simp at hl
    |true=>
     rw[hb]at hl;simp at hl;subst hl;cases h2 with
     |slnil=>simp[mE,hb]
     |Ak=>simp[mE,hb]
     |AL hn=>simp[mE,hb,hn]
     |Eh hn=>simp[mE,hb,hn]
   ·rename_i w;cases hb:Nat.beq k 1 with
    |false=>rw[hb]at hl;simp at hl
    |true=>
     rw[hb]at hl;simp at hl;subst hl;have h2:UR σ Z s.h.length (.nl w) v:=h2;cases h2 with
     |Ec=>simp[mE,hb]
     |EU=>simp[mE,hb]
   ·rename_i g w xs;cases hb:Nat.beq k 1 with
    |false=>rw[hb]at hl;simp at hl
    |true=>
     rw[hb]at hl;simp at hl;subst hl;obtain⟨h2,_⟩:=h2;unfold OR at h2;split at h2
     ·obtain⟨rfl,rfl|rfl⟩:=h2<;>simp[mE,hb]
     ·obtain⟨rfl,_⟩:=h2;simp[mE,hb]
   ·rename_i i o len w;cases hb:Nat.beq k 1 with
    |false=>rw[hb]at hl;simp at hl
    |true=>
     rw[hb]at hl;simp at hl;subst hl;obtain⟨_,cap,_,rfl⟩:=h2;simp[mE,hb]
   ·rename_i g lo len w;cases hb:Nat.beq k 1 with
    |false=>rw[hb]at hl;simp at hl
    |true=>
     rw[hb]at hl;simp at hl;subst hl;obtain⟨h2,_⟩:=h2;unfold VW at h2;split at h2
     ·obtain⟨rfl,rfl|rfl⟩:=h2<;>simp[mE,hb]
     ·rcases h2 with⟨⟨cap,ex,rfl,_⟩,_⟩|⟨rfl,rfl|rfl⟩<;>simp[mE,hb]
   ·obtain rfl:=TR.bS h2;exact hl
   ·rename_i i;obtain⟨hlt,rfl⟩:=TR.map h2;cases hb:Nat.beq k 2 with
    |false=>rw[hb]at hl;simp at hl
    |true=>
     rw[hb]at hl;simp only[cond_true]at hl;split at hl<;>simp only[ag,reduceCtorEq]at hl;rename_i es c hes;obtain⟨es',g1,g2,g3⟩:=AB hk hes;simp[mE,hb,g1,←g2,hl]
   ·simp at hl
  exact same (by simp only[gv.er,cZ,h1,hlen]) (TR.bE (.int _ _)) rfl
 |cap x=>simp[gm]at h
 |entry x=>
  simp only[gm]at h;split at h<;>try (simp at h;done)
  rename_i q hx;split at h<;>simp only[ag,ay,reduceCtorEq]at h;rename_i v0 hv0;obtain⟨rfl,rfl⟩:=h;obtain⟨vx,x1,x2⟩:=hk.cW hx;obtain⟨hlt,rfl⟩:=TR.ptr x2;obtain⟨v,k1,k2⟩:=Se hk hv0;exact same (v:=v) (by simp only[gv.er,cZ,x1];exact k1) (TR.bE k2) rfl
 |max xs=>
  simp only[gm]at h;split at h<;>try (simp at h;done)
  rename_i a us hx;split at h<;>simp only[ag,ay,reduceCtorEq]at h;rename_i v0 hf;obtain⟨rfl,rfl⟩:=h;obtain⟨vs,h1,h2,h3⟩:=hk.nW hx;cases vs with
  |nil=>simp at h2
  |cons x vs=>
   obtain⟨y,y1,y2⟩:=NG (us:=us) (vs:=vs) (by simpa using h2) (fun j p q hp hq=>h3 (j+1) p q (by simpa using hp) (by simpa using hq)) (h3 0 a x rfl rfl) hf;exact same (by simp only[gv.er,cZ,h1,y1]) y2 rfl
 |min xs=>
  simp only[gm]at h;split at h<;>try (simp at h;done)
  rename_i a us hx;split at h<;>simp only[ag,ay,reduceCtorEq]at h;rename_i v0 hf;obtain⟨rfl,rfl⟩:=h;obtain⟨vs,h1,h2,h3⟩:=hk.nW hx;cases vs with
  |nil=>simp at h2
  |cons x vs=>
   obtain⟨y,y1,y2⟩:=NG (us:=us) (vs:=vs) (by simpa using h2) (fun j p q hp hq=>h3 (j+1) p q (by simpa using hp) (by simpa using hq)) (h3 0 a x rfl rfl) hf;exact same (by simp only[gv.er,cZ,h1,y1]) y2 rfl
 |nv t z x=>
  simp only[gm]at h;split at h
  ·rename_i z0 hz hx;simp only[ag,ay]at h;obtain⟨rfl,rfl⟩:=h;obtain⟨v,h1,h2⟩:=hk.cW hx;obtain rfl:=TR.di h2;exact same (by simp only[gv.er,cZ,h1]) (TR.bE (.aZ rfl (LU.cons (Ma hz) (LU.cons (.bool _) .nil)).2)) rfl
  ·rename_i z0 u1 v1 hz hx;simp only[ag,ay]at h;obtain⟨rfl,rfl⟩:=h;obtain⟨v,h1,h2⟩:=hk.cW hx;obtain⟨v',rfl,h3⟩:=TR.iface h2;refine same (by simp only[gv.er,cZ,h1];rfl) ?_ rfl;by_cases hq:u1=t
   ·rw[if_pos hq,if_pos hq];exact TR.bE (.aZ rfl (LU.cons h3 (LU.cons (.bool _) .nil)).2)
   ·rw[if_neg hq,if_neg hq];exact TR.bE (.aZ rfl (LU.cons (Ma hz) (LU.cons (.bool _) .nil)).2)
  ·simp at h
end
end Go.RE
namespace Go.RE
section
variable{E:q9}{σ:Sg}{Z:Zs}{ω:Om}{s s' :Vs}{e:PT V}{st:St}{n:Nat}
theorem Ok.lt_next(h:Ok E σ Z ω s e st){b:Nat}{o:Ob}(hb:st.get b=some o):b<st.next:=by
 refine Nat.lt_of_not_le fun hle=> ?_;rw[h.fresh b hle]at hb;cases hb
theorem Ok.Cg(h:Ok E σ Z ω s e st){b:Nat}{r:List V}(hb:st.row b=some r):b<st.next:=let⟨o,ho⟩:=Tm hb;h.lt_next ho
theorem Ok.mem(h:Ok E σ Z ω s e st){st' :St}(hn:st.next≤st'.next)(hf:∀ b,st'.next≤b→st'.get b=none)
  (hg:∀ b,((∃ i,i<s.h.length∧σ i=b)∨(∃ r,Z b=some r)∨(∃ g I,ω g=some I∧I.b=b)∨(b<E.st.next∧¬E.I b))→st'.get b=st.get b):Ok E σ Z ω s e st' :=by
 refine⟨h.env,fun i o ho=> ?_,fun b r hb=> ?_,fun g I hI=> ?_,hf,h.inj,h.ic,h.sw,h.sz,h.wz,fun i hi=>iC (h.sb i hi) hn,h.Bn,h.wc,h.n0,h.sig,h.zz,j0 h.nx hn,fun b hb hbI=> ?_,⟨fun i hi=> ?_,h.yg.2.mem fun i hi=>hg _ (.inl ⟨i,hi,rfl⟩)⟩⟩
 ·rw[hg _ (.inl ⟨i,(aH.1 ho).1,rfl⟩)];exact h.obj i o ho
 ·rw[yw (hg b (.inr (.inl ⟨r,hb⟩)))];exact h.qZ b r hb
 ·rw[hg _ (.inr (.inr (.inl ⟨g,I,hI,rfl⟩)))];exact h.mq g I hI
 ·obtain⟨k1,k2,k3,k4⟩:=h.out b hb hbI;exact⟨by rw[hg b (.inr (.inr (.inr ⟨hb,hbI⟩))),k1],k2,k3,k4⟩
 ·obtain⟨k1,k2,k3⟩:=h.gn i hi;exact⟨k1,k2,by rw[hg _ (.inl ⟨i,(aH.1 k2).1,rfl⟩)];exact k3⟩
theorem Ok.AN(h:Ok E σ Z ω s e st){b:Nat}(hb:(∃ i,i<s.h.length∧σ i=b)∨(∃ r,Z b=some r)∨(∃ g I,ω g=some I∧I.b=b)∨(b<E.st.next∧¬E.I b)):b<st.next:=by
 rcases hb with⟨i,hi,rfl⟩|⟨r,hr⟩|⟨g,I,hI,rfl⟩|⟨hb,_⟩
 ·exact h.sb i hi
 ·exact h.Cg (h.qZ b r hr)
 ·exact h.lt_next (h.mq g I hI)
 ·exact iC hb h.nx
theorem Ok.alloc(h:Ok E σ Z ω s e st)(o:Ob):Ok E σ Z ω s e (st.alloc o):=by
 refine h.mem (by simp) (fun b hb=> ?_) fun b hb=> ?_
 ·rw[St.dU,if_neg (by simp at hb;omega)];exact h.fresh b (by simp at hb;omega)
 ·have:=h.AN hb;rw[St.dU,if_neg (by omega)]
theorem Ok.Gn(h:Ok E σ Z ω s e st){b:Nat}(hb:b<st.next)(h1:∀ i,i<s.h.length→σ i≠b)(h2:Z b=none)(h3:∀ g I,ω g=some I→I.b≠b)(h4:b<E.st.next→E.I b)(o:Ob):Ok E σ Z ω s e (st.put b o):=by
 refine h.mem (by simp) (fun c hc=> ?_) fun c hc=> ?_
 ·have:(st.put b o).next=st.next:=rfl
  rw[this]at hc;rw[St.eE,if_neg (by omega)];exact h.fresh c hc
 ·rw[St.eE,if_neg];rintro rfl;rcases hc with⟨i,hi,hq⟩|⟨r,hr⟩|⟨g,I,hI,hq⟩|⟨hc,hq⟩
  ·exact h1 i hi hq
  ·rw[h2]at hr;cases hr
  ·exact h3 g I hI hq
  ·exact hq (h4 hc)
theorem Ok.nT(h:Ok E σ Z ω s e st){o:Uo}{ob:Ob}(ho:OB (dW σ s.h.length st.next) Z ω (s.h.length+1) s.h.length o (some ob))
  (hno:∀ cs (off:Nat),o=.row cs→cs[off]?≠some .dB:=by intro _ _ h;cases h):
  Ok E (dW σ s.h.length st.next) Z ω {s with h:=s.h++[o]} e (st.alloc ob)∧∀ i,i<s.h.length→dW σ s.h.length st.next i=σ i:=by
 have ha:=h.alloc ob;have hσ:∀ i,i<s.h.length→dW σ s.h.length st.next i=σ i:=fun i hi=>dy _ _ (by omega)
 have hσn:dW σ s.h.length st.next s.h.length=st.next:=bt _ _ _
 have hlen:(s.h++[o]).length=s.h.length+1:=by simp
 have hcase:∀ i,i<s.h.length+1→i<s.h.length∨i=s.h.length:=fun i hi=>by omega
 have hzn:Z st.next=none:=by
  cases hz:Z st.next with
  |none=>rfl
  |some r=>have:=h.Cg (h.qZ _ _ hz);omega
 have hwn:∀ g I,ω g=some I→I.b≠st.next:=fun g I hI hh=>by have:=h.lt_next (h.mq g I hI);omega
 refine⟨⟨fun t u hu=> ?_,fun i x hx=> ?_,ha.qZ,ha.mq,ha.fresh,fun i j hi hj hij=> ?_,h.ic,fun i g I hi hI=> ?_,fun i hi=> ?_,h.wz,fun i hi=> ?_,h.Bn,fun i off I hI=> ?_,?_,fun i hi=> ?_,h.zz,ha.nx,fun b hb hbI=> ?_,⟨fun i hi=> ?_,?_⟩⟩,hσ⟩
 ·obtain⟨v,h1,h2⟩:=h.env t u hu;exact⟨v,h1,h2.mono (by simp) hσ (fun _ _ h=>h) (fun _ _=>rfl)⟩
 ·simp only[hlen];rcases uP i s.h.length with hi|hi
  ·simp only[bG hi]at hx;rw[hσ i hi,St.dU,if_neg (by have:=h.sb i hi;omega)];exact(h.obj i x hx).mono (by omega) hσ (fun _ _ h=>h) (fun _=>rfl)
  ·simp only[dh hi]at hx;have:i=s.h.length:=by
    have:=(aH.1 hx).1;simp at this;omega
   subst this;simp at hx;subst hx;rw[hσn,St.dU,if_pos rfl];exact ho
 ·simp only[hlen]at hi hj;rcases hcase i hi with hi' |rfl<;>rcases hcase j hj with hj' |rfl
  ·rw[hσ i hi',hσ j hj']at hij;exact h.inj i j hi' hj' hij
  ·rw[hσ i hi',hσn]at hij;have:=h.sb i hi';omega
  ·rw[hσ j hj',hσn]at hij;have:=h.sb j hj';omega
  ·rfl
 ·simp only[hlen]at hi;rcases hcase i hi with hi' |rfl
  ·rw[hσ i hi'];exact h.sw i g I hi' hI
  ·rw[hσn];exact fun hh=>hwn g I hI hh.symm
 ·simp only[hlen]at hi;rcases hcase i hi with hi' |rfl
  ·rw[hσ i hi'];exact h.sz i hi'
  ·rw[hσn];exact hzn
 ·simp only[hlen]at hi;rcases hcase i hi with hi' |rfl
  ·rw[hσ i hi'];have:=h.sb i hi';simp;omega
  ·rw[hσn];simp
 ·simp only[hlen];have:=h.wc i off I hI;omega
 ·simp only[hlen];have:=h.n0;omega
 ·rw[hσ i (by have:=h.n0;omega)];exact h.sig i hi
 ·obtain⟨k1,k2,k3,k4⟩:=ha.out b hb hbI;refine⟨k1,fun i hi=> ?_,k3,k4⟩;simp only[hlen]at hi;rcases hcase i hi with hi' |rfl
  ·rw[hσ i hi'];exact k2 i hi'
  ·rw[hσn];have:=h.nx;omega
 ·obtain⟨k1,k2,k3⟩:=ha.gn i hi;have hlt:=(aH.1 k2).1;exact⟨k1,by simp only[bG hlt];exact k2,by rw[hσ i hlt];exact k3⟩
 ·intro i off cs h1 h2;rcases uP i s.h.length with hi|hi
  ·rw[bG hi]at h1;rw[hσ i hi];exact ha.yg.2 i off cs h1 h2
  ·rw[dh hi]at h1;have:i=s.h.length:=by
    have:=(aH.1 h1).1;simp at this;omega
   subst this;simp at h1;exact absurd h2 (hno cs off h1)
theorem Ok.E2(h:Ok E σ Z ω s e st){i:Nat}{o:Uo}{ob:Ob}(hi:i<s.h.length)(hng:s.h[i]?≠some .gone)(ho:OB σ Z ω s.h.length i o (some ob))
  (hln:∀ cs (off:Nat),o=.row cs→cs[off]? =some .dB→∃ ds r r2,s.h[i]? =some (.row ds)∧ds[off]? =some .dB∧st.get (σ i)=some (.row r)∧ob=.row r2∧r2[off]? =r[off]? :=by intro _ _ h;cases h):Ok E σ Z ω {s with h:=s.h.set i o} e (st.put (σ i) ob):=by
 have hl:(s.h.set i o).length=s.h.length:=oU;have hsb:=h.sb i hi;have hne:∀ b,b≠σ i→(st.put (σ i) ob).get b=st.get b:=fun b hb=>by rw[St.eE,if_neg hb]
 have hgn:∀ j,E.G j→j<E.n∧(s.h.set i o)[j]? =some .gone∧(st.put (σ i) ob).get (σ j)=E.st.get (E.σ j):=fun j hj=>by
  obtain⟨q1,q2,q3⟩:=h.gn j hj;have hij:i≠j:=by rintro rfl;exact hng q2
  exact⟨q1,by rw[b9,if_neg hij];exact q2,by rw[hne _ (fun hh=>hij (h.inj _ _ (aH.1 q2).1 hi hh).symm)];exact q3⟩
 refine⟨fun t u hu=>by rw[hl];exact h.env t u hu,fun j x hx=> ?_,fun b r hb=> ?_,fun g I hI=> ?_,fun b hb=> ?_,by rw[hl];exact h.inj,h.ic,by rw[hl];exact h.sw,by rw[hl];exact h.sz,h.wz,by rw[hl];exact h.sb,h.Bn,by rw[hl];exact h.wc,by rw[hl];exact h.n0,h.sig,h.zz,h.nx,fun b hb hbI=> ?_,hgn,?_⟩
 rotate_right
 ·intro j off cs h1 h2;simp only at h1;rw[b9]at h1;by_cases hj:i=j
  ·subst hj;rw[if_pos rfl,if_pos hi]at h1;simp at h1;subst h1;obtain⟨ds,r,r2,q1,q2,q3,rfl,q5⟩:=hln cs off rfl h2;obtain⟨k1,a,b,k2,k3,k4⟩:=h.yg.2 i off ds q1 q2;rw[q3]at k2;simp at k2;subst k2;exact⟨k1,r2,b,by rw[St.eE,if_pos rfl],k3,by rw[q5,k4]⟩
  ·rw[if_neg hj]at h1;have hj' :=(aH.1 h1).1;rw[hne _ (fun hh=>hj (h.inj _ _ hj' hi hh).symm)];exact h.yg.2 j off cs h1 h2
 ·rw[hl];rw[b9]at hx;by_cases hj:i=j
  ·subst hj;rw[if_pos rfl,if_pos hi]at hx;simp at hx;subst hx;rw[St.eE,if_pos rfl];exact ho
  ·rw[if_neg hj]at hx;have hj' :=(aH.1 hx).1;rw[hne _ (fun hh=>hj (h.inj _ _ hj' hi hh).symm)];exact h.obj j x hx
 ·rw[yw (hne b (fun hh=>by rw[hh,h.sz i hi]at hb;cases hb))];exact h.qZ b r hb
 ·rw[hne _ (fun hh=>h.sw i g I hi hI hh.symm)];exact h.mq g I hI
 ·have:(st.put (σ i) ob).next=st.next:=rfl
  rw[this]at hb;rw[hne b (by omega)];exact h.fresh b hb
 ·rw[hl];obtain⟨k1,k2,k3,k4⟩:=h.out b hb hbI;exact⟨by rw[hne b (fun hh=>k2 i hi hh.symm),k1],k2,k3,k4⟩
theorem Ok.qa2(h:Ok E σ Z ω s e st){i:Nat}{o:Uo}(hi:i<s.h.length)(hng:s.h[i]?≠some .gone)(ho:OB σ Z ω s.h.length i o (st.get (σ i)))
  (hln:∀ (off:Nat) cs,o=.row cs→cs[off]? =some .dB→∃ ds,s.h[i]? =some (.row ds)∧ds[off]? =some .dB:=by intro _ _ h;cases h):Ok E σ Z ω {s with h:=s.h.set i o} e st:=by
 have hl:(s.h.set i o).length=s.h.length:=oU;have hgn:∀ j,E.G j→j<E.n∧(s.h.set i o)[j]? =some .gone∧st.get (σ j)=E.st.get (E.σ j):=fun j hj=>by
  obtain⟨q1,q2,q3⟩:=h.gn j hj;have hij:i≠j:=by rintro rfl;exact hng q2
  exact⟨q1,by rw[b9,if_neg hij];exact q2,q3⟩
 refine⟨fun t u hu=>by rw[hl];exact h.env t u hu,fun j x hx=> ?_,h.qZ,h.mq,h.fresh,by rw[hl];exact h.inj,h.ic,by rw[hl];exact h.sw,by rw[hl];exact h.sz,h.wz,by rw[hl];exact h.sb,h.Bn,by rw[hl];exact h.wc,by rw[hl];exact h.n0,h.sig,h.zz,h.nx,by rw[hl];exact h.out,hgn,h.yg.2.set hln⟩;rw[hl];rw[b9]at hx;by_cases hj:i=j
 ·subst hj;rw[if_pos rfl,if_pos hi]at hx;simp at hx;subst hx;exact ho
 ·rw[if_neg hj]at hx;exact h.obj j x hx
theorem Ok.jg(h:Ok E σ Z ω s e st){g g2:Tg}(hn:pH g2 s)(hg:∀ i off,g≠.c i off)(hg2:g2≠.r)(hc:∀ i off,g2=.c i off→i<s.h.length)(hga:g≠.a)(hg2a:g2≠.a:=by simp):
  Ok E σ Z (dW (dW ω g none) g2 (ω g)) {s with e:=Env.jg g g2 s.e} e st∧∀ w xs v,OR σ Z ω g w xs v→OR σ Z (dW (dW ω g none) g2 (ω g)) g2 w xs v:=by
 have hor:∀ w xs v,OR σ Z ω g w xs v→OR σ Z (dW (dW ω g none) g2 (ω g)) g2 w xs v:=fun w xs v hv=>by
  unfold OR at hv⊢;rw[bt];exact hv
 by_cases hgg:g=g2
 ·-- nothing turns
  subst hgg;have e1:dW (dW ω g none) g (ω g)=ω:=by
   funext x;by_cases hx:x=g
   ·subst hx;rw[bt]
   ·rw[dy _ _ hx,dy _ _ hx]
  rw[e1];refine⟨h.setEnv fun t u hu=> ?_,by rw[e1]at hor;exact hor⟩;rw[Cc]at hu;cases hl:look s.e t with
  |none=>rw[hl]at hu;simp at hu
  |some x=>
   rw[hl]at hu;simp at hu;obtain⟨v,h1,h2⟩:=h.env t x hl;refine⟨v,h1,?_⟩;have:u=x:=by
    rw[←hu];cases x<;>simp[U.jg]
    all_goals (intro hh;exact hh.symm)
   rw[this];exact h2
 have hcase:∀ x I,dW (dW ω g none) g2 (ω g) x=some I→(x=g2∧ω g=some I)∨(x≠g2∧x≠g∧ω x=some I):=fun x I hI=>by
  by_cases hx:x=g2
  ·subst hx;rw[bt]at hI;exact .inl ⟨rfl,hI⟩
  ·rw[dy _ _ hx]at hI;by_cases hx2:x=g
   ·subst hx2;rw[bt]at hI;cases hI
   ·rw[dy _ _ hx2]at hI;exact .inr ⟨hx,hx2,hI⟩
 have hoth:∀ x,x≠g2→x≠g→dW (dW ω g none) g2 (ω g) x=ω x:=fun x h1 h2=>by rw[dy _ _ h1,dy _ _ h2]
 have hsame:dW (dW ω g none) g2 (ω g) g2=ω g:=bt _ _ _;refine⟨⟨fun t u hu=> ?_,fun i o ho=> ?_,h.qZ,fun x I hI=> ?_,h.fresh,h.inj,fun x y I J hI hJ hb=> ?_,fun i x I hi hI=> ?_,h.sz,fun x I hI=> ?_,h.sb,?_,fun i off I hI=> ?_,h.n0,h.sig,h.zz,h.nx,fun b hb hbI=> ?_,h.yg⟩,hor⟩
 ·rw[Cc]at hu;cases hl:look s.e t with
  |none=>rw[hl]at hu;simp at hu
  |some x=>
   rw[hl]at hu;simp at hu;obtain⟨v,h1,h2⟩:=h.env t x hl;have hnt:=hn.1 t x hl;refine⟨v,h1,?_⟩;subst hu;cases x with
   |own g' w xs=>
    simp only[U.jg];by_cases hq:g' =g
    ·subst hq;rw[if_pos rfl];exact⟨hor _ _ _ h2.1,hc⟩
    ·rw[if_neg hq];exact h2.mono (ak _) (fun _ _=>rfl) (fun _ _ h=>h) fun g3 h3=>by simp[U.tag]at h3;subst h3;exact hoth _ (fun hh=>hnt (by simp[U.tag,hh])) hq
   |bI g' i f=>
    simp only[U.jg];by_cases hq:g' =g
    ·subst hq;rw[if_pos rfl];obtain⟨⟨I,k1,k2⟩,_⟩:=h2;exact⟨⟨I,by rw[hsame];exact k1,k2⟩,hc⟩
    ·rw[if_neg hq];exact h2.mono (ak _) (fun _ _=>rfl) (fun _ _ h=>h) fun g3 h3=>by simp[U.tag]at h3;subst h3;exact hoth _ (fun hh=>hnt (by simp[U.tag,hh])) hq
   |view g' lo len w=>
    simp only[U.jg];by_cases hq:g' =g
    ·subst hq;rw[if_pos rfl];exact⟨by have h2:=h2.1;unfold VW at h2⊢;rw[hsame];exact h2,hc⟩
    ·rw[if_neg hq];exact h2.mono (ak _) (fun _ _=>rfl) (fun _ _ h=>h) fun g3 h3=>by simp[U.tag]at h3;subst h3;exact hoth _ (fun hh=>hnt (by simp[U.tag,hh])) hq
   |_=>exact h2.mono (ak _) (fun _ _=>rfl) (fun _ _ h=>h) fun g3 h3=>by simp[U.tag,U.jg]at h3
 ·have h1:=h.obj i o ho;cases o with
  |row cs=>
   obtain⟨cs',q1,q2,q3⟩:=h1;refine⟨cs',q1,q2,fun off u v hu hv=> ?_⟩;have h2:=q3 off u v hu hv;cases u with
   |bJ w xs=>
    refine OR.mono (fun _ _ h=>h) (hoth _ (fun hh=> ?_) (fun hh=>hg i off hh.symm)) h2;exact hn.2 i off hh.symm cs w xs ho hu
   |bad=>trivial
   |dB=>trivial
   |_=>exact h2
  |map es c=>exact h1
  |iter q a b c=>exact h1
  |gone=>trivial
 ·rcases hcase x I hI with⟨_,hh⟩|⟨_,_,hh⟩<;>exact h.mq _ I hh
 ·rcases hcase x I hI with⟨e1,k1⟩|⟨e1,e1',k1⟩<;>rcases hcase y J hJ with⟨e2,k2⟩|⟨e2,e2',k2⟩
  ·rw[e1,e2]
  ·exact absurd (h.ic _ _ _ _ k1 k2 hb).symm e2'
  ·exact absurd (h.ic _ _ _ _ k1 k2 hb) e1'
  ·exact h.ic _ _ _ _ k1 k2 hb
 ·rcases hcase x I hI with⟨_,hh⟩|⟨_,_,hh⟩<;>exact h.sw i _ I hi hh
 ·rcases hcase x I hI with⟨_,hh⟩|⟨_,_,hh⟩<;>exact h.wz _ I hh
 ·refine⟨?_,h.Bn.2.up (hoth _ (cc hg2a) (cc hga))⟩;by_cases hr:Tg.r=g
  ·subst hr;rw[dy _ _ (cc hg2),bt]
  ·rw[hoth _ (cc hg2) hr];exact h.wr
 ·rcases hcase _ I hI with⟨e1,hh⟩|⟨_,_,hh⟩
  ·exact hc i off e1.symm
  ·exact h.wc i off I hh
 ·obtain⟨k1,k2,k3,k4⟩:=h.out b hb hbI;refine⟨k1,k2,fun x I hI=> ?_,k4⟩;rcases hcase x I hI with⟨_,hh⟩|⟨_,_,hh⟩<;>exact k3 _ I hh
theorem Ok.Gg(h:Ok E σ Z ω s e st){d w cap:Nat}{ex:Bool}{xs:List (List U)}{row:List V}(hl:xs.length≤cap)(hc:cap*w≤row.length)(hw:∀ r∈xs,r.length=w)(hx:LU σ Z 0 xs.flatten (row.take (xs.length*w))):
  ∃ ω',Ok E σ Z ω' (s.kill (.t d)) e (st.alloc (.row row))∧OR σ Z ω' (.t d) w xs (.slice st.next 0 xs.length cap w ex):=by
 have ha:=(h.kill (.t d)).alloc (.row row);have hzn:Z st.next=none:=by
  cases hz:Z st.next with
  |none=>rfl
  |some r=>have:=h.Cg (h.qZ _ _ hz);omega
 refine⟨_,ha.Cw (fD _ _) (by simp) (o:=some ⟨st.next,0,cap,ex,w,row,xs⟩) fun J hJ=> ?_,?_⟩
 ·cases hJ;refine⟨by rw[St.dU,if_pos rfl],fun i hi=> ?_,hzn,fun g' I' _ hI' hb=> ?_,fun b hb _ hh=> ?_,fun i off hh=>by cases hh⟩
  ·have:=h.sb i (by rw[dA]at hi;exact hi);show σ i≠st.next
   omega
  ·have:=h.lt_next (h.mq g' I' hI');have hb' :I'.b=st.next:=hb
   omega
  ·have:=h.nx;have hh' :st.next=b:=hh
   omega
 ·unfold OR;rw[bt];exact⟨rfl,⟨rfl,rfl⟩,hl,by simpa using hc,hw,by simpa using hx⟩
theorem Ok.qkG(h:Ok E σ Z ω s e st)(row:List V):Ok E σ (dW Z st.next (some row)) ω s e (st.alloc (.wG row))∧∀ b r,Z b=some r→dW Z st.next (some row) b=some r:=by
 have ha:=h.alloc (.wG row);have hzn:Z st.next=none:=by
  cases hz:Z st.next with
  |none=>rfl
  |some r=>have:=h.Cg (h.qZ _ _ hz);omega
 have hZ:∀ b r,Z b=some r→dW Z st.next (some row) b=some r:=fun b r hb=>by
  by_cases hbb:b=st.next
  ·subst hbb;rw[hzn]at hb;cases hb
  ·rw[dy _ _ hbb];exact hb
 have hne:∀ b,b≠st.next→dW Z st.next (some row) b=Z b:=fun b hb=>dy _ _ hb
 refine⟨⟨fun t u hu=> ?_,fun i o ho=>(ha.obj i o ho).mono (ak _) (fun _ _=>rfl) hZ (fun _=>rfl),fun b r hb=> ?_,ha.mq,ha.fresh,ha.inj,ha.ic,ha.sw,fun i hi=> ?_,fun g I hI=> ?_,ha.sb,ha.Bn,ha.wc,ha.n0,ha.sig,fun b r hb=>hZ b r (h.zz b r hb),ha.nx,fun b hb hbI=> ?_,ha.yg⟩,hZ⟩
 ·obtain⟨v,h1,h2⟩:=ha.env t u hu;exact⟨v,h1,h2.mono (ak _) (fun _ _=>rfl) hZ fun _ _=>rfl⟩
 ·by_cases hbb:b=st.next
  ·subst hbb;rw[bt]at hb;simp only[ag]at hb;subst hb;unfold St.row;rw[St.dU,if_pos rfl]
  ·rw[hne b hbb]at hb;exact ha.qZ b r hb
 ·rw[hne _ (by have:=h.sb i hi;omega)];exact h.sz i hi
 ·rw[hne _ (by have:=h.lt_next (h.mq g I hI);omega)];exact h.wz g I hI
 ·obtain⟨o1,o2,o3,o4⟩:=ha.out b hb hbI;refine⟨o1,o2,o3,fun r hr=> ?_⟩;rw[hne _ (by have:=h.nx;omega)]at hr;exact o4 r hr
end
end Go.RE
namespace Go.RE
section
variable{E:q9}{σ:Sg}{Z:Zs}{ω:Om}{s s' :Vs}{e:PT V}{st:St}{n:Nat}
theorem qaE{i:Nat}(hω:∀ off,ω (.c i off)=none):∀ {zs:List V},(V.dF zs).all (fun u=>u.aL||u.o8)=true→(V.dF zs).length=(V.As zs).length∧
  ∀ (off:Nat) u v,(V.dF zs)[off]? =some u→(V.As zs)[off]? =some v→∀ k,CR σ Z ω n i (k+off) u v:=by
 intro zs
 induction zs with
 |nil=>intro _;exact⟨rfl,fun off u v h=>by simp[V.dF]at h⟩
 |cons z zs ih=>
  intro h;simp only[V.dF,kG,aI]at h;obtain⟨h1,h2⟩:=ih h.2;refine⟨by simp[V.dF,V.As,h1],fun off u v hu hv k=> ?_⟩;cases off with
  |zero=>
   simp[V.dF]at hu;simp[V.As]at hv;subst hu;subst hv;have hh:=h.1;cases hq:z.nj with
   |bJ w xs=>
    cases z with
    |ah r o l zz=>
     match r,o,l with
     |[],0,0=>simp[V.nj]at hq
     |[],1,0=>simp[V.nj]at hq
     |[],2,0=>
      simp[V.nj]at hq;obtain⟨rfl,rfl⟩:=hq;show OR σ Z ω _ _ _ _;unfold OR;rw[hω];exact⟨rfl,.inl rfl⟩
     |[],3,0=>simp[V.nj]at hq
     |[],k+4,0=>simp[V.nj]at hq
     |[],_,l+1=>simp[V.nj]at hq
     |a::r,_,_=>simp[V.nj]at hq
    |func f a b=>simp only[V.nj]at hq;generalize (_&&_:Bool)=c at hq;cases c<;>simp at hq
    |iface t v=>simp only[V.nj]at hq;generalize U.aL _=c at hq;cases c<;>simp at hq
    |agg cs=>simp only[V.nj]at hq;generalize List.all _ _=c at hq;cases c<;>simp at hq
    |aZ cs=>simp only[V.nj]at hq;generalize List.all _ _=c at hq;cases c<;>simp at hq
    |_=>simp[V.nj]at hq
   |_=>
    rw[←hq];refine CR.bE (pL z ?_ ?_ ?_)<;>(rw[hq];try rw[hq]at hh)<;>simp_all [U.aL,U.o8]
  |succ off=>
   simp[V.dF]at hu;simp[V.As]at hv;rw[show k+(off+1)=(k+1)+off by omega];exact h2 off u v hu hv (k+1)
theorem D4{cs:List U}(h:cs.all (fun u=>u.aL||u.o8)=true)(off:Nat):cs[off]?≠some .dB:=fun hh=>by
 have:=fF.1 h _ (oT hh);simp[U.aL,U.o8]at this
theorem rO{cs:List U}(h:cs.all U.aL=true)(off:Nat):cs[off]?≠some .dB:=fun hh=>by
 have:=fF.1 h _ (oT hh);simp[U.aL]at this
theorem IC{w:Nat}:∀ {k:Nat} {cs:List U},cs.length=k*w→(chunks w k cs).length=k∧(chunks w k cs).flatten=cs∧∀ r∈chunks w k cs,r.length=w:=by
 intro k
 induction k with
 |zero=>intro cs h;simp at h;subst h;simp[chunks]
 |succ k ih=>
  intro cs h;rw[oy]at h;obtain⟨h1,h2,h3⟩:=ih (cs:=cs.drop w) (by simp;omega);refine⟨by simp[chunks,h1],by simp only[chunks,iE,h2,s9],fun r hr=> ?_⟩;simp only[chunks,bT]at hr;rcases hr with rfl|hr
  ·simp;omega
  ·exact h3 r hr
theorem Tj{a:List U}{b:List V}(h:LU σ Z n a b):∀ k,LU σ Z n (LV a k) (eT b k):=by
 intro k
 induction k with
 |zero=>exact .nil
 |succ k ih=>exact h.append ih
theorem Gq{a:List U}:∀ k,(iY a k).flatten=LV a k:=by
 intro k
 induction k with
 |zero=>rfl
 |succ k ih=>
  have:iY a (k+1)=a::iY a k:=by simp[iY,List.replicate_succ]
  rw[this,iE,ih];rfl
theorem JE{b:List V}:∀ k,(eT b k).length=k*b.length:=by
 intro k
 induction k with
 |zero=>simp[eT]
 |succ k ih=>simp[eT,ih,oy];omega
theorem Gs{b:List V}:∀ {k m:Nat},k≤m→(eT b m).take (k*b.length)=eT b k:=by
 intro k
 induction k with
 |zero=>intro m _;simp[eT]
 |succ k ih=>
  intro m hm;cases m with
  |zero=>omega
  |succ m=>
   simp only[eT,oy];rw[FE,gu (l:=b) (by omega),Kz,ih (by omega)]
theorem J5:∀ (zs:List V),(V.dF zs).length=zs.length∧(V.As zs).length=zs.length
 |[]=>⟨rfl,rfl⟩
 |z::zs=>by
  obtain⟨h1,h2⟩:=J5 zs;exact⟨by simp[V.dF,h1],by simp[V.As,h2]⟩
theorem Ix:∀ (b:List UInt8),LU σ Z n (bM b).flatten (b.map iK):=by
 intro b
 induction b with
 |nil=>exact .nil
 |cons c b ih=>exact LU.cons (.int _ _) ih
theorem Bx(b:List UInt8):∀ r∈bM b,r.length=1:=by
 intro r hr;simp only[bM,cD]at hr;obtain⟨c,_,rfl⟩:=hr;rfl
theorem IB{u:U}{v:V}(h:TR σ Z ω n u v)(hc:u.cells.all U.aL=true):UR σ Z n u v:=by
 cases u<;>first|exact h|(simp[U.cells,U.aL]at hc)
theorem wK{v:V}{g:Tg}{w:Nat}{xs:List (List U)}(h:OR σ Z ω g w xs v):v.cells=[v]∧v.one=true:=by
 unfold OR at h;split at h
 ·obtain⟨_,rfl|rfl⟩:=h<;>exact⟨rfl,rfl⟩
 ·obtain⟨rfl,_⟩:=h;exact⟨rfl,rfl⟩
theorem EW{d:Nat}{o:Io}{u:U}(h:zO d s o=some (u,s'))(hk:Ok E σ Z ω s e st):
  ∃ σ' Z' ω' ob f,BP e o.er=some (ob,f)∧Ok E σ' Z' ω' s' e (st.alloc ob)∧TR σ' Z' ω' s'.h.length u (f st.next)∧s.h.length≤s'.h.length∧(∀ i,i<s.h.length→σ' i=σ i)∧∀ b r,Z b=some r→Z' b=some r:=by
 have hωn:∀ off,ω (.c s.h.length off)=none:=fun off=>by
  cases hq:ω (.c s.h.length off)with
  |none=>rfl
  |some I=>have:=hk.wc _ off I hq;omega
 have hptr:∀ (σ' :Sg),σ' s.h.length=st.next→UR σ' Z (s.h.length+1) (.ptr s.h.length 0) (.ptr st.next 0):=fun σ' hσ=>by rw[←hσ];exact .ptr (by omega)
 cases o with
 |alloc zero=>
  simp only[zO]at h;cases hz:(V.dF zero).all (fun u=>u.aL||u.o8)with
  |false=>rw[hz]at h;simp at h
  |true=>
   rw[hz]at h;simp only[cond_true,ag,ay]at h;obtain⟨rfl,rfl⟩:=h;obtain⟨h1,h2⟩:=qaE (σ:=dW σ s.h.length st.next) (Z:=Z) (n:=s.h.length+1) hωn hz;obtain⟨k1,k2⟩:=hk.nT (o:=.row (V.dF zero)) (ob:=.row (V.As zero)) ⟨_,rfl,h1,fun off u v hu hv=>by simpa using h2 off u v hu hv 0⟩ (fun cs off e=>by cases e;exact D4 hz off);refine⟨_,Z,ω,.row (V.As zero),fun n=> .ptr n 0,rfl,k1,TR.bE ?_,by simp[nT],k2,fun _ _ h=>h⟩;have:=hptr _ (bt σ s.h.length st.next);simpa[nT]using this
 |box x=>
  simp only[zO]at h;split at h
  ·simp at h
  ·simp at h
  ·rename_i g w xs hno hna hx;simp only[ag,ay]at h;obtain⟨rfl,rfl⟩:=h;obtain⟨v,v1,v2,v3⟩:=hk.cW hx;obtain⟨c1,c2⟩:=wK v2;have hg:∀ i off,g≠.c i off:=fun i off hh=>hno i off hh
   -- a cell of which nothing is told
   obtain⟨k1,k2⟩:=hk.nT (o:=.row [.bad]) (ob:=.row [v]) ⟨[v],rfl,rfl,fun off u y hu hv=>by
    cases off with
    |zero=>simp at hu;subst hu;trivial
    |succ off=>simp at hu⟩ (fun cs off e=>by cases e;cases off<;>simp)
   have hnt:pH (.c s.h.length 0) {s with h:=s.h++[.row [.bad]]}:=by
    refine⟨fun t u hu htag=> ?_,fun i off he cs w xs hc hx=> ?_⟩
    ·obtain⟨v',_,q2⟩:=hk.env t u hu;cases u with
     |own g' w' xs' =>simp[U.tag]at htag;subst htag;have:=q2.2 _ _ rfl;omega
     |bI g' i f=>simp[U.tag]at htag;subst htag;have:=q2.2 _ _ rfl;omega
     |view g' i f l=>simp[U.tag]at htag;subst htag;have:=q2.2 _ _ rfl;omega
     |_=>simp[U.tag]at htag
    ·cases he;simp at hc;subst hc;simp at hx
   obtain⟨m1,m2⟩:=k1.jg (g:=g) (g2:=.c s.h.length 0) hnt hg (by simp) (fun i off hh=>by cases hh;simp) (fun hh=>hna hh);have m3:=m1.qa2 (i:=s.h.length) (o:=.row [.bJ w xs]) (by simp) (by simp) (by
    rw[bt,St.dU,if_pos rfl];refine⟨[v],rfl,rfl,fun off u y hu hv=> ?_⟩;cases off with
    |zero=>
     simp at hu hv;subst hu;subst hv;exact m2 w xs _ (v2.mono (fun _ _ h=>h) rfl)
    |succ off=>simp at hu) (fun off cs e=>by cases e;cases off<;>simp)
   have e1:(s.h++[Uo.row [.bad]]).set s.h.length (Uo.row [.bJ w xs])=s.h++[Uo.row [.bJ w xs]]:=by
    rw[List.set_append_right _ _ (ak _)];simp
   rw[e1]at m3;refine⟨_,Z,_,.row v.cells,fun n=> .ptr n 0,by simp only[Io.er,BP,v1],by rw[c1];exact m3,TR.bE ?_,by simp,k2,fun _ _ h=>h⟩;have:=hptr _ (bt σ s.h.length st.next);simpa using this
  ·rename_i u' hno1 hno0 hno2 hx;cases hc:u'.cells.all U.aL with
   |false=>rw[hc]at h;simp at h
   |true=>
    rw[hc]at h;simp only[cond_true,ag,ay]at h;obtain⟨rfl,rfl⟩:=h;obtain⟨v,v1,v2⟩:=hk.cW hx;have v3:=(IB v2 hc).cells;obtain⟨k1,k2⟩:=hk.nT (o:=.row u'.cells) (ob:=.row v.cells) ⟨_,rfl,v3.1,fun off u y hu hv=>CR.bE ((v3.2 off u y hu hv).mono (by omega) (fun i hi=>dy _ _ (by omega)) (fun _ _ h=>h))⟩ (fun cs off e=>by cases e;exact rO hc off);refine⟨_,Z,ω,.row v.cells,fun n=> .ptr n 0,by simp only[Io.er,BP,v1],k1,TR.bE ?_,by simp[nT],k2,fun _ _ h=>h⟩;have:=hptr _ (bt σ s.h.length st.next);simpa[nT]using this
  ·simp at h
 |buildSlice w len zero parts=>
  simp only[zO]at h;cases hz:(V.dF zero).all U.aL with
  |false=>rw[hz]at h;simp at h
  |true=>
   rw[hz]at h;simp only[cond_true]at h;split at h<;>try (simp at h;done)
   rename_i cs s1 hf;obtain⟨Z1,ω1,ws,a1,a2,a3,a4,a5⟩:=hk.fill (Tj (jQ zero hz) len) hf;cases hb:(cs.all U.aL&&U.bZ 0 cs&&Nat.beq cs.length (len*w))with
   |false=>rw[hb]at h;simp at h
   |true=>
    rw[hb]at h;simp only[cond_true,ag,ay]at h;obtain⟨rfl,rfl⟩:=h;simp only[aI]at hb;have hlen:cs.length=len*w:=aU hb.2;obtain⟨c1,c2,c3⟩:=IC hlen;have hlu:=a3.low hb.1.2;obtain⟨ω',k1,k2⟩:=a2.Gg (d:=d) (w:=w) (cap:=len) (ex:=true) (xs:=chunks w len cs) (row:=ws) (by omega) (by rw[←hlu.1,hlen];exact ak _) c3 (by
     rw[c2,c1,gu (by rw[←hlu.1,hlen];exact ak _)];exact hlu)
    rw[c1]at k2;exact⟨σ,Z1,ω',.row ws,fun n=> .slice n 0 len len w true,by simp only[Io.er,BP,a1],k1,⟨k2,fun i off hh=>by cases hh⟩,by rw[dA];omega,fun _ _=>rfl,a5⟩
 |makeMap=>
  simp only[zO,ag,ay]at h;obtain⟨rfl,rfl⟩:=h;obtain⟨k1,k2⟩:=hk.nT (o:=.map [] 0) (ob:=.map [] 0) ⟨[],rfl,rfl,fun j x y hx=>by simp at hx⟩;refine⟨_,Z,ω,.map [] 0,fun n=> .map n,rfl,k1,TR.bE ?_,by simp[nT],k2,fun _ _ h=>h⟩;have:UR (dW σ s.h.length st.next) Z (s.h.length+1) (.map s.h.length) (.map st.next):=by
   have:=bt σ s.h.length st.next
   conv=>rhs;rw[←this]
   exact .map (by omega)
  simpa[nT]using this
 |makeSlice w bytes zero len cap=>
  simp only[zO]at h;split at h<;>try (simp at h;done)
  rename_i ul uc hl hc;split at h<;>try (simp at h;done)
  rename_i c hcn;split at h<;>try (simp at h;done)
  rename_i l hln;cases hb:(Nat.ble (c*bytes) bl&&Nat.beq zero.length w&&U.bZ 0 (V.dF zero)&&(V.dF zero).all U.aL)with
  |false=>rw[hb]at h;simp at h
  |true=>
   rw[hb]at h;simp only[cond_true,ag,ay]at h;obtain⟨rfl,rfl⟩:=h;simp only[aI]at hb;have hw:zero.length=w:=aU hb.1.1.2;obtain⟨vl,l1,l2⟩:=hk.cW hl;obtain⟨vc,c1,c2⟩:=hk.cW hc;have n1:=Bu hcn c2;have n2:=Bu hln l2;have hle:l≤c:=by
    cases vl<;>simp[asNat]at n2;omega
   obtain⟨z1,z2⟩:=J5 zero;have hlu:LU σ Z 0 (V.dF zero) (V.As zero):=(jQ (n:=0) zero hb.2);obtain⟨ω',k1,k2⟩:=hk.Gg (d:=d) (w:=w) (cap:=c) (ex:=true) (xs:=iY (V.dF zero) l) (row:=eT (V.As zero) c) (by simpa[iY]using hle) (by rw[JE,z2,hw];exact ak _) (fun r hr=>by
    simp only[iY,List.mem_replicate]at hr;rw[hr.2,z1,hw]) (by
    have:(iY (V.dF zero) l).length*w=l*(V.As zero).length:=by rw[z2,hw];simp[iY]
    rw[Gq,this,Gs hle];exact Tj hlu l)
   have hrl:(iY (V.dF zero) l).length=l:=by simp[iY]
   rw[hrl]at k2;exact⟨σ,Z,ω',.row (eT (V.As zero) c),fun n=> .slice n 0 l c w true,by simp only[Io.er,BP,l1,c1,n1,n2,hb.1.1.1,cond_true],k1,⟨k2,fun i off hh=>by cases hh⟩,by rw[dA];exact ak _,fun _ _=>rfl,fun _ _ h=>h⟩
 |mV x=>
  simp only[zO]at h;split at h<;>try (simp at h;done)
  rename_i b hx;cases hbb:Nat.ble b.length bl with
  |false=>rw[hbb]at h;cases h
  |true=>
  rw[hbb]at h;simp only[cond_true,ag,ay]at h;obtain⟨rfl,rfl⟩:=h;obtain⟨v,h1,h2⟩:=hk.cW hx;obtain rfl:=TR.str h2;have hbl:(bM b).length=b.length:=by simp[bM]
  obtain⟨k1,k2⟩:=hk.qkG (b.map iK);refine⟨σ,_,ω,_,fun n=> .slice n 0 b.length b.length 1 false,by simp only[Io.er,BP,h1,hbb,cond_true],k1,TR.bE ?_,ak _,fun _ _=>rfl,k2⟩;refine .AL hbl.symm (bt _ _ _) (Bx b) (ak _) (by simp[bM]) fun j u v hu hv=> ?_;have:(b.map iK).take ((bM b).length*1)=b.map iK:=gu (by simp[bM]);rw[s8,this]at hv;exact(Ix b).2 j u v hu hv
end
end Go.RE
namespace Go.RE
section
variable{E:q9}{σ:Sg}{Z:Zs}{ω:Om}{s s' :Vs}{e:PT V}{st:St}{n:Nat}
theorem QO{g:Tg}(hn:pH g s):s.cw g=none:=by
 have key:∀ r:Env,Env.cw g s.e r=none:=by
  intro r
  induction r with
  |nil=>rfl
  |cons x r ih=>
   obtain⟨k,u⟩:=x;cases u with
   |own g' w' xs' =>
    simp only[Env.cw];split
    ·split
     ·rename_i g2 w2 xs2 hl;split
      ·rename_i hg;subst hg;exact absurd rfl (hn.1 _ _ hl)
      ·exact ih
     ·exact ih
    ·exact ih
   |_=>exact ih
 unfold Vs.cw;split
 ·rename_i i off;split
  ·rename_i cs hi;split
   ·rename_i w xs hc;exact absurd hc (hn.2 i off rfl cs w xs hi)
   ·rfl
  ·rfl
 ·exact key _
theorem Gv{h:List Uo}{i off:Nat}{v:U}(hv:v≠.dB){j o:Nat}{cs:List U}(h1:(setCell h i off v)[j]? =some (.row cs))(h2:cs[o]? =some .dB):∃ ds,h[j]? =some (.row ds)∧ds[o]? =some .dB:=by
 unfold setCell at h1;split at h1
 ·rename_i ds hi;rw[b9]at h1;by_cases hj:i=j
  ·subst hj;rw[if_pos rfl,if_pos (aH.1 hi).1]at h1;simp at h1;subst h1;rw[b9]at h2;split at h2
   ·split at h2<;>simp at h2;exact absurd h2 hv
   ·exact⟨ds,hi,h2⟩
  ·rw[if_neg hj]at h1;exact⟨cs,h1,h2⟩
 ·exact⟨cs,h1,h2⟩
theorem Ok.CD(h:Ok E σ Z ω s e st){g:Tg}{I:oW}{p0:Nat×List (List U)}(hp0:s.cw g=some p0)(hg:ω g=some I){ys:List (List U)}{row' :List V}(hl:ys.length=I.xs.length)(hrl:I.off+I.cap*I.w≤I.row.length→I.off+I.cap*I.w≤row'.length)(hw:∀ r∈ys,r.length=I.w)
  (hy:LU σ Z 0 ys.flatten ((row'.drop I.off).take (ys.length*I.w))):Ok E σ Z (dW ω g (some {I with row:=row',xs:=ys})) (s.fK g I.w ys) e (st.put I.b (.row row')):=by
 have hgr:g≠.r:=fun hh=>by subst hh;rw[h.wr]at hg;cases hg
 have hsame:dW ω g (some {I with row:=row',xs:=ys}) g=some {I with row:=row',xs:=ys}:=bt _ _ _;have hne:∀ g',g'≠g→dW ω g (some {I with row:=row',xs:=ys}) g' =ω g' :=fun g' hh=>dy _ _ hh;have hor:∀ w xs v,OR σ Z ω g w xs v→OR σ Z (dW ω g (some {I with row:=row',xs:=ys})) g w ys v∧w=I.w:=fun w xs v hv=>by
  unfold OR at hv⊢;rw[hg]at hv;rw[hsame];obtain⟨rfl,⟨rfl,rfl⟩,e1,e2,e3,e4⟩:=hv;exact⟨⟨by rw[hl],⟨rfl,rfl⟩,by rw[hl];exact e1,hrl e2,hw,hy⟩,rfl⟩
 have hcase:∀ x J,dW ω g (some {I with row:=row',xs:=ys}) x=some J→(x=g∧J={I with row:=row',xs:=ys})∨(x≠g∧ω x=some J):=fun x J hJ=>by
  by_cases hx:x=g
  ·subst hx;rw[hsame]at hJ;cases hJ;exact .inl ⟨rfl,rfl⟩
  ·rw[hne x hx]at hJ;exact .inr ⟨hx,hJ⟩
 have hget:∀ b,b≠I.b→(st.put I.b (.row row')).get b=st.get b:=fun b hb=>by rw[St.eE,if_neg hb]
 have hIlt:=h.lt_next (h.mq g I hg)
 -- the temporaries
 have henv:∀ t u,look (Env.fK g ys s.e) t=some u→∃ v,e.get t=some v∧TR σ Z (dW ω g (some {I with row:=row',xs:=ys})) s.h.length u v:=by
  intro t u hu;rw[Cd]at hu;cases hq:look s.e t with
  |none=>rw[hq]at hu;simp at hu
  |some x=>
   rw[hq]at hu;simp at hu;obtain⟨v,h1,h2⟩:=h.env t x hq;refine⟨v,h1,?_⟩;subst hu;cases x with
   |own g' w xs=>
    simp only[U.fK];by_cases hgg:g' =g
    ·subst hgg;rw[if_pos rfl];exact⟨(hor _ _ _ h2.1).1,h2.2⟩
    ·rw[if_neg hgg];exact⟨OR.mono (fun _ _ h=>h) (hne _ hgg) h2.1,h2.2⟩
   |bI g' i f=>
    obtain⟨⟨J,k1,k2⟩,k3⟩:=h2;by_cases hgg:g' =g
    ·subst hgg;rw[hg]at k1;cases k1;exact⟨⟨_,hsame,k2⟩,k3⟩
    ·exact⟨⟨J,by rw[hne _ hgg];exact k1,k2⟩,k3⟩
   |view g' lo len w=>
    by_cases hgg:g' =g
    ·subst hgg;refine⟨?_,h2.2⟩;have h2:=h2.1;unfold VW at h2⊢;rw[hg]at h2;simp only[hsame,hl];exact h2
    ·exact⟨h2.1.mono (hne _ hgg),h2.2⟩
   |_=>exact h2.mono (ak _) (fun _ _=>rfl) (fun _ _ h=>h) fun g3 h3=>by simp[U.tag,U.fK]at h3
 have hob:∀ (i:Nat) o,s.h[i]? =some o→(∀ off cs w xs,g=.c i off→o=.row cs→cs[off]?≠some (.bJ w xs))→
   OB σ Z (dW ω g (some {I with row:=row',xs:=ys})) s.h.length i o ((st.put I.b (.row row')).get (σ i)):=by
  intro i o ho hno;have hi:=(aH.1 ho).1;rw[hget _ (h.sw i g I hi hg)];have h1:=h.obj i o ho;cases o with
  |row cs=>
   obtain⟨cs',q1,q2,q3⟩:=h1;refine⟨cs',q1,q2,fun off u v hu hv=> ?_⟩;have h2:=q3 off u v hu hv;cases u with
   |bJ w xs=>
    refine OR.mono (fun _ _ h=>h) (hne _ fun hh=> ?_) h2;exact hno off cs w xs hh.symm rfl hu
   |bad=>trivial
   |dB=>trivial
   |_=>exact h2
  |map es c=>exact h1
  |iter q a b c=>exact h1
  |gone=>trivial
 have hrest:∀ (s1:Vs),s1.h.length=s.h.length→(∀ (i:Nat),s.h[i]? =some Uo.gone→s1.h[i]? =some Uo.gone)→(∀ (i off:Nat) cs,s1.h[i]? =some (.row cs)→cs[off]? =some .dB→∃ ds,s.h[i]? =some (.row ds)∧ds[off]? =some .dB)→(∀ t u,look s1.e t=some u→∃ v,e.get t=some v∧TR σ Z (dW ω g (some {I with row:=row',xs:=ys})) s.h.length u v)→
   (∀ (i:Nat) o,s1.h[i]? =some o→OB σ Z (dW ω g (some {I with row:=row',xs:=ys})) s.h.length i o ((st.put I.b (.row row')).get (σ i)))→
   Ok E σ Z (dW ω g (some {I with row:=row',xs:=ys})) s1 e (st.put I.b (.row row')):=by
  intro s1 hl1 hgo hlt h1 h2;have hgn:∀ j,E.G j→j<E.n∧s1.h[j]? =some .gone∧(st.put I.b (.row row')).get (σ j)=E.st.get (E.σ j):=fun j hj=>by
   obtain⟨q1,q2,q3⟩:=h.gn j hj;exact⟨q1,hgo j q2,by rw[hget _ (h.sw j g I (aH.1 q2).1 hg)];exact q3⟩
  refine⟨by rw[hl1];exact h1,by rw[hl1];exact h2,fun b r hb=> ?_,fun x J hJ=> ?_,fun b hb=> ?_,by rw[hl1];exact h.inj,fun x y J K hJ hK hb=> ?_,fun i x J hi hJ=> ?_,by rw[hl1];exact h.sz,fun x J hJ=> ?_,by rw[hl1];exact h.sb,⟨by rw[hne _ (cc hgr)];exact h.wr,by
    by_cases hag:Tg.a=g
    ·subst hag;have:=h.Bn.2;unfold WA at this⊢;rw[hsame];rw[hg]at this;exact this
    ·exact h.Bn.2.up (hne _ hag)⟩,fun i off J hJ=> ?_,by rw[hl1];exact h.n0,h.sig,h.zz,h.nx,fun b hb hbI=> ?_,hgn,(h.yg.2.sub hlt).mem fun i hi=>hget _ (h.sw i g I (by omega) hg)⟩
  ·rw[yw (hget b (fun hh=>by rw[hh,h.wz g I hg]at hb;cases hb))];exact h.qZ b r hb
  ·rcases hcase x J hJ with⟨rfl,rfl⟩|⟨hx,hh⟩
   ·rw[St.eE,if_pos rfl]
   ·rw[hget _ (fun hb=>hx (h.ic x g J I hh hg hb))];exact h.mq x J hh
  ·have:(st.put I.b (.row row')).next=st.next:=rfl
   rw[this]at hb;rw[hget b (by omega)];exact h.fresh b hb
  ·rcases hcase x J hJ with⟨rfl,rfl⟩|⟨hx,hh⟩<;>rcases hcase y K hK with⟨rfl,rfl⟩|⟨hy,hh'⟩
   ·rfl
   ·exact absurd (h.ic _ _ _ _ hg hh' hb).symm hy
   ·exact absurd (h.ic _ _ _ _ hh hg hb) hx
   ·exact h.ic _ _ _ _ hh hh' hb
  ·rcases hcase x J hJ with⟨rfl,rfl⟩|⟨hx,hh⟩
   ·exact h.sw i x I (by omega) hg
   ·exact h.sw i x J (by omega) hh
  ·rcases hcase x J hJ with⟨rfl,rfl⟩|⟨hx,hh⟩
   ·exact h.wz x I hg
   ·exact h.wz x J hh
  ·rw[hl1];rcases hcase _ J hJ with⟨e1,rfl⟩|⟨hx,hh⟩
   ·exact h.wc i off I (by rw[e1];exact hg)
   ·exact h.wc i off J hh
  ·obtain⟨k1,k2,k3,k4⟩:=h.out b hb hbI;refine⟨by rw[hget b (fun hh=>k3 g I hg hh.symm),k1],by rw[hl1];exact k2,fun x J hJ=> ?_,k4⟩;rcases hcase x J hJ with⟨rfl,rfl⟩|⟨hx,hh⟩
   ·exact k3 x I hg
   ·exact k3 x J hh
 unfold Vs.fK;split
 ·rename_i i off;refine hrest _ ?_ (fun j hj=> ?_) (fun j o cs h1 h2=> ?_) henv fun j o ho=> ?_
  ·simp only;unfold setCell;split<;>simp
  ·simp only;unfold setCell;split
   ·rename_i cs hi;rw[b9,if_neg (by rintro rfl;rw[hi]at hj;cases hj)];exact hj
   ·exact hj
  ·exact Gv (by simp) h1 h2
  ·simp only at ho;unfold setCell at ho;split at ho
   ·rename_i cs hi;have hlt:=(aH.1 hi).1;rw[b9]at ho;by_cases hj:i=j
    ·subst hj;rw[if_pos rfl,if_pos hlt]at ho;simp at ho;subst ho;rw[hget _ (h.sw i _ I hlt hg)];obtain⟨cs',q1,q2,q3⟩:=h.obj i _ hi;refine⟨cs',q1,by rw[oU];exact q2,fun o' u v hu hv=> ?_⟩;rw[b9]at hu;by_cases ho' :off=o'
     ·subst ho';simp only[Vs.cw,hi]at hp0;split at hp0<;>try (simp at hp0;done)
      rename_i w0 xs0 hc0;have hoff:=(aH.1 hc0).1;rw[if_pos rfl,if_pos hoff]at hu;simp at hu;subst hu;have:=hor w0 xs0 v (q3 off _ v hc0 hv);rw[this.2]at this;exact this.1
     ·rw[if_neg ho']at hu;exact(q3 o' u v hu hv).mono (ak _) (fun _ _=>rfl) (fun _ _ h=>h) (hne _ fun hh=>ho' (by simp at hh;omega))
    ·rw[if_neg hj]at ho;exact hob j o ho fun off' cs' w xs he=>by simp at he;exact absurd he.1 hj
   ·rename_i hno;exact hob j o ho fun off' cs' w xs he hoo=>by simp at he;obtain⟨rfl,rfl⟩:=he;exact absurd (hoo▸ho) (hno _)
 ·rename_i hno;exact hrest _ rfl (fun _ h=>h) (fun _ _ cs h1 h2=>⟨cs,h1,h2⟩) henv fun i o ho=>hob i o ho fun off cs w xs he=>absurd he (hno i off)
end
end Go.RE
namespace Go.RE
section
variable{E:q9}{σ:Sg}{Z:Zs}{ω:Om}{s s' :Vs}{e:PT V}{st:St}{n:Nat}
theorem qec{u:U}{v:V}(h:UR σ Z n u v)(hc:u.aL=true):v.one=true:=by
 cases h<;>first|rfl|(simp[U.aL]at hc)
theorem AE{us:List U}{vs:List V}(h:LU σ Z n us vs)(hc:us.all U.aL=true):vs.all V.one=true:=by
 rw[fF]at hc⊢;intro v hv;obtain⟨j,hj,rfl⟩:=s6.1 hv;have hj' :j<us.length:=h.1▸hj;exact qec (h.2 j _ _ (aQ hj') (aQ hj)) (hc _ (xP hj'))
theorem Tw{i off:Nat}{cs:List U}{cs' :List V}{us:List U}{vs:List V}(hl:cs.length=cs'.length)(hc:∀ (o:Nat) u v,cs[o]? =some u→cs'[o]? =some v→CR σ Z ω n i o u v)
  (hul:us.length=vs.length) (hu:∀ (o:Nat) u v,us[o]? =some u→vs[o]? =some v→CR σ Z ω n i (off+o) u v) (hle:off+us.length≤cs.length):
  (gK cs off us).length=(kI cs' off vs).length∧∀ (o:Nat) u v,(gK cs off us)[o]? =some u→(kI cs' off vs)[o]? =some v→CR σ Z ω n i o u v:=by
 refine⟨by simp[gK,kI];omega,fun o u v h1 h2=> ?_⟩;unfold gK at h1;unfold kI at h2;rw[gD]at h1 h2;by_cases ho:o<off
 ·rw[bG (by simp;omega),fU,if_pos ho]at h1;rw[bG (by simp;omega),fU,if_pos ho]at h2;exact hc o u v h1 h2
 ·rw[dh (by simp;omega)]at h1 h2;have e1:(cs.take off).length=off:=by simp;omega
  have e2:(cs'.take off).length=off:=by simp;omega
  rw[e1]at h1;rw[e2]at h2;by_cases ho2:o - off<us.length
  ·rw[bG ho2]at h1;rw[bG (by omega)]at h2;have:=hu _ u v h1 h2;rw[show off+(o - off)=o by omega]at this;exact this
  ·rw[dh (by omega),jX]at h1;rw[dh (by omega),jX]at h2;have:=hc _ u v h1 (by rw[←h2];congr 1;omega);rw[show off+us.length+(o - off - us.length)=o by omega]at this;exact this
theorem Of{cs vs:List V}{off o:Nat}(hle:off+vs.length≤cs.length)(ho:o<off∨off+vs.length≤o):(kI cs off vs)[o]? =cs[o]? :=by
 unfold kI;rw[gD];have e1:(cs.take off).length=off:=by simp;omega
 rcases ho with ho|ho
 ·rw[bG (by omega),fU,if_pos ho]
 ·rw[dh (by omega),dh (by omega),jX];congr 1;omega
theorem Tv{cs vs:List U}{off o:Nat}(hle:off+vs.length≤cs.length)(ho:o<off∨off+vs.length≤o):(gK cs off vs)[o]? =cs[o]? :=by
 unfold gK;rw[gD];have e1:(cs.take off).length=off:=by simp;omega
 rcases ho with ho|ho
 ·rw[bG (by omega),fU,if_pos ho]
 ·rw[dh (by omega),dh (by omega),jX];congr 1;omega
theorem qai{cs vs:List U}{off o:Nat}(hle:off+vs.length≤cs.length)(h1:off≤o)(h2:o<off+vs.length):(gK cs off vs)[o]? =vs[o - off]? :=by
 unfold gK;rw[gD];have e1:(cs.take off).length=off:=by simp;omega
 rw[dh (by omega),e1,bG (by omega)]
theorem sX{b off:Nat}{vs cs:List V}(hr:st.get b=some (.row cs))(hl:off+vs.length≤cs.length)(ho:vs.all V.one=true):st.write b off vs=some (st.put b (.row (kI cs off vs))):=by
 simp only[St.write,rV hr,jA hl,ho,jh,cond_true]
theorem J3{k i off:Nat}{u:U}{v:V}{cs:List U}(h:Ok E σ Z ω s e st)(hi:s.h[i]? =some (.row cs))(hv:TR σ Z ω s.h.length u v)(hs:qK s k i off u cs=some s'):
  ∃ ω' st',(bif Nat.beq v.cells.length k then(match st.write (σ i) off v.cells with|some s' =>some (.aZ [],s')|none=>none)else none)=some (V.aZ [],st')∧Ok E σ Z ω' s' e st'∧s'.h.length=s.h.length:=by
 have hlt:i<s.h.length:=(aH.1 hi).1;obtain⟨cs',g1,g2,g3⟩:=h.obj i _ hi;unfold qK at hs;split at hs
 ·rename_i g w xs;cases hb:(Nat.beq k 1&&Nat.blt off cs.length)with
  |false=>rw[hb]at hs;simp at hs
  |true=>
   rw[hb]at hs;simp only[cond_true]at hs;simp only[aI]at hb;have hk1:k=1:=aU hb.1;subst hk1;have hoff:off<cs.length:=by have:=hb.2;simp only[Nat.blt,ez]at this;omega
   split at hs<;>simp only[ag,reduceCtorEq]at hs;rename_i hno hna;subst hs;obtain⟨c1,c2⟩:=wK hv.1;have hg:∀ i off,g≠.c i off:=fun i off hh=>hno i off hh;have hw:st.write (σ i) off v.cells=some (st.put (σ i) (.row (kI cs' off [v]))):=by
    rw[c1];exact sX g1 (by simp;omega) (by simp[c2])
   -- the cell is given up
   have h1:=h.bV (Tg.SC i off 1);have hspl:OB σ Z ω s.h.length i (.row (cs.set off .bad)) (some (.row (kI cs' off [v]))):=by
    have e1:cs.set off .bad=gK cs off [.bad]:=by
     unfold gK;rw[qc7,if_pos hoff];simp
    rw[e1];obtain⟨s1,s2⟩:=Tw (off:=off) (us:=[.bad]) (vs:=[v]) g2 g3 rfl (fun o u y hu hy=>by
     cases o with
     |zero=>simp at hu;subst hu;trivial
     |succ o=>simp at hu) (by simp;omega)
    exact⟨_,rfl,s1,s2⟩
   have h2:=h1.E2 hlt (by simp only[hi];intro hh;cases hh) hspl (fun ds o e hh=>by
    cases e;rw[b9]at hh;split at hh
    ·first|(simp at hh;done)|(split at hh<;>simp at hh)
    ·exact⟨cs,cs',_,hi,hh,g1,rfl,Of (by simp;omega) (by simp;omega)⟩)
   have hnt:pH (.c i off) {e:=Env.bV (Tg.SC i off 1) s.e,h:=s.h.set i (.row (cs.set off .bad)),fl:=s.fl}:=by
    refine⟨fun t u hu htag=> ?_,fun i' off' he cs2 w' xs' hc hx=> ?_⟩
    ·simp only at hu;rw[r8]at hu;have hin:Tg.SC i off 1 (.c i off)=true:=by simp[Tg.SC,Nat.blt]
     cases hq:look s.e t with
     |none=>rw[hq]at hu;simp at hu
     |some x=>
      rw[hq]at hu;simp at hu;subst hu;cases x with
      |own g' w' xs' =>
       simp only[U.bV]at htag;cases hp:Tg.SC i off 1 g' with
       |true=>rw[hp]at htag;simp[U.tag]at htag
       |false=>rw[hp]at htag;simp[U.tag]at htag;subst htag;rw[hin]at hp;cases hp
      |bI g' i' f=>
       simp only[U.bV]at htag;cases hp:Tg.SC i off 1 g' with
       |true=>rw[hp]at htag;simp[U.tag]at htag
       |false=>rw[hp]at htag;simp[U.tag]at htag;subst htag;rw[hin]at hp;cases hp
      |view g' i' f l=>
       simp only[U.bV]at htag;cases hp:Tg.SC i off 1 g' with
       |true=>rw[hp]at htag;simp[U.tag]at htag
       |false=>rw[hp]at htag;simp[U.tag]at htag;subst htag;rw[hin]at hp;cases hp
      |_=>simp[U.bV,U.tag]at htag
    ·cases he;simp only at hc;rw[b9,if_pos rfl,if_pos hlt]at hc;simp at hc;subst hc;rw[b9,if_pos rfl,if_pos hoff]at hx;simp at hx
   obtain⟨h3,h4⟩:=h2.jg (g:=g) hnt hg (by simp) (fun i' off' hh=>by cases hh;simpa using hlt) (fun hh=>hna hh);have h5:=h3.qa2 (i:=i) (o:=.row (cs.set off (.bJ w xs))) (by simpa using hlt) (by simp only;rw[b9,if_pos rfl,if_pos hlt];intro hh;cases hh) (by
    rw[St.eE,if_pos rfl];have e1:cs.set off (.bJ w xs)=gK cs off [.bJ w xs]:=by
     unfold gK;rw[qc7,if_pos hoff];simp
    rw[e1];have hcs:∀ (o:Nat) u y,(cs.set off .bad)[o]? =some u→(kI cs' off [v])[o]? =some y→CR σ Z (dW (dW ω g none) (Tg.c i off) (ω g)) s.h.length i o u y:=by
     obtain⟨ds,q1,q2,q3⟩:=h3.obj i (.row (cs.set off .bad)) (by simp only;rw[b9,if_pos rfl,if_pos hlt]);rw[St.eE,if_pos rfl]at q1;simp at q1;subst q1;simpa using q3
    refine⟨_,rfl,by simp[gK,kI];omega,fun o u y hu hy=> ?_⟩;by_cases ho:o=off
    ·subst ho;have e2:(gK cs o [.bJ w xs])[o]? =some (.bJ w xs):=by rw[←e1,b9,if_pos rfl,if_pos hoff]
     have e3:(kI cs' o [v])[o]? =some v:=by
      unfold kI;rw[gD,dh (by simp;omega)];have:(cs'.take o).length=o:=by simp;omega
      rw[this];simp
     rw[e2]at hu;rw[e3]at hy;simp at hu hy;subst hu;subst hy;exact h4 w xs _ hv.1
    ·have e2:(gK cs off [.bJ w xs])[o]? =(cs.set off .bad)[o]? :=by
      rw[←e1,b9,b9,if_neg (cc ho),if_neg (cc ho)]
     rw[e2]at hu;simpa using hcs o u y hu hy) (fun o ds e hh=>by
    cases e;simp only;rw[b9,if_pos rfl,if_pos hlt];refine⟨_,rfl,?_⟩;rw[b9]at hh⊢;split at hh
    ·first|(simp at hh;done)|(split at hh<;>simp at hh)
    ·rename_i hne;rw[if_neg hne];exact hh)
   simp only[KD]at h5;rw[c1]at hw;refine⟨_,_,by rw[c1];simp only[List.length_singleton,fq,cond_true,hw],h5,by simp⟩
 ·rename_i u' hno;cases hb:(Nat.beq u.cells.length k&&Nat.ble (off+k) cs.length&&u.cells.all U.aL)with
  |false=>rw[hb]at hs;simp at hs
  |true=>
   rw[hb]at hs;simp only[cond_true,ag]at hs;subst hs;simp only[aI]at hb;have hk:u.cells.length=k:=aU hb.1.1;have hle:=dY hb.1.2;have hur:=IB hv hb.2;have hcl:=hur.cells;have hw:st.write (σ i) off v.cells=some (st.put (σ i) (.row (kI cs' off v.cells))):=sX g1 (by rw[←hcl.1];omega) (AE hcl hb.2);obtain⟨s1,s2⟩:=Tw (off:=off) g2 g3 hcl.1 (fun o u y hu hy=>CR.bE (hcl.2 o u y hu hy)) (by omega);have h2:=(h.bV (Tg.SC i off k)).E2 hlt (by simp only[hi];intro hh;cases hh) (ob:=.row (kI cs' off v.cells)) (o:=.row (gK cs off u.cells)) ⟨_,rfl,s1,s2⟩ (fun ds o e hh=>by
    cases e;have hnl:¬(off≤o∧o<off+u.cells.length):=fun ho=>by
     rw[qai (by omega) ho.1 ho.2]at hh;exact rO hb.2 _ hh
    rw[Tv (by omega) (by omega)]at hh;exact⟨cs,cs',_,hi,hh,g1,rfl,Of (by rw[←hcl.1];omega) (by rw[←hcl.1];omega)⟩)
   refine⟨ω,_,by rw[←hcl.1,hb.1.1,hw];rfl,h2.Tq _,by simp⟩
theorem L5(h:Ok E σ Z ω s e st){w:Nat}{str:Bool}{u:U}{v:V}{ys:List (List U)}(hs:Al s w str u=some ys)(hv:TR σ Z ω s.h.length u v):
  ∃ cs,iU st w str v=some cs∧LU σ Z s.h.length ys.flatten cs∧u7 v=some ys.length∧∀ r∈ys,r.length=w:=by
 cases str with
 |true=>
  cases u<;>simp only[Al,reduceCtorEq]at hs;rename_i b;cases hb:Nat.beq w 1 with
  |false=>rw[hb]at hs;simp at hs
  |true=>
   rw[hb]at hs;simp at hs;subst hs;have:w=1:=aU hb;subst this;obtain rfl:=TR.str hv;exact⟨_,by simp[iU],Ix b,by simp[u7,bM],Bx b⟩
 |false=>
  have hs' :rowsOf s w u=some ys:=by cases u<;>exact hs
  obtain⟨cs,h1,h2,h3,h4⟩:=Cq h hs' hv;refine⟨cs,?_,h2,h3,h4⟩;cases v<;>simpa[iU]using h1
theorem IP{ys:List (List U)}(h:ys.all (fun r=>r.all U.aL&&U.bZ 0 r&&Nat.beq r.length n)=true):ys.flatten.all U.aL=true∧U.bZ 0 ys.flatten=true∧∀ r∈ys,r.length=n:=by
 induction ys with
 |nil=>exact⟨rfl,rfl,fun r hr=>by cases hr⟩
 |cons y ys ih=>
  simp only[kG,aI]at h;obtain⟨h1,h2,h3⟩:=ih h.2;have lows_app:∀ {a b:List U},U.bZ 0 a=true→U.bZ 0 b=true→U.bZ 0 (a++b)=true:=by
   intro a
   induction a with
   |nil=>intro b _ hb;exact hb
   |cons x a iha=>intro b ha hb;simp only[U.bZ,aI,DS]at ha⊢;exact⟨ha.1,iha ha.2 hb⟩
  refine⟨by simp only[iE,List.all_append,aI];exact⟨h.1.1.1,h1⟩,by simp only[iE];exact lows_app h.1.1.2 h2,fun r hr=> ?_⟩;rcases bT.1 hr with rfl|hr
  ·exact aU h.1.2
  ·exact h3 r hr
theorem EJ(h:Ok E σ Z ω s e st){g:Tg}{I:oW}(hg:ω g=some I):I.b<st.next∧(∀ i,i<s.h.length→σ i≠I.b)∧Z I.b=none∧(∀ g' J,g'≠g→ω g' =some J→J.b≠I.b)∧(I.b<E.st.next→E.I I.b):=
 ⟨h.lt_next (h.mq g I hg),fun i hi=>h.sw i g I hi hg,h.wz g I hg,fun g' J hgg hJ hb=>hgg (h.ic g' g J I hJ hg hb),fun hlt=>qc4 fun hno=>(h.out I.b hlt hno).2.2.1 g I hg rfl⟩
theorem QL{a:List U}{row new:List V}{ys:List U}{off L:Nat}(h:LU σ Z 0 a ((row.drop off).take L))(hn:LU σ Z 0 ys new)(hl:off+L≤row.length)(hb:off+L+new.length≤row.length):
  LU σ Z 0 (a++ys) (((kI row (off+L) new).drop off).take (L+ys.length)):=by
 have e:((kI row (off+L) new).drop off).take (L+ys.length)=((row.drop off).take L)++new:=by
  unfold kI;rw[gD,List.drop_append];have e1:(List.take (off+L) row).length=off+L:=by simp;omega
  rw[e1,show off - (off+L)=0 by omega,s8];have e2:(List.take (off+L) row).drop off=(row.drop off).take L:=by rw[Ac];congr 1;omega
  rw[e2,FE];have e3:((row.drop off).take L).length=L:=by simp;omega
  rw[e3,uM,gu (by omega)];rw[hn.1,List.take_left]
 rw[e];exact h.append hn
theorem Sn{w f:Nat}{us:List U}:∀ {xs:List (List U)},(∀ r∈xs,r.length=w)→∀ {i:Nat} {r:List U},xs[i]? =some r→f+us.length≤w→(xs.set i (gK r f us)).flatten=gK xs.flatten (i*w+f) us:=by
 intro xs
 induction xs with
 |nil=>intro _ i r h;simp at h
 |cons x xs ih=>
  intro hw i r h hf;have hx:=hw x cB;cases i with
  |zero=>
   simp at h;subst h;simp only[List.set_cons_zero,iE,PM,kF];unfold gK;rw[Fy (by omega),Ys (by omega)];simp
  |succ i=>
   simp at h;simp only[List.set_cons_succ,iE,ih (fun r hr=>hw r (eu _ hr)) h hf,oy];unfold gK;rw[show i*w+w+f=x.length+(i*w+f) by omega,FE,gu (l:=x) (by omega),uM,show x.length+(i*w+f)+us.length=x.length+(i*w+f+us.length) by omega,List.drop_append (l₁:=x),xN (l:=x) (by omega),uM];simp
theorem DK{row vs:List V}{off p L:Nat}(h1:p+vs.length≤L)(h2:off+L≤row.length):((kI row (off+p) vs).drop off).take L=kI ((row.drop off).take L) p vs:=by
 apply PZ;intro j;unfold kI;rw[fU,jX];by_cases hj:j<L
 ·rw[if_pos hj];by_cases ha:j<p
  ·rw[gD,gD,bG (by simp;omega),bG (by simp;omega),fU,fU,if_pos (by omega),if_pos ha,fU,if_pos hj,jX]
  ·have e1:(row.take (off+p)).length=off+p:=by simp;omega
   have e2:(((row.drop off).take L).take p).length=p:=by simp;omega
   rw[gD,gD];have l1:∀ D:List V,(row.take (off+p)++(vs++D))[off+j]? =(vs++D)[j - p]? :=fun D=>by
    rw[dh (by omega),e1];congr 1;omega
   have l2:∀ D:List V,(((row.drop off).take L).take p++(vs++D))[j]? =(vs++D)[j - p]? :=fun D=>by
    rw[dh (by omega),e2]
   rw[l1,l2];by_cases hb:j - p<vs.length
   ·rw[bG hb,bG hb]
   ·rw[dh (by omega),dh (by omega),jX,jX,fU,if_pos (by omega),jX];congr 1;omega
 ·rw[if_neg hj,z8];simp;omega
theorem uC{d w bytes:Nat}{str:Bool}{g:Tg}{xs ys:List (List U)}{a x:V}{u:U}(h:Ok E σ Z ω s e st)(hga:g≠.a)(ha:OR σ Z ω g w xs a)(hx:TR σ Z ω s.h.length u x)(hs:Al s w str u=some ys)
  (hb1:Nat.ble ((xs.length+ys.length)*bytes) bl=true) (hb2:Nat.ble (xs.length+ys.length) bl=true) (hy:ys.all (fun r=>r.all U.aL&&U.bZ 0 r&&Nat.beq r.length w)=true):
  ∃ ω' v st',qo st w bytes str a x=some (v,st')∧Ok E σ Z ω' ((s.kill g).kill (.t d)) e st'∧OR σ Z ω' (.t d) w (xs++ys) v:=by
 obtain⟨cs,c1,c2,c3,c4⟩:=L5 h hs hx;obtain⟨f1,f2,f3⟩:=IP hy;have hone:=AE c2 f1;have hlu0:=c2.low f2;have hcl:cs.length=ys.length*w:=by rw[←c2.1,dM c4]
 have hbl1:=dY hb1;have hbl2:=dY hb2;have hk1:=h.kill g;unfold qo;rw[c1,c3];simp only[hone,cond_true];have hgr:∀ I,ω g=some I→g≠.r:=fun I hI hh=>by subst hh;rw[h.wr]at hI;cases hI
 -- a new row
 have fresh:∀ (ω1:Om) (st1:St) (old:List V),Ok E σ Z ω1 (s.kill g) e st1→LU σ Z 0 xs.flatten old→(∀ r∈xs,r.length=w)→
   ∃ ω',Ok E σ Z ω' ((s.kill g).kill (.t d)) e (st1.alloc (.row (old++cs)))∧OR σ Z ω' (.t d) w (xs++ys) (.slice st1.next 0 (xs.length+ys.length) (xs.length+ys.length) w false):=by
  intro ω1 st1 old ho hold hw;have hol:old.length=xs.length*w:=by rw[←hold.1,dM hw]
  have hwl:∀ r∈xs++ys,r.length=w:=fun r hr=>by
   rcases eH.1 hr with hr|hr
   ·exact hw r hr
   ·exact c4 r hr
  obtain⟨ω',k1,k2⟩:=ho.Gg (d:=d) (w:=w) (cap:=xs.length+ys.length) (ex:=false) (xs:=xs++ys) (row:=old++cs) (by simp) (by rw[gX,hol,hcl,qj];exact ak _) hwl (by
   rw[KG,gu (by rw[gX,hol,hcl,gX,qj];exact ak _)];exact hold.append hlu0)
  rw[gX]at k2;exact⟨ω',k1,k2⟩
 unfold OR at ha;split at ha
 ·rename_i hg;obtain⟨rfl,hv⟩:=ha;simp only[ox,kF]at hbl1 hbl2 hb1 hb2;cases hk0:Nat.beq ys.length 0 with
  |true=>
   have hy0:ys=[]:=fT (aU hk0);subst hy0;obtain⟨ω',k1,k2,_⟩:=hk1.Gl d;have hor:∀ v,v=.bB∨v=.bQ→OR σ Z ω' (.t d) w ([]++[]) v:=fun v hv=>by unfold OR;rw[k2];exact⟨rfl,hv⟩
   rcases hv with rfl|rfl
   ·exact⟨ω',_,_,by simp,k1,hor _ (.inl rfl)⟩
   ·exact⟨ω',_,_,by simp,k1,hor _ (.inr rfl)⟩
  |false=>
   obtain⟨ω',k1,k2⟩:=fresh ω st [] hk1 .nil (fun r hr=>by cases hr);simp only[jZ,ox,kF]at k1 k2;rcases hv with rfl|rfl
   ·exact⟨ω',_,_,by simp only[hk0,cond_false,hb1,hb2,jh,cond_true],k1,k2⟩
   ·exact⟨ω',_,_,by simp only[hk0,cond_false,hb1,hb2,jh,cond_true],k1,k2⟩
 ·rename_i I hg;obtain⟨rfl,⟨rfl,rfl⟩,e1,e2,e3,e4⟩:=ha;obtain⟨n1,n2,n3,n4,n5⟩:=EJ h hg;have hIr:=h.mq g I hg;have hcapw:I.xs.length*I.w≤I.cap*I.w:=iB _ e1
  -- the tag is given up
  have hk2:=hk1.Cw (fD g s) (hgr I hg) (o:=none) (fun J hJ=>by cases hJ) hga;have hfree:∀ g' J,dW ω g none g' =some J→J.b≠I.b:=fun g' J hJ=>by
   by_cases hq:g' =g
   ·subst hq;rw[bt]at hJ;cases hJ
   ·rw[dy _ _ hq]at hJ;exact n4 g' J hq hJ
  simp only[fq,hb1,hb2,jh,cond_true];cases hc:Nat.ble (I.xs.length+ys.length) I.cap with
  |true=>
   have hc' :=dY hc;simp only[cond_true];have hin:∀ (st1:St) (row' :List V),Ok E σ Z (dW ω g none) (s.kill g) e st1→st1.next=st.next→st1.get I.b=some (.row row')→row'.length=I.row.length→
     LU σ Z 0 (I.xs++ys).flatten ((row'.drop I.off).take ((I.xs++ys).length*I.w))→
     ∃ ω',Ok E σ Z ω' ((s.kill g).kill (.t d)) e st1∧OR σ Z ω' (.t d) I.w (I.xs++ys) (.slice I.b I.off (I.xs.length+ys.length) I.cap I.w I.ex):=by
    intro st1 row' ho hn hr hl hlu;refine⟨_,(ho.kill (.t d)).Cw (fD _ _) (by simp) (o:=some ⟨I.b,I.off,I.cap,I.ex,I.w,row',I.xs++ys⟩) (fun J hJ=> ?_),?_⟩
    ·cases hJ;refine⟨hr,fun i hi=>n2 i (by rw[dA,dA]at hi;exact hi),n3,fun g' J' _ hJ' =>hfree g' J' hJ',fun b hb hbI hh=>hbI (hh▸n5 (by rw[show I.b=b from hh];exact hb)),fun i off hh=>by cases hh⟩
    ·unfold OR;rw[bt];refine⟨by simp,⟨rfl,rfl⟩,by simp;omega,by simp only[hl];exact e2,fun r hr=> ?_,hlu⟩;rcases eH.1 hr with hr|hr
     ·exact e3 r hr
     ·exact c4 r hr
   cases hk0:Nat.beq ys.length 0 with
   |true=>
    have hy0:ys=[]:=fT (aU hk0);subst hy0;obtain⟨ω',k1,k2⟩:=hin st I.row hk2 rfl hIr rfl (by simpa using e4);exact⟨ω',.slice I.b I.off I.xs.length I.cap I.w I.ex,st,by simp only[cond_true],k1,by simpa using k2⟩
   |false=>
    have hfit:(I.xs.length+ys.length)*I.w≤I.cap*I.w:=iB _ hc';rw[qj]at hfit;have hwr:=sX hIr (off:=I.off+I.xs.length*I.w) (vs:=cs) (by omega) hone;have hk3:=hk2.Gn n1 (fun i hi=>n2 i (by rw[dA]at hi;exact hi)) n3 hfree n5 (.row (kI I.row (I.off+I.xs.length*I.w) cs));obtain⟨ω',k1,k2⟩:=hin _ (kI I.row (I.off+I.xs.length*I.w) cs) hk3 rfl (by rw[St.eE,if_pos rfl]) (by simp[kI];omega) (by
     have:=QL e4 hlu0 (by omega) (by omega);rw[KG,gX,qj];rw[dM c4]at this;exact this)
    exact⟨ω',_,_,by simp only[cond_false,hwr],k1,k2⟩
  |false=>
   simp only[cond_false];have hsc:=oO (cap:=I.cap) (ex:=I.ex) (iZ hIr) (show I.off+I.xs.length*I.w≤I.row.length by omega);rw[hsc,rV hIr];cases hex:I.ex with
   |true=>
    obtain⟨ω',k1,k2⟩:=fresh _ st _ hk2 e4 e3;exact⟨ω',_,_,rfl,k1,k2⟩
   |false=>
    have hk3:=hk2.Gn n1 (fun i hi=>n2 i (by rw[dA]at hi;exact hi)) n3 hfree n5 .dead;obtain⟨ω',k1,k2⟩:=fresh _ _ _ hk3 e4 e3;exact⟨ω',_,_,rfl,k1,k2⟩
theorem qd7{i:Nat}:∀ {es:List (U×U×Nat)} {es' :List ME} {j:Nat} {k v:U} {k' v' :V},es.length=es'.length→
  (∀ (j:Nat) x y,es[j]? =some x→es'[j]? =some y→UR σ Z n x.1 y.key∧UR σ Z n x.2.1 y.val∧y.born=x.2.2)→UR σ Z n k k'→UR σ Z n v v'→
  (pQ j (fun e=>(k,v,e.2.2)) es).length=(lY j (fun e=>{e with key:=k',val:=v'}) es').length∧
  ∀ (i:Nat) x y,(pQ j (fun e=>(k,v,e.2.2)) es)[i]? =some x→(lY j (fun e=>{e with key:=k',val:=v'}) es')[i]? =some y→UR σ Z n x.1 y.key∧UR σ Z n x.2.1 y.val∧y.born=x.2.2:=by
 intro es
 induction es with
 |nil=>
  intro es' j k v k' v' hl hr hk hv;have:es' =[]:=fT hl.symm;subst this;exact⟨by simp[pQ,lY],fun i x y h=>by simp[pQ]at h⟩
 |cons a es ih=>
  intro es' j k v k' v' hl hr hk hv;cases es' with
  |nil=>simp at hl
  |cons b es' =>
   have h0:=hr 0 a b rfl rfl;cases j with
   |zero=>
    refine⟨by simpa[pQ,lY]using hl,fun i x y hx hy=> ?_⟩;cases i with
    |zero=>simp[pQ]at hx;simp[lY]at hy;subst hx;subst hy;exact⟨hk,hv,h0.2.2⟩
    |succ i=>simp[pQ]at hx;simp[lY]at hy;exact hr (i+1) x y (by simpa using hx) (by simpa using hy)
   |succ j=>
    obtain⟨h1,h2⟩:=ih (j:=j) (by simpa using hl) (fun i x y hx hy=>hr (i+1) x y (by simpa using hx) (by simpa using hy)) hk hv;refine⟨by simp[pQ,lY,h1],fun i x y hx hy=> ?_⟩;cases i with
    |zero=>simp[pQ]at hx;simp[lY]at hy;subst hx;subst hy;exact h0
    |succ i=>simp[pQ]at hx;simp[lY]at hy;exact h2 i x y hx hy
theorem Sf:∀ {es:List (U×U×Nat)} {es' :List ME} {j:Nat},es.length=es'.length→
  (∀ (j:Nat) x y,es[j]? =some x→es'[j]? =some y→UR σ Z n x.1 y.key∧UR σ Z n x.2.1 y.val∧y.born=x.2.2)→
  (hU j es).length=(iu j es').length∧∀ (i:Nat) x y,(hU j es)[i]? =some x→(iu j es')[i]? =some y→UR σ Z n x.1 y.key∧UR σ Z n x.2.1 y.val∧y.born=x.2.2:=by
 intro es
 induction es with
 |nil=>
  intro es' j hl hr;have:es' =[]:=fT hl.symm;subst this;exact⟨by simp[hU,iu],fun i x y h=>by simp[hU]at h⟩
 |cons a es ih=>
  intro es' j hl hr;cases es' with
  |nil=>simp at hl
  |cons b es' =>
   cases j with
   |zero=>exact⟨by simpa[hU,iu]using hl,fun i x y hx hy=>hr (i+1) x y (by simpa[hU]using hx) (by simpa[iu]using hy)⟩
   |succ j=>
    obtain⟨h1,h2⟩:=ih (j:=j) (by simpa using hl) (fun i x y hx hy=>hr (i+1) x y (by simpa using hx) (by simpa using hy));refine⟨by simp[hU,iu,h1],fun i x y hx hy=> ?_⟩;cases i with
    |zero=>simp[hU]at hx;simp[iu]at hy;subst hx;subst hy;exact hr 0 _ _ rfl rfl
    |succ i=>simp[hU]at hx;simp[iu]at hy;exact h2 i x y hx hy
theorem E3{off:Nat}{u:U}{v:V}{cs:List U}(h:Ok E σ Z ω s e st)(hv:TR σ Z ω s.h.length u v):
  ∃ Z' ω',Ok E σ Z' ω' (jL s off u cs).2 e st∧TR σ Z' ω' (jL s off u cs).2.h.length (jL s off u cs).1 v∧(jL s off u cs).2.h.length=s.h.length∧∀ b r,Z b=some r→Z' b=some r:=by
 unfold jL;split
 ·rename_i g w xs;split
  ·by_cases hga:g=.a
   ·simp only[hga,decide_true,cond_true];rw[hga]at hv;exact⟨Z,ω,h,hv,by trivial,fun _ _ h=>h⟩
   ·simp only[hga,decide_false,cond_false];obtain⟨Z',ω',q1,q2,q3,q4,q5,q6⟩:=h.mS g hga;exact⟨Z',ω',q1,TR.bE (by rw[q6];exact hv.1.sl q2 q5),q6,q2⟩
  ·exact⟨Z,ω,h,hv,rfl,fun _ _ h=>h⟩
 ·exact⟨Z,ω,h,hv,rfl,fun _ _ h=>h⟩
theorem QS{d:Nat}{o:zv}{u:U}(h:qE d s o=some (u,s'))(hk:Ok E σ Z ω s e st):
  ∃ Z' ω' v st',zH e st o.er=some (v,st')∧Ok E σ Z' ω' s' e st'∧TR σ Z' ω' s'.h.length u v∧s'.h.length=s.h.length∧∀ b r,Z b=some r→Z' b=some r:=by
 have hunit:∀ {Z' ω' n},TR σ Z' ω' n (.aZ []) (.aZ []):=fun {_ _ _}=>UR.aZ rfl (fun j u v h=>by simp at h);cases o with
 |store k a x=>
  simp only[qE]at h;split at h
  ·rename_i i off u0 ha hx;split at h<;>try (simp at h;done)
   rename_i cs0 hi0;obtain⟨va,a1,a2⟩:=hk.cW ha;obtain⟨vx,x1,x2⟩:=hk.cW hx;obtain⟨hlt,rfl⟩:=TR.ptr a2;obtain⟨Z1,ω1,r1,r2,r3,r4⟩:=E3 (off:=off) (cs:=cs0) hk x2;generalize jL s off u0 cs0=R at h r1 r2 r3;obtain⟨u1,t1⟩:=R;simp only at h r1 r2 r3;split at h<;>try (simp at h;done)
   rename_i cs hi;split at h<;>simp only[ag,ay,reduceCtorEq]at h;rename_i s1 hs;obtain⟨rfl,rfl⟩:=h;obtain⟨ω',st',k1,k2,k3⟩:=J3 r1 hi r2 hs;exact⟨Z1,ω',.aZ [],st',by simp only[zv.er,zH,a1,x1];exact k1,k2,hunit,k3.trans r3,r4⟩
  ·rename_i g i f u0 ha hx;split at h<;>try (simp at h;done)
   rename_i v1 s1 hesc;split at h<;>try (simp at h;done)
   rename_i w xs hc;split at h<;>try (simp at h;done)
   rename_i r hr;cases hb:(Nat.beq v1.cells.length k&&Nat.ble (f+k) r.length&&v1.cells.all U.aL&&v1.low 0)with
   |false=>rw[hb]at h;simp at h
   |true=>
    rw[hb]at h;simp only[cond_true,ag,ay]at h;obtain⟨rfl,rfl⟩:=h;simp only[aI]at hb;obtain⟨va,a1,⟨I,hg,rfl⟩,_⟩:=hk.cW ha;obtain⟨vx,x1,x2⟩:=hk.cW hx;have hesc2:∃ Z' ω',Ok E σ Z' ω' s1 e st∧UR σ Z' s.h.length v1 vx∧s1.h.length=s.h.length∧(∀ b r,Z b=some r→Z' b=some r)∧ω' g=some I:=by
     cases u0 with
     |own g0 w0 xs0=>
      have hga:g0≠.a:=by rintro rfl;simp[esc]at hesc
      have hesc:(U.sl w0 xs0,s.mS g0)=(v1,s1):=by cases g0<;>first|exact absurd rfl hga|simpa[esc]using hesc
      rw[ay]at hesc;obtain⟨rfl,rfl⟩:=hesc;obtain⟨Z',ω',q1,q2,q3,q4,q5,q6⟩:=hk.mS g0 hga;refine⟨Z',ω',q1,x2.1.sl q2 q5,q6,q2,?_⟩;have hne:g≠g0:=fun hh=>by subst hh;rw[QO q4]at hc;cases hc
      rw[q3 g hne];exact hg
     |bad=>simp[esc]at hesc
     |bJ w0 xs0=>simp[esc]at hesc
     |bI g0 i0 f0=>simp[esc]at hesc
     |zw i0 o0 l0 w0=>simp[esc]at hesc
     |view i0 o0 l0 w0=>simp[esc]at hesc
     |dB=>simp[esc]at hesc
     |aZ vs=>simp[esc]at hesc
     |_=>
      simp only[esc,ag,ay]at hesc;obtain⟨rfl,rfl⟩:=hesc;exact⟨Z,ω,hk,x2,rfl,fun _ _ h=>h,hg⟩
    obtain⟨Z',ω',q1,q2,q3,q4,q5⟩:=hesc2;obtain⟨vo,hor⟩:=AG q1 hc;unfold OR at hor;rw[q5]at hor;obtain⟨rfl,⟨rfl,rfl⟩,e1,e2,e3,e4⟩:=hor;have hrw:r.length=I.w:=e3 r (oT hr);have hil:i<I.xs.length:=(aH.1 hr).1;have hkl:v1.cells.length=k:=aU hb.1.1.1;have hfk:=dY hb.1.1.2;have hcl:=q2.cells;have hcl0:LU σ Z' 0 v1.cells vx.cells:=(q2.low hb.2).cells;have hone:=AE hcl hb.1.2;have hIr:=q1.mq g I q5;have hcapw:I.xs.length*I.w≤I.cap*I.w:=iB _ e1;have hiw:i*I.w+I.w≤I.xs.length*I.w:=by rw[←oy];exact iB _ hil
    have hwr:=sX hIr (off:=I.off+i*I.w+f) (vs:=vx.cells) (by rw[←hcl.1];omega) hone
    -- the elements,told anew
    have hup:=q1.CD hc q5 (ys:=I.xs.set i (gK r f v1.cells)) (row' :=kI I.row (I.off+i*I.w+f) vx.cells) (by simp) (fun hh=>by have:=hcl.1;simp[kI];omega) (fun r' hr' =>by
     rcases qc8 hr' with hr' |rfl
     ·exact e3 r' hr'
     ·rw[JX (by omega)];exact hrw) (by
     rw[oU,Sn e3 hr (by omega),gI I.off,DK (by rw[←hcl.1];omega) (by omega)];exact L3 e4 hcl0)
    refine⟨Z',_,.aZ [],_,by simp only[zv.er,zH,a1,x1,←hcl.1,hkl,fq,cond_true,hwr],hup,hunit,?_,q4⟩;unfold Vs.fK;split
    ·simp only;unfold setCell;split<;>simp[q3]
    ·exact q3
  ·simp at h
 |mapUpdate kk m k x=>
  simp only[qE]at h;split at h<;>try (simp at h;done)
  rename_i i s1 hm;split at h<;>try (simp at h;done)
  rename_i ku s2 hkk;split at h<;>try (simp at h;done)
  rename_i v s3 hx;split at h<;>try (simp at h;done)
  rename_i es clock hi;obtain⟨Z1,ω1,vm,m1,m2,m3,m4,m5⟩:=hk.gb hm;obtain⟨Z2,ω2,vk,k1,k2,k3,k4,k5⟩:=m2.gb hkk;obtain⟨Z3,ω3,vx,x1,x2,x3,x4,x5⟩:=k2.gb hx;have hlen:s3.h.length=s.h.length:=by omega
  cases hp:dL kk ku with
  |false=>rw[hp]at h;simp at h
  |true=>
   rw[hp]at h;simp only[cond_true]at h;have hml:i<s.h.length∧vm=.map (σ i):=by cases m3;exact⟨‹_›,rfl⟩
   obtain⟨hlt,rfl⟩:=hml;obtain⟨es',g1,g2,g3⟩:=AB x2 hi;have k3' :UR σ Z3 s3.h.length ku vk:=k3.mono (by omega) (fun _ _=>rfl) x5;have x3' :UR σ Z3 s3.h.length v vx:=x3.mono (by omega) (fun _ _=>rfl) (fun _ _ h=>h);have hpk:=lZ (TR.bE (ω:=ω3) k3') hp;split at h<;>try (simp at h;done)
   ·rename_i j uo hf;simp only[ag,ay]at h;obtain⟨rfl,rfl⟩:=h;obtain⟨r',f1,f2⟩:=vV (TR.bE (ω:=ω3) k3') g2 g3 hf;cases r' with
    |none=>exact f2.elim
    |some q=>
     obtain⟨j',b⟩:=q;obtain⟨rfl,_⟩:=f2;obtain⟨l1,l2⟩:=qd7 (i:=0) (j:=j) g2 g3 k3' x3';have:=x2.E2 (i:=i) (o:=.map (pQ j (fun e=>(ku,v,e.2.2)) es) clock) (ob:=.map (lY j (fun e=>{e with key:=vk,val:=vx}) es') clock) (by omega) (by rw[hi];intro hh;cases hh) ⟨_,rfl,l1,l2⟩;exact⟨Z3,ω3,.aZ [],_,by simp only[zv.er,zH,m1,k1,x1,g1,hpk,cond_true,f1],this.Tq _,hunit,by simp[hlen],fun b r hb=>x5 b r (k5 b r (m5 b r hb))⟩
   ·rename_i hf;simp only[ag,ay]at h;obtain⟨rfl,rfl⟩:=h;obtain⟨r',f1,f2⟩:=vV (TR.bE (ω:=ω3) k3') g2 g3 hf;cases r' with
    |some q=>exact f2.elim
    |none=>
     have:=x2.E2 (i:=i) (o:=.map (es++[(ku,v,clock)]) (clock+1)) (ob:=.map (es'++[{key:=vk,val:=vx,born:=clock}]) (clock+1)) (by omega) (by rw[hi];intro hh;cases hh) ⟨_,rfl,by simp[g2],fun j x y hx hy=>by
      by_cases hj:j<es.length
      ·rw[bG hj]at hx;rw[bG (by omega)]at hy;exact g3 j x y hx hy
      ·rw[dh (by omega)]at hx hy;rw[←g2]at hy;cases hq:j - es.length with
       |zero=>rw[hq]at hx hy;simp at hx hy;subst hx;subst hy;exact⟨k3',x3',rfl⟩
       |succ m=>rw[hq]at hx;simp at hx⟩
     exact⟨Z3,ω3,.aZ [],_,by simp only[zv.er,zH,m1,k1,x1,g1,hpk,cond_true,f1],this.Tq _,hunit,by simp[hlen],fun b r hb=>x5 b r (k5 b r (m5 b r hb))⟩
 |delete kk m k=>
  simp only[qE]at h;split at h
  ·rename_i ku hm hkk;cases hp:dL kk ku with
   |false=>rw[hp]at h;simp at h
   |true=>
    rw[hp]at h;simp only[cond_true,ag,ay]at h;obtain⟨rfl,rfl⟩:=h;obtain⟨vm,m1,m2⟩:=hk.cW hm;obtain⟨vk,k1,k2⟩:=hk.cW hkk;obtain rfl:=TR.bS m2;exact⟨Z,ω,.aZ [],st,by simp only[zv.er,zH,m1,k1,lZ k2 hp,cond_true],hk,hunit,rfl,fun _ _ h=>h⟩
  ·rename_i i ku hm hkk;split at h<;>try (simp at h;done)
   rename_i es clock hi;cases hp:dL kk ku with
   |false=>rw[hp]at h;simp at h
   |true=>
    rw[hp]at h;simp only[cond_true]at h;obtain⟨vm,m1,m2⟩:=hk.cW hm;obtain⟨vk,k1,k2⟩:=hk.cW hkk;obtain⟨hlt,rfl⟩:=TR.map m2;obtain⟨es',g1,g2,g3⟩:=AB hk hi;have hpk:=lZ k2 hp;split at h<;>try (simp at h;done)
    ·rename_i j uo hf;simp only[ag,ay]at h;obtain⟨rfl,rfl⟩:=h;obtain⟨r',f1,f2⟩:=vV k2 g2 g3 hf;cases r' with
     |none=>exact f2.elim
     |some q=>
      obtain⟨j',b⟩:=q;obtain⟨rfl,_⟩:=f2;obtain⟨l1,l2⟩:=Sf (j:=j) g2 g3;have:=hk.E2 (i:=i) (o:=.map (hU j es) clock) (ob:=.map (iu j es') clock) hlt (by rw[hi];intro hh;cases hh) ⟨_,rfl,l1,l2⟩;exact⟨Z,ω,.aZ [],_,by simp only[zv.er,zH,m1,k1,g1,hpk,cond_true,f1],this,hunit,by simp,fun _ _ h=>h⟩
    ·rename_i hf;simp only[ag,ay]at h;obtain⟨rfl,rfl⟩:=h;obtain⟨r',f1,f2⟩:=vV k2 g2 g3 hf;cases r' with
     |some q=>exact f2.elim
     |none=>exact⟨Z,ω,.aZ [],st,by simp only[zv.er,zH,m1,k1,g1,hpk,cond_true,f1],hk,hunit,rfl,fun _ _ h=>h⟩
  ·simp at h
 |append w bytes str a x=>
  simp only[qE]at h;split at h<;>try (simp at h;done)
  rename_i ua ux ha hx;split at h<;>try (simp at h;done)
  rename_i ys hys;obtain⟨va,a1,a2⟩:=hk.cW ha;obtain⟨vx,x1,x2⟩:=hk.cW hx;split at h
  ·rename_i g w' xs;cases hb:(!(decide (g=.a))&&Nat.beq w' w&&Nat.ble ((xs.length+ys.length)*bytes) bl&&Nat.ble (xs.length+ys.length) bl&&ys.all (fun r=>r.all U.aL&&U.bZ 0 r&&Nat.beq r.length w))with
   |false=>rw[hb]at h;simp at h
   |true=>
    rw[hb]at h;simp only[cond_true,ag,ay]at h;obtain⟨rfl,rfl⟩:=h;simp only[aI]at hb;have hww:w' =w:=aU hb.1.1.1.2;subst hww;have hga:g≠.a:=by have:=hb.1.1.1.1;simpa using this
    obtain⟨ω',v,st',k1,k2,k3⟩:=uC (d:=d) hk hga a2.1 x2 hys hb.1.1.2 hb.1.2 hb.2;exact⟨Z,ω',v,st',by simp only[zv.er,zH,a1,x1];exact k1,k2,⟨k3,fun i off hh=>by cases hh⟩,by rw[dA,dA],fun _ _ h=>h⟩
  ·rename_i w';cases hb:(Nat.beq w' w&&Nat.ble (ys.length*bytes) bl&&Nat.ble ys.length bl&&ys.all (fun r=>r.all U.aL&&U.bZ 0 r&&Nat.beq r.length w))with
   |false=>rw[hb]at h;simp at h
   |true=>
    rw[hb]at h;simp only[cond_true,ag,ay]at h;obtain⟨rfl,rfl⟩:=h;simp only[aI]at hb;have hww:w' =w:=aU hb.1.1.1;subst hww;have hor:OR σ Z ω .r w' [] va:=by
     have a3:UR σ Z s.h.length (.nl w') va:=a2;unfold OR;rw[hk.wr];cases a3 with
     |Ec=>exact⟨rfl,.inl rfl⟩
     |EU=>exact⟨rfl,.inr rfl⟩
    obtain⟨ω',v,st',k1,k2,k3⟩:=uC (d:=d) hk (by simp) hor x2 hys (by simpa using hb.1.1.2) (by simpa using hb.1.2) hb.2;exact⟨Z,ω',v,st',by simp only[zv.er,zH,a1,x1];exact k1,k2,⟨by simpa using k3,fun i off hh=>by cases hh⟩,by rw[dA,dA],fun _ _ h=>h⟩
  ·rename_i w' xs;cases hb:(Nat.beq w' w&&ys.isEmpty&&Nat.ble (xs.length*bytes) bl&&Nat.ble xs.length bl)with
   |false=>rw[hb]at h;simp at h
   |true=>
    rw[hb]at h;simp only[cond_true,ag,ay]at h;obtain⟨rfl,rfl⟩:=h;simp only[aI]at hb;have hww:w' =w:=aU hb.1.1.1;subst hww;have hy0:ys=[]:=by cases ys with|nil=>rfl|cons a r=>simp at hb
    subst hy0;obtain⟨cs,c1,c2,c3,c4⟩:=L5 hk hys x2;rw[List.flatten_nil]at c2;have hcs:=c2.eF;subst hcs;have hap:qo st w' bytes str va vx=some (va,st):=by
     unfold qo;rw[c1,c3];have a3:UR σ Z s.h.length (.sl w' xs) va:=a2;cases a3 with
     |slnil=>simp
     |Ak=>simp
     |AL hn hz hl hcap hr hv=>
      subst hn;simp[hb.1.2,hb.2,jA hcap]
     |Eh hn hl hr hv=>simp
    exact⟨Z,ω,va,st,by simp only[zv.er,zH,a1,x1];exact hap,hk,a2,rfl,fun _ _ h=>h⟩
  ·simp at h
 |copy w str a x=>
  simp only[qE]at h;split at h<;>try (simp at h;done)
  rename_i g w' xs ux ha hx;split at h<;>try (simp at h;done)
  rename_i ys hys;cases hb:(Nat.beq w' w&&(s.cw g).isSome&&ys.all (fun r=>r.all U.aL&&U.bZ 0 r&&Nat.beq r.length w))with
  |false=>rw[hb]at h;simp at h
  |true=>
   rw[hb]at h;simp only[cond_true,ag,ay]at h;obtain⟨rfl,rfl⟩:=h;simp only[aI]at hb;have hww:w' =w:=aU hb.1.1;subst hww;obtain⟨va,a1,a2,a3⟩:=hk.cW ha;obtain⟨vx,x1,x2⟩:=hk.cW hx;obtain⟨cs,c1,c2,c3,c4⟩:=L5 hk hys x2;obtain⟨f1,f2,f3⟩:=IP hb.2;have hone:=AE c2 f1;have hlu0:=c2.low f2;obtain⟨p0,hp0⟩:=Option.isSome_iff_exists.1 hb.1.2;unfold OR at a2;split at a2
   ·rename_i hg;obtain⟨rfl,hv⟩:=a2;have hupd:s.fK g w' (List.take 0 ys++List.drop ys.length [])=s.fK g w' []:=by simp
    -- nothing turns
    obtain⟨vo,hor⟩:=AG hk (g:=g) (w:=p0.1) (xs:=p0.2) hp0;have hx0:p0.2=[]:=by unfold OR at hor;rw[hg]at hor;exact hor.1
    have hOk:Ok E σ Z ω (s.fK g w' []) e st∧(s.fK g w' []).h.length=s.h.length:=by
     have henv:∀ t u,look (Env.fK g [] s.e) t=some u→∃ v,e.get t=some v∧TR σ Z ω s.h.length u v:=by
      intro t u hu;rw[Cd]at hu;cases hq:look s.e t with
      |none=>rw[hq]at hu;simp at hu
      |some x=>
       rw[hq]at hu;simp at hu;obtain⟨v,h1,h2⟩:=hk.env t x hq;refine⟨v,h1,?_⟩;subst hu;cases x with
       |own g' w2 xs2=>
        simp only[U.fK];by_cases hgg:g' =g
        ·subst hgg;rw[if_pos rfl];refine⟨?_,h2.2⟩;have h3:=h2.1;unfold OR at h3⊢;rw[hg]at h3⊢;exact⟨rfl,h3.2⟩
        ·rw[if_neg hgg];exact h2
       |_=>exact h2
     unfold Vs.fK;split
     ·rename_i i off;simp only[Vs.cw]at hp0;split at hp0<;>try (simp at hp0;done)
      rename_i cs' hi;split at hp0<;>try (simp at hp0;done)
      rename_i w0 xs0 hc0;have hlt:=(aH.1 hi).1;have hoff:=(aH.1 hc0).1;simp only[setCell,hi];refine⟨(hk.setEnv henv).setRow (cs:=cs') hi (by simp) (fun o u u' v h1 h2 h3=> ?_) (fun o h2=> ?_),by simp⟩
      ·rw[b9]at h2;by_cases ho:off=o
       ·subst ho;rw[if_pos rfl,if_pos hoff]at h2;simp at h2;subst h2;rw[hc0]at h1;simp at h1;subst h1;have h4:OR σ Z ω (.c i off) w0 xs0 v:=h3;show OR σ Z ω (.c i off) w' [] v;unfold OR at h4⊢;rw[hg]at h4⊢;exact⟨rfl,h4.2⟩
       ·rw[if_neg ho,h1]at h2;simp at h2;subst h2;exact h3
      ·rw[b9]at h2;split at h2
       ·first|(simp at h2;done)|(split at h2<;>simp at h2)
       ·exact h2
     ·exact⟨hk.setEnv henv,rfl⟩
    have hcp:copyV st w' str va vx=some (.int .i64 0,st):=by
     unfold copyV;rw[c1,c3];rcases hv with rfl|rfl<;>rfl
    refine⟨Z,ω,.int .i64 0,st,by simp only[zv.er,zH,a1,x1];exact hcp,by simpa using hOk.1,?_,by simpa using hOk.2,fun _ _ h=>h⟩;have:((min ys.length ([]:List (List U)).length:Nat):Int)=0:=by simp
    rw[this];exact TR.bE (.int _ _)
   ·rename_i I hg;obtain⟨rfl,⟨rfl,rfl⟩,e1,e2,e3,e4⟩:=a2;have hIr:=hk.mq g I hg;have hcl:cs.length=ys.length*I.w:=by rw[←c2.1,dM c4]
    have hcapw:I.xs.length*I.w≤I.cap*I.w:=iB _ e1;have hmin:min ys.length I.xs.length*I.w≤I.xs.length*I.w:=iB _ (Nat.min_le_right _ _);have hmin2:min ys.length I.xs.length*I.w≤ys.length*I.w:=iB _ (Nat.min_le_left _ _);have htl:(cs.take (min ys.length I.xs.length*I.w)).length=min ys.length I.xs.length*I.w:=by rw[iD];omega
    have hwr:=sX hIr (off:=I.off) (vs:=cs.take (min ys.length I.xs.length*I.w)) (by rw[htl];omega) (by
     rw[fF]at hone⊢;exact fun v hv=>hone v (ta hv))
    have hfl:(ys.take I.xs.length++I.xs.drop ys.length).flatten=gK I.xs.flatten 0 (ys.flatten.take (min ys.length I.xs.length*I.w)):=by
     unfold gK;rw[KG,tv c4,tu e3,List.take_zero,jZ,iD,dM c4];rw[kF,Fw hmin2];rcases Nat.le_total ys.length I.xs.length with hle|hle
     ·rw[Fw hle,gu (by rw[dM c4];exact iB _ hle),gu (by rw[dM c4];exact ak _)]
     ·rw[Nat.min_eq_right hle,xN (by rw[dM e3];exact iB _ hle),xN (by rw[dM e3];exact ak _)]
    have hup:=hk.CD hp0 hg (ys:=ys.take I.xs.length++I.xs.drop ys.length) (row' :=kI I.row I.off (cs.take (min ys.length I.xs.length*I.w))) (by simp;omega) (fun hh=>by simp only[kI,gX,iD,uO]at htl⊢;omega) (fun r hr=>by
     rcases eH.1 hr with hr|hr
     ·exact c4 r (ta hr)
     ·exact e3 r (iF hr)) (by
     have hll:(ys.take I.xs.length++I.xs.drop ys.length).length=I.xs.length:=by simp;omega
     rw[hll,hfl];have:=DK (row:=I.row) (vs:=cs.take (min ys.length I.xs.length*I.w)) (off:=I.off) (p:=0) (L:=I.xs.length*I.w) (by rw[htl];omega) (by omega);rw[Nat.add_zero]at this;rw[this];exact L3 e4 (hlu0.take _))
    have hcp:copyV st I.w str (.slice I.b I.off I.xs.length I.cap I.w I.ex) vx=some (.int .i64 (min ys.length I.xs.length:Nat),st.put I.b (.row (kI I.row I.off (cs.take (min ys.length I.xs.length*I.w))))):=by
     unfold copyV;rw[c1,c3];simp only[fq,cond_true,hwr]
    refine⟨Z,_,_,_,by simp only[zv.er,zH,a1,x1];exact hcp,hup,TR.bE (.int _ _),?_,fun _ _ h=>h⟩;unfold Vs.fK;split
    ·simp only;unfold setCell;split<;>simp
    ·rfl
 |clear w z x=>simp[qE]at h
 |range x=>simp[qE]at h
end
end Go.RE
