/- A part of a proof. -/
import Derived.Test.YtmpopachilfinaaGreatPart12
import Derived.WalkKit
import Derived.Test.YtmpopachilfinaaGreatPart11
set_option linter.unusedVariables false
set_option linter.unusedSimpArgs false
set_option linter.unnecessarySimpa false
namespace Go.RE
open Go Go.Proofs Go.Sort Go.Lib Go.RowKit
abbrev Rw:=By×Bool×Option Addr×Nat×Nat
def Qn(x:Rw):List Value:=[.string ⟨x.1.toArray⟩,.slice x.2.2.1 x.2.2.2.1 x.2.2.2.2]
def Qo(x:Rw):List Value:=[.string ⟨x.1.toArray⟩,.bool x.2.1,.slice x.2.2.1 x.2.2.2.1 x.2.2.2.2]
def yd(k:Nat):Rw→List Value:=bif Nat.beq k 2 then Qn else Qo
set_option maxHeartbeats 1000000 in
theorem Qf(x y:Rw)(W:World):Calls Tryz.prog 82 #[.agg (Qn x).toArray,.agg (Qn y).toArray] W fun e w' =>e=.returned (.int .i64 (oZ x.1 y.1))∧∃ q os',w' =grow (W.drewN q) os' :=by
 have hcon:=fun W' =>Any.strings_Compare Tryz.Ge ⟨x.1.toArray⟩ ⟨y.1.toArray⟩ W';change ∀ W',Calls Tryz.prog 83 _ _ _ at hcon;rw[tf]at hcon;simp only[Qn];obtain⟨a,a2,a3,a4,a5⟩:=x;obtain⟨b,b2,b3,b4,b5⟩:=y;dsimp only at hcon⊢;generalize oZ a b=r at hcon⊢
 go_enter Tryz.func82,Tryz.ntmps82
 go_wp2_with (go_at_call 83;refine(hcon _).mono ?_;rintro e w' ⟨rfl,rfl⟩)
 go_ret
 exact⟨rfl,0,_,by rw[alloc_eq_grow,alloc_eq_grow,grow_grow];rfl⟩
set_option maxHeartbeats 1000000 in
theorem KY(x y:Rw)(W:World):Calls Tryz.prog 116 #[.agg (Qo x).toArray,.agg (Qo y).toArray] W fun e w' =>e=.returned (.int .i64 (oZ x.1 y.1))∧∃ q os',w' =grow (W.drewN q) os' :=by
 have hcon:=fun W' =>Any.strings_Compare Tryz.Ge ⟨x.1.toArray⟩ ⟨y.1.toArray⟩ W';change ∀ W',Calls Tryz.prog 83 _ _ _ at hcon;rw[tf]at hcon;simp only[Qo];obtain⟨a,a2,a3,a4,a5⟩:=x;obtain⟨b,b2,b3,b4,b5⟩:=y;dsimp only at hcon⊢;generalize oZ a b=r at hcon⊢
 go_enter Tryz.func116,Tryz.ntmps116
 go_wp2_with (go_at_call 83;refine(hcon _).mono ?_;rintro e w' ⟨rfl,rfl⟩)
 go_ret
 exact⟨rfl,0,_,by rw[alloc_eq_grow,alloc_eq_grow,grow_grow];rfl⟩
theorem N2(x y:Rw):ltOf (fun x y:Rw=>oZ x.1 y.1) x y=lt x.1 y.1:=qdq x.1 y.1
theorem qiC:SWO (ltOf fun x y:Rw=>oZ x.1 y.1) where
 irrefl x:=by rw[N2];exact Cf _
 trans x y z h1 h2:=by rw[N2]at*;exact EP h1 h2
 ntrans x y z h1 h2:=by
  rw[N2]at*;cases h:lt x.1 z.1 with
  |false=>rfl
  |true=>
   rcases ym x.1 y.1 with h3|h3|h3
   ·rw[show lt x.1 y.1=true from h3]at h1;cases h1
   ·rw[h3]at h;rw[h]at h2;cases h2
   ·rw[show lt y.1 z.1=true from EP h3 h]at h2;cases h2
def KM(P:Program)(f c k:Nat):Prop:=∀ (blk off cap:Nat) (d:Array Rw) (w:World),HoldsK (yd k) k w blk off d→blk<w.heap.size→d.size<4611686018427387904→
  Calls P f #[.slice (some ⟨blk,off,none⟩) d.size cap,.func (.func c) #[] #[]] w fun e w' =>e=.returned (.tuple #[])∧∃ d' n os,PermIn 0 d.size d d'∧SortedIn (ltOf fun x y:Rw=>oZ x.1 y.1) 0 d.size d'∧w' =sortWorldK (yd k) k w blk off n d' os
def KN(P:Program)(f c:Nat):Prop:=∀ (p:Option Addr) (cap:Nat) (w:World),Calls P f #[.slice p 0 cap,.func (.func c) #[] #[]] w fun e w' =>e=.returned (.tuple #[])∧w' =w
set_option maxRecDepth 100000 in
theorem qeD:KM Tryz.prog 81 82 2:=by
 intro blk off cap d w hH hblk hsz;have h:=AnyQ.slices_SortFunc Tryz.SJ 2 Tryz.isAgg107 Tryz.sizeOf107 Qn (fun _=>rfl) (fun x v hv=>by simp[Qn]at hv;rcases hv with rfl|rfl<;>rfl) (fun x y=>oZ x.1 y.1) qiC 82 #[] blk off cap d w
  (enters_of Tryz.func82 (by kernel_rfl) rfl) (fun _ _ _ _ x y=>Qf x y _) hH hblk hsz
 change Calls Tryz.prog 81 _ _ _ at h;exact h
set_option maxRecDepth 100000 in
theorem qah:KM Tryz.prog 115 116 3:=by
 intro blk off cap d w hH hblk hsz;have h:=AnyQ.slices_SortFunc Tryz.NT 3 Tryz.isAgg25 Tryz.sizeOf25 Qo (fun _=>rfl) (fun x v hv=>by simp[Qo]at hv;rcases hv with rfl|rfl|rfl<;>rfl) (fun x y=>oZ x.1 y.1) qiC 116 #[] blk off cap d w
  (enters_of Tryz.func116 (by kernel_rfl) rfl) (fun _ _ _ _ x y=>KY x y _) hH hblk hsz
 change Calls Tryz.prog 115 _ _ _ at h;exact h
set_option maxRecDepth 100000 in
theorem JS:KN Tryz.prog 81 82:=by
 intro p cap w;have h:=AnyF.slices_SortFunc_none Tryz.SJ p cap (.func (.func 82) #[] #[]) w;change Calls Tryz.prog 81 _ _ _ at h;exact h
set_option maxRecDepth 100000 in
theorem Gy:KN Tryz.prog 115 116:=by
 intro p cap w;have h:=AnyF.slices_SortFunc_none Tryz.NT p cap (.func (.func 116) #[] #[]) w;change Calls Tryz.prog 115 _ _ _ at h;exact h
end Go.RE
namespace Go.RE
structure Wt where
 key:By
 gone:Bool
 data:By
deriving Inhabited,DecidableEq
def eY(w:Wt):List U:=[.str w.key,.bool w.gone,.sl 1 (bM w.data)]
def lo0(a b:By):Bool:= !lt b a
def AH:Option By→By→Bool
 |some q,k=>lo0 k q
 |none,_=>false
@[simp] theorem Gm(q k:By):AH (some q) k=lo0 k q:=rfl
@[simp] theorem Z6(k:By):AH none k=false:=rfl
def gY(p:Option By)(w:Wt):Nat:=
 bif decide (256<w.key.length)then 3 else bif decide (4096<w.data.length)then 3 else
 bif w.key.isEmpty||AH p w.key||(w.gone&&decide (0<w.data.length))then 1 else 0
def fH:Option By→List Wt→Nat
 |_,[]=>0
 |p,w::l=>bif gY p w==0 then fH (some w.key) l else gY p w
def prevK(l:List Wt):Nat→Option By
 |0=>none
 |i+1=>(l[i]?).map (·.key)
def pI(w:Wt):Prop:=w.key.length<small∧w.data.length<small
theorem KI(b:By):(bM b).length=b.length:=by simp[bM]
theorem qiJ(l:List Wt)(hl:l.length<small)(hok:∀ w∈l,pI w):∀ (j i:Nat),i+j=l.length→
  gL bu mT qT pT Ng 0 Bk 0 ⟨[(7,.int .i64 (i:Int)),(0,.sl 3 (l.map eY)),(5,.sl 3 (l.map eY)),(6,.int .i64 (l.length:Int))],[],0⟩
   (gV bu mT qT pT Ng (.seq (.region Nh) .ret) (kE 0 Ng (.int .i64 (fH (prevK l i) (l.drop i):Nat),[],0))):=by
 intro j
 induction j with
 |zero=>
  intro i hij;obtain⟨h1,h2⟩:=oq hij;rw[ai Bk.eq_1,h2];simp[rz,Nh,h1,fH]
 |succ j ih=>
  intro i hij;obtain⟨h1,e3,w,d1,g1⟩:=ry hij hl;have e1:=g1 eY;have hw:pI w:=hok w (iF (i:=i) (by rw[d1];exact cB));have hpk:prevK l (i+1)=some w.key:=by
   have:l[i]? =some w:=by rw[←List.head?_drop,d1];rfl
   simp[prevK,this]
  have ih' :=ih (i+1) (by omega);rw[hpk]at ih';rw[ai Bk.eq_1,d1];have k1:decide (256<(w.key.length:Int))=decide (256<w.key.length):=by rw[decide_eq_decide];omega
  have k2:decide (4096<(w.data.length:Int))=decide (4096<w.data.length):=by rw[decide_eq_decide];omega
  have k3:decide (0<(w.data.length:Int))=decide (0<w.data.length):=by rw[decide_eq_decide];omega
  simp only[eY]at e1;simp only[fH,gY];cases c1:decide (256<w.key.length)with
  |true=>
   rw[c1]at k1;simp[rz,sR,sS,Xy,h1,bq e1,eY,k1]
  |false=>
   rw[c1]at k1;cases c2:decide (4096<w.data.length)with
   |true=>
    rw[c2]at k2;simp[rz,sR,sS,uJ,Xy,h1,bq e1,eY,k1,k2,KI]
   |false=>
    rw[c2]at k2;cases c3:w.key.isEmpty with
    |true=>
     simp[rz,sR,sS,uJ,xF,qV,h1,bq e1,eY,k1,k2,KI,c3]
    |false=>
     cases hz:decide (0<i)with
     |false=>
      have hp:prevK l i=none:=by
       have:=of_decide_eq_false hz;obtain rfl:i=0:=by omega
       rfl
      cases c4:w.gone with
      |false=>
       simp[rz,sR,sS,uJ,xF,az vM,qX,zY,qV,sQ,h1,bq e1,eY,k1,k2,KI,c3,e3,hz,hp,bF,c4];simpa[eY]using ih'
      |true=>
       cases c5:decide (0<w.data.length)with
       |true=>
        rw[c5]at k3;simp[rz,sR,sS,uJ,xF,az vM,qX,zY,qV,sQ,h1,bq e1,eY,k1,k2,KI,c3,e3,hz,hp,bF,c4,c5,k3]
       |false=>
        rw[c5]at k3;simp[rz,sR,sS,uJ,xF,az vM,qX,zY,qV,sQ,h1,bq e1,eY,k1,k2,KI,c3,e3,hz,hp,bF,c4,c5,k3];simpa[eY]using ih'
     |true=>
      obtain⟨i',hii⟩:∃ i',i=i'+1:=⟨i - 1,by have:=of_decide_eq_true hz;omega⟩;have hi' :i' <l.length:=by omega
      obtain⟨q,hq⟩:∃ q,l[i']? =some q:=⟨_,aQ hi'⟩;have hp:prevK l i=some q.key:=by rw[hii];simp[prevK,hq]
      have e5:(l.map eY)[i']? =some [.str q.key,.bool q.gone,.sl 1 (bM q.data)]:=by simp[eY,hq]
      have e6:aK .i64 ((i:Int) - 1)=(i' :Int):=by
       rw[show(i:Int) - 1=(i' :Int) by omega];exact fL (by unfold small at hl;omega)
      cases c6:lo0 w.key q.key with
      |true=>
       have c7:=c6;simp only[lo0,Ae,FB]at c7;simp[rz,sR,sS,uJ,xF,az vM,qX,zY,qV,sQ,h1,bq e1,eY,k1,k2,KI,c3,e3,hz,hp,bF,bq e5,e6,c6,c7]
      |false=>
       have c7:=c6;simp only[lo0,Ae,FB]at c7;cases c4:w.gone with
       |false=>
        simp[rz,sR,sS,uJ,xF,az vM,qX,zY,qV,sQ,h1,bq e1,eY,k1,k2,KI,c3,e3,hz,hp,bF,c4,bq e5,e6,c6,c7];simpa[eY]using ih'
       |true=>
        cases c5:decide (0<w.data.length)with
        |true=>
         rw[c5]at k3;simp[rz,sR,sS,uJ,xF,az vM,qX,zY,qV,sQ,h1,bq e1,eY,k1,k2,KI,c3,e3,hz,hp,bF,c4,c5,k3,bq e5,e6,c6,c7]
        |false=>
         rw[c5]at k3;simp[rz,sR,sS,uJ,xF,az vM,qX,zY,qV,sQ,h1,bq e1,eY,k1,k2,KI,c3,e3,hz,hp,bF,c4,c5,k3,bq e5,e6,c6,c7];simpa[eY]using ih'
theorem t57(l:List Wt)(hl:l.length<small)(hok:∀ w∈l,pI w):G 57 [.sl 3 (l.map eY)] [] 0=some (.int .i64 (fH none l:Nat),[],0):=by
 refine bK (fn:=Ng) rfl rfl rfl ?_;have:=qiJ l hl hok l.length 0 (by omega);simp[Du,qct,qcu];exact this
abbrev Sz:=Nat×Nat×Nat
def vA(z:Sz):List U:=[.int .i64 z.1,.int .i64 z.2.1,.int .i64 z.2.2]
def nN(c:List jb):Bool:=(c.getLast?.map (·.rE)).getD true
def fe(d:Db)(s:List Wt×Sz)(w:Wt):List Wt×Sz:=
 bif w.gone&&nN (chain d w.key)then s
 else bif(chain d w.key).isEmpty then(s.1++[w],s.2.1+1,s.2.2.1+1,s.2.2.2+w.data.length+w.key.length)else(s.1++[w],s.2.1,s.2.2.1+1,s.2.2.2+w.data.length)
def szD(d:Db):Sz:=(d.sk,d.sv,d.sb)
def bw(d:Db)(l:List Wt):List Wt×Sz:=l.foldl (fe d) ([],szD d)
theorem qeX{h:List Uo}{s o:Nat}{d:Db}{ks:U}(fl:Nat)(hf:fl≤h.length)(hs:fA h s o d ks)(hd:pG d)(l:List Wt)(hl:l.length<small)(hok:∀ w∈l,pI w)
  (K:Ex→Vs→Prop) (R:List Wt×Sz) (hK:K .normal ⟨[(5,.ptr h.length 0),(6,.own (.t 6) 3 (R.1.map eY)),(7,.ptr (h.length+1) 0)],h++[.row [.int .i64 0,.int .i64 0,.int .i64 0],.row (vA R.2)],fl⟩) (n:Nat) (hn:n=h.length+2):
  ∀ (j i:Nat) (z:List Wt×Sz),i+j=l.length→(l.drop i).foldl (fe d) z=R→z.1.length≤i→z.2.1≤3000000000000000000+i→z.2.2.1≤3000000000000000000+i→z.2.2.2≤3000000000000000000+2000000000*i→
  gL bu mT qT pT CQ 0 wX n ⟨[(17,.int .i64 (i:Int)),(7,.ptr (h.length+1) 0),(6,.own (.t 6) 3 (z.1.map eY)),(0,.ptr s 0),(15,.sl 3 (l.map eY)),(5,.ptr h.length 0),(16,.int .i64 (l.length:Int))],h++[.row [.int .i64 0,.int .i64 0,.int .i64 0],.row (vA z.2)],fl⟩ K:=by
 subst hn;have hl1:decide (s<h.length+2)=true:=decide_eq_true (by have:=(aH.1 hs.row).1;omega);have hr:=hs.row;have hlk:∀ (k:By) (e:Env) (x:List Uo),fQ ⟨e,h++x,fl⟩ .str (.sl 3 []) false (.map o) (.str k)=some (.sl 3 ((chain d k).map b8)):=fun k e x=>by
  have hm:kQ lJ (h++x)[o]? d.of:=by
   have:=hs.map;cases ho:h[o]? with
   |none=>rw[ho]at this;obtain⟨_,_,_,hh,_⟩:=this;cases hh
   |some q=>rw[aX ho,←ho];exact this
  have:=nS lJ (s:=⟨e,h++x,fl⟩) (m:=o) hm (.sl 3 []) k false;refine this.trans ?_;unfold chain;cases fW lJ k d.of<;>rfl
 have hz:V.GG (.ah [] 0 0 3)=some (.sl 3 []):=rfl;simp only[dD]at hr;intro j
 induction j with
 |zero=>
  intro i z hij hR h1 h2 h3 h4;obtain⟨h1,h2⟩:=oq hij;rw[h2]at hR;simp only[KB]at hR;subst hR;simp only[vA]at hK;rw[ai wX.eq_1];simp[vK,h1,vA];simpa[BG hf]using hK
 |succ j ih=>
  intro i z hij hR q1 q2 q3 q4;obtain⟨h1,e3,w,d1,g1⟩:=ry hij hl;have e1:=g1 eY;have hw:pI w:=hok w (iF (i:=i) (by rw[d1];exact cB));rw[d1,mz]at hR;rw[ai wX.eq_1];simp only[eY]at e1;have b1:(z.1.length+1)*48≤bl∧z.1.length+1≤bl:=by unfold small at hl;unfold bl;omega
  obtain⟨w1,w2⟩:=hw;have ev:aK .i64 ((z.2.2.1:Int)+1)=((z.2.2.1+1:Nat):Int):=fC (by unfold small at hl;omega);have ek:aK .i64 ((z.2.1:Int)+1)=((z.2.1+1:Nat):Int):=fC (by unfold small at hl;omega);have eb:aK .i64 ((z.2.2.2:Int)+(w.data.length:Int))=((z.2.2.2+w.data.length:Nat):Int):=by
   rw[show(z.2.2.2:Int)+(w.data.length:Int)=((z.2.2.2+w.data.length:Nat):Int) by omega];exact fL (by unfold small at*;omega)
  have ec:aK .i64 ((z.2.2.2:Int)+(w.data.length:Int)+(w.key.length:Int))=((z.2.2.2+w.data.length+w.key.length:Nat):Int):=by
   rw[show(z.2.2.2:Int)+(w.data.length:Int)+(w.key.length:Int)=((z.2.2.2+w.data.length+w.key.length:Nat):Int) by omega];exact fL (by unfold small at*;omega)
  simp only[Af]at ev ek eb ec;have hcok:=ny hd w.key;have hk:=hlk w.key;rcases Yp (chain d w.key)with hc|⟨c',v,hc⟩
  ·rw[hc]at hk;cases hg:w.gone with
   |true=>
    have e:fe d z w=z:=by simp[fe,hg,hc,nN]
    rw[e]at hR;have ih' :=ih (i+1) z (by omega) hR (by omega) (by omega) (by omega) (by omega);simp[vK,yQ,az wW,qR,yR,tX,h1,bq e1,e3,eY,hg,aX hr,hk,hz,hl1,vA,BG hf,bF];simpa[vA,eY,hg]using ih'
   |false=>
    have e:fe d z w=(z.1++[w],z.2.1+1,z.2.2.1+1,z.2.2.2+w.data.length+w.key.length):=by simp[fe,hg,hc,nN]
    rw[e]at hR;have ih' :=ih (i+1) _ (by omega) hR (by simp;omega) (by simp;omega) (by simp;omega) (by simp;unfold small at*;omega);simp[vK,yQ,az wW,qR,yR,G7,G8,A6,A7,OD,OE,tX,h1,bq e1,e3,eY,hg,aX hr,hk,hz,hl1,vA,BG hf,bF,b1,ev,ek,eb,ec,KI];simpa[vA,eY,hg]using ih'
  ·rw[Yq]at hc;rw[hc]at hk;have hcl:c'.length+1<small:=by have:=hcok.1;rw[hc]at this;simpa using this
   have hlen:((c'++[v]).map b8).length=c'.length+1:=by simp
   have e7:((c'++[v]).map b8)[c'.length]? =some [.int .u64 v.At,.bool v.rE,.sl 1 (bM v.Data)]:=by simp[b8]
   have e5:aK .i64 ((c'.length:Int)+1 - 1)=(c'.length:Int):=by
    rw[show(c'.length:Int)+1 - 1=(c'.length:Int) by omega];exact fL (by unfold small at hcl;omega)
   have e6:((c'.length:Int)+1==0)=false:=by rw[beq_eq_false_iff_ne];omega
   generalize (c'++[v]).map b8=X at*;have hlg:nN (chain d w.key)=v.rE:=by rw[hc];simp[nN]
   have hem:(chain d w.key).isEmpty=false:=by rw[hc];simp
   simp at e5;cases hg:w.gone with
   |true=>
    cases hv:v.rE with
    |true=>
     have e:fe d z w=z:=by simp[fe,hg,hlg,hv]
     rw[e]at hR;rw[hv]at e7;have ih' :=ih (i+1) z (by omega) hR (by omega) (by omega) (by omega) (by omega);simp[vK,yQ,az wW,qR,yR,tX,h1,bq e1,e3,eY,hg,aX hr,hk,hz,hl1,vA,BG hf,bF,hlen,e5,e6,bq e7];simpa[vA,eY,hg]using ih'
    |false=>
     have e:fe d z w=(z.1++[w],z.2.1,z.2.2.1+1,z.2.2.2+w.data.length):=by simp[fe,hg,hlg,hv,hem]
     rw[e]at hR;rw[hv]at e7;have ih' :=ih (i+1) _ (by omega) hR (by simp;omega) (by simp;omega) (by simp;omega) (by simp;unfold small at*;omega);simp[vK,yQ,az wW,qR,yR,tX,h1,bq e1,e3,eY,hg,aX hr,hk,hz,hl1,vA,BG hf,bF,hlen,e5,e6,bq e7,G7,G8,A6,A7,b1,ev,ek,eb,ec,KI];simpa[vA,eY,hg]using ih'
   |false=>
    have e:fe d z w=(z.1++[w],z.2.1,z.2.2.1+1,z.2.2.2+w.data.length):=by simp[fe,hg,hem]
    rw[e]at hR;have ih' :=ih (i+1) _ (by omega) hR (by simp;omega) (by simp;omega) (by simp;omega) (by simp;unfold small at*;omega);simp[vK,yQ,az wW,qR,yR,tX,h1,bq e1,e3,eY,hg,aX hr,hk,hz,hl1,vA,BG hf,bF,hlen,e5,e6,bq e7,G7,G8,A6,A7,b1,ev,ek,eb,ec,KI];simpa[vA,eY,hg]using ih'
def KO(d:Db):Prop:=d.sk≤3000000000000000000∧d.sv≤3000000000000000000∧d.sb≤3000000000000000000
theorem t142{h:List Uo}{s o:Nat}{d:Db}{ks:U}(fl:Nat)(hf:fl≤h.length)(hs:fA h s o d ks)(hd:pG d)(hz:KO d)(l:List Wt)(hl:l.length<small)(hok:∀ w∈l,pI w):
  G 142 [.ptr s 0,.sl 3 (l.map eY)] h fl=some (.aZ [.sl 3 ((bw d l).1.map eY),.agg (vA (bw d l).2)],h,fl):=by
 refine bK (fn:=CQ) rfl rfl rfl ?_;have hl1:decide (s<h.length)=true:=decide_eq_true (aH.1 hs.row).1;have a:=qeX fl hf hs hd l hl hok (gV bu mT qT pT CQ (.seq (.draw G6) .ret) (kE h.length CQ (.aZ [.sl 3 ((bw d l).1.map eY),.agg (vA (bw d l).2)],h,fl))) (bw d l) (by
  simp[vA,az U2,CS,uW hf,bF]) (h.length+2) rfl l.length 0 ([],szD d) (by omega) rfl (by simp) hz.1 hz.2.1 hz.2.2
 have hr:=hs.row;simp only[dD]at hr;have hl2:decide (s<h.length+2)=true:=decide_eq_true (by have:=of_decide_eq_true hl1;omega);simp[vA,szD]at a;simp[yS,U0,U1,U3,U4,aX hr,vA,hl2,BG hf];exact a
def ri(d:Db)(z:Sz):Bool:=decide (z.1≤d.lim.keys)&&decide (z.2.1≤d.lim.gW)&&decide (z.2.2≤d.lim.bytes)
theorem t143{h:List Uo}{s o:Nat}{d:Db}{ks:U}(fl:Nat)(hf:fl≤h.length)(hs:fA h s o d ks)(z:Sz):G 143 [.ptr s 0,.agg (vA z)] h fl=some (.bool (ri d z),h,fl):=by
 refine bK (fn:=v143) rfl rfl rfl ?_;have hr:=hs.row;simp only[dD]at hr;cases h1:decide (z.1≤d.lim.keys)<;>cases h2:decide (z.2.1≤d.lim.gW)<;>
  simp[yT,U6,az qat,G9,vA,aX hr,uW hf,ri,h1,h2,bF]
end Go.RE
namespace Go.RE
theorem jN(l:List jb)(t:Nat):∃ n,cT l t=l.drop n:=by
 unfold cT;split
 ·exact⟨0,rfl⟩
 ·rename_i n _;cases(l[n]?.getD default).rE
  ·exact⟨n,rfl⟩
  ·exact⟨n+1,rfl⟩
theorem L2(l:List jb):∀ n,cR (l.drop n)≤cR l:=by
 induction l with
 |nil=>intro n;simp
 |cons a l ih=>
  intro n;cases n with
  |zero=>exact ak _
  |succ n=>have:=ih n;simp only[List.drop_succ_cons,cR,ct,List.sum_cons]at this⊢;omega
theorem oC.drop{l:List jb}(h:oC l)(n:Nat):oC (l.drop n):=
 ⟨by have:=h.1;simp only[uO];omega,fun v hv=>h.2 v (iF hv)⟩
theorem J6{l:List jb}(h:oC l)(t:Nat):oC (cT l t):=by
 obtain⟨n,hn⟩:=jN l t;rw[hn];exact h.drop n
theorem vB(l:List jb)(t:Nat):cR (cT l t)≤cR l:=by
 obtain⟨n,hn⟩:=jN l t;rw[hn];exact L2 l n
theorem Ez{d:Db}(hd:pG d)(k:By):cR (chain d k)<small:=by
 unfold chain;cases h:fW lJ k d.of with
 |none=>exact(by decide:0<small)
 |some x=>exact hd.Gx x (lM _ h)
def gZ(low:Nat)(st:Db×List By)(k:By):Db×List By:=
 let c:=cT (chain st.1 k) low
 bif c.isEmpty then({st.1 with of:=jE lJ k st.1.of},st.2)
 else({st.1 with of:=mb lJ (k,c) st.1.of,sk:=st.1.sk+1,sv:=st.1.sv+c.length,sb:=st.1.sb+(k.length+cR c)},st.2++[k])
def cV(d:Db)(low:Nat):Db:=
 let r:=d.keys.foldl (gZ low) ({d with sk:=0,sv:=0,sb:=0},[])
 {r.1 with keys:=r.2}
theorem qt{k:By}{l:List (By×List jb)}{x:By×List jb}(h:x∈jE lJ k l):x∈l:=by
 induction l with
 |nil=>cases h
 |cons b r ih=>
  simp only[jE]at h;cases hb:decide (lJ.key b=k)with
  |true=>rw[hb]at h;exact eu _ h
  |false=>
   rw[hb]at h;rcases bT.1 h with rfl|h
   ·exact cB
   ·exact eu _ (ih h)
theorem jC{a:By×List jb}{l:List (By×List jb)}{x:By×List jb}(h:x∈mb lJ a l):x=a∨x∈l:=by
 have hm:∀ l:List (By×List jb),x∈uz lJ a l→x=a∨x∈l:=by
  intro l
  induction l with
  |nil=>intro h;cases h
  |cons b r ih=>
   intro h;simp only[uz]at h;cases hb:decide (lJ.key b=lJ.key a)with
   |true=>
    rw[hb]at h;rcases bT.1 h with rfl|h
    ·exact .inl rfl
    ·exact .inr (eu _ h)
   |false=>
    rw[hb]at h;rcases bT.1 h with rfl|h
    ·exact .inr cB
    ·rcases ih h with h|h
     ·exact .inl h
     ·exact .inr (eu _ h)
 unfold mb at h;cases hb:(fW lJ (lJ.key a) l).isSome with
 |true=>rw[hb]at h;exact hm l h
 |false=>
  rw[hb]at h;rcases eH.1 h with h|h
  ·exact .inr h
  ·simp at h;exact .inl h
theorem Zi{d:Db}{left:List By}{low:Nat}{k:By}(hd:pG d):pG (gZ low (d,left) k).1:=by
 unfold gZ;dsimp only;cases hc:(cT (chain d k) low).isEmpty with
 |true=>exact⟨hd.keys,hd.uy,fun x hx=>hd.of x (qt hx),fun x hx=>hd.Gx x (qt hx)⟩
 |false=>
  refine⟨hd.keys,hd.uy,fun x hx=> ?_,fun x hx=> ?_⟩
  ·rcases jC hx with rfl|hx
   ·exact J6 (ny hd k) low
   ·exact hd.of x hx
  ·rcases jC hx with rfl|hx
   ·have:=vB (chain d k) low;have:=Ez hd k;simp only;omega
   ·exact hd.Gx x hx
theorem EA(low:Nat)(st:Db×List By)(k:By):(gZ low st k).1.keys=st.1.keys∧(gZ low st k).1.lim=st.1.lim∧(gZ low st k).1.now=st.1.now:=by
 unfold gZ;dsimp only;cases(cT (chain st.1 k) low).isEmpty<;>exact⟨rfl,rfl,rfl⟩
def Fr(h h' :List Uo)(l:List Nat):Prop:=h'.length=h.length∧∀ j,j ∉ l→h'[j]? =h[j]?
theorem Fr.refl(h:List Uo)(l:List Nat):Fr h h l:=⟨rfl,fun _ _=>rfl⟩
theorem Fr.trans{h h1 h2:List Uo}{l:List Nat}(a:Fr h h1 l)(b:Fr h1 h2 l):Fr h h2 l:=⟨b.1.trans a.1,fun j hj=>(b.2 j hj).trans (a.2 j hj)⟩
theorem Fr.set{h h' :List Uo}{l:List Nat}(a:Fr h h' l){i:Nat}(hi:i∈l)(x:Uo):Fr h (h'.set i x) l:=
 ⟨by rw[oU];exact a.1,fun j hj=>by rw[dP (by rintro rfl;exact hj hi)];exact a.2 j hj⟩
theorem qiS(s o low was:Nat)(n fl:Nat)(hf:fl≤n)(hsn:s<n)(keys:List By)(hkn:keys.length<small)(hkl:∀ k∈keys,k.length<small):∀ (j i:Nat) (h:List Uo) (d:Db) (left:List By),i+j=keys.length→h.length=n→d.keys=keys→fA h s o d (.bJ 1 (keys.map kC))→pG d→left.length≤i→
  d.sk≤i→d.sv≤1000000000*i→d.sb≤2000000000*i→was≤3000000000000000000→
  ∃ h',fA h' s o ((keys.drop i).foldl (gZ low) (d,left)).1 (.bJ 1 (((keys.drop i).foldl (gZ low) (d,left)).2.map kC))∧Fr h h' [s,o]∧
  gL bu mT qT pT Rq 0 ur n ⟨[(32,.int .i64 (i:Int)),(0,.ptr s 0),(6,.own (.t 6) 1 (left.map kC)),(1,.int .u64 (low:Int)),(30,.own (.c s 8) 1 (keys.map kC)),(5,.int .i64 (was:Int)),(31,.int .i64 (keys.length:Int))],h,fl⟩
   (gV bu mT qT pT Rq (.seq (.region Ij) (.seq (.region Ik) .ret)) (kE n Rq (.int .i64 ((was:Int) - (((keys.drop i).foldl (gZ low) (d,left)).1.sv:Int)),h',fl))):=by
 have hcut:∀ H:List Uo,H.length=n→cut n fl H=H:=fun H hH=>by subst hH;exact aR hf
 have hl:decide (s<n)=true:=decide_eq_true hsn;intro j
 induction j with
 |zero=>
  intro i h d left hij hn hk hs hd hle b1 b2 b3 b4;obtain⟨h1,h2⟩:=oq hij;rw[h2];simp only[KB];have hr:=hs.row;simp only[dD]at hr;have hlt:=(aH.1 hs.row).1;refine⟨h.set s (.row (dD d o (.bJ 1 (left.map kC)))),hs.mF,(Fr.refl h _).set (by simp) _,?_⟩;have hss:∀ X:Uo,(h.set s X)[s]? =some X:=fun X=>eX hlt;have ew:aK .i64 ((was:Int) - (d.sv:Int))=(was:Int) - (d.sv:Int):=dG (by unfold small at hkn;omega) (by omega);rw[ai ur.eq_1];simp[Ko,Ij,Ik,h1,hr,hss,hl,hcut,hn,dD,ew]
 |succ j ih=>
  intro i h d left hij hn hk hs hd hle b1 b2 b3 b4;obtain⟨h1,e3,k,d1,g1⟩:=ry hij hkn;have e1:=g1 kC;simp only[kC]at e1;have hik:i<keys.length:=by omega
  have ia:∀ s',rF s' 1 (some (.own (.c s 8) 1 (keys.map kC))) (some (.int .i64 (i:Int)))=some (.bI (.c s 8) i 0,s'):=fun s' =>c9 (by simpa using hik);rw[d1,mz];have hr:=hs.row;have hlt:=(aH.1 hs.row).1;have hne:=hs.ne;have hlk:∀ e,fQ ⟨e,h,fl⟩ .str (.sl 3 []) false (.map o) (.str k)=some (.sl 3 ((chain d k).map b8)):=fun e=>by
   have:=nS lJ (s:=⟨e,h,fl⟩) (m:=o) hs.map (.sl 3 []) k false;refine this.trans ?_;unfold chain;cases fW lJ k d.of<;>rfl
  have hz:V.GG (.ah [] 0 0 3)=some (.sl 3 []):=rfl;have c1:=t136 (chain d k) low (ny hd k);have hco:=J6 (ny hd k) low;have hcs:cR (cT (chain d k) low)<small:=by have:=vB (chain d k) low;have:=Ez hd k;omega
  have hok:=Zi (left:=left) (low:=low) (k:=k) hd;have hkk:=(EA low (d,left) k);have hol:decide (o<n)=true:=by
   obtain⟨_,_,_,ho,_⟩:=hs.map;rw[←hn];exact decide_eq_true (aH.1 ho).1
  have hss:∀ X:Uo,(h.set s X)[s]? =some X:=fun X=>eX hlt;have hkl' :k.length<small:=hkl k (iF (i:=i) (by rw[d1];exact cB));cases hc:(cT (chain d k) low).isEmpty with
  |true=>
   have hcn:cT (chain d k) low=[]:=by simpa using hc
   have e:gZ low (d,left) k=({d with of:=jE lJ k d.of},left):=by unfold gZ;dsimp only;rw[hc];rfl
   rw[e]at hok hkk⊢;obtain⟨o',m1,m2⟩:=N4 lJ hs.map k;have hs2:fA (h.set o o') s o {d with of:=jE lJ k d.of} (.bJ 1 (keys.map kC)):=
    ⟨by rw[dP (cc hne)];exact hs.row,by rw[eX (by rw[hn];exact of_decide_eq_true hol)];exact m1⟩
   obtain⟨hF,f1,f2,f3⟩:=ih (i+1) (h.set o o') {d with of:=jE lJ k d.of} left (by omega) (by simpa using hn) hk hs2 hok (by omega) (by show d.sk≤_;omega) (by show d.sv≤_;omega) (by show d.sb≤_;omega) b4;refine⟨hF,f1,((Fr.refl h [s,o]).set (by simp) o').trans f2,?_⟩;rw[hcn]at c1;have gT:∀ e,K4 .str o (.str k) ⟨e,h,fl⟩ h[o]? =some (.aZ [],⟨e,h.set o o',fl⟩):=fun e=>m2 o ⟨e,h,fl⟩ rfl;simp only[dD]at hr;rw[ai ur.eq_1];simp[Ko,X8,X9,Nu,XV,Nv,h1,ia,e1,e3,hr,hlk,hz,hl,hcut,hn,c1,gT];simpa using f3
  |false=>
   have hcne:¬(cT (chain d k) low=[]):=fun hh=>by rw[hh]at hc;cases hc
   generalize hct:cT (chain d k) low=c at*;have e:gZ low (d,left) k=({d with of:=mb lJ (k,c) d.of,sk:=d.sk+1,sv:=d.sv+c.length,sb:=d.sb+(k.length+cR c)},left++[k]):=by unfold gZ;dsimp only;rw[hct,hc];rfl
   rw[e]at hok hkk⊢;obtain⟨o',m1,m2⟩:=map_set lJ hs.map (k,c);have hmu:∀ e,YO .str o (.str k) (.sl 3 (c.map b8)) ⟨e,h,fl⟩ h[o]? =some (.aZ [],⟨e,h.set o o',fl⟩):=fun e=>m2 o ⟨e,h,fl⟩;have c2:=t137 c hco hcs;have hr1:(h.set o o')[s]? =h[s]? :=dP (cc hne);have hss1:∀ X:Uo,((h.set o o').set s X)[s]? =some X:=fun X=>eX (by simpa using hlt);have hs2:fA ((h.set o o').set s (.row (dD {d with of:=mb lJ (k,c) d.of,sk:=d.sk+1,sv:=d.sv+c.length,sb:=d.sb+(k.length+cR c)} o (.bJ 1 (keys.map kC))))) s o {d with of:=mb lJ (k,c) d.of,sk:=d.sk+1,sv:=d.sv+c.length,sb:=d.sb+(k.length+cR c)} (.bJ 1 (keys.map kC)):=
    ⟨hss1 _,by rw[dP hne,eX (by rw[hn];exact of_decide_eq_true hol)];exact m1⟩
   have hclen:c.length<small:=hco.1;obtain⟨hF,f1,f2,f3⟩:=ih (i+1) ((h.set o o').set s (.row (dD {d with of:=mb lJ (k,c) d.of,sk:=d.sk+1,sv:=d.sv+c.length,sb:=d.sb+(k.length+cR c)} o (.bJ 1 (keys.map kC))))) {d with of:=mb lJ (k,c) d.of,sk:=d.sk+1,sv:=d.sv+c.length,sb:=d.sb+(k.length+cR c)} (left++[k]) (by omega) (by simpa using hn) hk hs2 hok (by simp;omega) (by show d.sk+1≤_;omega) (by show d.sv+c.length≤_;unfold small at hclen;omega) (by show d.sb+(k.length+cR c)≤_;unfold small at hcs hkl';omega) b4;refine⟨hF,f1,(((Fr.refl h [s,o]).set (by simp) o').set (by simp) _).trans f2,?_⟩;have b5:(left.length+1)*16≤bl∧left.length+1≤bl:=by unfold small at hkn;unfold bl;omega
   have w1:aK .i64 ((d.sk:Int)+1)=((d.sk+1:Nat):Int):=fC (by unfold small at hkn;omega);have w2:aK .i64 ((d.sv:Int)+(c.length:Int))=((d.sv+c.length:Nat):Int):=by
    rw[show(d.sv:Int)+(c.length:Int)=((d.sv+c.length:Nat):Int) by omega];exact fL (by unfold small at*;omega)
   have w3:aK .i64 ((k.length:Int)+(cR c:Int))=((k.length+cR c:Nat):Int):=by
    rw[show(k.length:Int)+(cR c:Int)=((k.length+cR c:Nat):Int) by omega];exact fL (by unfold small at*;omega)
   have w4:aK .i64 ((d.sb:Int)+((k.length:Int)+(cR c:Int)))=((d.sb+(k.length+cR c):Nat):Int):=by
    rw[show(d.sb:Int)+((k.length:Int)+(cR c:Int))=((d.sb+(k.length+cR c):Nat):Int) by omega];exact fL (by unfold small at*;omega)
   have hcl0:(((c.length:Int))==0)=false:=by
    rw[beq_eq_false_iff_ne];cases c with
    |nil=>exact absurd rfl hcne
    |cons a b=>simp;omega
   have hcl1:¬(c.length=0):=fun hh=>hcne (PU.1 hh);simp only[Af]at w1 w2 w3 w4;simp only[dD]at hr f3;rw[ai ur.eq_1];simp[Ko,X8,X9,Nu,XW,XY,XZ,X0,az qaC,Ii,Nv,kC,h1,ia,e1,e3,hr,hlk,hz,hl,hcut,hn,c1,c2,hmu,hr1,hss1,b5,w1,w2,w3,w4,hcl0,hcl1,hcne,bF];simpa[kC]using f3
def oV(ks:U)(keys:List By):Prop:=ks=.bJ 1 (keys.map kC)∨(ks=.nl 1∧keys=[])
def slO(d w:Nat)(s:Vs):Option Nat→Option Nat→Option Nat→Option (U×Vs)
 |some 0,some 0,some 0=>some (.own (.t d) w [],s.kill (.t d))
 |_,_,_=>none
@[simp] theorem ql6(d w:Nat)(s:Vs):slO d w s (some 0) (some 0) (some 0)=some (.own (.t d) w [],s.kill (.t d)):=rfl
@[simp] theorem qa4(d w:Nat)(g:Tg)(lo hi:Option bO)(m:bO)(xs:List (List U))(s:Vs):iT d w lo hi (some m) (.own g w xs) s=slO d w s (bC s.e hi xs.length xs.length) (bC s.e (some m) xs.length xs.length) (bC s.e lo 0 0):=by
 simp only[iT,fq,cond_true];rfl
theorem t98{h:List Uo}{s o:Nat}{d:Db}{ks:U}(fl:Nat)(hf:fl≤h.length)(hs:fA h s o d ks)(hk:oV ks d.keys)(hd:pG d)(hz:KO d)(low:Nat):
  ∃ h' ks',G 98 [.ptr s 0,.int .u64 (low:Int)] h fl=some (.int .i64 ((d.sv:Int) - ((cV d low).sv:Int)),h',fl)∧fA h' s o (cV d low) ks'∧oV ks' (cV d low).keys∧Fr h h' [s,o]:=by
 have hlt:=(aH.1 hs.row).1;have hl:decide (s<h.length)=true:=decide_eq_true hlt;have c0:=t99 fl hf hs.row;have hr:=hs.row;have hss:∀ X:Uo,(h.set s X)[s]? =some X:=fun X=>eX hlt;have hcut:∀ H:List Uo,H.length=h.length→cut h.length fl H=H:=fun H hH=>by rw[←hH];exact aR (by rw[hH];exact hf)
 have e0:ga (.int .i64 0) 0=some 0:=rfl;have e0' :∀ n,ga (.int .i64 0) n=some 0:=fun n=>by
  show asNat (.int .i64 0) n=some 0;simp only[asNat];rw[if_pos ⟨by decide,uQ n⟩];rfl
 rcases hk with rfl|⟨rfl,hk⟩
 ·have hs1:fA (h.set s (.row (dD {d with sk:=0,sv:=0,sb:=0} o (.bJ 1 (d.keys.map kC))))) s o {d with sk:=0,sv:=0,sb:=0} (.bJ 1 (d.keys.map kC)):=
   ⟨hss _,by rw[dP hs.ne];exact hs.map⟩
  obtain⟨h',f1,f2,f3⟩:=qiS s o low d.sv h.length fl hf hlt d.keys hd.keys hd.uy d.keys.length 0 (h.set s (.row (dD {d with sk:=0,sv:=0,sb:=0} o (.bJ 1 (d.keys.map kC))))) {d with sk:=0,sv:=0,sb:=0} [] (by omega) (by simp) rfl hs1 ⟨hd.keys,hd.uy,hd.of,hd.Gx⟩ (by simp) (by simp) (by simp) (by simp) hz.2.1;refine⟨h',_,?_,⟨f1.row,f1.map⟩,.inl rfl,((Fr.refl h [s,o]).set (by simp) _).trans f2⟩;refine bK (fn:=Rq) rfl rfl rfl ?_;simp only[dD]at hr f3;simp at f3;simp[xL,XT,XU,X4,X5,X6,X7,c0,hr,hl,hss,hcut,e0,e0'];exact f3
 ·refine⟨h.set s (.row (dD {d with sk:=0,sv:=0,sb:=0} o (.nl 1))),.nl 1,?_,⟨by rw[hss];simp[cV,hk,dD],by rw[dP hs.ne];simpa[cV,hk]using hs.map⟩,.inr ⟨rfl,by simp[cV,hk]⟩,(Fr.refl h [s,o]).set (by simp) _⟩;refine bK (fn:=Rq) rfl rfl rfl ?_;have ew:aK .i64 ((d.sv:Int) - 0)=(d.sv:Int):=by rw[Int.sub_zero];exact fL (by have:=hz.2.1;omega)
  have e:(cV d low).sv=0:=by simp[cV,hk]
  rw[e];simp only[dD]at hr;simp at ew;simp[xL,XT,XU,X4,X5,X6,X7,c0,hr,hl,hss,hcut,e0,e0',dD];rw[ai ur.eq_1];simp[Ko,Ij,Ik,hss,hl,hcut,ew]
end Go.RE
namespace Go.RE
section
variable{α κ:Type}[DecidableEq κ](F:Mk α κ)
theorem SO(k:κ)(a:α):∀ l:List α,(fW F (F.key a) l).isSome=true→fW F k (uz F a l)=if F.key a=k then some a else fW F k l:=by
 intro l
 induction l with
 |nil=>intro h;cases h
 |cons b r ih=>
  intro h;simp only[uz];by_cases hb:F.key b=F.key a
  ·simp only[hb,decide_true,cond_true];by_cases hk:F.key a=k
   ·simp[fW,kO,hk]
   ·simp[fW,kO,hk,hb]
  ·simp only[hb,decide_false,cond_false];have h' :(fW F (F.key a) r).isSome=true:=by
    simp only[fW,kO,hb,decide_false]at h;exact h
   have ih' :=ih h';by_cases hk:F.key b=k
   ·have:¬F.key a=k:=fun hh=>hb (by rw[hk,hh]);simp[fW,kO,hk,this]
   ·have e1:fW F k (b::uz F a r)=fW F k (uz F a r):=by simp[fW,kO,hk]
    have e2:fW F k (b::r)=fW F k r:=by simp[fW,kO,hk]
    rw[e1,e2,ih']
theorem Jj(k:κ)(a:α)(l:List α):fW F k (mb F a l)=if F.key a=k then some a else fW F k l:=by
 unfold mb;cases h:(fW F (F.key a) l).isSome with
 |true=>exact SO F k a l h
 |false=>
  have hn:fW F (F.key a) l=none:=by simpa using h
  rw[cond_false];by_cases hk:F.key a=k
  ·subst hk;simp only[fW]at hn⊢;rw[List.find?_append,hn];simp
  ·simp only[fW];rw[List.find?_append];simp[hk]
end
theorem QE(ks:List By):k9 (ks.map kC)=some ks:=by
 induction ks with
 |nil=>rfl
 |cons a r ih=>show(match qH (kC a),k9 (r.map kC)with|some k,some l=>some (k::l)|_,_=>none)=_;rw[ih];rfl
theorem NK(ks:List By)(n t:Nat)(k:By)(hn:n≤ks.length)(hl:ks.length<small):QD (ks.map kC) [.int .i64 (n:Int),.own (.t t) 1 [[.str k]]]=some ((ks.take n++[k]++ks.drop n).map kC):=by
 have h1:(k9 (ks.map kC)).isSome=true:=by rw[QE];rfl
 have h2:jl 1 (ks.map kC)=true:=oc (fun v=>by simp[kC]) ks;have h3:Nat.ble n (ks.map kC).length=true:=jA (by simpa using hn);have h4:Nat.blt (ks.map kC).length 1000000000=true:=by
  simp only[oS];exact jA hl
 simp only[QD,h1,h2,s7,h3,h4,uQ,decide_true,jh,cond_true];simp[kC]
def aN(s:Vs)(d w:Nat)(rest:List U):Option (List (List U))→Option (U×Vs)
 |some ys=>bif mM w ys&&wm .r rest then some (.own (.t d) w ys,(s.kill .r).kill (.t d))else none
 |none=>none
@[simp] theorem qjx(s:Vs)(d w:Nat)(rest:List U)(ys:List (List U)):aN s d w rest (some ys)=bif mM w ys&&wm .r rest then some (.own (.t d) w ys,(s.kill .r).kill (.t d))else none:=rfl
@[simp] theorem qg5(Q:nu)(F:FU)(s:Vs)(d f:Nat)(w:Nat)(rest:List U)(q:List (List U)→List U→Option (List (List U))):
  zB Q F s d f (.nl w::rest) (some q)=aN s d w rest (q [] rest):=by
 simp only[zB];cases q [] rest<;>rfl
def nJ(ks:List By)(k:By):List By:=ks.take (om ks k)++[k]++ks.drop (om ks k)
theorem I5(ks:List By)(k:By):(nJ ks k).length=ks.length+1:=by
 have:=GB ks k;simp[nJ];omega
def oB(d:Db)(w:Wt):jb:=⟨d.now,w.gone,w.data⟩
def jk(d:Db)(w:Wt):Db:=
 {d with of:=mb lJ (w.key,chain d w.key++[oB d w]) d.of,keys:=bif(chain d w.key).isEmpty then nJ d.keys w.key else d.keys}
theorem td(d:Db)(w:Wt)(k:By):chain (jk d w) k=if w.key=k then chain d w.key++[oB d w]else chain d k:=by
 show((fW lJ k (mb lJ (w.key,chain d w.key++[oB d w]) d.of)).map (·.2)).getD []=_;rw[Jj];by_cases h:w.key=k
 ·have:lJ.key (w.key,chain d w.key++[oB d w])=k:=h;rw[if_pos this,if_pos h];rfl
 ·have:¬lJ.key (w.key,chain d w.key++[oB d w])=k:=h;rw[if_neg this,if_neg h];rfl
structure Bo(d:Db)(m:Nat):Prop where
 keys:d.keys.length+m<small
 uy:∀ k∈d.keys,k.length<small
 len:∀ x∈d.of,x.2.length+m<small
 dat:∀ x∈d.of,∀ v∈x.2,v.Data.length<small
 Gx:∀ x∈d.of,cR x.2+5000*m<small
theorem Bo.ok{d:Db}{m:Nat}(h:Bo d m):pG d:=
 ⟨by have:=h.keys;omega,h.uy,fun x hx=>⟨by have:=h.len x hx;omega,h.dat x hx⟩,fun x hx=>by have:=h.Gx x hx;omega⟩
theorem Bo.le{d:Db}{m n:Nat}(h:Bo d m)(hn:n≤m):Bo d n:=
 ⟨by have:=h.keys;omega,h.uy,fun x hx=>by have:=h.len x hx;omega,h.dat,fun x hx=>by have:=h.Gx x hx;omega⟩
theorem x8{d:Db}{k:By}(h:chain d k≠[]):∃ x∈d.of,x.2=chain d k:=by
 unfold chain at h⊢;cases hh:fW lJ k d.of with
 |none=>rw[hh]at h;exact absurd rfl h
 |some x=>exact⟨x,lM _ hh,rfl⟩
theorem Bo.put{d:Db}{m:Nat}(h:Bo d (m+1))(hs:5000*(m+1)<small)(w:Wt)(hw:w.key.length<small)(hd:w.data.length≤5000):Bo (jk d w) m:=by
 have hch:(chain d w.key).length+(m+1)<small∧(∀ v∈chain d w.key,v.Data.length<small)∧cR (chain d w.key)+5000*(m+1)<small:=by
  by_cases hc:chain d w.key=[]
  ·rw[hc];exact⟨by simp;omega,fun v hv=>(fu hv).elim,by simpa[cR]using hs⟩
  ·obtain⟨x,hx,he⟩:=x8 hc;rw[←he];exact⟨h.len x hx,h.dat x hx,h.Gx x hx⟩
 have hkl:∀ k∈nJ d.keys w.key,k.length<small:=by
  intro k hk;simp only[nJ,eH,bT,fu,or_false]at hk;rcases hk with(hk|rfl)|hk
  ·exact h.uy k (ta hk)
  ·exact hw
  ·exact h.uy k (iF hk)
 refine⟨?_,?_,fun x hx=> ?_,fun x hx v hv=> ?_,fun x hx=> ?_⟩
 ·have:=h.keys;show(bif(chain d w.key).isEmpty then nJ d.keys w.key else d.keys).length+m<small;cases(chain d w.key).isEmpty with
  |true=>rw[cond_true,I5];omega
  |false=>rw[cond_false];omega
 ·show ∀ k∈(bif(chain d w.key).isEmpty then nJ d.keys w.key else d.keys),k.length<small;cases(chain d w.key).isEmpty with
  |true=>exact hkl
  |false=>exact h.uy
 ·rcases jC hx with rfl|hx
  ·have:=hch.1;simp;omega
  ·have:=h.len x hx;omega
 ·rcases jC hx with rfl|hx
  ·rcases eH.1 hv with hv|hv
   ·exact hch.2.1 v hv
   ·simp at hv;subst hv;show w.data.length<small;unfold small;omega
  ·exact h.dat x hx v hv
 ·rcases jC hx with rfl|hx
  ·have:=hch.2.2;simp[cR,oB]at this⊢;omega
  ·have:=h.Gx x hx;omega
def sA(d:Db)(w:Wt):Prop:=gG (chain d w.key)<d.now∧dg 0 (chain d w.key)=true∧(w.gone=true→w.data=[])∧w.key.length<small∧w.data.length≤5000
theorem Td{d:Db}{w:Wt}(h:sA d w):Z7 (chain d w.key) (oB d w)=(some (chain d w.key++[oB d w]),0):=by
 obtain⟨h1,h2,h3,_⟩:=h;have e1:dg 0 [oB d w]=true:=by
  have a:decide (d.now≤0)=false:=decide_eq_false (by omega);have b:(w.gone&&decide (0<w.data.length))=false:=by
   cases hg:w.gone with
   |false=>rfl
   |true=>rw[h3 hg];rfl
  show(!(decide (d.now≤0)||(w.gone&&decide (0<w.data.length)))&&true)=true;rw[a,b];rfl
 have e2:decide ((oB d w).At≤gG (chain d w.key))=false:=decide_eq_false (by show ¬d.now≤_;omega);unfold Z7;rw[h2,e1,e2];rfl
theorem qeS(s o:Nat)(n fl:Nat)(hf:fl≤n)(hsn:s<n)(come:List Wt)(z:Sz)(now:Nat)(hcn:come.length<small)(h5:5000*come.length<small)(hnd:(come.map (·.key)).Nodup):
  ∀ (j i:Nat) (h:List Uo) (d:Db) (ks:U),i+j=come.length→h.length=n→d.now=now→fA h s o d ks→oV ks d.keys→Bo d j→(∀ w∈come.drop i,sA d w)→
  ∃ h' ks',fA h' s o {(come.drop i).foldl jk d with sk:=z.1,sv:=z.2.1,sb:=z.2.2} ks'∧oV ks' ((come.drop i).foldl jk d).keys∧Fr h h' [s,o]∧
  gL bu mT qT pT qO 0 ov (n+1) ⟨[(72,.int .i64 (i:Int)),(0,.ptr s 0),(70,.sl 3 (come.map eY)),(10,.ptr n 0),(71,.int .i64 (come.length:Int))],h++[.row (vA z)],fl⟩
   (gV bu mT qT pT qO (.seq (.region A1) (.seq (.region A2) .ret)) (kE n qO (.aZ [.int .u64 (now:Int),.int .i64 0],h',fl))):=by
 have hcut:∀ (H x:List Uo),H.length=n→cut n fl (H++x)=H:=fun H x hH=>by subst hH;exact gJ hf
 have hcut1:∀ (H:List Uo) (a:Uo) (x:List Uo),H.length=n→cut (n+1) fl (H++a::x)=H++[a]:=fun H a x hH=>by subst hH;exact lS hf a x
 have hl:decide (s<n)=true:=decide_eq_true hsn;have hl1:decide (s<n+1)=true:=decide_eq_true (by omega);intro j
 induction j with
 |zero=>
  intro i h d ks hij hn hnow hs hk hd hp;obtain⟨h1,h2⟩:=oq hij;rw[h2];simp only[KB];have hr:=hs.row;simp only[dD]at hr;have hlt:=(aH.1 hs.row).1;have hset:∀ X x,(h++x).set s X=h.set s X++x:=fun X x=>mA _ _ hlt;have hss:∀ X:Uo,(h.set s X)[s]? =some X:=fun X=>eX hlt;have hat:∀ X x,(h.set s X++x)[s]? =some X:=fun X x=>aX (hss X);have hn0:∀ a:Uo,(h++[a])[n]? =some a:=fun a=>by rw[←hn];exact Rz h [] a
  refine⟨h.set s (.row (dD {d with sk:=z.1,sv:=z.2.1,sb:=z.2.2} o ks)),ks,⟨hss _,by rw[dP hs.ne];exact hs.map⟩,hk,(Fr.refl h _).set (by simp) _,?_⟩;rw[ai ov.eq_1];subst hnow;simp[wP,A1,A2,h1,aX hr,hset,hat,hn0,hl,hl1,hcut,hcut1,hn,dD,vA]
 |succ j ih=>
  intro i h d ks hij hn hnow hs hk hd hp;obtain⟨h1,e3,w,d1,g1⟩:=ry hij hcn;have e1:=g1 eY;simp only[eY]at e1;have hpw:sA d w:=hp w (by rw[d1];exact cB);rw[d1,mz];have hr:=hs.row;have hlt:=(aH.1 hs.row).1;have hne:=hs.ne;have hol:o<h.length:=by
   obtain⟨_,_,_,ho,_⟩:=hs.map;exact(aH.1 ho).1
  have hlk:∀ (e:Env) (x:List Uo),fQ ⟨e,h++x,fl⟩ .str (.sl 3 []) false (.map o) (.str w.key)=some (.sl 3 ((chain d w.key).map b8)):=fun e x=>by
   have hm:kQ lJ (h++x)[o]? d.of:=by
    rw[bG hol];exact hs.map
   have:=nS lJ (s:=⟨e,h++x,fl⟩) (m:=o) hm (.sl 3 []) w.key false;refine this.trans ?_;unfold chain;cases fW lJ w.key d.of<;>rfl
  have hz:V.GG (.ah [] 0 0 3)=some (.sl 3 []):=rfl;have c1:=t144 (chain d w.key) (oB d w) (ny hd.ok w.key) (by show w.data.length<small;have:=hpw.2.2.2.2;unfold small;omega);rw[Td hpw]at c1;simp only[QV,b8,oB,rB]at c1;have hjc:(j+1)≤come.length:=by omega
  have hdm:=hd.put (by omega) w hpw.2.2.2.1 hpw.2.2.2.2;have hpm:∀ v∈come.drop (i+1),sA (jk d w) v:=by
   intro v hv;have hvv:=hp v (by rw[d1];exact eu _ hv);have hnk:¬w.key=v.key:=by
    have:((come.drop i).map (·.key)).Nodup:=qk ((List.drop_sublist i come).map _) hnd;rw[d1,ct,ql]at this;intro hh;exact this.1 (hh▸cD.2 ⟨v,hv,rfl⟩)
   unfold sA at hvv⊢;rw[td,if_neg hnk];exact hvv
  obtain⟨o',m1,m2⟩:=map_set lJ hs.map (w.key,chain d w.key++[oB d w]);have hset:∀ X x,(h++x).set s X=h.set s X++x:=fun X x=>mA _ _ hlt;have hss:∀ X:Uo,(h.set s X)[s]? =some X:=fun X=>eX hlt;have hset2:∀ Y X x,(h.set s Y++x).set s X=h.set s X++x:=fun Y X x=>by
   rw[mA _ _ (by simpa using hlt),KD]
  have hn1:∀ (a:Uo) x,(h++a::x)[n]? =some a:=fun a x=>by rw[←hn];exact Rz h x a
  have hn2:∀ (a b:Uo) x,(h++a::b::x)[n+1]? =some b:=fun a b x=>by rw[←hn];exact at1 h x a b
  have hs1:∀ (a b X:Uo) x,(h++a::b::x).set (n+1) X=h++a::X::x:=fun a b X x=>by rw[←hn];exact qaf h x a b X
  cases hc:(chain d w.key).isEmpty with
  |true=>
   have hcn0:chain d w.key=[]:=by simpa using hc
   have hkeq:(jk d w).keys=nJ d.keys w.key:=by
    show(bif(chain d w.key).isEmpty then nJ d.keys w.key else d.keys)=_;rw[hc];rfl
   have hk2:oV (.bJ 1 ((nJ d.keys w.key).map kC)) (jk d w).keys:=by rw[hkeq];exact .inl rfl
   have hat:∀ X x,(h.set s X++x)[s]? =some X:=fun X x=>aX (hss X);have hmu:∀ e X x,YO .str o (.str w.key) (.sl 3 ((chain d w.key++[oB d w]).map b8)) ⟨e,h.set s X++x,fl⟩ (h.set s X++x)[o]? =some (.aZ [],⟨e,(h.set s X).set o o'++x,fl⟩):=fun e X x=>by
    have:=m2 o ⟨e,h.set s X++x,fl⟩;have e2:(h.set s X).set o o'++x=(h.set s X++x).set o o' :=(mA _ _ (by simpa using hol)).symm;rw[bG (by simpa using hol),e2,dP hne];exact this
   have c2:=t106 d.keys w.key hd.ok.keys;have hsl:=GB d.keys w.key;rw[hcn0]at c1 hlk hmu;simp only[mR,ct,jY,b8,oB,jZ]at c1 hmu hlk;rcases hk with rfl|⟨rfl,hk⟩
   ·have hiq:=fun t=>NK d.keys (om d.keys w.key) t w.key hsl hd.ok.keys;have hik:nJ d.keys w.key=d.keys.take (om d.keys w.key)++[w.key]++d.keys.drop (om d.keys w.key):=rfl;rw[←hik]at hiq;have hs2:fA ((h.set s (.row (dD (jk d w) o (.bJ 1 ((nJ d.keys w.key).map kC))))).set o o') s o (jk d w) (.bJ 1 ((nJ d.keys w.key).map kC)):=
     ⟨by rw[dP (cc hne)];exact hss _,by rw[eX (by simpa using hol)];exact m1⟩
    obtain⟨h',ks',f1,f2,f3,f4⟩:=ih (i+1) _ (jk d w) _ (by omega) (by simpa using hn) hnow hs2 hk2 hdm hpm;refine⟨h',ks',f1,f2,(((Fr.refl h [s,o]).set (by simp) _).set (by simp) o').trans f3,?_⟩;simp only[dD]at hr;simp only[dD,jk]at f4;rw[ai ov.eq_1];simp[wP,AX,az CG,sG,AY,AZ,az J9,CH,az CI,sH,A0,eY,h1,bq e1,e3,aX hr,hat,hlk,hz,c1,c2,hmu,hn,hl,hl1,hset,hset2,hss,hcut,hcut1,hn1,hn2,hs1,hiq,bF];simpa using f4
   ·have hz0:om d.keys w.key=0:=by rw[hk]at hsl;simp at hsl;rw[hk];exact hsl
    have hiq:=fun t=>NK [] 0 t w.key (ak _) (by decide);have hik:nJ d.keys w.key=[w.key]:=by unfold nJ;rw[hk];simp
    rw[hk]at hz0;rw[hk,hz0]at c2;simp at c2 hiq;simp only[kC]at hiq;have hs2:fA ((h.set s (.row (dD (jk d w) o (.bJ 1 ((nJ d.keys w.key).map kC))))).set o o') s o (jk d w) (.bJ 1 ((nJ d.keys w.key).map kC)):=
     ⟨by rw[dP (cc hne)];exact hss _,by rw[eX (by simpa using hol)];exact m1⟩
    obtain⟨h',ks',f1,f2,f3,f4⟩:=ih (i+1) _ (jk d w) _ (by omega) (by simpa using hn) hnow hs2 hk2 hdm hpm;refine⟨h',ks',f1,f2,(((Fr.refl h [s,o]).set (by simp) _).set (by simp) o').trans f3,?_⟩;simp only[dD]at hr;simp only[dD,jk]at f4;rw[ai ov.eq_1];simp[wP,AX,az CG,sG,AY,AZ,az J9,CH,az CI,sH,A0,eY,h1,bq e1,e3,aX hr,hat,hlk,hz,c1,c2,hmu,hn,hl,hl1,hset,hset2,hss,hcut,hcut1,hn1,hn2,hs1,hiq,hik,bF];simpa[hik,kC]using f4
  |false=>
   have hmu:∀ e x,YO .str o (.str w.key) (.sl 3 ((chain d w.key++[oB d w]).map b8)) ⟨e,h++x,fl⟩ (h++x)[o]? =some (.aZ [],⟨e,h.set o o'++x,fl⟩):=fun e x=>by
    have:=m2 o ⟨e,h++x,fl⟩;rw[bG hol,←mA _ _ hol];exact this
   have hs2:fA (h.set o o') s o (jk d w) ks:=
    ⟨by rw[dP (cc hne)];exact hs.row,by rw[eX hol];exact m1⟩
   have hk2:oV ks (jk d w).keys:=by
    show oV ks (bif(chain d w.key).isEmpty then nJ d.keys w.key else d.keys);rw[hc];exact hk
   obtain⟨h',ks',f1,f2,f3,f4⟩:=ih (i+1) (h.set o o') (jk d w) ks (by omega) (by simpa using hn) hnow hs2 hk2 hdm hpm;refine⟨h',ks',f1,f2,((Fr.refl h [s,o]).set (by simp) o').trans f3,?_⟩;have hcl:((chain d w.key).length+1==1)=false:=by
    cases hh:chain d w.key with
    |nil=>rw[hh]at hc;cases hc
    |cons a b=>rw[beq_eq_false_iff_ne];simp
   have hci:(((chain d w.key).length:Int)+1==1)=false:=by
    cases hh:chain d w.key with
    |nil=>rw[hh]at hc;cases hc
    |cons a b=>rw[beq_eq_false_iff_ne];simp;omega
   have hcj:¬(((chain d w.key).length:Int)=0):=by
    cases hh:chain d w.key with
    |nil=>rw[hh]at hc;cases hc
    |cons a b=>simp;omega
   simp only[dD]at hr;simp only[mR,ct,jY,b8,oB]at c1 hmu;rw[ai ov.eq_1];simp[wP,AX,az CG,sG,AY,AZ,az CI,sH,A0,eY,h1,bq e1,e3,aX hr,hlk,hz,c1,hmu,hn,hl,hl1,hcut,hcut1,hn1,hn2,hs1,hcl,hci,hcj,bF];simpa using f4
end Go.RE
namespace Go.RE
structure Ir(d:Db):Prop where
 right:∀ x∈d.of,dg 0 x.2=true
 last:∀ x∈d.of,gG x.2≤d.now
theorem JH:∀ (l:List jb) (a b:Nat),a≤b→dg b l=true→dg a l=true:=by
 intro l a b hab h;cases l with
 |nil=>rfl
 |cons v r=>
  simp only[dg,aI,Ae,DT,decide_eq_false_iff_not]at h⊢;exact⟨⟨by omega,h.1.2⟩,h.2⟩
theorem sB:∀ (l:List jb) (n a:Nat),dg a l=true→dg a (l.drop n)=true
 |[],n,a,h=>by simpa using h
 |v::r,0,a,h=>h
 |v::r,n+1,a,h=>by
  simp only[dg,aI]at h;have ha:a≤v.At:=by
   have:=h.1;simp only[Ae,DT,decide_eq_false_iff_not]at this;omega
  exact sB r n a (JH r a v.At ha h.2)
theorem Lw(l:List jb)(n:Nat):gG (l.drop n)≤gG l:=by
 unfold gG;rw[List.getLast?_drop];split
 ·exact bU _
 ·exact ak _
theorem J7{l:List jb}{t:Nat}(h:dg 0 l=true):dg 0 (cT l t)=true:=by
 obtain⟨n,hn⟩:=jN l t;rw[hn];exact sB l n 0 h
theorem Mb(l:List jb)(t:Nat):gG (cT l t)≤gG l:=by
 obtain⟨n,hn⟩:=jN l t;rw[hn];exact Lw l n
theorem Q9(l:List jb)(t:Nat):(cT l t).length≤l.length:=by
 obtain⟨n,hn⟩:=jN l t;rw[hn,uO];omega
theorem vR{d:Db}(hd:Ir d)(k:By):dg 0 (chain d k)=true∧gG (chain d k)≤d.now:=by
 by_cases hc:chain d k=[]
 ·rw[hc];exact⟨rfl,bU _⟩
 ·obtain⟨x,hx,he⟩:=x8 hc;rw[←he];exact⟨hd.right x hx,hd.last x hx⟩
structure FG(d0:Db)(m i:Nat)(st:Db×List By):Prop where
 fix:st.1.lim=d0.lim∧st.1.now=d0.now
 len:∀ x∈st.1.of,x.2.length+m<small
 dat:∀ x∈st.1.of,∀ v∈x.2,v.Data.length<small
 Gx:∀ x∈st.1.of,cR x.2+5000*m<small
 w:Ir st.1
 left:st.2.length≤i∧∀ k∈st.2,k∈d0.keys
 sz:st.1.sk≤i∧st.1.sv≤1000000000*i∧st.1.sb≤2000000000*i
theorem FG.step{d0:Db}{m i:Nat}{st:Db×List By}(h:FG d0 m i st)(low:Nat){k:By}(hk:k∈d0.keys)(hkl:k.length<small)(hm:5000*m<small):FG d0 m (i+1) (gZ low st k):=by
 obtain⟨d,left⟩:=st;have hch:(cT (chain d k) low).length+m<small∧(∀ v∈cT (chain d k) low,v.Data.length<small)∧cR (cT (chain d k) low)+5000*m<small:=by
  have hc2:(chain d k).length+m<small∧(∀ v∈chain d k,v.Data.length<small)∧cR (chain d k)+5000*m<small:=by
   by_cases hc:chain d k=[]
   ·rw[hc];exact⟨by simp;omega,fun v hv=>(fu hv).elim,by simpa[cR]using hm⟩
   ·obtain⟨x,hx,he⟩:=x8 hc;rw[←he];exact⟨h.len x hx,h.dat x hx,h.Gx x hx⟩
  have:=Q9 (chain d k) low;have:=vB (chain d k) low;refine⟨by omega,fun v hv=> ?_,by omega⟩;obtain⟨n,hn⟩:=jN (chain d k) low;rw[hn]at hv;exact hc2.2.1 v (iF hv)
 have hww:=vR (d:=d) h.w k;have hlast:=Mb (chain d k) low;obtain⟨z1,z2,z3⟩:=h.sz;dsimp only at z1 z2 z3;unfold gZ;dsimp only;cases hc:(cT (chain d k) low).isEmpty with
 |true=>
  exact⟨h.fix,fun x hx=>h.len x (qt hx),fun x hx=>h.dat x (qt hx),fun x hx=>h.Gx x (qt hx),⟨fun x hx=>h.w.right x (qt hx),fun x hx=>h.w.last x (qt hx)⟩,⟨by have:=h.left.1;dsimp only at this⊢;simp only[cond_true];omega,h.left.2⟩,⟨by simp only[cond_true];omega,by simp only[cond_true];omega,by simp only[cond_true];omega⟩⟩
 |false=>
  simp only[cond_false];refine⟨h.fix,fun x hx=> ?_,fun x hx=> ?_,fun x hx=> ?_,⟨fun x hx=> ?_,fun x hx=> ?_⟩,⟨?_,fun x hx=> ?_⟩,⟨?_,?_,?_⟩⟩
  ·rcases jC hx with rfl|hx
   ·exact hch.1
   ·exact h.len x hx
  ·rcases jC hx with rfl|hx
   ·exact hch.2.1
   ·exact h.dat x hx
  ·rcases jC hx with rfl|hx
   ·exact hch.2.2
   ·exact h.Gx x hx
  ·rcases jC hx with rfl|hx
   ·exact J7 hww.1
   ·exact h.w.right x hx
  ·rcases jC hx with rfl|hx
   ·show gG (cT (chain d k) low)≤d.now;omega
   ·exact h.w.last x hx
  ·have:=h.left.1;dsimp only at this;simp only[gX,fV,ox];omega
  ·rcases eH.1 hx with hx|hx
   ·exact h.left.2 x hx
   ·simp at hx;subst hx;exact hk
  ·show d.sk+1≤i+1;omega
  ·show d.sv+(cT (chain d k) low).length≤1000000000*(i+1);have:=hch.1;unfold small at this;omega
  ·show d.sb+(k.length+cR (cT (chain d k) low))≤2000000000*(i+1);have:=hch.2.2;unfold small at this hkl;omega
theorem FG.fold{d0:Db}{m:Nat}(low:Nat)(hkl:∀ k∈d0.keys,k.length<small)(hm:5000*m<small):∀ (ks:List By) (i:Nat) (st:Db×List By),(∀ k∈ks,k∈d0.keys)→FG d0 m i st→FG d0 m (i+ks.length) (ks.foldl (gZ low) st)
 |[],i,st,_,h=>h
 |k::r,i,st,hs,h=>by
  have:=FG.fold low hkl hm r (i+1) _ (fun x hx=>hs x (eu _ hx)) (h.step low (hs k cB) (hkl k (hs k cB)) hm);rw[show i+(k::r).length=i+1+r.length by simp;omega];exact this
theorem FM{d:Db}{m:Nat}(hd:Bo d m)(hw:Ir d)(hm:5000*m<small)(low:Nat):Bo (cV d low) m∧Ir (cV d low)∧KO (cV d low)∧(cV d low).lim=d.lim∧(cV d low).now=d.now∧∀ k∈(cV d low).keys,k∈d.keys:=by
 have h:=FG.fold (m:=m) low hd.uy hm d.keys 0 ({d with sk:=0,sv:=0,sb:=0},[]) (fun k hk=>hk) ⟨⟨rfl,rfl⟩,hd.len,hd.dat,hd.Gx,⟨hw.right,hw.last⟩,⟨by simp,fun k hk=>(fu hk).elim⟩,⟨bU _,bU _,bU _⟩⟩;rw[kF]at h;have hk:=hd.keys;refine⟨⟨?_,fun k hk=>hd.uy k (h.left.2 k hk),h.len,h.dat,h.Gx⟩,⟨h.w.right,h.w.last⟩,?_,h.fix.1,h.fix.2,h.left.2⟩
 ·have:=h.left.1;show((d.keys.foldl (gZ low) ({d with sk:=0,sv:=0,sb:=0},[])).2).length+m<small;omega
 ·obtain⟨a,b,c⟩:=h.sz;unfold small at hk;refine⟨?_,?_,?_⟩
  ·show(d.keys.foldl (gZ low) ({d with sk:=0,sv:=0,sb:=0},[])).1.sk≤_;omega
  ·show(d.keys.foldl (gZ low) ({d with sk:=0,sv:=0,sb:=0},[])).1.sv≤_;omega
  ·show(d.keys.foldl (gZ low) ({d with sk:=0,sv:=0,sb:=0},[])).1.sb≤_;omega
def Su:List By→Prop
 |a::b::r=>lt a b=true∧Su (b::r)
 |_=>True
theorem BB:∀ (l:List Wt) (p:Option By),fH p l=0→(∀ w∈l,w.key.length≤256∧w.data.length≤4096∧w.key≠[]∧(w.gone=true→w.data=[]))∧(∀ q,p=some q→Su (q::l.map (·.key)))∧Su (l.map (·.key))
 |[],p,_=>⟨fun w hw=>(fu hw).elim,fun q _=>trivial,trivial⟩
 |w::l,p,h=>by
  simp only[fH]at h;cases hc:gY p w==0 with
  |false=>rw[hc,cond_false]at h;rw[h]at hc;cases hc
  |true=>
   rw[hc,cond_true]at h;obtain⟨i1,i2,i3⟩:=BB l (some w.key) h;have hc' :gY p w=0:=by simpa using hc
   unfold gY at hc';cases a1:decide (256<w.key.length)with
   |true=>rw[a1]at hc';cases hc'
   |false=>
    cases a2:decide (4096<w.data.length)with
    |true=>rw[a1,a2]at hc';cases hc'
    |false=>
     rw[a1,a2]at hc';simp only[cond_false]at hc';cases a3:(w.key.isEmpty||AH p w.key||(w.gone&&decide (0<w.data.length)))with
     |true=>rw[a3]at hc';cases hc'
     |false=>
      simp only[DT]at a3;obtain⟨⟨b1,b2⟩,b3⟩:=a3;have hw:w.key.length≤256∧w.data.length≤4096∧w.key≠[]∧(w.gone=true→w.data=[]):=by
       have c1:=of_decide_eq_false a1;have c2:=of_decide_eq_false a2;refine⟨by omega,by omega,?_,fun hg=> ?_⟩
       ·intro hh;rw[hh]at b1;cases b1
       rw[hg]at b3;have:=of_decide_eq_false (by simpa using b3:decide (0<w.data.length)=false);exact PU.1 (by omega)
      refine⟨fun x hx=> ?_,fun q hq=> ?_,?_⟩
      ·rcases bT.1 hx with rfl|hx
       ·exact hw
       ·exact i1 x hx
      ·subst hq;simp only[Gm,lo0,FB]at b2;exact⟨b2,i2 _ rfl⟩
      ·exact i2 _ rfl
end Go.RE
namespace Go.RE
theorem NI:∀ (a:By) (l:List By),Su (a::l)→∀ b∈l,lt a b=true
 |a,[],_,b,hb=>(fu hb).elim
 |a,c::r,h,b,hb=>by
  rcases bT.1 hb with rfl|hb
  ·exact h.1
  ·exact EP h.1 (NI c r h.2 b hb)
theorem uZ:∀ l:List By,Su l→l.Nodup
 |[],_=>FC
 |[a],_=>by simp
 |a::b::r,h=>by
  refine ql.2 ⟨fun hm=> ?_,uZ (b::r) h.2⟩;have:=NI a (b::r) h a hm;rw[show lt a a=false from Cf a]at this;cases this
theorem th(d:Db):∀ (l:List Wt) (z:List Wt×Sz),∃ m,(l.foldl (fe d) z).1=z.1++m∧m.Sublist l
 |[],z=>⟨[],by simp,.slnil⟩
 |w::l,z=>by
  rw[mz];unfold fe;cases h1:w.gone&&nN (chain d w.key)with
  |true=>
   obtain⟨m,m1,m2⟩:=th d l z;exact⟨m,m1,m2.cons w⟩
  |false=>
   simp only[cond_false];cases h2:(chain d w.key).isEmpty with
   |true=>
    obtain⟨m,m1,m2⟩:=th d l (z.1++[w],z.2.1+1,z.2.2.1+1,z.2.2.2+w.data.length+w.key.length);exact⟨w::m,by simp only[cond_true];refine Eq.trans m1 ?_;simp,m2.cons_cons w⟩
   |false=>
    obtain⟨m,m1,m2⟩:=th d l (z.1++[w],z.2.1,z.2.2.1+1,z.2.2.2+w.data.length);exact⟨w::m,by simp only[cond_false];refine Eq.trans m1 ?_;simp,m2.cons_cons w⟩
theorem BC(d:Db)(l:List Wt):(bw d l).1.Sublist l:=by
 obtain⟨m,m1,m2⟩:=th d l ([],szD d);have:(bw d l).1=m:=by unfold bw;rw[m1];simp
 rw[this];exact m2
theorem Fr.split{h x h' :List Uo}{l:List Nat}(hf:Fr (h++x) h' l)(hl:∀ i∈l,i<h.length):∃ h2,h' =h2++x∧Fr h h2 l:=by
 refine⟨h'.take h.length,?_,?_,fun j hj=> ?_⟩
 ·have:h'.drop h.length=x:=by
   apply PZ;intro i;rw[jX,hf.2 _ (fun hh=>by have:=hl _ hh;omega),dh (by omega)];congr 1;omega
  rw[←this,s9]
 ·rw[iD,hf.1,gX];omega
 ·by_cases hjl:j<h.length
  ·rw[fU,if_pos hjl,hf.2 j hj,bG hjl]
  ·rw[fU,if_neg hjl,z8 (by omega)]
theorem fA.app{h x:List Uo}{s o:Nat}{d:Db}{ks:U}(hs:fA h s o d ks):fA (h++x) s o d ks:=by
 refine⟨aX hs.row,?_⟩;obtain⟨lc,c,a,b,e⟩:=hs.map;rw[bG (aH.1 b).1];exact⟨lc,c,a,b,e⟩
theorem fA.Ff{h x:List Uo}{s o:Nat}{d:Db}{ks:U}(hs:fA (h++x) s o d ks)(h1:s<h.length)(h2:o<h.length):fA h s o d ks:=
 ⟨by have:=hs.row;rwa[bG h1]at this,by have:=hs.map;rwa[bG h2]at this⟩
theorem fA.lt{h:List Uo}{s o:Nat}{d:Db}{ks:U}(hs:fA h s o d ks):s<h.length∧o<h.length:=by
 refine⟨(aH.1 hs.row).1,?_⟩;obtain⟨_,_,_,ho,_⟩:=hs.map;exact(aH.1 ho).1
def kL(d:Db)(c:List Wt×Sz):Db:={c.1.foldl jk {d with now:=d.now+1}with sk:=c.2.1,sv:=c.2.2.1,sb:=c.2.2.2}
def bH(d:Db)(l:List Wt)(low:Nat):Nat×Nat×Db:=
 bif !(fH none l==0)then(0,fH none l,d)else
 bif l.isEmpty then(d.now,0,d)else
 bif decide (d.lim.last≤d.now)then(0,5,d)else
 bif ri d (bw d l).2 then(d.now+1,0,kL d (bw d l))else
 bif ri (cV d low) (bw (cV d low) l).2 then(d.now+1,0,kL (cV d low) (bw (cV d low) l))else(0,5,cV d low)
theorem TC{h:List Uo}{s o:Nat}{d:Db}{ks:U}{m:Nat}(fl:Nat)(hf:fl≤h.length)(hs:fA h s o d ks)(hk:oV ks d.keys)(hd:Bo d m)(hw:Ir d)(l:List Wt)(hl:l.length≤m)(hm:5000*m<small)(hc:fH none l=0):
  ∃ h' ks',fA h' s o (kL d (bw d l)) ks'∧oV ks' (kL d (bw d l)).keys∧Fr h h' [s,o]∧
  gL bu mT qT pT qO 0 ov (h.length+1) ⟨[(72,.int .i64 0),(0,.ptr s 0),(70,.sl 3 ((bw d l).1.map eY)),(10,.ptr h.length 0),(71,.int .i64 ((bw d l).1.length:Int))],h.set s (.row (dD {d with now:=d.now+1} o ks))++[.row (vA (bw d l).2)],fl⟩
   (gV bu mT qT pT qO (.seq (.region A1) (.seq (.region A2) .ret)) (kE h.length qO (.aZ [.int .u64 ((d.now+1:Nat):Int),.int .i64 0],h',fl))):=by
 obtain⟨hlt,hol⟩:=hs.lt;have hsub:=BC d l;have hle:=hsub.length_le;obtain⟨k1,_,k3⟩:=BB l none hc;have hs1:fA (h.set s (.row (dD {d with now:=d.now+1} o ks))) s o {d with now:=d.now+1} ks:=⟨eX hlt,by rw[dP hs.ne];exact hs.map⟩;have hp:∀ w∈(bw d l).1.drop 0,sA {d with now:=d.now+1} w:=by
  intro w hw';have hwl:w∈l:=hsub.subset (by simpa using hw');obtain⟨a1,a2,_,a4⟩:=k1 w hwl;have:=vR hw w.key;exact⟨by show gG (chain d w.key)<d.now+1;omega,this.1,a4,by unfold small;omega,by omega⟩
 obtain⟨h',ks',f1,f2,f3,f4⟩:=qeS s o h.length fl hf hlt (bw d l).1 (bw d l).2 (d.now+1) (by omega) (by omega) (qk (hsub.map _) (uZ _ k3)) (bw d l).1.length 0 (h.set s (.row (dD {d with now:=d.now+1} o ks))) {d with now:=d.now+1} ks (by omega) (by simp) rfl hs1 hk (Bo.le (m:=m) ⟨hd.keys,hd.uy,hd.len,hd.dat,hd.Gx⟩ (by omega)) hp;exact⟨h',ks',f1,f2,((Fr.refl h [s,o]).set (by simp) _).trans f3,f4⟩
theorem t103{h:List Uo}{s o:Nat}{d:Db}{ks:U}{m:Nat}(fl:Nat)(hf:fl≤h.length)(hs:fA h s o d ks)(hk:oV ks d.keys)(hd:Bo d m)(hw:Ir d)(hz:KO d)(hnow:d.now<small)(l:List Wt)(hl:l.length≤m)(hm:5000*m<small)(hok:∀ w∈l,pI w)(low:Nat):
  ∃ h' ks',G 103 [.ptr s 0,.sl 3 (l.map eY),.int .u64 (low:Int)] h fl=some (.aZ [.int .u64 ((bH d l low).1:Int),.int .i64 ((bH d l low).2.1:Int)],h',fl)∧fA h' s o (bH d l low).2.2 ks'∧oV ks' (bH d l low).2.2.keys∧Fr h h' [s,o]:=by
 obtain⟨hlt,hol⟩:=hs.lt;have hls:l.length<small:=by omega
 have hl0:decide (s<h.length)=true:=decide_eq_true hlt;have hl1:decide (s<h.length+1)=true:=decide_eq_true (by omega);have c0:=t99 fl hf hs.row;have c1:=t57 l hls hok;have c2:=t142 fl hf hs hd.ok hz l hls hok;have hcut:∀ (H x:List Uo),H.length=h.length→cut h.length fl (H++x)=H:=fun H x hH=>by rw[←hH];exact gJ (by rw[hH];exact hf)
 have hcut0:∀ (H:List Uo),H.length=h.length→cut h.length fl H=H:=fun H hH=>by rw[←hH];exact aR (by rw[hH];exact hf)
 unfold bH;cases hc:fH none l==0 with
 |false=>
  refine⟨h,ks,?_,hs,hk,Fr.refl h _⟩;refine bK (fn:=qO) rfl rfl rfl ?_;have hc' :¬(fH none l=0):=by simpa using hc
  have hci:(((fH none l:Nat):Int) !=0)=true:=by simp;omega
  simp[jU,vE,vG,vH,vI,TU,c0,c1,hl0,hcut0,hci,hc']
 |true=>
  have hc' :fH none l=0:=by simpa using hc
  rw[hc']at c1;simp only[xR,cond_false];cases he:l.isEmpty with
  |true=>
   have:l=[]:=by simpa using he
   subst this;refine⟨h,ks,?_,hs,hk,Fr.refl h _⟩;refine bK (fn:=qO) rfl rfl rfl ?_;have hr:=hs.row;simp only[dD]at hr;simp at c1;simp[jU,vE,vG,vH,vI,yG,TV,c0,c1,hl0,hcut0,hr]
  |false=>
   have hr:=hs.row;simp only[dD]at hr;have hln:((l.length:Int)==0)=false:=by
    rw[beq_eq_false_iff_ne];cases l with
    |nil=>cases he
    |cons a b=>simp;omega
   have hln2:¬(l=[]):=fun hh=>by rw[hh]at he;cases he
   cases hls2:decide (d.lim.last≤d.now)with
   |true=>
    refine⟨h,ks,?_,hs,hk,Fr.refl h _⟩;refine bK (fn:=qO) rfl rfl rfl ?_;simp[jU,vE,vG,vH,vI,yG,az A3,tU,TX,c0,c1,hl0,hcut0,hr,hln,hln2,hls2,bF]
   |false=>
    have wn:aK .u64 ((d.now:Int)+1)=((d.now+1:Nat):Int):=Im (n:=d.now+1) (by unfold small at hnow;omega);have hset:∀ X x,(h++x).set s X=h.set s X++x:=fun X x=>mA _ _ hlt;have hss:∀ X:Uo,(h.set s X)[s]? =some X:=fun X=>eX hlt;have hat:∀ X x,(h.set s X++x)[s]? =some X:=fun X x=>aX (hss X);have hcut1:∀ (H:List Uo) (a:Uo) (x:List Uo),H.length=h.length→cut (h.length+1) fl (H++a::x)=H++[a]:=fun H a x hH=>by rw[←hH];exact lS (by rw[hH];exact hf) a x
    have c3:=fun z=>t143 (h:=h++[.row (vA z)]) fl (by simp;omega) hs.app z;simp only[cond_false];cases hft:ri d (bw d l).2 with
    |true=>
     have c3' :=c3 (bw d l).2;rw[hft]at c3';obtain⟨h',ks',f1,f2,f3,f4⟩:=TC fl hf hs hk hd hw l hl hm hc';refine⟨h',ks',?_,f1,f2,f3⟩;refine bK (fn:=qO) rfl rfl rfl ?_;generalize bw d l=cm at*;simp only[dD]at f4;simp only[vA]at c2 c3' f4;simp only[Af]at wn f4;simp[jU,vE,vG,vH,vI,yG,az A3,tU,AU,AV,AW,GR,GS,c0,c1,c2,c3',hl0,hl1,hcut0,hcut1,hr,aX hr,hset,hat,wn,hln,hln2,hls2,bF];simpa using f4
    |false=>
     have c3' :=c3 (bw d l).2;rw[hft]at c3';obtain⟨hC,ksC,d1,d2,d3,d4⟩:=t98 (h:=h++[.row (vA (bw d l).2)]) fl (by simp;omega) hs.app hk hd.ok hz low;obtain⟨h2,rfl,d5⟩:=d4.split (fun i hi=>by simp at hi;rcases hi with rfl|rfl<;>assumption);have hn2:h2.length=h.length:=d5.1;have hs2:fA h2 s o (cV d low) ksC:=d2.Ff (by omega) (by omega);obtain⟨r1,r2,r3,r4,r5,r6⟩:=FM hd hw (by omega) low;have c4:=t142 (h:=h2++[.row (vA (bw d l).2)]) fl (by simp;omega) hs2.app r1.ok r3 l hls hok;have c5:=t143 (h:=h2++[.row (vA (bw (cV d low) l).2)]) fl (by simp;omega) hs2.app (bw (cV d low) l).2;have hsn:∀ (a X:Uo),(h2++[a]).set h.length X=h2++[X]:=fun a X=>by rw[←hn2];exact To h2 [] a X
     have han:∀ (a:Uo),(h2++[a])[h.length]? =some a:=fun a=>by rw[←hn2];exact Rz h2 [] a
     have hr2:=hs2.row;have hset2:∀ X x,(h2++x).set s X=h2.set s X++x:=fun X x=>mA _ _ (by omega);have hss2:∀ X:Uo,(h2.set s X)[s]? =some X:=fun X=>eX (by omega);have hat2:∀ X x,(h2.set s X++x)[s]? =some X:=fun X x=>aX (hss2 X);simp only[dD]at hr2;simp only[cond_false];cases hft2:ri (cV d low) (bw (cV d low) l).2 with
     |false=>
      rw[hft2]at c5;refine⟨h2,ksC,?_,hs2,d3,d5⟩;refine bK (fn:=qO) rfl rfl rfl ?_;generalize bw d l=cm at*;generalize bw (cV d low) l=cm2 at*;simp only[vA]at c2 c3' c4 c5 d1;simp[jU,vE,vG,vH,vI,yG,az A3,tU,AU,AV,GP,GQ,AW,Oq,c0,c1,c2,c3',d1,c4,c5,hsn,han,hn2,hl0,hl1,hcut,hcut0,hcut1,hr,aX hr,hset,hat,wn,hln,hln2,hls2,bF]
     |true=>
      rw[hft2]at c5;obtain⟨h',ks',f1,f2,f3,f4⟩:=TC fl (by omega) hs2 d3 r1 r2 l hl hm hc';refine⟨h',ks',?_,f1,f2,d5.trans f3⟩;refine bK (fn:=qO) rfl rfl rfl ?_;rw[hn2]at f4;generalize bw d l=cm at*;generalize bw (cV d low) l=cm2 at*;generalize cV d low=dd at*;simp only[dD]at f4;simp only[vA]at c2 c3' c4 c5 d1 f4;rw[r5]at f4;simp only[r5]at hr2;simp only[Af]at wn f4;simp[jU,vE,vG,vH,vI,yG,az A3,tU,AU,AV,GP,GQ,AW,GR,GS,c0,c1,c2,c3',d1,c4,c5,hsn,han,hn2,hl0,hl1,hcut,hcut0,hcut1,hr,aX hr,hr2,aX hr2,hset2,hat2,wn,hln,hln2,hls2,bF];simpa using f4
end Go.RE
namespace Go.RE
structure Tx where
 id:Nat
 began:Nat
 start:Nat
 marks:List cU
 cO:List Wt
deriving Inhabited,DecidableEq
structure Don where
 id:Nat
 began:Nat
 at_:Nat
 start:Nat
 stop:Nat
 reads:List cU
 writes:List cU
deriving Inhabited,DecidableEq
def ji(d:Don):List U:=[.int .i64 d.id,.int .u64 d.began,.int .u64 d.at_,.int .i64 d.start,.int .i64 d.stop,.sl 2 (d.reads.map aS),.sl 2 (d.writes.map aS)]
structure Bs where
 db:Db
 live:List Tx
 aj:List Rc
 done:List Don
 last:Nat
 event:Nat
structure Lv where
 tx:Tx
 t:Nat
 p:Nat
deriving Inhabited,DecidableEq
def pq:Mk Wt By:=⟨.str,.str,Wt.key,fun w=> .agg (eY w),zP,fun _=>rfl⟩
def lX:Mk Lv Int:=⟨.int,fun n=> .int .i64 n,fun l=>(l.tx.id:Int),fun l=> .ptr l.t 0,Jv,fun _=>rfl⟩
def mg(t:Tx)(p:Nat):List U:=[.int .i64 t.id,.int .u64 t.began,.int .i64 t.start,.sl 2 (t.marks.map aS),.map p]
def dm(b:Bs)(s m:Nat)(rc dn:U):List U:=
 [.int .i64 b.db.lim.keys,.int .i64 b.db.lim.gW,.int .i64 b.db.lim.bytes,.int .i64 b.db.lim.marks,.int .i64 b.db.lim.records,.int .i64 b.db.lim.live,.int .u64 b.db.lim.last,.ptr s 0,.map m,rc,dn,.int .i64 b.last,.int .i64 b.event]
def ck(i s m o:Nat)(lv:List Lv):List Nat:=i::s::m::o::lv.flatMap fun l=>[l.t,l.p]
structure dI(h:List Uo)(i s m o:Nat)(lv:List Lv)(b:Bs)(rc dn ks:U):Prop where
 row:h[i]? =some (.row (dm b s m rc dn))
 st:fA h s o b.db ks
 map:kQ lX h[m]? lv
 Ra:lv.map (·.tx)=b.live
 tx:∀ l∈lv,h[l.t]? =some (.row (mg l.tx l.p))∧kQ pq h[l.p]? l.tx.cO
 nd:(ck i s m o lv).Nodup
theorem kQ.lt{α κ:Type}[DecidableEq κ]{F:Mk α κ}{h:List Uo}{m:Nat}{l:List α}(hm:kQ F h[m]? l):m<h.length:=by
 obtain⟨_,_,_,ho,_⟩:=hm;exact(aH.1 ho).1
theorem t54{h:List Uo}{i:Nat}{s m:Nat}{b:Bs}{rc dn:U}(fl:Nat)(hf:fl≤h.length)(hr:h[i]? =some (.row (dm b s m rc dn))):G 54 [.ptr i 0] h fl=some (.bool true,h,fl):=by
 refine bK (fn:=v54) rfl rfl rfl ?_;simp only[dm]at hr;simp[Ds,qcm,qcn,hr,aR hf]
theorem t24{h:List Uo}{i s m o:Nat}{b:Bs}{rc dn ks:U}(fl:Nat)(hf:fl≤h.length)(hr:h[i]? =some (.row (dm b s m rc dn)))(hs:h[s]? =some (.row (dD b.db o ks))):G 24 [.ptr i 0] h fl=some (.int .u64 (b.db.now:Int),h,fl):=by
 refine bK (fn:=v24) rfl rfl rfl ?_;have hl:decide (i<h.length)=true:=decide_eq_true (aH.1 hr).1;have c:=t54 fl hf hr;have c2:=t55 fl hf hs;simp only[dm]at hr;simp[Di,qbB,qbC,qbD,c,c2,hl,hr,aR hf]
def dQ(b:Bs):Nat:=b.live.foldl (fun n t=>mn n t.began) b.db.now
theorem SV(a:Nat)(x y:Tx):mn (mn a x.began) y.began=mn (mn a y.began) x.began:=by unfold mn;omega
theorem SS{l l' :List Tx}(h:l.Perm l'):∀ a:Nat,l.foldl (fun n t=>mn n t.began) a=l'.foldl (fun n t=>mn n t.began) a:=by
 induction h with
 |nil=>intro a;rfl
 |cons x _ ih=>intro a;exact ih _
 |swap x y l=>intro a;simp only[mz];rw[SV]
 |trans _ _ ih1 ih2=>intro a;rw[ih1,ih2]
theorem Gt{α κ:Type}[DecidableEq κ]{F:Mk α κ}{lc vis left:List (α×Nat)}{c:Nat}(hc:vO F lc c)(hp:(vis++left).Perm lc)(hall:∀ a∈lc.map (vg F),a.2.2∈vis.map (·.2)):left=[]:=by
 cases left with
 |nil=>rfl
 |cons a r=>
  exfalso;have hnd:((vis++a::r).map (·.2)).Nodup:=(hp.map (·.2)).nodup_iff.2 hc.Jq;rw[mR,DV]at hnd;have ha:a∈lc:=hp.subset (by simp);have:=hall (vg F a) (cD.2 ⟨a,ha,rfl⟩);exact hnd.2.2 a.2 this a.2 (by simp) rfl
theorem pX{α κ:Type}[DecidableEq κ]{F:Mk α κ}{lc vis left:List (α×Nat)}{c:Nat}[DecidableEq α](hc:vO F lc c)(hp:(vis++left).Perm lc){a:U×U×Nat}(ha:a∈lc.map (vg F))(hn:a.2.2 ∉ vis.map (·.2)):
  ∃ x∈lc,a=vg F x∧((vis++[x])++left.erase x).Perm lc∧(left.erase x).length+1=left.length:=by
 obtain⟨x,hx,rfl⟩:=cD.1 ha;have hl:x∈left:=by
  have:=hp.symm.subset hx;rcases eH.1 this with hv|hv
  ·exact absurd (cD.2 ⟨x,hv,rfl⟩) hn
  ·exact hv
 refine⟨x,hx,rfl,?_,?_⟩
 ·refine List.Perm.trans ?_ hp;rw[gD];exact(List.perm_cons_erase hl).symm.append_left vis
 ·have:=List.length_erase_of_mem hl;have:=List.length_pos_of_mem hl;omega
theorem yb{α κ:Type}[DecidableEq κ]{F:Mk α κ}{lc:List (α×Nat)}{c:Nat}(hc:vO F lc c):∀ a∈lc.map (vg F),a.2.2<c:=by
 intro a ha;obtain⟨x,hx,rfl⟩:=cD.1 ha;exact hc.lt x hx
theorem FL{α κ:Type}[DecidableEq κ]{F:Mk α κ}{lc:List (α×Nat)}{c:Nat}(hc:vO F lc c):((lc.map (vg F)).map (·.2.2)).Nodup:=by
 rw[oz];exact hc.Jq
theorem qiG{h:List Uo}{m:Nat}(fl:Nat)(hf:fl≤h.length)(lc:List (Lv×Nat))(c:Nat)(hc:vO lX lc c)(hm:h[m]? =some (.map (lc.map (vg lX)) c))(ht:∀ x∈lc,h[x.1.t]? =some (.row (mg x.1.tx x.1.p)))(K:Ex→Vs→Prop)(now:Nat)
  (hK:∀ vis:List (Lv×Nat),vis.Perm lc→K .normal ⟨[(3,.int .u64 ((vis.foldl (fun n x=>mn n x.1.tx.began) now:Nat):Int))],h++[.iter (some m) c (vis.map (·.2)) c],fl⟩):
  ∀ (j:Nat) (vis left:List (Lv×Nat)),left.length≤j→(vis++left).Perm lc→
  gL bu mT qT pT W7 0 HW (h.length+1) ⟨[(3,.int .u64 ((vis.foldl (fun n x=>mn n x.1.tx.began) now:Nat):Int)),(18,.ptr h.length 0)],h++[.iter (some m) c (vis.map (·.2)) c],fl⟩ K:=by
 intro j
 induction j with
 |zero=>
  intro vis left hj hp;obtain rfl:left=[]:=fT (by omega);rw[DU]at hp;rw[ai HW.eq_1];simp[W8];refine pR rfl hm (yb hc) (fun _=> ?_) (fun a ha hn=> ?_)
  ·have:=hK vis hp;simpa[lS hf]using this
  ·obtain⟨x,hx,rfl,_,h3⟩:=pX (left:=[]) hc (by simpa using hp) ha hn;simp at h3
 |succ j ih=>
  intro vis left hj hp;rw[ai HW.eq_1];simp[W8];refine pR rfl hm (yb hc) (fun hall=> ?_) (fun a ha hn=> ?_)
  ·have:=Gt hc hp hall;subst this;rw[DU]at hp;have:=hK vis hp;simpa[lS hf]using this
  ·obtain⟨x,hx,rfl,h2,h3⟩:=pX hc hp ha hn;have ih' :=ih (vis++[x]) (left.erase x) (by omega) h2;have htx:=ht x hx;have hent:∀ ev:Env,nC ⟨ev,h++[.iter (some m) c (vis.map (·.2)++[x.2]) c],fl⟩ h.length=some (.aZ [.int .i64 (x.1.tx.id:Int),.ptr x.1.t 0]):=fun ev=>ye hm (FL hc) ha;simp only[mg]at htx;simp[mR,List.foldl_append]at ih';simp[vg,lX,qbO,qbP,hent,aX htx,lS hf];exact ih'
theorem Zw(vis:List (Lv×Nat))(a:Nat):vis.foldl (fun n x=>mn n x.1.tx.began) a=(vis.map (·.1.tx)).foldl (fun n t=>mn n t.began) a:=by
 rw[List.foldl_map]
theorem dI.lc{h:List Uo}{i s m o:Nat}{lv:List Lv}{b:Bs}{rc dn ks:U}(hb:dI h i s m o lv b rc dn ks):∃ (lc:List (Lv×Nat)) (c:Nat),lc.map (·.1)=lv∧h[m]? =some (.map (lc.map (vg lX)) c)∧vO lX lc c∧(∀ x∈lc,h[x.1.t]? =some (.row (mg x.1.tx x.1.p)))∧lc.map (·.1.tx)=b.live:=by
 obtain⟨lc,c,e1,e2,e3⟩:=hb.map;refine⟨lc,c,e1,e2,e3,fun x hx=>(hb.tx x.1 (by rw[←e1];exact cD.2 ⟨x,hx,rfl⟩)).1,?_⟩;rw[←hb.Ra,←e1,oz];rfl
theorem t27{h:List Uo}{i s m o:Nat}{lv:List Lv}{b:Bs}{rc dn ks:U}(fl:Nat)(hf:fl≤h.length)(hb:dI h i s m o lv b rc dn ks):G 27 [.ptr i 0] h fl=some (.int .u64 (dQ b:Int),h,fl):=by
 refine bK (fn:=W7) rfl rfl rfl ?_;obtain⟨lc,c,e1,e2,e3,e4,e5⟩:=hb.lc;have hl:decide (i<h.length)=true:=decide_eq_true (aH.1 hb.row).1;have c1:=t54 fl hf hb.row;have c2:=t55 fl hf hb.st.row;have hr:=hb.row;have a:=qiG fl hf lc c e3 e2 e4 (gV bu mT qT pT W7 (.seq (.region W9) .ret) (kE h.length W7 (.int .u64 (dQ b:Int),h,fl))) b.db.now (fun vis hv=>by
  have:vis.foldl (fun n x=>mn n x.1.tx.began) b.db.now=dQ b:=by
   rw[Zw,SS (hv.map (·.1.tx)),e5];rfl
  rw[this];simp[W9,uW hf]) lc.length [] lc (ak _) (by simp)
 simp only[dm]at hr;simp at a;simp[Dk,qbK,qbL,qbM,qbN,c1,c2,hl,hr,e2,aR hf,lS hf];exact a
def kW:Option Lv→U
 |some l=> .aZ [.ptr l.t 0,.int .i64 0]
 |none=> .aZ [.br,.int .i64 4]
theorem t56{h:List Uo}{i s m o:Nat}{lv:List Lv}{b:Bs}{rc dn ks:U}(fl:Nat)(hf:fl≤h.length)(hb:dI h i s m o lv b rc dn ks)(id:Int):G 56 [.ptr i 0,.int .i64 id] h fl=some (kW (fW lX id lv),h,fl):=by
 refine bK (fn:=v56) rfl rfl rfl ?_;have hl:decide (i<h.length)=true:=decide_eq_true (aH.1 hb.row).1;have c1:=t54 fl hf hb.row;have hr:=hb.row;have hlk:∀ e,fQ ⟨e,h,fl⟩ .int .br false (.map m) (.int .i64 id)=some (match fW lX id lv with|some l=> .ptr l.t 0|none=> .br):=fun e=>by
  have:=nS lX (s:=⟨e,h,fl⟩) (m:=m) hb.map .br id false;refine this.trans ?_;cases fW lX id lv<;>rfl
 have hz:V.GG .br=some .br:=rfl;simp only[dm]at hr;cases hlv:fW lX id lv with
 |none=>
  rw[hlv]at hlk;simp only at hlk;simp[xE,Xu,Xv,Xw,Xx,qcr,c1,hl,hr,hlk,hz,aR hf,kW]
 |some l=>
  rw[hlv]at hlk;simp only at hlk;have hlt:decide (l.t<h.length)=true:=decide_eq_true (aH.1 (hb.tx l (lM lX hlv)).1).1;simp[xE,Xu,Xv,Xw,Xx,qcs,c1,hl,hr,hlk,hz,aR hf,kW,hlt]
def eO(b:Bs)(t:Tx)(sp:cU):Tx:={t with marks:=uY (FI t.marks sp) b.db.lim.marks}
theorem t75{h:List Uo}{i s m t p:Nat}{b:Bs}{tx:Tx}{rc dn:U}(fl:Nat)(hf:fl≤h.length)(hr:h[i]? =some (.row (dm b s m rc dn)))(ht:h[t]? =some (.row (mg tx p)))(hm:tx.marks.length<small / 8)(hlm:b.db.lim.marks<small)(sp:cU):
  G 75 [.ptr i 0,.ptr t 0,.agg (aS sp)] h fl=some (.aZ [],h.set t (.row (mg (eO b tx sp) p)),fl):=by
 refine bK (fn:=v75) rfl rfl rfl ?_;have hlt:=(aH.1 ht).1;have hal:=jT tx.marks [sp];have c1:=t112 tx.marks sp (by unfold small at*;omega);have c2:=t101 (FI tx.marks sp) b.db.lim.marks (by unfold FI;simp at hal;unfold small at*;omega) hlm;have hset:∀ X x,(h++x).set t X=h.set t X++x:=fun X x=>mA _ _ hlt;have hcut:∀ (X:Uo) (x:List Uo),cut h.length fl (h.set t X++x)=h.set t X:=fun X x=>by
  have:=gJ (fl:=fl) (h:=h.set t X) (l:=x) (by simpa using hf);simpa using this
 simp only[dm]at hr;simp only[mg]at ht;simp only[aS]at c1;simp[DC,qcG,az qfA,XP,aS,aX hr,aX ht,c1,c2,hset,hcut,mg,eO,bF]
end Go.RE
namespace Go.RE
def An(t:Tx)(lv:List Lv):List Lv:=lv.map fun l=>if l.tx.id=t.id then {l with tx:=t}else l
def aY(b:Bs)(t:Tx):Bs:={b with live:=b.live.map fun x=>if x.id=t.id then t else x}
theorem nH(i s m o:Nat)(t:Tx)(lv:List Lv):ck i s m o (An t lv)=ck i s m o lv:=by
 unfold ck An;congr 4;rw[List.flatMap_map];congr 1;funext l;by_cases h:l.tx.id=t.id<;>simp[h]
theorem kQ.map{α κ:Type}[DecidableEq κ]{F:Mk α κ}{o:Option Uo}{l:List α}(h:kQ F o l)(g:α→α)(hk:∀ a∈l,F.key (g a)=F.key a)(hv:∀ a∈l,F.val (g a)=F.val a):kQ F o (l.map g):=by
 obtain⟨lc,c,rfl,ho,hc⟩:=h;have hk' :∀ x∈lc,F.key (g x.1)=F.key x.1:=fun x hx=>hk _ (cD.2 ⟨x,hx,rfl⟩);have hv' :∀ x∈lc,F.val (g x.1)=F.val x.1:=fun x hx=>hv _ (cD.2 ⟨x,hx,rfl⟩);refine⟨lc.map fun x=>(g x.1,x.2),c,by simp[oz],?_,?_,?_,?_⟩
 ·rw[ho,oz];congr 2;refine KE fun x hx=> ?_;simp only[vg,Function.comp,hk' x hx,hv' x hx]
 ·rw[oz];exact hc.Jq
 ·intro x hx;obtain⟨y,hy,rfl⟩:=cD.1 hx;exact hc.lt y hy
 ·rw[oz];have:(lc.map ((fun x:α×Nat=>F.key x.1)∘fun x=>(g x.1,x.2)))=lc.map fun x=>F.key x.1:=KE fun x hx=>hk' x hx;rw[this];exact hc.keys
theorem dI.ids{h:List Uo}{i s m o:Nat}{lv:List Lv}{b:Bs}{rc dn ks:U}(hb:dI h i s m o lv b rc dn ks):(lv.map (·.tx.id)).Nodup:=by
 obtain⟨lc,c,e1,_,e3⟩:=hb.map;have hk:=e3.keys;rw[←e1,oz];have:(lc.map fun x=>lX.key x.1)=(lc.map ((fun l:Lv=>l.tx.id)∘fun x=>x.1)).map (fun n:Nat=>(n:Int)):=by rw[oz];rfl
 rw[this]at hk;exact List.Pairwise.of_map _ (fun a b hab hh=>hab (by rw[hh])) hk
theorem S1{lv:List Lv}(h:(lv.map (·.tx.id)).Nodup){a b:Lv}(ha:a∈lv)(hb:b∈lv)(he:a.tx.id=b.tx.id):a=b:=by
 induction lv with
 |nil=>cases ha
 |cons c r ih=>
  simp only[ct,ql]at h;rcases bT.1 ha with rfl|ha2<;>rcases bT.1 hb with rfl|hb2
  ·rfl
  ·exact absurd (cD.2 ⟨b,hb2,he.symm⟩) h.1
  ·exact absurd (cD.2 ⟨a,ha2,he⟩) h.1
  ·exact ih h.2 ha2 hb2
theorem Zv{lv:List Lv}(h:(lv.flatMap fun l=>[l.t,l.p]).Nodup){a b:Lv}(ha:a∈lv)(hb:b∈lv)(hne:a≠b):a.t≠b.t∧a.t≠b.p∧a.p≠b.t∧a.p≠b.p:=by
 induction lv with
 |nil=>cases ha
 |cons c r ih=>
  simp only[KF,DS,jZ,ql,bT,rD,not_or,not_exists,not_and]at h;obtain⟨⟨h0,h1⟩,h2,h3⟩:=h;rcases bT.1 ha with rfl|ha2<;>rcases bT.1 hb with rfl|hb2
  ·exact absurd rfl hne
  ·have a1:=h1 b hb2;have a2:=h2 b hb2;simp at a1 a2;exact⟨a1.1,a1.2,a2.1,a2.2⟩
  ·have a1:=h1 a ha2;have a2:=h2 a ha2;simp at a1 a2;exact⟨fun hh=>a1.1 hh.symm,fun hh=>a2.1 hh.symm,fun hh=>a1.2 hh.symm,fun hh=>a2.2 hh.symm⟩
  ·exact ih h3 ha2 hb2
structure qke(i s m o:Nat)(l:Lv):Prop where
 ti:l.t≠i
 ts:l.t≠s
 tm:l.t≠m
 tO:l.t≠o
 pi:l.p≠i
 ps:l.p≠s
 pm:l.p≠m
 pO:l.p≠o
 tp:l.t≠l.p
theorem dI.ne{h:List Uo}{i s m o:Nat}{lv:List Lv}{b:Bs}{rc dn ks:U}(hb:dI h i s m o lv b rc dn ks):i≠s∧i≠m∧i≠o∧s≠m∧s≠o∧m≠o∧(∀ l∈lv,qke i s m o l)∧∀ a∈lv,∀ c∈lv,a≠c→a.t≠c.t∧a.t≠c.p∧a.p≠c.t∧a.p≠c.p:=by
 have h:=hb.nd;unfold ck at h;simp only[ql,bT,rD,not_or,not_exists,not_and,fu,or_false]at h;obtain⟨⟨a1,a2,a3,a4⟩,⟨b1,b2,b3⟩,⟨c1,c2⟩,d1,e1⟩:=h;refine⟨a1,a2,a3,b1,b2,c1,fun l hl=> ?_,fun a ha c hc hne=>Zv e1 ha hc hne⟩;have x1:=a4 l hl;have x2:=b3 l hl;have x3:=c2 l hl;have x4:=d1 l hl;have x5:l.t≠l.p:=by
  have:[l.t,l.p].Sublist (lv.flatMap fun l=>[l.t,l.p]):=by
   clear e1 x1 x2 x3 x4 a4 b3 c2 d1 hb
   induction lv with
   |nil=>cases hl
   |cons c r ih=>
    simp only[KF];rcases bT.1 hl with rfl|hl
    ·exact List.sublist_append_left _ _
    ·exact(ih hl).trans (qc5 _ _)
  have:=qk this e1;simp at this;exact this
 exact⟨fun hh=>x1.1 hh.symm,fun hh=>x2.1 hh.symm,fun hh=>x3.1 hh.symm,fun hh=>x4.1 hh.symm,fun hh=>x1.2 hh.symm,fun hh=>x2.2 hh.symm,fun hh=>x3.2 hh.symm,fun hh=>x4.2 hh.symm,x5⟩
theorem fA.same{h h' :List Uo}{s o:Nat}{d:Db}{ks:U}(hs:fA h s o d ks)(h1:h'[s]? =h[s]?)(h2:h'[o]? =h[o]?):fA h' s o d ks:=
 ⟨by rw[h1];exact hs.row,by rw[h2];exact hs.map⟩
theorem dI.fK{h:List Uo}{i s m o:Nat}{lv:List Lv}{b:Bs}{rc dn ks:U}(hb:dI h i s m o lv b rc dn ks){l:Lv}(hl:l∈lv)(t:Tx)(hid:t.id=l.tx.id)(h2:List Uo)
  (hfr:∀ j,j≠l.t→j≠l.p→h2[j]? =h[j]?) (h3:h2[l.t]? =some (.row (mg t l.p))) (h4:kQ pq h2[l.p]? t.cO):dI h2 i s m o (An t lv) (aY b t) rc dn ks:=by
 obtain⟨_,_,_,_,_,_,hft,hpp⟩:=hb.ne;have f:=hft l hl;refine⟨by rw[hfr i (cc f.ti) (cc f.pi)];exact hb.row,hb.st.same (hfr s (cc f.ts) (cc f.ps)) (hfr o (cc f.tO) (cc f.pO)),?_,?_,fun x hx=> ?_,by rw[nH];exact hb.nd⟩
 ·rw[hfr m (cc f.tm) (cc f.pm)];refine hb.map.map _ (fun a ha=> ?_) (fun a ha=> ?_)
  ·by_cases hq:a.tx.id=t.id
   ·simp only[hq,if_true];show((t.id:Nat):Int)=(a.tx.id:Int);rw[hq]
   ·simp only[hq,if_false]
  ·by_cases hq:a.tx.id=t.id
   ·simp only[hq,if_true];rfl
   ·simp only[hq,if_false]
 ·show(An t lv).map (·.tx)=b.live.map fun x=>if x.id=t.id then t else x
  rw[←hb.Ra,An,oz,oz];refine KE fun a ha=> ?_;by_cases hq:a.tx.id=t.id<;>simp[Function.comp,hq]
 ·obtain⟨a,ha,rfl⟩:=cD.1 hx;by_cases hq:a.tx.id=t.id
  ·have:a=l:=S1 hb.ids ha hl (by rw[hq,hid]);subst this;simp only[hq,if_true];exact⟨h3,h4⟩
  ·simp only[hq,if_false];have hne:a≠l:=fun hh=>hq (by rw[hh,hid]);obtain⟨n1,n2,n3,n4⟩:=hpp a ha l hl hne;rw[hfr a.t n1 n2,hfr a.p n3 n4];exact hb.tx a ha
structure qc9(b:Bs)(n:Nat):Prop where
 db:pG b.db
 lim:b.db.lim.marks<small∧b.db.lim.records<small∧b.db.lim.live<small
 marks:∀ t∈b.live,t.marks.length+n<small / 16
 cO:∀ t∈b.live,t.cO.length+n<small / 16
 wt:∀ t∈b.live,∀ w∈t.cO,pI w
 live:b.live.length<small
 Jq:b.db.keys.Nodup
 kl:b.db.keys.length<small / 2
theorem dI.mem{h:List Uo}{i s m o:Nat}{lv:List Lv}{b:Bs}{rc dn ks:U}(hb:dI h i s m o lv b rc dn ks){l:Lv}(hl:l∈lv):l.tx∈b.live:=by
 rw[←hb.Ra];exact cD.2 ⟨l,hl,rfl⟩
def mW(b:Bs)(id:Int):Option Tx:=b.live.find? fun t=>decide ((t.id:Int)=id)
theorem dI.find{h:List Uo}{i s m o:Nat}{lv:List Lv}{b:Bs}{rc dn ks:U}(hb:dI h i s m o lv b rc dn ks)(id:Int):mW b id=(fW lX id lv).map (·.tx):=by
 unfold mW;rw[←hb.Ra,List.find?_map];rfl
def yu(k:By):cU:=(k,k++[0])
def jt(b:Bs)(id:Int)(k:By):(U×Bs):=match mW b id with
 |none=>(.aZ [.sl 1 [],.bool false,.int .i64 4],b)
 |some t=>match fW pq k t.cO with
  |some w=>(.aZ [.sl 1 (bM w.data),.bool (!w.gone),.int .i64 0],b)
  |none=>(.aZ [.sl 1 (bM ((jI (chain b.db k) t.began).getD [])),.bool (jI (chain b.db k) t.began).isSome,.int .i64 0],aY b (eO b t (yu k)))
theorem t36{h:List Uo}{i s m o:Nat}{lv:List Lv}{b:Bs}{rc dn ks:U}(fl:Nat)(hf:fl≤h.length)(hb:dI h i s m o lv b rc dn ks){n:Nat}(hk:qc9 b n)(id:Int)(k:By)(hkl:k.length<small):
  ∃ h' lv',G 36 [.ptr i 0,.int .i64 id,.str k] h fl=some ((jt b id k).1,h',fl)∧dI h' i s m o lv' (jt b id k).2 rc dn ks∧Fr h h' (ck i s m o lv)∧ck i s m o lv' =ck i s m o lv:=by
 have hl:decide (i<h.length)=true:=decide_eq_true (aH.1 hb.row).1;have c1:=t56 fl hf hb id;unfold jt;rw[hb.find];cases hlv:fW lX id lv with
 |none=>
  rw[hlv]at c1;simp only[kW]at c1;refine⟨h,lv,?_,hb,Fr.refl h _,rfl⟩;refine bK (fn:=v36) rfl rfl rfl ?_;simp[sN,Pb,Pc,Pd,qbQ,c1,hl,aR hf]
 |some l=>
  rw[hlv]at c1;simp only[kW]at c1;have hlm:=lM lX hlv;have hle:=NU lX hlv;obtain⟨x1,x2⟩:=hb.tx l hlm;have hlt:=(aH.1 x1).1;have hlt' :decide (l.t<h.length)=true:=decide_eq_true hlt;have hpl:=x2.lt;simp only[kP];have hlk:∀ e,fQ ⟨e,h,fl⟩ .str (.agg [.str [],.bool false,.sl 1 []]) true (.map l.p) (.str k)=some (match fW pq k l.tx.cO with|some w=> .aZ [.agg (eY w),.bool true]|none=> .aZ [.agg [.str [],.bool false,.sl 1 []],.bool false]):=fun e=>by
   have:=nS pq (s:=⟨e,h,fl⟩) (m:=l.p) x2 (.agg [.str [],.bool false,.sl 1 []]) k true;refine this.trans ?_;cases fW pq k l.tx.cO<;>rfl
  have hz:V.GG (.agg [.str [],.bool false,.ah [] 0 0 1])=some (.agg [.str [],.bool false,.sl 1 []]):=rfl;have x1' :=x1;simp only[mg]at x1';cases hw:fW pq k l.tx.cO with
  |some w=>
   rw[hw]at hlk;simp only[eY]at hlk;refine⟨h,lv,?_,hb,Fr.refl h _,rfl⟩;refine bK (fn:=v36) rfl rfl rfl ?_;have c2:=iw (f:=58) rfl (w:=1) (xs:=bM w.data) [] 0 (by rw[kS];exact(hk.wt l.tx (hb.mem hlm) w (lM pq hw)).2) (by simp);simp[sN,Pb,Pc,Pd,Xa,Xb,az qft,Xc,c1,c2,hl,hlt',x1',hlk,hz,aR hf,uW hf,bF]
  |none=>
   rw[hw]at hlk;simp only at hlk;have hml:=hk.marks l.tx (hb.mem hlm);have hmarks:l.tx.marks.length<small / 8:=by unfold small at*;omega
   have hnx:∀ X:Uo,Fr h (h.set l.t X) (ck i s m o lv):=fun X=>(Fr.refl h _).set (by unfold ck;simp only[bT,rD];right;right;right;right;exact⟨l,hlm,by simp⟩) X;have hbu:dI (h.set l.t (.row (mg (eO b l.tx (yu k)) l.p))) i s m o (An (eO b l.tx (yu k)) lv) (aY b (eO b l.tx (yu k))) rc dn ks:=
    hb.fK hlm (eO b l.tx (yu k)) rfl _ (fun j hj _=>dP (cc hj)) (eX hlt) (by
     obtain⟨_,_,_,_,_,_,hft,_⟩:=hb.ne;rw[dP (hft l hlm).tp];exact x2)
   refine⟨_,_,?_,hbu,hnx _,nH _ _ _ _ _ _⟩;refine bK (fn:=v36) rfl rfl rfl ?_;have hset:∀ X x,(h++x).set l.t X=h.set l.t X++x:=fun X x=>mA _ _ hlt;have c2:=t76 k hkl;have c3:=t75 (h:=h++[.row [.str [],.bool false,.sl 1 []]]) fl (by simp;omega) (aX hb.row) (aX x1) hmarks hk.lim.1 (yu k);rw[hset]at c3;have c4:=t77 (h:=h.set l.t (.row (mg (eO b l.tx (yu k)) l.p))++[.row [.str [],.bool false,.sl 1 []]]) fl (by simp;omega) hbu.st.app hk.db k l.tx.began;have hr2:∀ x,(h.set l.t (.row (mg (eO b l.tx (yu k)) l.p))++x)[i]? =some (.row (dm b s m rc dn)):=fun x=>by
    have:=hbu.row;exact aX this
   have ht2:∀ x,(h.set l.t (.row (mg (eO b l.tx (yu k)) l.p))++x)[l.t]? =some (.row (mg (eO b l.tx (yu k)) l.p)):=fun x=>aX (eX hlt);have hl1:decide (i<h.length+1)=true:=decide_eq_true (by have:=of_decide_eq_true hl;omega);have hcut:∀ (X:Uo) (x:List Uo),cut h.length fl (h.set l.t X++x)=h.set l.t X:=fun X x=>by
    have:=gJ (fl:=fl) (h:=h.set l.t X) (l:=x) (by simpa using hf);simpa using this
   have hcut1:∀ (X a:Uo) (x:List Uo),cut (h.length+1) fl (h.set l.t X++a::x)=h.set l.t X++[a]:=fun X a x=>by
    have:=lS (fl:=fl) (h:=h.set l.t X) (by simpa using hf) a x;simpa using this
   have ht2' :∀ x,(h.set l.t (.row (mg (eO b l.tx (yu k)) l.p))++x)[l.t]? =some (.row [.int .i64 l.tx.id,.int .u64 l.tx.began,.int .i64 l.tx.start,.sl 2 ((eO b l.tx (yu k)).marks.map aS),.map l.p]):=ht2;clear ht2;generalize hY:Uo.row (mg (eO b l.tx (yu k)) l.p)=Y at*;simp only[uA,aY]at c4;simp only[yu]at c3;simp only[aS,yu,dm]at c2 c3 hr2;simp[sN,Pb,Pc,Pd,Xa,Xb,qbS,az qfu,M7,qbU,c1,c2,c3,c4,hl,hl1,hlt',x1',hlk,hz,hr2,ht2',hcut,bF]
end Go.RE
namespace Go.RE
section
variable{α:Type}(key:α→By)
def dZ(a:α):List α→List α
 |[]=>[a]
 |b::l=>bif lt (key b) (key a)then b::dZ a l else a::b::l
def eD(l:List α):List α:=l.foldr (dZ key) []
theorem Ln{a b:α}(h:key a≠key b):∀ l,dZ key a (dZ key b l)=dZ key b (dZ key a l):=by
 have two:∀ l,(bif lt (key b) (key a)then b::a::l else a::b::l)=(bif lt (key a) (key b)then a::b::l else b::a::l):=by
  intro l;rcases ym (key a) (key b)with h1|h1|h1
  ·rw[show lt (key a) (key b)=true from h1,show lt (key b) (key a)=false from ve h1];rfl
  ·exact absurd h1 h
  ·rw[show lt (key b) (key a)=true from h1,show lt (key a) (key b)=false from ve h1];rfl
 intro l
 induction l with
 |nil=>simp only[dZ];exact two []
 |cons x l ih=>
  cases h1:lt (key x) (key a)with
  |true=>
   cases h2:lt (key x) (key b)with
   |true=>simp only[dZ,h1,h2,cond_true,ih]
   |false=>
    have h3:lt (key b) (key a)=true:=by
     rcases ym (key b) (key x)with h|h|h
     ·exact EP h h1
     ·rw[h];exact h1
     ·rw[show lt (key x) (key b)=true from h]at h2;cases h2
    have h4:lt (key a) (key b)=false:=ve h3;simp only[dZ,h1,h2,h3,h4,cond_true,cond_false]
  |false=>
   cases h2:lt (key x) (key b)with
   |true=>
    have h3:lt (key a) (key b)=true:=by
     rcases ym (key a) (key x)with h|h|h
     ·exact EP h h2
     ·rw[h];exact h2
     ·rw[show lt (key x) (key a)=true from h]at h1;cases h1
    have h4:lt (key b) (key a)=false:=ve h3;simp only[dZ,h1,h2,h3,h4,cond_true,cond_false]
   |false=>
    simp only[dZ,h1,h2,cond_false];have:=two (x::l);cases h3:lt (key b) (key a)with
    |true=>rw[h3]at this;cases h4:lt (key a) (key b)with
     |true=>rw[show lt (key a) (key b)=false from ve h3]at h4;cases h4
     |false=>simp only[dZ,h3,h4,h1,h2,cond_true,cond_false]
    |false=>
     rw[h3]at this;cases h4:lt (key a) (key b)with
     |true=>simp only[dZ,h3,h4,h1,h2,cond_true,cond_false]
     |false=>
      rcases ym (key a) (key b)with h|h' |h
      ·rw[show lt (key a) (key b)=true from h]at h4;cases h4
      ·exact absurd h' h
      ·rw[show lt (key b) (key a)=true from h]at h3;cases h3
theorem zU{l l' :List α}(h:l.Perm l'):(l.map key).Nodup→eD key l=eD key l' :=by
 induction h with
 |nil=>intro _;rfl
 |cons x _ ih=>
  intro hn;simp only[ct,ql]at hn;show dZ key x (eD key _)=dZ key x (eD key _);rw[ih hn.2]
 |swap x y l=>
  intro hn;simp only[ct,ql,bT,not_or]at hn;exact Ln key hn.1.1 _
 |trans h1 _ ih1 ih2=>
  intro hn;rw[ih1 hn,ih2 ((h1.map key).nodup_iff.1 hn)]
theorem EL(a:α):∀ l,(dZ key a l).length=l.length+1
 |[]=>rfl
 |b::l=>by
  unfold dZ;cases lt (key b) (key a)with
  |true=>simp only[cond_true,fV,EL a l]
  |false=>rfl
theorem lE:∀ l:List α,(eD key l).length=l.length
 |[]=>rfl
 |a::l=>by show(dZ key a (eD key l)).length=_;rw[EL,lE l];rfl
theorem BZ(a:α):∀ l,(dZ key a l).Perm (a::l)
 |[]=> .refl _
 |b::l=>by
  unfold dZ;cases lt (key b) (key a)with
  |true=>exact((BZ a l).cons b).trans (.swap a b l)
  |false=>exact .refl _
theorem mc:∀ l:List α,(eD key l).Perm l
 |[]=> .refl _
 |a::l=>(BZ key a _).trans ((mc l).cons a)
variable(f:α→List U)(hf:∀ a,qH (f a)=some (key a))
include hf
theorem Lu(l:List α):k9 (l.map f)=some (l.map key):=by
 induction l with
 |nil=>rfl
 |cons a l ih=>show(match qH (f a),k9 (l.map f)with|some k,some l=>some (k::l)|_,_=>none)=_;rw[hf,ih];rfl
theorem SD(a:α)(l:List α):I7 (f a) (l.map f)=(dZ key a l).map f:=by
 induction l with
 |nil=>rfl
 |cons b l ih=>
  have e:N9 (f b) (f a)=lt (key b) (key a):=by simp only[N9,hf]
  simp only[ct,I7,dZ,e];cases lt (key b) (key a)with
  |true=>simp only[cond_true,ct,ih]
  |false=>rfl
theorem Q5(l:List α):JT (l.map f)=(eD key l).map f:=by
 induction l with
 |nil=>rfl
 |cons a l ih=>
  show I7 (f a) (JT (l.map f))=(dZ key a (eD key l)).map f;rw[ih,SD key f hf]
theorem E6(k c:Nat)(hr:∀ a,k7 k (f a)=true)(l:List α)(hn:(l.map key).Nodup)(hl:l.length<small):pz k c (l.map f) [.func c [] []]=some ((eD key l).map f):=by
 have h2:(l.map f).all (k7 k)=true:=by rw[PV,fF];intro a _;exact hr a
 have h1:Nat.blt (l.map f).length 4611686018427387904=true:=by
  simp only[oS];exact jA (by unfold small at hl;omega)
 simp only[pz,fq,h1,h2,jh,cond_true,Lu key f hf,if_pos hn,Q5 key f hf]
end
def rG(t:Tx):List Wt:=eD Wt.key t.cO
theorem qiR{h:List Uo}{m:Nat}(fl:Nat)(hf:fl≤h.length)(lc:List (Wt×Nat))(c:Nat)(hc:vO pq lc c)(hm:h[m]? =some (.map (lc.map (vg pq)) c))(hlc:lc.length<small)(K:Ex→Vs→Prop)
  (hK:∀ vis:List (Wt×Nat),vis.Perm lc→K .normal ⟨[(3,.own (.t 3) 3 (vis.map fun x=>eY x.1))],h++[.iter (some m) c (vis.map (·.2)) c],fl⟩):
  ∀ (j:Nat) (vis left:List (Wt×Nat)),left.length≤j→(vis++left).Perm lc→
  gL bu mT qT pT v79 0 Ih (h.length+1) ⟨[(3,.own (.t 3) 3 (vis.map fun x=>eY x.1)),(10,.ptr h.length 0)],h++[.iter (some m) c (vis.map (·.2)) c],fl⟩ K:=by
 intro j
 induction j with
 |zero=>
  intro vis left hj hp;obtain rfl:left=[]:=fT (by omega);rw[DU]at hp;rw[ai Ih.eq_1];simp[XQ];refine pR rfl hm (yb hc) (fun _=> ?_) (fun a ha hn=> ?_)
  ·have:=hK vis hp;simpa[lS hf]using this
  ·obtain⟨x,hx,rfl,_,h3⟩:=pX (left:=[]) hc (by simpa using hp) ha hn;simp at h3
 |succ j ih=>
  intro vis left hj hp;rw[ai Ih.eq_1];simp[XQ];refine pR rfl hm (yb hc) (fun hall=> ?_) (fun a ha hn=> ?_)
  ·have:=Gt hc hp hall;subst this;rw[DU]at hp;have:=hK vis hp;simpa[lS hf]using this
  ·obtain⟨x,hx,rfl,h2,h3⟩:=pX hc hp ha hn;have ih' :=ih (vis++[x]) (left.erase x) (by omega) h2;have hvl:vis.length<small:=by have:=hp.length_eq;simp at this;omega
   have b1:(vis.length+1)*48≤bl∧vis.length+1≤bl:=by unfold small at hvl;unfold bl;omega
   have hent:∀ ev:Env,nC ⟨ev,h++[.iter (some m) c (vis.map (·.2)++[x.2]) c],fl⟩ h.length=some (.aZ [.str x.1.key,.agg (eY x.1)]):=fun ev=>ye hm (FL hc) ha;simp[mR,eY]at ih';simp only[eY]at hent;simp[vg,pq,qcR,qcS,hent,eY,b1,lS hf];exact ih'
theorem t79{h:List Uo}{t p:Nat}{tx:Tx}(fl:Nat)(hf:fl≤h.length)(ht:h[t]? =some (.row (mg tx p)))(hp:kQ pq h[p]? tx.cO)(hpl:tx.cO.length<small):G 79 [.ptr t 0] h fl=some (.own .r 3 ((rG tx).map eY),h,fl):=by
 refine bK (fn:=v79) rfl rfl rfl ?_;obtain⟨lc,c,e1,e2,e3⟩:=hp;have hl:decide (t<h.length)=true:=decide_eq_true (aH.1 ht).1;have hll0:lc.length=tx.cO.length:=by rw[←e1];simp
 have hll:lc.length<small:=by omega
 have a:=qiR fl hf lc c e3 e2 hll (gV bu mT qT pT v79 (.seq (.region XR) (.seq (.region XS) .ret)) (kE h.length v79 (.own .r 3 ((rG tx).map eY),h,fl))) (fun vis hv=>by
  have hnk:((vis.map (·.1)).map Wt.key).Nodup:=by
   rw[oz];exact(hv.map _).nodup_iff.2 e3.keys
  have hs:eD Wt.key (vis.map (·.1))=rG tx:=by
   unfold rG;rw[←e1];exact zU Wt.key (hv.map _) hnk
  have hq:pz 3 116 (vis.map fun x=>eY x.1) [.func 116 [] []]=some ((rG tx).map eY):=by
   have e:(vis.map fun x=>eY x.1)=(vis.map (·.1)).map eY:=by rw[oz];rfl
   have hvl:=hv.length_eq;rw[e,E6 Wt.key eY (fun _=>rfl) 3 116 (fun _=>rfl) _ hnk (by simp;omega),hs]
  simp[XR,XS,hq,uW hf]) lc.length [] lc (ak _) (by simp)
 simp only[mg]at ht;simp at a;simp[DG,qcO,qcP,qcQ,hl,ht,e2,aR hf,lS hf];exact a
end Go.RE
namespace Go.RE
theorem Lo{α:Type}(key:α→By){a:α}:∀ {l:List α},(∀ x∈l,lt (key x) (key a)=false)→dZ key a l=a::l
 |[],_=>rfl
 |b::l,h=>by
  unfold dZ;rw[h b (.head _)];rfl
theorem uI{α:Type}(key:α→By):∀ {l:List α},l.Pairwise (fun a b=>lt (key b) (key a)=false)→eD key l=l
 |[],_=>rfl
 |a::l,h=>by
  rw[PI]at h;show dZ key a (eD key l)=a::l;rw[uI key h.2];exact Lo key h.1
theorem JV{α:Type}(key:α→By){l l' :List α}(hp:l.Perm l')(hs:l'.Pairwise (fun a b=>lt (key b) (key a)=false))(hn:(l.map key).Nodup):l' =eD key l:=by
 rw[zU key hp hn,uI key hs]
end Go.RE
namespace Go.RE
open Go Go.Proofs Go.Sort Go.Lib Go.RowKit
inductive uR{α β:Type}(R:α→β→Prop):List α→List β→Prop
 |nil:uR R [] []
 |cons {a b l m} (h:R a b) (t:uR R l m):uR R (a::l) (b::m)
theorem uR.length{α β:Type}{R:α→β→Prop}{l:List α}{m:List β}(h:uR R l m):l.length=m.length:=by
 induction h with
 |nil=>rfl
 |cons _ _ ih=>simp[ih]
theorem Ll{α β:Type}{R:α→β→Prop}{k1:α→By}{k2:β→By}(hk:∀ a b,R a b→k1 a=k2 b){a:α}{b:β}(hab:R a b){l:List α}{m:List β}(h:uR R l m):uR R (dZ k1 a l) (dZ k2 b m):=by
 induction h with
 |nil=>exact .cons hab .nil
 |cons h t ih=>
  simp only[dZ,hk _ _ hab,hk _ _ h];rename_i a' b' l' m';cases lt (k2 b') (k2 b)with
  |true=>exact .cons h ih
  |false=>exact .cons hab (.cons h t)
theorem zT{α β:Type}{R:α→β→Prop}{k1:α→By}{k2:β→By}(hk:∀ a b,R a b→k1 a=k2 b){l:List α}{m:List β}(h:uR R l m):uR R (eD k1 l) (eD k2 m):=by
 induction h with
 |nil=>exact .nil
 |cons h t ih=>exact Ll hk h ih
theorem EN{α β:Type}{R:α→β→Prop}{k1:α→By}{k2:β→By}(hk:∀ a b,R a b→k1 a=k2 b){l:List α}{m:List β}(h:uR R l m):l.map k1=m.map k2:=by
 induction h with
 |nil=>rfl
 |cons h t ih=>simp[hk _ _ h,ih]
def NQ:V→Bool
 | .bB=>true
 | .bQ=>true
 | .slice .. =>true
 | .ah .. =>true
 |_=>false
def nK(k:Nat):List V→Bool
 |[.str _,v]=>Nat.beq k 2&&NQ v
 |[.str _,.bool _,v]=>Nat.beq k 3&&NQ v
 |_=>false
def DJ:List V→By
 | .str k::_=>k
 |_=>[]
def chunk(k:Nat):Nat→List V→List (List V)
 |0,_=>[]
 |n+1,l=>l.take k::chunk k n (l.drop k)
def E8(k len:Nat)(cs:List V)(off:Nat):List V:=(eD DJ (chunk k len (cs.drop off))).flatten
def nY(k c:Nat):List V→St→Option (V×St):=fun vs s=>match vs with
 |[.bB,.func g [] []]=>bif Nat.beq g c then some (.aZ [],s)else none
 |[.bQ,.func g [] []]=>bif Nat.beq g c then some (.aZ [],s)else none
 |[.slice b off 0 cap sz ex,.func g [] []]=>bif Nat.beq g c then some (.aZ [],s)else none
 |[.slice b off len cap sz ex,.func g [] []]=>bif Nat.beq g c&&Nat.beq sz k then(match s.xM b with
  |some cs=>bif Nat.ble (off+len*k) cs.length&&Nat.blt len 4611686018427387904&&(chunk k len (cs.drop off)).all (nK k)then
    (if((chunk k len (cs.drop off)).map DJ).Nodup then some (.aZ [],s.put b (.row (kI cs off (E8 k len cs off))))else none)else none
  |none=>none)else none
 |_=>none
theorem Sd{k:Nat}(hk:k=2∨k=3)(x:Rw):(yd k x).length=k:=by rcases hk with rfl|rfl<;>rfl
def Y0(w0:World)(ρ:Ren)(k:Nat)(r:List V)(x:Rw):Prop:=DJ r=x.1∧nK k r=true∧aV w0 ρ r (yd k x)
theorem Tu{w0:World}{ρ:Ren}{v:V}{y:Value}(h:aF w0 ρ v y)(hv:NQ v=true):∃ p n c,y=.slice p n c:=by
 cases h<;>first|exact⟨_,_,_,rfl⟩|cases hv
theorem TB{s:ByteArray}{a:By}(h:s.data.toList=a):s=⟨a.toArray⟩:=by
 subst h;cases s;simp
theorem qeu{w0:World}{ρ:Ren}{k:Nat}{r:List V}{ys:List Value}(hr:nK k r=true)(h:aV w0 ρ r ys):∃ x,Y0 w0 ρ k r x∧yd k x=ys:=by
 unfold nK at hr;split at hr
 ·rename_i a v;simp only[aI]at hr;have hk:=aU hr.1;subst hk;have h0:=h;obtain⟨y1,ys1,rfl,h1,h2⟩:=h.bD;obtain⟨y2,ys2,rfl,h3,h4⟩:=h2.bD;obtain rfl:=h4.eF;obtain⟨p,n,c,rfl⟩:=Tu h3 hr.2;cases h1 with
  |str hs=>
   have hs' :=TB hs;subst hs';exact⟨(a,false,p,n,c),⟨rfl,by simp[nK,hr.2],h0⟩,rfl⟩
 ·rename_i a b v;simp only[aI]at hr;have hk:=aU hr.1;subst hk;have h0:=h;obtain⟨y1,ys1,rfl,h1,h2⟩:=h.bD;obtain⟨y2,ys2,rfl,h3,h4⟩:=h2.bD;obtain⟨y3,ys3,rfl,h5,h6⟩:=h4.bD;obtain rfl:=h6.eF;obtain⟨p,n,c,rfl⟩:=Tu h5 hr.2;cases h1 with
  |str hs=>
   have hs' :=TB hs;subst hs';cases h3;exact⟨(a,b,p,n,c),⟨rfl,by simp[nK,hr.2],h0⟩,rfl⟩
 ·cases hr
theorem Oa{w0:World}{ρ:Ren}{k:Nat}:∀ (n:Nat) {l:List V} {ys:List Value},(chunk k n l).all (nK k)=true→n*k≤l.length→aV w0 ρ (l.take (n*k)) ys→∃ ds:List Rw,uR (Y0 w0 ρ k) (chunk k n l) ds∧(ds.map (yd k)).flatten=ys
 |0,l,ys,_,_,h=>by
  rw[PM,List.take_zero]at h;obtain rfl:=h.eF;exact⟨[],.nil,rfl⟩
 |n+1,l,ys,ha,hl,h=>by
  rw[oy]at hl;simp only[chunk,kG,aI]at ha;have e:l.take ((n+1)*k)=l.take k++(l.drop k).take (n*k):=by
   rw[oy,Nat.add_comm,List.take_add]
  rw[e]at h;have hlen:=h.1;have hk1:(l.take k).length=k:=by simp;omega
  have hy:ys=ys.take k++ys.drop k:=(s9 k ys).symm;have h1:aV w0 ρ (l.take k) (ys.take k):=by
   refine⟨by simp at hlen⊢;omega,fun i h1 h2=> ?_⟩;have:=h.2 i (by simp at h1⊢;omega) (by simp at h2⊢;omega);rw[PN h1]at this;simpa using this
  have h2:aV w0 ρ ((l.drop k).take (n*k)) (ys.drop k):=by
   refine⟨by simp at hlen⊢;omega,fun i h1 h2=> ?_⟩;have:=h.2 (k+i) (by simp at h1⊢;omega) (by simp at h2⊢;omega);rw[PO (by omega)]at this;rw[PR];simpa[hk1,uM]using this
  obtain⟨x,r1,r2⟩:=qeu ha.1 h1;obtain⟨ds,r3,r4⟩:=Oa n ha.2 (by simp;omega) h2;exact⟨x::ds,.cons r1 r3,by rw[ct,iE,r2,r4,←hy]⟩
theorem P6{w0:World}{ρ:Ren}{k:Nat}{l:List (List V)}{m:List Rw}(h:uR (Y0 w0 ρ k) l m):aV w0 ρ l.flatten (m.map (yd k)).flatten:=by
 induction h with
 |nil=>exact .nil
 |cons h t ih=>rw[iE,ct,iE];exact h.2.2.append ih
theorem IQ{α:Type}[Inhabited α]{enc:α→List Value}{k:Nat}(hk:∀ x,(enc x).length=k):∀ (l:List α) (t:Nat),(l.map enc).flatten[t]? =if t<l.length*k then some ((enc (l[t / k]?.getD default))[t % k]!)else none
 |[],t=>by simp
 |a::l,t=>by
  rw[ct,iE];have hl:(a::l).length*k=l.length*k+k:=by rw[fV,oy]
  rw[hl];by_cases h:t<k
  ·rw[bG (by rw[hk];exact h),if_pos (by omega),Nat.div_eq_of_lt h,Nat.mod_eq_of_lt h,aQ (by rw[hk];exact h)];simp only[List.getElem?_cons_zero,rB];rw[getElem!_pos _ _ (by rw[hk];exact h)]
  ·rw[dh (by rw[hk];omega),hk,IQ hk l (t - k)];by_cases hk0:k=0
   ·subst hk0;simp
   ·by_cases h2:t - k<l.length*k
    ·rw[if_pos h2,if_pos (by omega)];have e1:t / k=(t - k) / k+1:=by
      rw[←Nat.add_div_right _ (Nat.pos_of_ne_zero hk0),Nat.sub_add_cancel (by omega)]
     have e2:t % k=(t - k) % k:=by rw[←Nat.mod_eq_sub_mod (by omega)]
     rw[e1,e2,DQ]
    ·rw[if_neg h2,if_neg (by omega)]
theorem BS{α:Type}[Inhabited α]{enc:α→List Value}{k:Nat}(hk:∀ x,(enc x).length=k)(d:Array α):(Go.Sort.flatK enc k d).toList=(d.toList.map enc).flatten:=by
 apply PZ;intro t;rw[IQ hk,s4];by_cases h:t<d.size*k
 ·have h' :t<(Go.Sort.flatK enc k d).size:=by rw[size_flatK];exact h
  rw[if_pos (by simpa using h),mQ h',←getElem!_pos _ t h',get_flatK enc k d t h];congr 3;rw[FD];simp[mu]
 ·rw[if_neg (by simpa using h),uL (by rw[size_flatK];omega)]
end Go.RE
namespace Go.RE
open Go Go.Proofs Go.Sort Go.Lib Go.RowKit
theorem Ti{w0:World}{ρ:Ren}{s:St}{w:World}(h:Rel w0 ρ s w)(os:Array Obj):Rel w0 ρ s (Go.Sort.grow w os)∧kH ρ s w ρ s (Go.Sort.grow w os):=by
 have hget:∀ r,r<w.heap.size→(Go.Sort.grow w os).heap[r]? =w.heap[r]? :=fun r hr=>by
  show(w.heap++os)[r]? =_;rw[Kv hr]
 have hsz:w.heap.size≤(Go.Sort.grow w os).heap.size:=by simp[Go.Sort.grow]
 refine⟨⟨fun r hr=> ?_,j0 h.size hsz,h.os,h.output,fun n r o lim e=> ?_,h.fresh,fun n r o lim e=> ?_,h.inj⟩,⟨ak _,Ren.le_refl _,(fun n x a b=>by rw[a]at b;cases b),hsz,fun _ _ _=>rfl,fun r hr hx=>⟨hget r hr,hx⟩⟩⟩
 ·rw[hget r (iC hr h.size)];exact h.old r hr
 ·have:=h.dom n r o lim e;exact⟨this.1,this.2.1,iC this.2.2 hsz⟩
 ·rw[hget r (h.dom n r o lim e).2.2];exact h.ob n r o lim e
theorem JW{d d' :Array Rw}(hp:PermIn 0 d.size d d')(hs:SortedIn (ltOf fun x y:Rw=>oZ x.1 y.1) 0 d.size d')(hn:(d.toList.map (·.1)).Nodup):d'.toList=eD (·.1) d.toList:=by
 obtain⟨h1,_,h3⟩:=hp;have e1:d'.extract 0 d.size=d' :=by rw[←h1];simp
 have e2:d.extract 0 d.size=d:=by simp
 rw[e1,e2]at h3;refine JV (fun x:Rw=>x.1) h3.symm ?_ hn;rw[List.pairwise_iff_getElem];intro i j hi hj hij;have:=hs i j (bU _) hij (by rw[←h1];simpa using hj);rw[N2,getElem!_pos d' i (by simpa using hi),getElem!_pos d' j (by simpa using hj)]at this;simpa using this
theorem wC{P:Program}{f c k:Nat}(hk:k=2∨k=3)(hfn:∃ fn b,P.funcs[f]? =some fn∧fn.body=some b∧(fn.name== "runtime.NumGoroutine")=false)(hS:KM P f c k)(hN:KN P f c)(w0:World):FH P w0 f 2 (nY k c):=by
 refine⟨hfn,?_⟩;intro args s v s' ρ w args' hl hp hR hA;have stay:∀ (p:Option Addr) (cap:Nat),Calls P f #[.slice p 0 cap,.func (.func c) #[] #[]] w fun e w' =>∃ ρ' x,e=.returned x∧Rel w0 ρ' s w'∧kH ρ s w ρ' s w'∧aF w0 ρ' (.aZ []) x:=fun p cap=>by
  refine(hN p cap w).mono ?_;rintro e w' ⟨rfl,rfl⟩;exact⟨ρ,_,rfl,hR,kH.refl _ _ _,.aZ rfl (fun i h=>by simp at h)⟩
 have hfun:∀ {g:Nat} {y:Value},aF w0 ρ (.func g [] []) y→y=.func (.func g) #[] #[]:=fun {g y} h=>by
  cases h with
  |func ha hb va vb=>
   rename_i a' b';have h1:a' = #[]:=qc6 ha.symm;have h2:b' = #[]:=qc6 hb.symm;rw[h1,h2]
 unfold nY at hp;split at hp
 ·obtain⟨hg,hp⟩:=aO hp;simp only[ag,ay]at hp;obtain⟨rfl,rfl⟩:=hp;have:=aU hg;subst this;obtain⟨x,xs,rfl,hx,hxs⟩:=hA.bD;obtain⟨x2,xs2,rfl,hx2,hxs2⟩:=hxs.bD;obtain rfl:=hxs2.eF;obtain rfl:=hfun hx2;cases hx;exact stay _ _
 ·obtain⟨hg,hp⟩:=aO hp;simp only[ag,ay]at hp;obtain⟨rfl,rfl⟩:=hp;have:=aU hg;subst this;obtain⟨x,xs,rfl,hx,hxs⟩:=hA.bD;obtain⟨x2,xs2,rfl,hx2,hxs2⟩:=hxs.bD;obtain rfl:=hxs2.eF;obtain rfl:=hfun hx2;cases hx;exact stay _ _
 ·obtain⟨hg,hp⟩:=aO hp;simp only[ag,ay]at hp;obtain⟨rfl,rfl⟩:=hp;have:=aU hg;subst this;obtain⟨x,xs,rfl,hx,hxs⟩:=hA.bD;obtain⟨x2,xs2,rfl,hx2,hxs2⟩:=hxs.bD;obtain rfl:=hxs2.eF;obtain rfl:=hfun hx2;cases hx;exact stay _ _
 ·rename_i b off len cap sz ex g hz;obtain⟨hg,hp2⟩:=aO hp;clear hp;simp only[aI]at hg;have hg1:=aU hg.1;have hg2:=aU hg.2;subst hg1;subst hg2;split at hp2
  case h_2=>cases hp2
  rename_i cs hcs;obtain⟨hb,hp3⟩:=aO hp2;clear hp2;simp only[aI]at hb;obtain⟨⟨hb1,hb2⟩,hb3⟩:=hb;have hle:=dY hb1;have hlt:len<4611686018427387904:=by simp only[Nat.blt,ez]at hb2;omega
  split at hp3
  case isFalse=>cases hp3
  rename_i hnd;simp only[ag,ay]at hp3;obtain⟨rfl,rfl⟩:=hp3;obtain⟨x,xs,rfl,hx,hxs⟩:=hA.bD;obtain⟨x2,xs2,rfl,hx2,hxs2⟩:=hxs.bD;obtain rfl:=hxs2.eF;obtain rfl:=hfun hx2;have hob:=sZ hcs;cases hx with
  |slice hρ h1 h2 h3 h4 hcb=>
  rename_i r o lim a cap';obtain⟨c,t,fr,q1,q2,q3,q4,q5⟩:jm w0 ρ o lim (some (.row cs)) w.heap[r]? :=by
   have:=hR.ob b r o lim hρ;rw[hob]at this;exact this
  have hdom:=hR.dom b r o lim hρ;have hz:len≠0:=fun hh=>hz hh;have ha:a=⟨r,o+off,none⟩:=by
   rcases h4 with h4|h4
   ·omega
   ·exact h4.1
  subst ha
  -- what is written back
  have key:∀ (w2:World) (F:Array Value) (ws:List V),ws.length=len*sz→aV w0 ρ ws F.toList→w2.os=w.os→w2.output=w.output→w2.heap=w.heap.modify r (onCells (putCells id (o+off) F))→∀ os:Array Obj,Rel w0 ρ (s.put b (.row (kI cs off ws))) (grow w2 os)∧kH ρ s w ρ (s.put b (.row (kI cs off ws))) (grow w2 os):=by
   intro w2 F ws hd hF ho hp' hh os;have hFs:F.size=len*sz:=by have:=hF.1;simp at this;omega
   have hmod:w.heap.modify r (onCells (putCells id (o+off) F))=w.heap.setIfInBounds r (.cells (putCells id (o+off) F c) t fr):=by
    apply DR;intro k;rw[Yo,xO];by_cases hk:r=k
    ·subst hk;rw[if_pos rfl,if_pos rfl,if_pos hdom.2.2,q1];rfl
    ·rw[if_neg hk,if_neg hk]
   have hobr:jm w0 ρ o lim (some (.row (kI cs off ws))) (some (.cells (putCells id (o+off) F c) t fr)):=by
    have hlen:(kI cs off ws).length=cs.length:=by simp[kI];omega
    refine⟨_,_,_,rfl,by simpa[putCells]using q2,by rw[hlen];exact q3,q4,fun i hi=> ?_⟩;rw[hlen]at hi;obtain⟨v,e1,e2⟩:=q5 i hi;have e3:(putCells id (o+off) F c)[o+i]? =some (if o+off≤o+i∧o+i<o+off+F.size then id F[o+i - (o+off)]! else v):=by
     unfold putCells;rw[Array.getElem?_mapIdx,e1];rfl
    refine⟨_,e3,?_⟩;by_cases hin:off≤i∧i<off+len*sz
    ·rw[if_pos (by omega)];have e4:o+i - (o+off)=i - off:=by omega
     have e5:(kI cs off ws)[i]'(by rw[hlen];exact hi)=ws[i - off]'(by omega):=by
      have h5:(kI cs off ws)[i]? =some (ws[i - off]'(by omega)):=by
       unfold kI;rw[gD,dh (by simp;omega)];have e6:(cs.take off).length=off:=by simp;omega
       rw[e6,bG (by omega),aQ (by omega)]
      rw[aQ (by rw[hlen];exact hi)]at h5;exact qh h5
     rw[e5,e4];have e7:=hF.2 (i - off) (by omega) (by simp;omega);have e8:id F[i - off]! =F.toList[i - off]'(by simp;omega):=by
      show F[i - off]! =_;rw[getElem!_pos _ _ (by omega)];simp
     rw[e8];exact e7
    ·rw[if_neg (by omega)];have e5:(kI cs off ws)[i]'(by rw[hlen];exact hi)=cs[i]:=by
      have h5:(kI cs off ws)[i]? =cs[i]? :=by
       unfold kI;by_cases hi2:i<off
       ·rw[gD,bG (by simp;omega),fU,if_pos hi2]
       ·rw[dh (by simp;omega),jX];congr 1;simp;omega
      rw[aQ (by rw[hlen];exact hi),aQ hi]at h5;exact qh h5
     rw[e5];exact e2
   obtain⟨k1,k2⟩:=hR.put hρ (by rw[hob];trivial) hobr;have hheap:w2.heap=({w with heap:=w.heap.setIfInBounds r (.cells (putCells id (o+off) F c) t fr)}:World).heap:=by rw[hh,hmod]
   have k3:=k1.same (w' :=w2) hheap ho hp';have k4:=k2.trans (kH.same (w' :=w2) hheap);obtain⟨k5,k6⟩:=Ti k3 os;exact⟨k5,k4.trans k6⟩
  -- what it holds
  have hcell:∃ ys,aV w0 ρ ((cs.drop off).take (len*sz)) ys∧∀ j,j<len*sz→c[o+off+j]? =ys[j]? :=by
   refine⟨(List.range (len*sz)).map fun j=>c[o+off+j]!,⟨by simp;omega,fun i h1 h2=> ?_⟩,fun j hj=> ?_⟩
   ·simp at h1;obtain⟨v,e1,e2⟩:=q5 (off+i) (by omega);have e3:c[o+off+i]! =v:=by rw[FD,mu,gI,e1];rfl
    simp[e3];exact e2
   ·obtain⟨v,e1,e2⟩:=q5 (off+j) (by omega);have e3:c[o+off+j]! =v:=by rw[FD,mu,gI,e1];rfl
    rw[gE,Fz hj,kP,e3,gI,e1]
  obtain⟨ys,hy1,hy2⟩:=hcell;obtain⟨ds,r1,r2⟩:=Oa len hb3 (by simp;omega) hy1;have hkl:=Sd hk;have gT:ds.length=len:=by
   rw[←r1.length];have:∀ (n:Nat) (l:List V),(chunk sz n l).length=n:=by
    intro n;induction n with
    |zero=>intro l;rfl
    |succ n ih=>intro l;simp[chunk,ih]
   exact this _ _
  have hH:HoldsK (yd sz) sz w r (o+off) ds.toArray:=by
   intro j hj;rw[size_flatK]at hj;have hj' :j<len*sz:=by simpa[gT]using hj
   have hF:=BS hkl ds.toArray;have e1:(Go.Sort.flatK (yd sz) sz ds.toArray)[j]? =c[o+off+j]? :=by
    rw[hy2 j hj',←r2,←s4,hF]
   obtain⟨v,e2,e3⟩:=q5 (off+j) (by omega);have e4:c[o+off+j]? =some v:=by rw[gI];exact e2
   refine⟨?_,?_⟩
   ·have e7:id (Go.Sort.flatK (yd sz) sz ds.toArray)[j]! =v:=by
     show(Go.Sort.flatK (yd sz) sz ds.toArray)[j]! =v;rw[FD,mu,e1,e4];rfl
    rw[e7];simp only[World.cell?,q1,e4];rfl
   ·simp only[World.frozen?,q1];have:=q4 (o+off+j) (by omega);obtain⟨f1,f2⟩:=fr;simp only at this⊢;simpa using this
  have:=hS r (o+off) cap' ds.toArray w hH hdom.2.2 (by simp;omega);have hsz:ds.toArray.size=len:=by simp[gT]
  rw[hsz]at this;refine this.mono ?_;rintro e w' ⟨rfl,d',n,os,hpm,hst,rfl⟩;have hkeys:∀ (a:List V) (b:Rw),Y0 w0 ρ sz a b→DJ a=b.1:=fun a b h=>h.1;have hkk:=EN (k1:=DJ) (k2:=fun x:Rw=>x.1) hkeys r1;have hd' :=JW (by rw[hsz];exact hpm) (by rw[hsz];exact hst) (by simpa using hkk▸hnd);have r3:=zT (k1:=DJ) (k2:=fun x:Rw=>x.1) hkeys r1;have r4:=P6 r3;have hF:aV w0 ρ (E8 sz len cs off) (Go.Sort.flatK (yd sz) sz d').toList:=by
   rw[BS hkl,hd'];exact r4
  have hwl:(E8 sz len cs off).length=len*sz:=by
   rw[hF.1,PF,size_flatK];have:d'.size=len:=by have:=hpm.1;omega
   rw[this]
  obtain⟨k1,k2⟩:=key (putRow id (Sort.ahead w n) r (o+off) (Go.Sort.flatK (yd sz) sz d')) _ _ hwl hF rfl rfl rfl os;exact⟨ρ,_,rfl,k1,k2,.aZ rfl (fun i h=>by simp at h)⟩
 ·cases hp
end Go.RE
namespace Go.RE
def yl:List U→By
 | .str k::_=>k
 |_=>[]
theorem oa{k:Nat}{x:List U}(h:k7 k x=true):qH x=some (yl x)∧x.length=k:=by
 unfold k7 at h;split at h
 ·exact⟨rfl,(aU h).symm⟩
 ·exact⟨rfl,(aU h).symm⟩
 ·cases h
theorem Cp{k:Nat}:∀ {xs:List (List U)},xs.all (k7 k)=true→k9 xs=some (xs.map yl)
 |[],_=>rfl
 |x::xs,h=>by
  simp only[kG,aI]at h;simp only[k9,(oa h.1).1,Cp h.2,ct]
theorem NL{k:Nat}{a:List U}(ha:k7 k a=true):∀ {l:List (List U)},l.all (k7 k)=true→I7 a l=dZ yl a l
 |[],_=>rfl
 |b::l,h=>by
  simp only[kG,aI]at h;simp only[I7,dZ,N9,(oa ha).1,(oa h.1).1,NL ha h.2]
theorem BY{α:Type}(key:α→By){a x:α}:∀ {l:List α},x∈dZ key a l→x=a∨x∈l
 |[],h=>by simp[dZ]at h;exact .inl h
 |b::l,h=>by
  unfold dZ at h;cases hc:lt (key b) (key a)with
  |true=>
   rw[hc,cond_true]at h;rcases bT.1 h with h|h
   ·exact .inr (h▸cB)
   ·rcases BY key h with h|h
    ·exact .inl h
    ·exact .inr (eu _ h)
  |false=>
   rw[hc,cond_false]at h;rcases bT.1 h with h|h
   ·exact .inl h
   ·exact .inr h
theorem oP{α:Type}(key:α→By){x:α}:∀ {l:List α},x∈eD key l→x∈l
 |[],h=>by cases h
 |b::l,h=>by
  rcases BY key (show x∈dZ key b (eD key l)from h)with h|h
  ·exact h▸cB
  ·exact eu _ (oP key h)
theorem sC{α:Type}(key:α→By):∀ (l:List α),(eD key l).length=l.length:=by
 have ins:∀ (a:α) (l:List α),(dZ key a l).length=l.length+1:=by
  intro a l
  induction l with
  |nil=>rfl
  |cons b l ih=>
   unfold dZ;cases lt (key b) (key a)with
   |true=>rw[cond_true,fV,ih,fV]
   |false=>rfl
 intro l
 induction l with
 |nil=>rfl
 |cons a l ih=>show(dZ key a (eD key l)).length=_;rw[ins,ih];rfl
theorem JU{k:Nat}:∀ {xs:List (List U)},xs.all (k7 k)=true→JT xs=eD yl xs
 |[],_=>rfl
 |x::xs,h=>by
  simp only[kG,aI]at h;show I7 x (JT xs)=dZ yl x (eD yl xs);rw[JU h.2];exact NL h.1 (fF.2 fun y hy=>fF.1 h.2 y (oP yl hy))
section
variable{σ:Sg}{Z:Zs}
def Y3(σ:Sg)(Z:Zs)(k:Nat)(x:List U)(r:List V):Prop:=yl x=DJ r∧nK k r=true∧k7 k x=true∧LU σ Z 0 x r
theorem On{n:Nat}{w:Nat}{xs:List (List U)}{v:V}(h:UR σ Z n (.sl w xs) v):NQ v=true:=by cases h<;>rfl
theorem qad{k:Nat}{x:List U}{r:List V}(hx:k7 k x=true)(h:LU σ Z 0 x r):Y3 σ Z k x r:=by
 have h0:=h;have hx0:=hx;unfold k7 at hx;split at hx
 ·obtain⟨v1,r1,rfl,h1,h2⟩:=h.bD;obtain⟨v2,r2,rfl,h3,h4⟩:=h2.bD;obtain rfl:=h4.eF;cases h1;exact⟨rfl,by simp only[nK,hx,On h3,jh],hx0,h0⟩
 ·obtain⟨v1,r1,rfl,h1,h2⟩:=h.bD;obtain⟨v2,r2,rfl,h3,h4⟩:=h2.bD;obtain⟨v3,r3,rfl,h5,h6⟩:=h4.bD;obtain rfl:=h6.eF;cases h1;cases h3;exact⟨rfl,by simp only[nK,hx,On h5,jh],hx0,h0⟩
 ·cases hx
theorem JJ{k:Nat}:∀ {xs:List (List U)} {l:List V},xs.all (k7 k)=true→xs.length*k≤l.length→LU σ Z 0 xs.flatten (l.take (xs.length*k))→uR (Y3 σ Z k) xs (chunk k xs.length l)
 |[],l,_,_,_=> .nil
 |x::xs,l,ha,hl,h=>by
  simp only[kG,aI]at ha;have hxl:=(oa ha.1).2;rw[fV,oy]at hl h;rw[iE]at h;have h1:=h.take k;have h2:=h.drop k;rw[Fy (by omega),gu (by omega),Yl,Fw (by omega)]at h1;rw[Ys (by omega),xN (by omega),jZ,Ac,Kz]at h2;exact .cons (qad ha.1 h1) (JJ ha.2 (by simp;omega) h2)
theorem Y4{k:Nat}{xs:List (List U)}{l:List (List V)}(h:uR (Y3 σ Z k) xs l):LU σ Z 0 xs.flatten l.flatten:=by
 induction h with
 |nil=>exact LU.nil
 |cons h t ih=>rw[iE,iE];exact h.2.2.2.append ih
theorem KP{k:Nat}{xs:List (List U)}{l:List (List V)}(h:uR (Y3 σ Z k) xs l):l.all (nK k)=true:=by
 induction h with
 |nil=>rfl
 |cons h t ih=>rw[kG,h.2.1,ih];rfl
theorem L4(row ws:List V)(off:Nat)(h:off+ws.length≤row.length):((kI row off ws).drop off).take ws.length=ws:=by
 unfold kI;rw[gD,Ys (by simp;omega)];have h2:(row.take off).drop off=[]:=xN (by simp;omega);rw[h2,jZ,Fy (ak _),gu (ak _)]
theorem E7{C:Nat→Option cq}{M:qn}{f k c:Nat}(hC:C f=some (rm 2 (nY k c))):xU (dz C M) f (pz k c):=by
 intro xs rest ys hq E σ Z ω s u st g w v vs p0 hk hp0 hor hlen hr;unfold pz at hq;split at hq
 case h_2=>cases hq
 rename_i gg;obtain⟨hb,hq2⟩:=aO hq;clear hq;simp only[aI]at hb;obtain⟨⟨hg1,hsm0⟩,hrows⟩:=hb;have hg:=aU hg1;subst hg;have hsm:xs.length<4611686018427387904:=by simp only[Nat.blt,ez]at hsm0;omega
 rw[Cp hrows]at hq2;simp only at hq2;split at hq2
 case isFalse=>cases hq2
 rename_i hnd;simp only[ag]at hq2;rw[JU hrows]at hq2;subst hq2;obtain⟨v2,rfl⟩:∃ v2,vs=[v2]:=by
  match vs,hlen with
  |[v2],_=>exact⟨v2,rfl⟩
 have hv2:v2=.func gg [] []:=by
  have:=hr 0 _ _ rfl rfl;have h2:UR σ Z s.h.length (.func gg [] []) v2:=Oi this rfl;cases h2 with
  |func ha hb va vb=>
   have h1:=fT ha.symm;have h2:=fT hb.symm;rw[h1,h2]
 subst hv2;have hbq:Nat.beq gg gg=true:=fq gg;have hor0:=hor;unfold OR at hor;split at hor
 ·rename_i hg;obtain⟨h0,hv⟩:=hor;subst h0;refine kT hC rfl (st' :=st) (v:=.aZ []) ?_ ⟨rfl,ω,hk.TG hp0 hg⟩;rcases hv with rfl|rfl<;>simp only[nY,hbq,cond_true]
 ·rename_i I hg;obtain⟨rfl,⟨rfl,hIx⟩,e1,e2,e3,e4⟩:=hor;have hIr:=hk.mq g I hg;cases xs with
  |nil=>
   refine kT hC rfl (st' :=st) (v:=.aZ []) (by simp only[nY,ox,hbq,cond_true]) ⟨rfl,?_⟩;have hup:=hk.CD hp0 hg (ys:=[]) (row' :=I.row) (by rw[hIx]) (fun h=>h) (fun r hr=>by cases hr) (by simpa using LU.nil);refine⟨dW ω g (some {I with row:=I.row,xs:=[]}),?_⟩;have hx:I={I with row:=I.row,xs:=[]}:=by
    cases I;simp only at hIx⊢;subst hIx;rfl
   have hω:dW ω g (some {I with row:=I.row,xs:=[]})=ω:=by
    funext x;by_cases hxx:x=g
    ·subst hxx;rw[bt,hg,←hx]
    ·rw[dy _ _ hxx]
   rw[hω]at hup⊢;refine hup.mem (st' :=st) (ak _) hk.fresh fun b _=> ?_;rw[St.eE];split
   ·subst b;exact hIr
   ·rfl
  |cons x0 xr=>
   have hw1:I.w=k:=by
    have:=e3 x0 (by simp);rw[kG,aI]at hrows;rw[←this];exact(oa hrows.1).2
   generalize hxs:x0::xr=xs at*;have hpos:xs.length≠0:=by rw[←hxs];simp
   rw[hw1]at e2 e4;have hle:I.off+xs.length*k≤I.row.length:=by
    have:=iB k e1;omega
   have ha:=JJ hrows (by simp;omega) e4;have hs:=zT (k1:=yl) (k2:=DJ) (fun _ _ h=>h.1) ha;have hkk:=EN (k1:=yl) (k2:=DJ) (fun _ _ h=>h.1) ha;have hlu:=Y4 hs;have hnd' :((chunk k xs.length (I.row.drop I.off)).map DJ).Nodup:=hkk▸hnd;have hwl:(E8 k xs.length I.row I.off).length=xs.length*k:=by
    have h1:=hlu.1;show(eD DJ (chunk k xs.length (I.row.drop I.off))).flatten.length=_;rw[←h1,dM (w:=k) (fun x hx=>(oa (fF.1 hrows x (oP yl hx))).2),sC]
   have hp:nY k gg [.slice I.b I.off xs.length I.cap I.w I.ex,.func gg [] []] st=some (.aZ [],st.put I.b (.row (kI I.row I.off (E8 k xs.length I.row I.off)))):=by
    rw[hw1];obtain⟨m,hm⟩:∃ m,xs.length=m+1:=⟨xs.length - 1,by omega⟩;have hb1:Nat.ble (I.off+xs.length*k) I.row.length=true:=jA hle;have hb2:Nat.blt xs.length 4611686018427387904=true:=by simp only[Nat.blt];exact jA hsm
    have hb3:=KP ha;rw[hm]at hb1 hb2 hb3 hnd'⊢;simp only[nY,hbq,fq,jh,cond_true,rV hIr,hb1,hb2,hb3,if_pos hnd']
   refine kT hC rfl hp ⟨rfl,?_⟩;have hup:=hk.CD hp0 hg (ys:=eD yl xs) (row' :=kI I.row I.off (E8 k xs.length I.row I.off)) (by rw[hIx,sC]) (by simp[kI]<;>omega)
    (fun x hx=>by rw[hw1];exact(oa (fF.1 hrows x (oP yl hx))).2) (by
     rw[hw1,sC,←hwl,L4 _ _ _ (by omega)];exact hlu)
   exact⟨_,hup⟩
end
end Go.RE
namespace Go.RE
open Go Go.Proofs Go.Sort Go.Lib Go.RowKit
def j6{α:Type}(cs:List α)(i:Nat)(x:α):List α:=cs.take i++x::cs.drop i
theorem B0{α:Type}(cs:List α)(i:Nat)(x:α)(h:i≤cs.length):(j6 cs i x).length=cs.length+1:=by
 simp[j6];omega
def qgH(P:Program)(f:Nat):Prop:=∀ (base:Option Addr) (n c i vb voff vc:Nat) (cs:List Value) (x:Value) (w:World),i≤n→n≤c→c<n+1→(n+1)*16≤140737488355328→cs.length=n→(base=none→n=0)→
  (i<n→∃ b off,base=some ⟨b,off,none⟩)→(∀ a,base=some a→∀ j v,cs[j]? =some v→w.cell? (a.add j)=some v)→w.cell? ⟨vb,voff,none⟩=some x→x.oneCell' =true→(∀ v∈cs,v.oneCell' =true)→
  Calls P f #[.slice base n c,.int .i64 i,.slice (some ⟨vb,voff,none⟩) 1 vc] w fun e w' =>∃ (c' :Nat) (C:Array Value) (t:TypeId),e=.returned (.slice (some ⟨w.heap.size,0,none⟩) (n+1) c')∧n+1≤c'∧c'≤9223372036854775807∧C.size=c'∧
   (∀ j,j<n+1→C[j]? =(j6 cs i x)[j]?)∧w'.heap=w.heap.push (.cells C t (0,0))∧w'.os=w.os∧w'.output=w.output
def qgI(P:Program)(f:Nat):Prop:=∀ (b off n c i vb voff vc:Nat) (cs:List Value) (x:Value) (w:World) (C:Array Value) (t:TypeId) (fr:Nat×Nat) (vC:Array Value) (vt:TypeId) (vfr:Nat×Nat),i≤n→n+1≤c→c≤9223372036854775807→
  w.heap[b]? =some (.cells C t fr)→off+c≤C.size→(∀ j,j≤C.size→¬(fr.1≤j∧j<fr.2))→cs.length=n→(∀ j v,cs[j]? =some v→C[off+j]? =some v)→vb≠b→
  w.heap[vb]? =some (.cells vC vt vfr)→vC[voff]? =some x→(∀ j,j≤vC.size→¬(vfr.1≤j∧j<vfr.2))→x.oneCell' =true→(∀ v∈cs,v.oneCell' =true)→
  Calls P f #[.slice (some ⟨b,off,none⟩) n c,.int .i64 i,.slice (some ⟨vb,voff,none⟩) 1 vc] w fun e w' =>e=.returned (.slice (some ⟨b,off,none⟩) (n+1) c)∧∃ C' :Array Value,w'.heap=w.heap.setIfInBounds b (.cells C' t fr)∧C'.size=C.size∧
   w'.os=w.os∧w'.output=w.output∧∀ j,C'[j]? =if off≤j∧j<off+(n+1)then(j6 cs i x)[j - off]? else C[j]?
theorem we{w:World}{need old:Nat}{e:TypeId}(h:need<9223372036854775808):grownCap w need old e≤9223372036854775807:=by
 show need+w.tape w.drawn (.appendCap need old e) % (2 ^ 63 - need)≤_;have:=Kw (w.tape w.drawn (.appendCap need old e)) (show 2 ^ 63 - need>0 by omega);omega
set_option maxRecDepth 100000 in
theorem ZD:qgH Tryz.prog 145:=by
 intro base n c i vb voff vc cs x w hi hnc hroom hbig hcl hnil hb hcs hx h1x h1c;have hvs:∀ j v,[x][j]? =some v→w.cell? ⟨vb,voff+j,none⟩=some v:=fun j v hj=>by
  cases j with
  |zero=>simpa[←hj]using hx
  |succ j=>simp at hj
 have h1v:∀ v∈[x],v.oneCell' =true:=fun v hv=>by simp at hv;subst hv;exact h1x
 by_cases hin:i=n
 ·subst hin;have h:=Any2.slices_Insert_string_end_grow Tryz.Aw base i c vb voff 1 vc cs [x] w (by omega) hnc hroom hbig hcl rfl hnil hcs hvs h1v;change Calls Tryz.prog 145 _ _ _ at h;refine h.mono ?_;rintro e w' ⟨rfl,rfl⟩;refine⟨_,_,_,rfl,grownCap_ge w (i+1) c _,we (by omega),?_,fun j hj=> ?_,rfl,rfl,rfl⟩
  ·have:=grownCap_ge w (i+1) c (Tryz.de.t 9);simp[Builtin.zeroCells,Value.cells,hcl];omega
  ·have e1:j6 cs i x=cs++[x]:=by unfold j6;rw[gu (by omega),xN (by omega)]
   rw[e1,Kv (by simp;omega)];simp
 ·obtain⟨b,off,rfl⟩:=hb (by omega);have h:=Any2.slices_Insert_string_grow Tryz.Aw b off n c i vb voff 1 vc cs [x] w (by omega) (by omega) hnc hroom hbig hcl rfl (fun j v hj=>by have:=hcs _ rfl j v hj;rwa[Addr.add_lit]at this) hvs h1c h1v;change Calls Tryz.prog 145 _ _ _ at h;refine h.mono ?_;rintro e w' ⟨rfl,rfl⟩;have hge:=grownCap_ge w (n+1) c (Tryz.de.t 9);have hle:=we (w:=w) (need:=n+1) (old:=c) (e:=Tryz.de.t 9) (by omega);generalize hG:grownCap w (n+1) c (Tryz.de.t 9)=G at*;generalize hC0:(cs.take i).toArray++Builtin.zeroCells (Value.string ⟨#[]⟩).cells (n+1 - i)++Builtin.zeroCells (Value.string ⟨#[]⟩).cells (G - (n+1))=C0 at*;have hs0:C0.size=G:=by rw[←hC0];simp[Builtin.zeroCells,Value.cells];omega
  have g0:(w.alloc (.cells C0 (Tryz.de.t 9))).drew.heap[w.heap.size]? =some (.cells C0 (Tryz.de.t 9) (0,0)):=by
   show(w.heap.push _)[w.heap.size]? =_;simp
  obtain⟨C1,a1,a2,a3⟩:=fE w.heap.size (Tryz.de.t 9) (0,0) [x] i (w.alloc (.cells C0 (Tryz.de.t 9))).drew C0 g0;have g1:((w.alloc (.cells C0 (Tryz.de.t 9))).drew.setCells w.heap.size i [x]).drew.heap[w.heap.size]? =some (.cells C1 (Tryz.de.t 9) (0,0)):=by
   rw[a1];show((w.heap.push _).setIfInBounds _ _)[w.heap.size]? =_;simp
  obtain⟨C2,b1,b2,b3⟩:=fE w.heap.size (Tryz.de.t 9) (0,0) (cs.drop i) (i+1) _ C1 g1;refine⟨_,C2,Tryz.de.t 9,rfl,hge,hle,by omega,fun j hj=> ?_,?_,?_,?_⟩
  ·rw[b3,a3];have hlen:(j6 cs i x).length=n+1:=by rw[B0 _ _ _ (by omega)];omega
   unfold j6;by_cases c1:i+1≤j
   ·rw[if_pos (by simp;omega),dh (by simp;omega)];have e1:(cs.take i).length=i:=by simp;omega
    rw[e1,show j - i=(j - (i+1))+1 by omega,DQ]
   ·rw[if_neg (by omega)];by_cases c2:i=j
    ·subst c2;have e1:(cs.take i).length=i:=by simp;omega
     have hCs:C0.size=G:=hs0;rw[if_pos ⟨ak _,by simp,by have:(w.alloc (.cells C0 (Tryz.de.t 9))).drew=(w.alloc (.cells C0 (Tryz.de.t 9))).drew:=rfl;omega⟩,dh (by omega),e1,Nat.sub_self];rfl
    ·rw[if_neg (by simp;omega),bG (by simp;omega),←hC0,Array.append_assoc,Kv (by simp;omega)];simp
  ·rw[b1,a1];show((w.heap.push _).setIfInBounds _ _).setIfInBounds _ _=_;apply DR;intro k;simp only[xO,Kx,Array.size_push,PS];by_cases hk:w.heap.size=k
   ·subst hk;simp
   ·simp[hk,cc hk]
  ·rw[b1,a1];rfl
  ·rw[b1,a1];rfl
set_option maxRecDepth 100000 in
theorem ZG:qgI Tryz.prog 145:=by
 intro b off n c i vb voff vc cs x w C t fr vC vt vfr hi hnc hc63 hC hoc hfr hcl hcs hvb hV hvx hvfr h1x h1c;have hcellb:∀ j,w.cell? ⟨b,j,none⟩=C[j]? :=fun j=>by simp[World.cell?,hC]
 have hcellv:∀ j,w.cell? ⟨vb,j,none⟩=vC[j]? :=fun j=>by simp[World.cell?,hV]
 have hvlt:voff<vC.size:=by
  rcases uP voff vC.size with h|h
  ·exact h
  ·rw[uL h]at hvx;cases hvx
 have hfz:∀ j,j≤C.size→w.frozen? ⟨b,j,none⟩=false:=fun j hj=>by
  have:=hfr j hj;obtain⟨f1,f2⟩:=fr;simp only[World.frozen?,hC]at this⊢;simpa using this
 have hvz:∀ j,j≤vC.size→w.frozen? ⟨vb,j,none⟩=false:=fun j hj=>by
  have:=hvfr j hj;obtain⟨f1,f2⟩:=vfr;simp only[World.frozen?,hV]at this⊢;simpa using this
 have hvs:∀ j v,[x][j]? =some v→w.cell? ⟨vb,voff+j,none⟩=some v:=fun j v hj=>by
  cases j with
  |zero=>rw[hcellv];simpa[←hj]using hvx
  |succ j=>simp at hj
 have h1v:∀ v∈[x],v.oneCell' =true:=fun v hv=>by simp at hv;subst hv;exact h1x
 have hcs' :∀ j v,cs[j]? =some v→w.cell? ⟨b,off+j,none⟩=some v:=fun j v hj=>by rw[hcellb];exact hcs j v hj
 by_cases hin:i=n
 ·subst hin;have h:=Any2.slices_Insert_string_end_room Tryz.Aw b off i c vb voff 1 vc [x] w (by omega) hnc hc63 rfl (fun j hj=>by rw[hcellb,mQ (by omega)];rfl) (fun j hj=>hfz _ (by omega)) hvs h1v;change Calls Tryz.prog 145 _ _ _ at h;refine h.mono ?_;rintro e w' ⟨rfl,rfl⟩;obtain⟨C1,a1,a2,a3⟩:=fE b t fr [x] (off+i) w C hC;refine⟨rfl,C1,by rw[a1],a2,by rw[a1],by rw[a1],fun j=> ?_⟩;have e1:j6 cs i x=cs++[x]:=by unfold j6;rw[gu (by omega),xN (by omega)]
  rw[a3,e1];by_cases c1:off≤j∧j<off+(i+1)
  ·rw[if_pos c1];by_cases c2:off+i≤j
   ·rw[if_pos ⟨c2,by simp;omega,by omega⟩,dh (by omega),hcl];congr 1;omega
   ·rw[if_neg (by omega),bG (by omega)];have:=hcs (j - off) _ (aQ (by omega));rw[show off+(j - off)=j by omega]at this;rw[this,aQ (by omega)]
  ·rw[if_neg c1,if_neg (by simp;omega)]
 ·have h:=Any2.slices_Insert_string_shift Tryz.Aw b off n c i vb voff 1 vc cs [x] w (by omega) (by omega) hnc hc63 hvb hcl rfl hcs' (fun j hj=>by rw[hcellb,mQ (by omega)];rfl) (fun j hj=>hfz _ (by omega)) hvs h1c h1v
   vt t vC.size C.size (by simp[World.shape?,hV]) (by simp[World.shape?,hC]) (by omega) (hvz _ (by omega)) (hvz _ (ak _))
  change Calls Tryz.prog 145 _ _ _ at h;refine h.mono ?_;rintro e w' ⟨rfl,rfl⟩;have hC0:w.drew.heap[b]? =some (.cells C t fr):=hC;obtain⟨C1,a1,a2,a3⟩:=fE b t fr (cs.drop i) (off+(i+1)) w.drew C hC0;have hblt:b<w.heap.size:=by
   rcases uP b w.heap.size with h|h
   ·exact h
   ·rw[uL h]at hC;cases hC
  have hC1:(w.drew.setCells b (off+(i+1)) (cs.drop i)).heap[b]? =some (.cells C1 t fr):=by
   rw[a1];show(w.heap.setIfInBounds b _)[b]? =_;rw[xO,if_pos rfl,if_pos hblt]
  obtain⟨C2,b1,b2,b3⟩:=fE b t fr [x] (off+i) _ C1 hC1;refine⟨rfl,C2,?_,by omega,by rw[b1,a1];rfl,by rw[b1,a1];rfl,fun j=> ?_⟩
  ·rw[b1,a1];show(w.heap.setIfInBounds _ _).setIfInBounds _ _=_;apply DR;intro k;simp only[xO,PS];by_cases hk:b=k
   ·subst hk;simp
   ·simp[hk]
  ·have e1:(cs.take i).length=i:=by simp;omega
   rw[b3,a3];unfold j6;by_cases c1:off≤j∧j<off+(n+1)
   ·rw[if_pos c1];by_cases c2:off+i=j
    ·subst c2;rw[if_pos ⟨by omega,by simp,by omega⟩,dh (by omega),e1,show off+i - (off+i)=0 by omega,show off+i - off - i=0 by omega];rfl
    ·rw[if_neg (by simp;omega)];by_cases c3:off+(i+1)≤j
     ·rw[if_pos ⟨c3,by simp;omega,by omega⟩,dh (by omega),e1,show j - off - i=(j - (off+(i+1)))+1 by omega,DQ]
     ·rw[if_neg (by omega),bG (by omega),fU,if_pos (by omega)];have:=hcs (j - off) _ (aQ (by omega));rw[show off+(j - off)=j by omega]at this;rw[this,aQ (by omega)]
   ·rw[if_neg c1,if_neg (by simp;omega),if_neg (by simp;omega)]
end Go.RE
