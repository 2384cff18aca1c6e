/- slices.SortFunc at pairs and at writes: what the library's contract gives at this program. -/
import Derived.Test.YtmpopachilfinaaGreatPart17
import Derived.Test.YtmpopachilfinaaGreatPart14
import Derived.WalkKit
import Derived.Test.YtmpopachilfinaaGreatPart15
set_option linter.unusedVariables false
set_option linter.unusedSimpArgs false
set_option linter.unnecessarySimpa false
namespace Go.RE
open Go Go.Proofs Go.Sort Go.Lib Go.RowKit
abbrev Rw:=By×Bool×Option Addr×Nat×Nat
def NZ(x:Rw):List Value:=[.string ⟨x.1.toArray⟩,.slice x.2.2.1 x.2.2.2.1 x.2.2.2.2]
def N2(x:Rw):List Value:=[.string ⟨x.1.toArray⟩,.bool x.2.1,.slice x.2.2.1 x.2.2.2.1 x.2.2.2.2]
def wu(k:Nat):Rw→List Value:=bif Nat.beq k 2 then NZ else N2
set_option maxHeartbeats 1000000 in
theorem NT(x y:Rw)(W:World):Calls Tryz.prog 82 #[.agg (NZ x).toArray,.agg (NZ y).toArray] W fun e w' =>e=.returned (.int .i64 (n9 x.1 y.1))∧∃ q os',w' =grow (W.drewN q) os' :=by
 have hcon:=fun W' =>Any.strings_Compare Tryz.Et ⟨x.1.toArray⟩ ⟨y.1.toArray⟩ W';change ∀ W',Calls Tryz.prog 83 _ _ _ at hcon;rw[rL]at hcon;simp only[NZ];obtain⟨a,a2,a3,a4,a5⟩:=x;obtain⟨b,b2,b3,b4,b5⟩:=y;dsimp only at hcon⊢;generalize n9 a b=r at hcon⊢
 go_enter Tryz.func82,Tryz.ntmps82
 go_wp2_with (go_at_call 83;refine(hcon _).mono ?_;rintro e w' ⟨rfl,rfl⟩)
 go_ret
 exact⟨rfl,0,_,by rw[alloc_eq_grow,alloc_eq_grow,grow_grow];rfl⟩
set_option maxHeartbeats 1000000 in
theorem Jg(x y:Rw)(W:World):Calls Tryz.prog 116 #[.agg (N2 x).toArray,.agg (N2 y).toArray] W fun e w' =>e=.returned (.int .i64 (n9 x.1 y.1))∧∃ q os',w' =grow (W.drewN q) os' :=by
 have hcon:=fun W' =>Any.strings_Compare Tryz.Et ⟨x.1.toArray⟩ ⟨y.1.toArray⟩ W';change ∀ W',Calls Tryz.prog 83 _ _ _ at hcon;rw[rL]at hcon;simp only[N2];obtain⟨a,a2,a3,a4,a5⟩:=x;obtain⟨b,b2,b3,b4,b5⟩:=y;dsimp only at hcon⊢;generalize n9 a b=r at hcon⊢
 go_enter Tryz.func116,Tryz.ntmps116
 go_wp2_with (go_at_call 83;refine(hcon _).mono ?_;rintro e w' ⟨rfl,rfl⟩)
 go_ret
 exact⟨rfl,0,_,by rw[alloc_eq_grow,alloc_eq_grow,grow_grow];rfl⟩
theorem Mi(x y:Rw):ltOf (fun x y:Rw=>n9 x.1 y.1) x y=lt x.1 y.1:=qau x.1 y.1
theorem qfx:SWO (ltOf fun x y:Rw=>n9 x.1 y.1) where
 irrefl x:=by rw[Mi];exact AW _
 trans x y z h1 h2:=by rw[Mi]at*;exact Dp h1 h2
 ntrans x y z h1 h2:=by
  rw[Mi]at*;cases h:lt x.1 z.1 with
  |false=>rfl
  |true=>
   rcases wG x.1 y.1 with h3|h3|h3
   ·rw[show lt x.1 y.1=true from h3]at h1;cases h1
   ·rw[h3]at h;rw[h]at h2;cases h2
   ·rw[show lt y.1 z.1=true from Dp h3 h]at h2;cases h2
def I5(P:Program)(f c k:Nat):Prop:=∀ (blk off cap:Nat) (d:Array Rw) (w:World),HoldsK (wu k) k w blk off d→blk<w.heap.size→d.size<4611686018427387904→
  Calls P f #[.slice (some ⟨blk,off,none⟩) d.size cap,.func (.func c) #[] #[]] w fun e w' =>e=.returned (.tuple #[])∧∃ d' n os,PermIn 0 d.size d d'∧SortedIn (ltOf fun x y:Rw=>n9 x.1 y.1) 0 d.size d'∧w' =sortWorldK (wu k) k w blk off n d' os
def I6(P:Program)(f c:Nat):Prop:=∀ (p:Option Addr) (cap:Nat) (w:World),Calls P f #[.slice p 0 cap,.func (.func c) #[] #[]] w fun e w' =>e=.returned (.tuple #[])∧w' =w
set_option maxRecDepth 100000 in
theorem qbE:I5 Tryz.prog 81 82 2:=by
 intro blk off cap d w hH hblk hsz;have h:=AnyQ.slices_SortFunc Tryz.P6 2 Tryz.isAgg107 Tryz.sizeOf107 NZ (fun _=>rfl) (fun x v hv=>by simp[NZ]at hv;rcases hv with rfl|rfl<;>rfl) (fun x y=>n9 x.1 y.1) qfx 82 #[] blk off cap d w
  (enters_of Tryz.func82 (by kernel_rfl) rfl) (fun _ _ _ _ x y=>NT x y _) hH hblk hsz
 change Calls Tryz.prog 81 _ _ _ at h;exact h
set_option maxRecDepth 100000 in
theorem Xh:I5 Tryz.prog 115 116 3:=by
 intro blk off cap d w hH hblk hsz;have h:=AnyQ.slices_SortFunc Tryz.Mc 3 Tryz.isAgg25 Tryz.sizeOf25 N2 (fun _=>rfl) (fun x v hv=>by simp[N2]at hv;rcases hv with rfl|rfl|rfl<;>rfl) (fun x y=>n9 x.1 y.1) qfx 116 #[] blk off cap d w
  (enters_of Tryz.func116 (by kernel_rfl) rfl) (fun _ _ _ _ x y=>Jg x y _) hH hblk hsz
 change Calls Tryz.prog 115 _ _ _ at h;exact h
set_option maxRecDepth 100000 in
theorem Ii:I6 Tryz.prog 81 82:=by
 intro p cap w;have h:=AnyF.slices_SortFunc_none Tryz.P6 p cap (.func (.func 82) #[] #[]) w;change Calls Tryz.prog 81 _ _ _ at h;exact h
set_option maxRecDepth 100000 in
theorem EN:I6 Tryz.prog 115 116:=by
 intro p cap w;have h:=AnyF.slices_SortFunc_none Tryz.Mc p cap (.func (.func 116) #[] #[]) w;change Calls Tryz.prog 115 _ _ _ at h;exact h
end Go.RE
namespace Go.RE
structure Wt where
 key:By
 gone:Bool
 data:By
deriving Inhabited,DecidableEq
def dI(w:Wt):List U:=[.str w.key,.bool w.gone,.sl 1 (bE w.data)]
def lo0(a b:By):Bool:= !lt b a
def yY:Option By→By→Bool
 |some q,k=>lo0 k q
 |none,_=>false
@[simp] theorem ED(q k:By):yY (some q) k=lo0 k q:=rfl
@[simp] theorem W7(k:By):yY none k=false:=rfl
def fV(p:Option By)(w:Wt):Nat:=
 bif decide (256<w.key.length)then 3 else bif decide (4096<w.data.length)then 3 else
 bif w.key.isEmpty||yY p w.key||(w.gone&&decide (0<w.data.length))then 1 else 0
def eP:Option By→List Wt→Nat
 |_,[]=>0
 |p,w::l=>bif fV p w==0 then eP (some w.key) l else fV p w
def prevK(l:List Wt):Nat→Option By
 |0=>none
 |i+1=>(l[i]?).map (·.key)
def lS(w:Wt):Prop:=w.key.length<small∧w.data.length<small
theorem D2(b:By):(bE b).length=b.length:=by simp[bE]
theorem qfD(l:List Wt)(hl:l.length<small)(hok:∀ w∈l,lS w):∀ (j i:Nat),i+j=l.length→
  gL br mT qT pT Lp 0 zQ 0 ⟨[(7,.int .i64 (i:Int)),(0,.sl 3 (l.map dI)),(5,.sl 3 (l.map dI)),(6,.int .i64 (l.length:Int))],[],0⟩
   (gI br mT qT pT Lp (.seq (.region Lq) .ret) (kE 0 Lp (.int .i64 (eP (prevK l i) (l.drop i):Nat),[],0))):=by
 intro j
 induction j with
 |zero=>
  intro i hij;obtain⟨h1,h2⟩:=nB hij;rw[ak zQ.eq_1,h2];simp[qk,Lq,h1,eP]
 |succ j ih=>
  intro i hij;obtain⟨h1,e3,w,d1,g1⟩:=qn hij hl;have e1:=g1 dI;have hw:lS w:=hok w (List.mem_of_mem_drop (i:=i) (by rw[d1];exact eU));have hpk:prevK l (i+1)=some w.key:=by
   have:l[i]? =some w:=by rw[←List.head?_drop,d1];rfl
   simp[prevK,this]
  have ih' :=ih (i+1) (by omega);rw[hpk]at ih';rw[ak zQ.eq_1,d1];have k1:decide (256<(w.key.length:Int))=decide (256<w.key.length):=by rw[decide_eq_decide];omega
  have k2:decide (4096<(w.data.length:Int))=decide (4096<w.data.length):=by rw[decide_eq_decide];omega
  have k3:decide (0<(w.data.length:Int))=decide (0<w.data.length):=by rw[decide_eq_decide];omega
  simp only[dI]at e1;simp only[eP,fV];cases c1:decide (256<w.key.length)with
  |true=>
   rw[c1]at k1;simp[qk,rB,rC,U5,h1,bg e1,dI,k1]
  |false=>
   rw[c1]at k1;cases c2:decide (4096<w.data.length)with
   |true=>
    rw[c2]at k2;simp[qk,rB,rC,s8,U5,h1,bg e1,dI,k1,k2,D2]
   |false=>
    rw[c2]at k2;cases c3:w.key.isEmpty with
    |true=>
     simp[qk,rB,rC,s8,vM,qa,h1,bg e1,dI,k1,k2,D2,c3]
    |false=>
     cases hz:decide (0<i)with
     |false=>
      have hp:prevK l i=none:=by
       have:=of_decide_eq_false hz;obtain rfl:i=0:=by omega
       rfl
      cases c4:w.gone with
      |false=>
       simp[qk,rB,rC,s8,vM,ay tY,qb,yy,qa,rA,h1,bg e1,dI,k1,k2,D2,c3,e3,hz,hp,cR,c4];simpa[dI]using ih'
      |true=>
       cases c5:decide (0<w.data.length)with
       |true=>
        rw[c5]at k3;simp[qk,rB,rC,s8,vM,ay tY,qb,yy,qa,rA,h1,bg e1,dI,k1,k2,D2,c3,e3,hz,hp,cR,c4,c5,k3]
       |false=>
        rw[c5]at k3;simp[qk,rB,rC,s8,vM,ay tY,qb,yy,qa,rA,h1,bg e1,dI,k1,k2,D2,c3,e3,hz,hp,cR,c4,c5,k3];simpa[dI]using ih'
     |true=>
      obtain⟨i',hii⟩:∃ i',i=i'+1:=⟨i - 1,by have:=of_decide_eq_true hz;omega⟩;have hi' :i' <l.length:=by omega
      obtain⟨q,hq⟩:∃ q,l[i']? =some q:=⟨_,bP hi'⟩;have hp:prevK l i=some q.key:=by rw[hii];simp[prevK,hq]
      have e5:(l.map dI)[i']? =some [.str q.key,.bool q.gone,.sl 1 (bE q.data)]:=by simp[dI,hq]
      have e6:aI .i64 ((i:Int) - 1)=(i' :Int):=by
       rw[show(i:Int) - 1=(i' :Int) by omega];exact fC (by unfold small at hl;omega)
      cases c6:lo0 w.key q.key with
      |true=>
       have c7:=c6;simp only[lo0,Bool.not_eq_true',Bool.not_eq_false']at c7;simp[qk,rB,rC,s8,vM,ay tY,qb,yy,qa,rA,h1,bg e1,dI,k1,k2,D2,c3,e3,hz,hp,cR,bg e5,e6,c6,c7]
      |false=>
       have c7:=c6;simp only[lo0,Bool.not_eq_true',Bool.not_eq_false']at c7;cases c4:w.gone with
       |false=>
        simp[qk,rB,rC,s8,vM,ay tY,qb,yy,qa,rA,h1,bg e1,dI,k1,k2,D2,c3,e3,hz,hp,cR,c4,bg e5,e6,c6,c7];simpa[dI]using ih'
       |true=>
        cases c5:decide (0<w.data.length)with
        |true=>
         rw[c5]at k3;simp[qk,rB,rC,s8,vM,ay tY,qb,yy,qa,rA,h1,bg e1,dI,k1,k2,D2,c3,e3,hz,hp,cR,c4,c5,k3,bg e5,e6,c6,c7]
        |false=>
         rw[c5]at k3;simp[qk,rB,rC,s8,vM,ay tY,qb,yy,qa,rA,h1,bg e1,dI,k1,k2,D2,c3,e3,hz,hp,cR,c4,c5,k3,bg e5,e6,c6,c7];simpa[dI]using ih'
theorem t57(l:List Wt)(hl:l.length<small)(hok:∀ w∈l,lS w):G 57 [.sl 3 (l.map dI)] [] 0=some (.int .i64 (eP none l:Nat),[],0):=by
 refine bL (fn:=Lp) rfl rfl rfl ?_;have:=qfD l hl hok l.length 0 (by omega);simp[Cb,Zz,ZA];exact this
abbrev Sz:=Nat×Nat×Nat
def tK(z:Sz):List U:=[.int .i64 z.1,.int .i64 z.2.1,.int .i64 z.2.2]
def kY(c:List jw):Bool:=(c.getLast?.map (·.qp)).getD true
def eo(d:Db)(s:List Wt×Sz)(w:Wt):List Wt×Sz:=
 bif w.gone&&kY (chain d w.key)then s
 else bif(chain d w.key).isEmpty then(s.1++[w],s.2.1+1,s.2.2.1+1,s.2.2.2+w.data.length+w.key.length)else(s.1++[w],s.2.1,s.2.2.1+1,s.2.2.2+w.data.length)
def Xn(d:Db):Sz:=(d.sk,d.sv,d.sb)
def aT(d:Db)(l:List Wt):List Wt×Sz:=l.foldl (eo d) ([],Xn d)
theorem qbY{h:List Uo}{s o:Nat}{d:Db}{ks:U}(fl:Nat)(hf:fl≤h.length)(hs:eW h s o d ks)(hd:oV d)(l:List Wt)(hl:l.length<small)(hok:∀ w∈l,lS w)
  (K:Ex→Vs→Prop) (R:List Wt×Sz) (hK:K .normal ⟨[(5,.ptr h.length 0),(6,.own (.t 6) 3 (R.1.map dI)),(7,.ptr (h.length+1) 0)],h++[.row [.int .i64 0,.int .i64 0,.int .i64 0],.row (tK R.2)],fl⟩) (n:Nat) (hn:n=h.length+2):
  ∀ (j i:Nat) (z:List Wt×Sz),i+j=l.length→(l.drop i).foldl (eo d) z=R→z.1.length≤i→z.2.1≤3000000000000000000+i→z.2.2.1≤3000000000000000000+i→z.2.2.2≤3000000000000000000+2000000000*i→
  gL br mT qT pT BA 0 uZ n ⟨[(17,.int .i64 (i:Int)),(7,.ptr (h.length+1) 0),(6,.own (.t 6) 3 (z.1.map dI)),(0,.ptr s 0),(15,.sl 3 (l.map dI)),(5,.ptr h.length 0),(16,.int .i64 (l.length:Int))],h++[.row [.int .i64 0,.int .i64 0,.int .i64 0],.row (tK z.2)],fl⟩ K:=by
 subst hn;have hl1:decide (s<h.length+2)=true:=decide_eq_true (by have:=(bn.1 hs.row).1;omega);have hr:=hs.row;have hlk:∀ (k:By) (e:Env) (x:List Uo),fH ⟨e,h++x,fl⟩ .str (.sl 3 []) false (.map o) (.str k)=some (.sl 3 ((chain d k).map bX)):=fun k e x=>by
  have hm:jX kP (h++x)[o]? d.of:=by
   have:=hs.map;cases ho:h[o]? with
   |none=>rw[ho]at this;obtain⟨_,_,_,hh,_⟩:=this;cases hh
   |some q=>rw[aS ho,←ho];exact this
  have:=mU kP (s:=⟨e,h++x,fl⟩) (m:=o) hm (.sl 3 []) k false;refine this.trans ?_;unfold chain;cases fK kP k d.of<;>rfl
 have hz:V.EV (.ag [] 0 0 3)=some (.sl 3 []):=rfl;simp only[dG]at hr;intro j
 induction j with
 |zero=>
  intro i z hij hR h1 h2 h3 h4;obtain⟨h1,h2⟩:=nB hij;rw[h2]at hR;simp only[List.foldl_nil]at hR;subst hR;simp only[tK]at hK;rw[ak uZ.eq_1];simp[tW,h1,tK];simpa[Al hf]using hK
 |succ j ih=>
  intro i z hij hR q1 q2 q3 q4;obtain⟨h1,e3,w,d1,g1⟩:=qn hij hl;have e1:=g1 dI;have hw:lS w:=hok w (List.mem_of_mem_drop (i:=i) (by rw[d1];exact eU));rw[d1,List.foldl_cons]at hR;rw[ak uZ.eq_1];simp only[dI]at e1;have b1:(z.1.length+1)*48≤bp∧z.1.length+1≤bp:=by unfold small at hl;unfold bp;omega
  obtain⟨w1,w2⟩:=hw;have ev:aI .i64 ((z.2.2.1:Int)+1)=((z.2.2.1+1:Nat):Int):=fD (by unfold small at hl;omega);have ek:aI .i64 ((z.2.1:Int)+1)=((z.2.1+1:Nat):Int):=fD (by unfold small at hl;omega);have eb:aI .i64 ((z.2.2.2:Int)+(w.data.length:Int))=((z.2.2.2+w.data.length:Nat):Int):=by
   rw[show(z.2.2.2:Int)+(w.data.length:Int)=((z.2.2.2+w.data.length:Nat):Int) by omega];exact fC (by unfold small at*;omega)
  have ec:aI .i64 ((z.2.2.2:Int)+(w.data.length:Int)+(w.key.length:Int))=((z.2.2.2+w.data.length+w.key.length:Nat):Int):=by
   rw[show(z.2.2.2:Int)+(w.data.length:Int)+(w.key.length:Int)=((z.2.2.2+w.data.length+w.key.length:Nat):Int) by omega];exact fC (by unfold small at*;omega)
  simp only[Int.natCast_add]at ev ek eb ec;have hcok:=mD hd w.key;have hk:=hlk w.key;rcases List.eq_nil_or_concat (chain d w.key)with hc|⟨c',v,hc⟩
  ·rw[hc]at hk;cases hg:w.gone with
   |true=>
    have e:eo d z w=z:=by simp[eo,hg,hc,kY]
    rw[e]at hR;have ih' :=ih (i+1) z (by omega) hR (by omega) (by omega) (by omega) (by omega);simp[tW,xe,ay uY,p8,xg,sD,h1,bg e1,e3,dI,hg,aS hr,hk,hz,hl1,tK,Al hf,cR];simpa[tK,dI,hg]using ih'
   |false=>
    have e:eo d z w=(z.1++[w],z.2.1+1,z.2.2.1+1,z.2.2.2+w.data.length+w.key.length):=by simp[eo,hg,hc,kY]
    rw[e]at hR;have ih' :=ih (i+1) _ (by omega) hR (by simp;omega) (by simp;omega) (by simp;omega) (by simp;unfold small at*;omega);simp[tW,xe,ay uY,p8,xg,Fm,Fo,zA,zB,MR,MS,sD,h1,bg e1,e3,dI,hg,aS hr,hk,hz,hl1,tK,Al hf,cR,b1,ev,ek,eb,ec,D2];simpa[tK,dI,hg]using ih'
  ·rw[List.concat_eq_append]at hc;rw[hc]at hk;have hcl:c'.length+1<small:=by have:=hcok.1;rw[hc]at this;simpa using this
   have hlen:((c'++[v]).map bX).length=c'.length+1:=by simp
   have e7:((c'++[v]).map bX)[c'.length]? =some [.int .u64 v.At,.bool v.qp,.sl 1 (bE v.Data)]:=by simp[bX]
   have e5:aI .i64 ((c'.length:Int)+1 - 1)=(c'.length:Int):=by
    rw[show(c'.length:Int)+1 - 1=(c'.length:Int) by omega];exact fC (by unfold small at hcl;omega)
   have e6:((c'.length:Int)+1==0)=false:=by rw[beq_eq_false_iff_ne];omega
   generalize (c'++[v]).map bX=X at*;have hlg:kY (chain d w.key)=v.qp:=by rw[hc];simp[kY]
   have hem:(chain d w.key).isEmpty=false:=by rw[hc];simp
   simp at e5;cases hg:w.gone with
   |true=>
    cases hv:v.qp with
    |true=>
     have e:eo d z w=z:=by simp[eo,hg,hlg,hv]
     rw[e]at hR;rw[hv]at e7;have ih' :=ih (i+1) z (by omega) hR (by omega) (by omega) (by omega) (by omega);simp[tW,xe,ay uY,p8,xg,sD,h1,bg e1,e3,dI,hg,aS hr,hk,hz,hl1,tK,Al hf,cR,hlen,e5,e6,bg e7];simpa[tK,dI,hg]using ih'
    |false=>
     have e:eo d z w=(z.1++[w],z.2.1,z.2.2.1+1,z.2.2.2+w.data.length):=by simp[eo,hg,hlg,hv,hem]
     rw[e]at hR;rw[hv]at e7;have ih' :=ih (i+1) _ (by omega) hR (by simp;omega) (by simp;omega) (by simp;omega) (by simp;unfold small at*;omega);simp[tW,xe,ay uY,p8,xg,sD,h1,bg e1,e3,dI,hg,aS hr,hk,hz,hl1,tK,Al hf,cR,hlen,e5,e6,bg e7,Fm,Fo,zA,zB,b1,ev,ek,eb,ec,D2];simpa[tK,dI,hg]using ih'
   |false=>
    have e:eo d z w=(z.1++[w],z.2.1,z.2.2.1+1,z.2.2.2+w.data.length):=by simp[eo,hg,hem]
    rw[e]at hR;have ih' :=ih (i+1) _ (by omega) hR (by simp;omega) (by simp;omega) (by simp;omega) (by simp;unfold small at*;omega);simp[tW,xe,ay uY,p8,xg,sD,h1,bg e1,e3,dI,hg,aS hr,hk,hz,hl1,tK,Al hf,cR,hlen,e5,e6,bg e7,Fm,Fo,zA,zB,b1,ev,ek,eb,ec,D2];simpa[tK,dI,hg]using ih'
def I7(d:Db):Prop:=d.sk≤3000000000000000000∧d.sv≤3000000000000000000∧d.sb≤3000000000000000000
theorem t142{h:List Uo}{s o:Nat}{d:Db}{ks:U}(fl:Nat)(hf:fl≤h.length)(hs:eW h s o d ks)(hd:oV d)(hz:I7 d)(l:List Wt)(hl:l.length<small)(hok:∀ w∈l,lS w):
  G 142 [.ptr s 0,.sl 3 (l.map dI)] h fl=some (.aV [.sl 3 ((aT d l).1.map dI),.agg (tK (aT d l).2)],h,fl):=by
 refine bL (fn:=BA) rfl rfl rfl ?_;have hl1:decide (s<h.length)=true:=decide_eq_true (bn.1 hs.row).1;have a:=qbY fl hf hs hd l hl hok (gI br mT qT pT BA (.seq (.draw Fk) .ret) (kE h.length BA (.aV [.sl 3 ((aT d l).1.map dI),.agg (tK (aT d l).2)],h,fl))) (aT d l) (by
  simp[tK,ay SA,BB,qA hf,cR]) (h.length+2) rfl l.length 0 ([],Xn d) (by omega) rfl (by simp) hz.1 hz.2.1 hz.2.2
 have hr:=hs.row;simp only[dG]at hr;have hl2:decide (s<h.length+2)=true:=decide_eq_true (by have:=of_decide_eq_true hl1;omega);simp[tK,Xn]at a;simp[xh,Sx,Sy,SB,SC,aS hr,tK,hl2,Al hf];exact a
def nH(d:Db)(z:Sz):Bool:=decide (z.1≤d.lim.keys)&&decide (z.2.1≤d.lim.gA)&&decide (z.2.2≤d.lim.bytes)
theorem t143{h:List Uo}{s o:Nat}{d:Db}{ks:U}(fl:Nat)(hf:fl≤h.length)(hs:eW h s o d ks)(z:Sz):G 143 [.ptr s 0,.agg (tK z)] h fl=some (.bool (nH d z),h,fl):=by
 refine bL (fn:=v143) rfl rfl rfl ?_;have hr:=hs.row;simp only[dG]at hr;cases h1:decide (z.1≤d.lim.keys)<;>cases h2:decide (z.2.1≤d.lim.gA)<;>
  simp[xk,SE,ay Xr,Fp,tK,aS hr,qA hf,nH,h1,h2,cR]
end Go.RE
namespace Go.RE
theorem jk(l:List jw)(t:Nat):∃ n,dh l t=l.drop n:=by
 unfold dh;split
 ·exact⟨0,rfl⟩
 ·rename_i n _;cases(l[n]?.getD default).qp
  ·exact⟨n,rfl⟩
  ·exact⟨n+1,rfl⟩
theorem Ke(l:List jw):∀ n,cw (l.drop n)≤cw l:=by
 induction l with
 |nil=>intro n;simp
 |cons a l ih=>
  intro n;cases n with
  |zero=>exact aq _
  |succ n=>have:=ih n;simp only[List.drop_succ_cons,cw,List.map_cons,List.sum_cons]at this⊢;omega
theorem nE.drop{l:List jw}(h:nE l)(n:Nat):nE (l.drop n):=
 ⟨by have:=h.1;simp only[List.length_drop];omega,fun v hv=>h.2 v (List.mem_of_mem_drop hv)⟩
theorem It{l:List jw}(h:nE l)(t:Nat):nE (dh l t):=by
 obtain⟨n,hn⟩:=jk l t;rw[hn];exact h.drop n
theorem tL(l:List jw)(t:Nat):cw (dh l t)≤cw l:=by
 obtain⟨n,hn⟩:=jk l t;rw[hn];exact Ke l n
theorem C7{d:Db}(hd:oV d)(k:By):cw (chain d k)<small:=by
 unfold chain;cases h:fK kP k d.of with
 |none=>exact(by decide:0<small)
 |some x=>exact hd.EM x (kR _ h)
def gT(low:Nat)(st:Db×List By)(k:By):Db×List By:=
 let c:=dh (chain st.1 k) low
 bif c.isEmpty then({st.1 with of:=iY kP k st.1.of},st.2)
 else({st.1 with of:=lq kP (k,c) st.1.of,sk:=st.1.sk+1,sv:=st.1.sv+c.length,sb:=st.1.sb+(k.length+cw c)},st.2++[k])
def cK(d:Db)(low:Nat):Db:=
 let r:=d.keys.foldl (gT low) ({d with sk:=0,sv:=0,sb:=0},[])
 {r.1 with keys:=r.2}
theorem o9{k:By}{l:List (By×List jw)}{x:By×List jw}(h:x∈iY kP k l):x∈l:=by
 induction l with
 |nil=>cases h
 |cons b r ih=>
  simp only[iY]at h;cases hb:decide (kP.key b=k)with
  |true=>rw[hb]at h;exact gB _ h
  |false=>
   rw[hb]at h;rcases dS.1 h with rfl|h
   ·exact eU
   ·exact gB _ (ih h)
theorem iU{a:By×List jw}{l:List (By×List jw)}{x:By×List jw}(h:x∈lq kP a l):x=a∨x∈l:=by
 have hm:∀ l:List (By×List jw),x∈sR kP a l→x=a∨x∈l:=by
  intro l
  induction l with
  |nil=>intro h;cases h
  |cons b r ih=>
   intro h;simp only[sR]at h;cases hb:decide (kP.key b=kP.key a)with
   |true=>
    rw[hb]at h;rcases dS.1 h with rfl|h
    ·exact .inl rfl
    ·exact .inr (gB _ h)
   |false=>
    rw[hb]at h;rcases dS.1 h with rfl|h
    ·exact .inr eU
    ·rcases ih h with h|h
     ·exact .inl h
     ·exact .inr (gB _ h)
 unfold lq at h;cases hb:(fK kP (kP.key a) l).isSome with
 |true=>rw[hb]at h;exact hm l h
 |false=>
  rw[hb]at h;rcases gD.1 h with h|h
  ·exact .inr h
  ·simp at h;exact .inl h
theorem Wq{d:Db}{left:List By}{low:Nat}{k:By}(hd:oV d):oV (gT low (d,left) k).1:=by
 unfold gT;dsimp only;cases hc:(dh (chain d k) low).isEmpty with
 |true=>exact⟨hd.keys,hd.sQ,fun x hx=>hd.of x (o9 hx),fun x hx=>hd.EM x (o9 hx)⟩
 |false=>
  refine⟨hd.keys,hd.sQ,fun x hx=> ?_,fun x hx=> ?_⟩
  ·rcases iU hx with rfl|hx
   ·exact It (mD hd k) low
   ·exact hd.of x hx
  ·rcases iU hx with rfl|hx
   ·have:=tL (chain d k) low;have:=C7 hd k;simp only;omega
   ·exact hd.EM x hx
theorem C8(low:Nat)(st:Db×List By)(k:By):(gT low st k).1.keys=st.1.keys∧(gT low st k).1.lim=st.1.lim∧(gT low st k).1.now=st.1.now:=by
 unfold gT;dsimp only;cases(dh (chain st.1 k) low).isEmpty<;>exact⟨rfl,rfl,rfl⟩
def Fr(h h' :List Uo)(l:List Nat):Prop:=h'.length=h.length∧∀ j,j ∉ l→h'[j]? =h[j]?
theorem Fr.refl(h:List Uo)(l:List Nat):Fr h h l:=⟨rfl,fun _ _=>rfl⟩
theorem Fr.trans{h h1 h2:List Uo}{l:List Nat}(a:Fr h h1 l)(b:Fr h1 h2 l):Fr h h2 l:=⟨b.1.trans a.1,fun j hj=>(b.2 j hj).trans (a.2 j hj)⟩
theorem Fr.set{h h' :List Uo}{l:List Nat}(a:Fr h h' l){i:Nat}(hi:i∈l)(x:Uo):Fr h (h'.set i x) l:=
 ⟨by rw[List.length_set];exact a.1,fun j hj=>by rw[List.getElem?_set_ne (by rintro rfl;exact hj hi)];exact a.2 j hj⟩
theorem qfL(s o low was:Nat)(n fl:Nat)(hf:fl≤n)(hsn:s<n)(keys:List By)(hkn:keys.length<small)(hkl:∀ k∈keys,k.length<small):∀ (j i:Nat) (h:List Uo) (d:Db) (left:List By),i+j=keys.length→h.length=n→d.keys=keys→eW h s o d (.bF 1 (keys.map kC))→oV d→left.length≤i→
  d.sk≤i→d.sv≤1000000000*i→d.sb≤2000000000*i→was≤3000000000000000000→
  ∃ h',eW h' s o ((keys.drop i).foldl (gT low) (d,left)).1 (.bF 1 (((keys.drop i).foldl (gT low) (d,left)).2.map kC))∧Fr h h' [s,o]∧
  gL br mT qT pT OX 0 sN n ⟨[(32,.int .i64 (i:Int)),(0,.ptr s 0),(6,.own (.t 6) 1 (left.map kC)),(1,.int .u64 (low:Int)),(30,.own (.c s 8) 1 (keys.map kC)),(5,.int .i64 (was:Int)),(31,.int .i64 (keys.length:Int))],h,fl⟩
   (gI br mT qT pT OX (.seq (.region Gv) (.seq (.region Gw) .ret)) (kE n OX (.int .i64 ((was:Int) - (((keys.drop i).foldl (gT low) (d,left)).1.sv:Int)),h',fl))):=by
 have hcut:∀ H:List Uo,H.length=n→cut n fl H=H:=fun H hH=>by subst hH;exact aZ hf
 have hl:decide (s<n)=true:=decide_eq_true hsn;intro j
 induction j with
 |zero=>
  intro i h d left hij hn hk hs hd hle b1 b2 b3 b4;obtain⟨h1,h2⟩:=nB hij;rw[h2];simp only[List.foldl_nil];have hr:=hs.row;simp only[dG]at hr;have hlt:=(bn.1 hs.row).1;refine⟨h.set s (.row (dG d o (.bF 1 (left.map kC)))),hs.oh,(Fr.refl h _).set (by simp) _,?_⟩;have hss:∀ X:Uo,(h.set s X)[s]? =some X:=fun X=>List.getElem?_set_self hlt;have ew:aI .i64 ((was:Int) - (d.sv:Int))=(was:Int) - (d.sv:Int):=de (by unfold small at hkn;omega) (by omega);rw[ak sN.eq_1];simp[IT,Gv,Gw,h1,hr,hss,hl,hcut,hn,dG,ew]
 |succ j ih=>
  intro i h d left hij hn hk hs hd hle b1 b2 b3 b4;obtain⟨h1,e3,k,d1,g1⟩:=qn hij hkn;have e1:=g1 kC;simp only[kC]at e1;have hik:i<keys.length:=by omega
  have ia:∀ s',qo s' 1 (some (.own (.c s 8) 1 (keys.map kC))) (some (.int .i64 (i:Int)))=some (.bD (.c s 8) i 0,s'):=fun s' =>cT (by simpa using hik);rw[d1,List.foldl_cons];have hr:=hs.row;have hlt:=(bn.1 hs.row).1;have hne:=hs.ne;have hlk:∀ e,fH ⟨e,h,fl⟩ .str (.sl 3 []) false (.map o) (.str k)=some (.sl 3 ((chain d k).map bX)):=fun e=>by
   have:=mU kP (s:=⟨e,h,fl⟩) (m:=o) hs.map (.sl 3 []) k false;refine this.trans ?_;unfold chain;cases fK kP k d.of<;>rfl
  have hz:V.EV (.ag [] 0 0 3)=some (.sl 3 []):=rfl;have c1:=t136 (chain d k) low (mD hd k);have hco:=It (mD hd k) low;have hcs:cw (dh (chain d k) low)<small:=by have:=tL (chain d k) low;have:=C7 hd k;omega
  have hok:=Wq (left:=left) (low:=low) (k:=k) hd;have hkk:=(C8 low (d,left) k);have hol:decide (o<n)=true:=by
   obtain⟨_,_,_,ho,_⟩:=hs.map;rw[←hn];exact decide_eq_true (bn.1 ho).1
  have hss:∀ X:Uo,(h.set s X)[s]? =some X:=fun X=>List.getElem?_set_self hlt;have hkl' :k.length<small:=hkl k (List.mem_of_mem_drop (i:=i) (by rw[d1];exact eU));cases hc:(dh (chain d k) low).isEmpty with
  |true=>
   have hcn:dh (chain d k) low=[]:=by simpa using hc
   have e:gT low (d,left) k=({d with of:=iY kP k d.of},left):=by unfold gT;dsimp only;rw[hc];rfl
   rw[e]at hok hkk⊢;obtain⟨o',m1,m2⟩:=Ml kP hs.map k;have hs2:eW (h.set o o') s o {d with of:=iY kP k d.of} (.bF 1 (keys.map kC)):=
    ⟨by rw[List.getElem?_set_ne (Ne.symm hne)];exact hs.row,by rw[List.getElem?_set_self (by rw[hn];exact of_decide_eq_true hol)];exact m1⟩
   obtain⟨hF,f1,f2,f3⟩:=ih (i+1) (h.set o o') {d with of:=iY kP k d.of} left (by omega) (by simpa using hn) hk hs2 hok (by omega) (by show d.sk≤_;omega) (by show d.sv≤_;omega) (by show d.sb≤_;omega) b4;refine⟨hF,f1,((Fr.refl h [s,o]).set (by simp) o').trans f2,?_⟩;rw[hcn]at c1;have hdl:∀ e,Jm .str o (.str k) ⟨e,h,fl⟩ h[o]? =some (.aV [],⟨e,h.set o o',fl⟩):=fun e=>m2 o ⟨e,h,fl⟩ rfl;simp only[dG]at hr;rw[ak sN.eq_1];simp[IT,Vx,Vy,LC,Vm,LD,h1,ia,e1,e3,hr,hlk,hz,hl,hcut,hn,c1,hdl];simpa using f3
  |false=>
   have hcne:¬(dh (chain d k) low=[]):=fun hh=>by rw[hh]at hc;cases hc
   generalize hct:dh (chain d k) low=c at*;have e:gT low (d,left) k=({d with of:=lq kP (k,c) d.of,sk:=d.sk+1,sv:=d.sv+c.length,sb:=d.sb+(k.length+cw c)},left++[k]):=by unfold gT;dsimp only;rw[hct,hc];rfl
   rw[e]at hok hkk⊢;obtain⟨o',m1,m2⟩:=map_set kP hs.map (k,c);have hmu:∀ e,V1 .str o (.str k) (.sl 3 (c.map bX)) ⟨e,h,fl⟩ h[o]? =some (.aV [],⟨e,h.set o o',fl⟩):=fun e=>m2 o ⟨e,h,fl⟩;have c2:=t137 c hco hcs;have hr1:(h.set o o')[s]? =h[s]? :=List.getElem?_set_ne (Ne.symm hne);have hss1:∀ X:Uo,((h.set o o').set s X)[s]? =some X:=fun X=>List.getElem?_set_self (by simpa using hlt);have hs2:eW ((h.set o o').set s (.row (dG {d with of:=lq kP (k,c) d.of,sk:=d.sk+1,sv:=d.sv+c.length,sb:=d.sb+(k.length+cw c)} o (.bF 1 (keys.map kC))))) s o {d with of:=lq kP (k,c) d.of,sk:=d.sk+1,sv:=d.sv+c.length,sb:=d.sb+(k.length+cw c)} (.bF 1 (keys.map kC)):=
    ⟨hss1 _,by rw[List.getElem?_set_ne hne,List.getElem?_set_self (by rw[hn];exact of_decide_eq_true hol)];exact m1⟩
   have hclen:c.length<small:=hco.1;obtain⟨hF,f1,f2,f3⟩:=ih (i+1) ((h.set o o').set s (.row (dG {d with of:=lq kP (k,c) d.of,sk:=d.sk+1,sv:=d.sv+c.length,sb:=d.sb+(k.length+cw c)} o (.bF 1 (keys.map kC))))) {d with of:=lq kP (k,c) d.of,sk:=d.sk+1,sv:=d.sv+c.length,sb:=d.sb+(k.length+cw c)} (left++[k]) (by omega) (by simpa using hn) hk hs2 hok (by simp;omega) (by show d.sk+1≤_;omega) (by show d.sv+c.length≤_;unfold small at hclen;omega) (by show d.sb+(k.length+cw c)≤_;unfold small at hcs hkl';omega) b4;refine⟨hF,f1,(((Fr.refl h [s,o]).set (by simp) o').set (by simp) _).trans f2,?_⟩;have b5:(left.length+1)*16≤bp∧left.length+1≤bp:=by unfold small at hkn;unfold bp;omega
   have w1:aI .i64 ((d.sk:Int)+1)=((d.sk+1:Nat):Int):=fD (by unfold small at hkn;omega);have w2:aI .i64 ((d.sv:Int)+(c.length:Int))=((d.sv+c.length:Nat):Int):=by
    rw[show(d.sv:Int)+(c.length:Int)=((d.sv+c.length:Nat):Int) by omega];exact fC (by unfold small at*;omega)
   have w3:aI .i64 ((k.length:Int)+(cw c:Int))=((k.length+cw c:Nat):Int):=by
    rw[show(k.length:Int)+(cw c:Int)=((k.length+cw c:Nat):Int) by omega];exact fC (by unfold small at*;omega)
   have w4:aI .i64 ((d.sb:Int)+((k.length:Int)+(cw c:Int)))=((d.sb+(k.length+cw c):Nat):Int):=by
    rw[show(d.sb:Int)+((k.length:Int)+(cw c:Int))=((d.sb+(k.length+cw c):Nat):Int) by omega];exact fC (by unfold small at*;omega)
   have hcl0:(((c.length:Int))==0)=false:=by
    rw[beq_eq_false_iff_ne];cases c with
    |nil=>exact absurd rfl hcne
    |cons a b=>simp;omega
   have hcl1:¬(c.length=0):=fun hh=>hcne (List.length_eq_zero_iff.1 hh);simp only[Int.natCast_add]at w1 w2 w3 w4;simp only[dG]at hr f3;rw[ak sN.eq_1];simp[IT,Vx,Vy,LC,Vn,Vo,Vp,Vq,ay XA,Gu,LD,kC,h1,ia,e1,e3,hr,hlk,hz,hl,hcut,hn,c1,c2,hmu,hr1,hss1,b5,w1,w2,w3,w4,hcl0,hcl1,hcne,cR];simpa[kC]using f3
def nY(ks:U)(keys:List By):Prop:=ks=.bF 1 (keys.map kC)∨(ks=.nl 1∧keys=[])
def slO(d w:Nat)(s:Vs):Option Nat→Option Nat→Option Nat→Option (U×Vs)
 |some 0,some 0,some 0=>some (.own (.t d) w [],s.kill (.t d))
 |_,_,_=>none
@[simp] theorem qiM(d w:Nat)(s:Vs):slO d w s (some 0) (some 0) (some 0)=some (.own (.t d) w [],s.kill (.t d)):=rfl
@[simp] theorem Ye(d w:Nat)(g:Tg)(lo hi:Option bJ)(m:bJ)(xs:List (List U))(s:Vs):ir d w lo hi (some m) (.own g w xs) s=slO d w s (bw s.e hi xs.length xs.length) (bw s.e (some m) xs.length xs.length) (bw s.e lo 0 0):=by
 simp only[ir,jC,cond_true];rfl
theorem t98{h:List Uo}{s o:Nat}{d:Db}{ks:U}(fl:Nat)(hf:fl≤h.length)(hs:eW h s o d ks)(hk:nY ks d.keys)(hd:oV d)(hz:I7 d)(low:Nat):
  ∃ h' ks',G 98 [.ptr s 0,.int .u64 (low:Int)] h fl=some (.int .i64 ((d.sv:Int) - ((cK d low).sv:Int)),h',fl)∧eW h' s o (cK d low) ks'∧nY ks' (cK d low).keys∧Fr h h' [s,o]:=by
 have hlt:=(bn.1 hs.row).1;have hl:decide (s<h.length)=true:=decide_eq_true hlt;have c0:=t99 fl hf hs.row;have hr:=hs.row;have hss:∀ X:Uo,(h.set s X)[s]? =some X:=fun X=>List.getElem?_set_self hlt;have hcut:∀ H:List Uo,H.length=h.length→cut h.length fl H=H:=fun H hH=>by rw[←hH];exact aZ (by rw[hH];exact hf)
 have e0:fM (.int .i64 0) 0=some 0:=rfl;have e0' :∀ n,fM (.int .i64 0) n=some 0:=fun n=>by
  show asNat (.int .i64 0) n=some 0;simp only[asNat];rw[if_pos ⟨by decide,Int.natCast_nonneg n⟩];rfl
 rcases hk with rfl|⟨rfl,hk⟩
 ·have hs1:eW (h.set s (.row (dG {d with sk:=0,sv:=0,sb:=0} o (.bF 1 (d.keys.map kC))))) s o {d with sk:=0,sv:=0,sb:=0} (.bF 1 (d.keys.map kC)):=
   ⟨hss _,by rw[List.getElem?_set_ne hs.ne];exact hs.map⟩
  obtain⟨h',f1,f2,f3⟩:=qfL s o low d.sv h.length fl hf hlt d.keys hd.keys hd.sQ d.keys.length 0 (h.set s (.row (dG {d with sk:=0,sv:=0,sb:=0} o (.bF 1 (d.keys.map kC))))) {d with sk:=0,sv:=0,sb:=0} [] (by omega) (by simp) rfl hs1 ⟨hd.keys,hd.sQ,hd.of,hd.EM⟩ (by simp) (by simp) (by simp) (by simp) hz.2.1;refine⟨h',_,?_,⟨f1.row,f1.map⟩,.inl rfl,((Fr.refl h [s,o]).set (by simp) _).trans f2⟩;refine bL (fn:=OX) rfl rfl rfl ?_;simp only[dG]at hr f3;simp at f3;simp[vS,Vk,Vl,Vt,Vu,Vv,Vw,c0,hr,hl,hss,hcut,e0,e0'];exact f3
 ·refine⟨h.set s (.row (dG {d with sk:=0,sv:=0,sb:=0} o (.nl 1))),.nl 1,?_,⟨by rw[hss];simp[cK,hk,dG],by rw[List.getElem?_set_ne hs.ne];simpa[cK,hk]using hs.map⟩,.inr ⟨rfl,by simp[cK,hk]⟩,(Fr.refl h [s,o]).set (by simp) _⟩;refine bL (fn:=OX) rfl rfl rfl ?_;have ew:aI .i64 ((d.sv:Int) - 0)=(d.sv:Int):=by rw[Int.sub_zero];exact fC (by have:=hz.2.1;omega)
  have e:(cK d low).sv=0:=by simp[cK,hk]
  rw[e];simp only[dG]at hr;simp at ew;simp[vS,Vk,Vl,Vt,Vu,Vv,Vw,c0,hr,hl,hss,hcut,e0,e0',dG];rw[ak sN.eq_1];simp[IT,Gv,Gw,hss,hl,hcut,ew]
end Go.RE
namespace Go.RE
section
variable{α κ:Type}[DecidableEq κ](F:Mk α κ)
theorem Qb(k:κ)(a:α):∀ l:List α,(fK F (F.key a) l).isSome=true→fK F k (sR F a l)=if F.key a=k then some a else fK F k l:=by
 intro l
 induction l with
 |nil=>intro h;cases h
 |cons b r ih=>
  intro h;simp only[sR];by_cases hb:F.key b=F.key a
  ·simp only[hb,decide_true,cond_true];by_cases hk:F.key a=k
   ·simp[fK,List.find?_cons,hk]
   ·simp[fK,List.find?_cons,hk,hb]
  ·simp only[hb,decide_false,cond_false];have h' :(fK F (F.key a) r).isSome=true:=by
    simp only[fK,List.find?_cons,hb,decide_false]at h;exact h
   have ih' :=ih h';by_cases hk:F.key b=k
   ·have:¬F.key a=k:=fun hh=>hb (by rw[hk,hh]);simp[fK,List.find?_cons,hk,this]
   ·have e1:fK F k (b::sR F a r)=fK F k (sR F a r):=by simp[fK,List.find?_cons,hk]
    have e2:fK F k (b::r)=fK F k r:=by simp[fK,List.find?_cons,hk]
    rw[e1,e2,ih']
theorem AQ(k:κ)(a:α)(l:List α):fK F k (lq F a l)=if F.key a=k then some a else fK F k l:=by
 unfold lq;cases h:(fK F (F.key a) l).isSome with
 |true=>exact Qb F k a l h
 |false=>
  have hn:fK F (F.key a) l=none:=by simpa using h
  rw[cond_false];by_cases hk:F.key a=k
  ·subst hk;simp only[fK]at hn⊢;rw[List.find?_append,hn];simp
  ·simp only[fK];rw[List.find?_append];simp[hk]
end
theorem Og(ks:List By):kz (ks.map kC)=some ks:=by
 induction ks with
 |nil=>rfl
 |cons a r ih=>show(match pQ (kC a),kz (r.map kC)with|some k,some l=>some (k::l)|_,_=>none)=_;rw[ih];rfl
theorem L3(ks:List By)(n t:Nat)(k:By)(hn:n≤ks.length)(hl:ks.length<small):Of (ks.map kC) [.int .i64 (n:Int),.own (.t t) 1 [[.str k]]]=some ((ks.take n++[k]++ks.drop n).map kC):=by
 have h1:(kz (ks.map kC)).isSome=true:=by rw[Og];rfl
 have h2:kJ 1 (ks.map kC)=true:=pR (fun v=>by simp[kC]) ks;have h3:Nat.ble n (ks.map kC).length=true:=oT (by simpa using hn);have h4:Nat.blt (ks.map kC).length 1000000000=true:=by
  simp only[List.length_map];exact oT hl
 simp only[Of,h1,h2,Int.toNat_natCast,h3,h4,Int.natCast_nonneg,decide_true,Bool.and_self,cond_true];simp[kC]
def aN(s:Vs)(d w:Nat)(rest:List U):Option (List (List U))→Option (U×Vs)
 |some ys=>bif lP w ys&&uA .r rest then some (.own (.t d) w ys,(s.kill .r).kill (.t d))else none
 |none=>none
@[simp] theorem qgi(s:Vs)(d w:Nat)(rest:List U)(ys:List (List U)):aN s d w rest (some ys)=bif lP w ys&&uA .r rest then some (.own (.t d) w ys,(s.kill .r).kill (.t d))else none:=rfl
@[simp] theorem qd4(Q:mA)(F:FU)(s:Vs)(d f:Nat)(w:Nat)(rest:List U)(q:List (List U)→List U→Option (List (List U))):
  xX Q F s d f (.nl w::rest) (some q)=aN s d w rest (q [] rest):=by
 simp only[xX];cases q [] rest<;>rfl
def mM(ks:List By)(k:By):List By:=ks.take (ot ks k)++[k]++ks.drop (ot ks k)
theorem Hl(ks:List By)(k:By):(mM ks k).length=ks.length+1:=by
 have:=ER ks k;simp[mM];omega
def nC(d:Db)(w:Wt):jw:=⟨d.now,w.gone,w.data⟩
def iJ(d:Db)(w:Wt):Db:=
 {d with of:=lq kP (w.key,chain d w.key++[nC d w]) d.of,keys:=bif(chain d w.key).isEmpty then mM d.keys w.key else d.keys}
theorem rK(d:Db)(w:Wt)(k:By):chain (iJ d w) k=if w.key=k then chain d w.key++[nC d w]else chain d k:=by
 show((fK kP k (lq kP (w.key,chain d w.key++[nC d w]) d.of)).map (·.2)).getD []=_;rw[AQ];by_cases h:w.key=k
 ·have:kP.key (w.key,chain d w.key++[nC d w])=k:=h;rw[if_pos this,if_pos h];rfl
 ·have:¬kP.key (w.key,chain d w.key++[nC d w])=k:=h;rw[if_neg this,if_neg h];rfl
structure zU(d:Db)(m:Nat):Prop where
 keys:d.keys.length+m<small
 sQ:∀ k∈d.keys,k.length<small
 len:∀ x∈d.of,x.2.length+m<small
 dat:∀ x∈d.of,∀ v∈x.2,v.Data.length<small
 EM:∀ x∈d.of,cw x.2+5000*m<small
theorem zU.ok{d:Db}{m:Nat}(h:zU d m):oV d:=
 ⟨by have:=h.keys;omega,h.sQ,fun x hx=>⟨by have:=h.len x hx;omega,h.dat x hx⟩,fun x hx=>by have:=h.EM x hx;omega⟩
theorem zU.le{d:Db}{m n:Nat}(h:zU d m)(hn:n≤m):zU d n:=
 ⟨by have:=h.keys;omega,h.sQ,fun x hx=>by have:=h.len x hx;omega,h.dat,fun x hx=>by have:=h.EM x hx;omega⟩
theorem wj{d:Db}{k:By}(h:chain d k≠[]):∃ x∈d.of,x.2=chain d k:=by
 unfold chain at h⊢;cases hh:fK kP k d.of with
 |none=>rw[hh]at h;exact absurd rfl h
 |some x=>exact⟨x,kR _ hh,rfl⟩
theorem zU.put{d:Db}{m:Nat}(h:zU d (m+1))(hs:5000*(m+1)<small)(w:Wt)(hw:w.key.length<small)(hd:w.data.length≤5000):zU (iJ d w) m:=by
 have hch:(chain d w.key).length+(m+1)<small∧(∀ v∈chain d w.key,v.Data.length<small)∧cw (chain d w.key)+5000*(m+1)<small:=by
  by_cases hc:chain d w.key=[]
  ·rw[hc];exact⟨by simp;omega,fun v hv=>(List.not_mem_nil hv).elim,by simpa[cw]using hs⟩
  ·obtain⟨x,hx,he⟩:=wj hc;rw[←he];exact⟨h.len x hx,h.dat x hx,h.EM x hx⟩
 have hkl:∀ k∈mM d.keys w.key,k.length<small:=by
  intro k hk;simp only[mM,gD,dS,List.not_mem_nil,or_false]at hk;rcases hk with(hk|rfl)|hk
  ·exact h.sQ k (List.mem_of_mem_take hk)
  ·exact hw
  ·exact h.sQ k (List.mem_of_mem_drop hk)
 refine⟨?_,?_,fun x hx=> ?_,fun x hx v hv=> ?_,fun x hx=> ?_⟩
 ·have:=h.keys;show(bif(chain d w.key).isEmpty then mM d.keys w.key else d.keys).length+m<small;cases(chain d w.key).isEmpty with
  |true=>rw[cond_true,Hl];omega
  |false=>rw[cond_false];omega
 ·show ∀ k∈(bif(chain d w.key).isEmpty then mM d.keys w.key else d.keys),k.length<small;cases(chain d w.key).isEmpty with
  |true=>exact hkl
  |false=>exact h.sQ
 ·rcases iU hx with rfl|hx
  ·have:=hch.1;simp;omega
  ·have:=h.len x hx;omega
 ·rcases iU hx with rfl|hx
  ·rcases gD.1 hv with hv|hv
   ·exact hch.2.1 v hv
   ·simp at hv;subst hv;show w.data.length<small;unfold small;omega
  ·exact h.dat x hx v hv
 ·rcases iU hx with rfl|hx
  ·have:=hch.2.2;simp[cw,nC]at this⊢;omega
  ·have:=h.EM x hx;omega
def qU(d:Db)(w:Wt):Prop:=fm (chain d w.key)<d.now∧eH 0 (chain d w.key)=true∧(w.gone=true→w.data=[])∧w.key.length<small∧w.data.length≤5000
theorem QB{d:Db}{w:Wt}(h:qU d w):W8 (chain d w.key) (nC d w)=(some (chain d w.key++[nC d w]),0):=by
 obtain⟨h1,h2,h3,_⟩:=h;have e1:eH 0 [nC d w]=true:=by
  have a:decide (d.now≤0)=false:=decide_eq_false (by omega);have b:(w.gone&&decide (0<w.data.length))=false:=by
   cases hg:w.gone with
   |false=>rfl
   |true=>rw[h3 hg];rfl
  show(!(decide (d.now≤0)||(w.gone&&decide (0<w.data.length)))&&true)=true;rw[a,b];rfl
 have e2:decide ((nC d w).At≤fm (chain d w.key))=false:=decide_eq_false (by show ¬d.now≤_;omega);unfold W8;rw[h2,e1,e2];rfl
theorem qbT(s o:Nat)(n fl:Nat)(hf:fl≤n)(hsn:s<n)(come:List Wt)(z:Sz)(now:Nat)(hcn:come.length<small)(h5:5000*come.length<small)(hnd:(come.map (·.key)).Nodup):
  ∀ (j i:Nat) (h:List Uo) (d:Db) (ks:U),i+j=come.length→h.length=n→d.now=now→eW h s o d ks→nY ks d.keys→zU d j→(∀ w∈come.drop i,qU d w)→
  ∃ h' ks',eW h' s o {(come.drop i).foldl iJ d with sk:=z.1,sv:=z.2.1,sb:=z.2.2} ks'∧nY ks' ((come.drop i).foldl iJ d).keys∧Fr h h' [s,o]∧
  gL br mT qT pT pY 0 nv (n+1) ⟨[(72,.int .i64 (i:Int)),(0,.ptr s 0),(70,.sl 3 (come.map dI)),(10,.ptr n 0),(71,.int .i64 (come.length:Int))],h++[.row (tK z)],fl⟩
   (gI br mT qT pT pY (.seq (.region zq) (.seq (.region zu) .ret)) (kE n pY (.aV [.int .u64 (now:Int),.int .i64 0],h',fl))):=by
 have hcut:∀ (H x:List Uo),H.length=n→cut n fl (H++x)=H:=fun H x hH=>by subst hH;exact gf hf
 have hcut1:∀ (H:List Uo) (a:Uo) (x:List Uo),H.length=n→cut (n+1) fl (H++a::x)=H++[a]:=fun H a x hH=>by subst hH;exact kU hf a x
 have hl:decide (s<n)=true:=decide_eq_true hsn;have hl1:decide (s<n+1)=true:=decide_eq_true (by omega);intro j
 induction j with
 |zero=>
  intro i h d ks hij hn hnow hs hk hd hp;obtain⟨h1,h2⟩:=nB hij;rw[h2];simp only[List.foldl_nil];have hr:=hs.row;simp only[dG]at hr;have hlt:=(bn.1 hs.row).1;have hset:∀ X x,(h++x).set s X=h.set s X++x:=fun X x=>List.set_append_left _ _ hlt;have hss:∀ X:Uo,(h.set s X)[s]? =some X:=fun X=>List.getElem?_set_self hlt;have hat:∀ X x,(h.set s X++x)[s]? =some X:=fun X x=>aS (hss X);have hn0:∀ a:Uo,(h++[a])[n]? =some a:=fun a=>by rw[←hn];exact VG h [] a
  refine⟨h.set s (.row (dG {d with sk:=z.1,sv:=z.2.1,sb:=z.2.2} o ks)),ks,⟨hss _,by rw[List.getElem?_set_ne hs.ne];exact hs.map⟩,hk,(Fr.refl h _).set (by simp) _,?_⟩;rw[ak nv.eq_1];subst hnow;simp[uS,zq,zu,h1,aS hr,hset,hat,hn0,hl,hl1,hcut,hcut1,hn,dG,tK]
 |succ j ih=>
  intro i h d ks hij hn hnow hs hk hd hp;obtain⟨h1,e3,w,d1,g1⟩:=qn hij hcn;have e1:=g1 dI;simp only[dI]at e1;have hpw:qU d w:=hp w (by rw[d1];exact eU);rw[d1,List.foldl_cons];have hr:=hs.row;have hlt:=(bn.1 hs.row).1;have hne:=hs.ne;have hol:o<h.length:=by
   obtain⟨_,_,_,ho,_⟩:=hs.map;exact(bn.1 ho).1
  have hlk:∀ (e:Env) (x:List Uo),fH ⟨e,h++x,fl⟩ .str (.sl 3 []) false (.map o) (.str w.key)=some (.sl 3 ((chain d w.key).map bX)):=fun e x=>by
   have hm:jX kP (h++x)[o]? d.of:=by
    rw[cz hol];exact hs.map
   have:=mU kP (s:=⟨e,h++x,fl⟩) (m:=o) hm (.sl 3 []) w.key false;refine this.trans ?_;unfold chain;cases fK kP w.key d.of<;>rfl
  have hz:V.EV (.ag [] 0 0 3)=some (.sl 3 []):=rfl;have c1:=t144 (chain d w.key) (nC d w) (mD hd.ok w.key) (by show w.data.length<small;have:=hpw.2.2.2.2;unfold small;omega);rw[QB hpw]at c1;simp only[Oz,bX,nC,Option.getD_some]at c1;have hjc:(j+1)≤come.length:=by omega
  have hdm:=hd.put (by omega) w hpw.2.2.2.1 hpw.2.2.2.2;have hpm:∀ v∈come.drop (i+1),qU (iJ d w) v:=by
   intro v hv;have hvv:=hp v (by rw[d1];exact gB _ hv);have hnk:¬w.key=v.key:=by
    have:((come.drop i).map (·.key)).Nodup:=List.Nodup.sublist ((List.drop_sublist i come).map _) hnd;rw[d1,List.map_cons,List.nodup_cons]at this;intro hh;exact this.1 (hh▸eS.2 ⟨v,hv,rfl⟩)
   unfold qU at hvv⊢;rw[rK,if_neg hnk];exact hvv
  obtain⟨o',m1,m2⟩:=map_set kP hs.map (w.key,chain d w.key++[nC d w]);have hset:∀ X x,(h++x).set s X=h.set s X++x:=fun X x=>List.set_append_left _ _ hlt;have hss:∀ X:Uo,(h.set s X)[s]? =some X:=fun X=>List.getElem?_set_self hlt;have hset2:∀ Y X x,(h.set s Y++x).set s X=h.set s X++x:=fun Y X x=>by
   rw[List.set_append_left _ _ (by simpa using hlt),List.set_set]
  have hn1:∀ (a:Uo) x,(h++a::x)[n]? =some a:=fun a x=>by rw[←hn];exact VG h x a
  have hn2:∀ (a b:Uo) x,(h++a::b::x)[n+1]? =some b:=fun a b x=>by rw[←hn];exact at1 h x a b
  have hs1:∀ (a b X:Uo) x,(h++a::b::x).set (n+1) X=h++a::X::x:=fun a b X x=>by rw[←hn];exact Xf h x a b X
  cases hc:(chain d w.key).isEmpty with
  |true=>
   have hcn0:chain d w.key=[]:=by simpa using hc
   have hkeq:(iJ d w).keys=mM d.keys w.key:=by
    show(bif(chain d w.key).isEmpty then mM d.keys w.key else d.keys)=_;rw[hc];rfl
   have hk2:nY (.bF 1 ((mM d.keys w.key).map kC)) (iJ d w).keys:=by rw[hkeq];exact .inl rfl
   have hat:∀ X x,(h.set s X++x)[s]? =some X:=fun X x=>aS (hss X);have hmu:∀ e X x,V1 .str o (.str w.key) (.sl 3 ((chain d w.key++[nC d w]).map bX)) ⟨e,h.set s X++x,fl⟩ (h.set s X++x)[o]? =some (.aV [],⟨e,(h.set s X).set o o'++x,fl⟩):=fun e X x=>by
    have:=m2 o ⟨e,h.set s X++x,fl⟩;have e2:(h.set s X).set o o'++x=(h.set s X++x).set o o' :=(List.set_append_left _ _ (by simpa using hol)).symm;rw[cz (by simpa using hol),e2,List.getElem?_set_ne hne];exact this
   have c2:=t106 d.keys w.key hd.ok.keys;have hsl:=ER d.keys w.key;rw[hcn0]at c1 hlk hmu;simp only[List.map_append,List.map_cons,List.map_nil,bX,nC,List.nil_append]at c1 hmu hlk;rcases hk with rfl|⟨rfl,hk⟩
   ·have hiq:=fun t=>L3 d.keys (ot d.keys w.key) t w.key hsl hd.ok.keys;have hik:mM d.keys w.key=d.keys.take (ot d.keys w.key)++[w.key]++d.keys.drop (ot d.keys w.key):=rfl;rw[←hik]at hiq;have hs2:eW ((h.set s (.row (dG (iJ d w) o (.bF 1 ((mM d.keys w.key).map kC))))).set o o') s o (iJ d w) (.bF 1 ((mM d.keys w.key).map kC)):=
     ⟨by rw[List.getElem?_set_ne (Ne.symm hne)];exact hss _,by rw[List.getElem?_set_self (by simpa using hol)];exact m1⟩
    obtain⟨h',ks',f1,f2,f3,f4⟩:=ih (i+1) _ (iJ d w) _ (by omega) (by simpa using hn) hnow hs2 hk2 hdm hpm;refine⟨h',ks',f1,f2,(((Fr.refl h [s,o]).set (by simp) _).set (by simp) o').trans f3,?_⟩;simp only[dG]at hr;simp only[dG,iJ]at f4;rw[ak nv.eq_1];simp[uS,zm,ay Bo,q9,zn,zo,ay Iv,Bp,ay Bq,ri,zp,dI,h1,bg e1,e3,aS hr,hat,hlk,hz,c1,c2,hmu,hn,hl,hl1,hset,hset2,hss,hcut,hcut1,hn1,hn2,hs1,hiq,cR];simpa using f4
   ·have hz0:ot d.keys w.key=0:=by rw[hk]at hsl;simp at hsl;rw[hk];exact hsl
    have hiq:=fun t=>L3 [] 0 t w.key (aq _) (by decide);have hik:mM d.keys w.key=[w.key]:=by unfold mM;rw[hk];simp
    rw[hk]at hz0;rw[hk,hz0]at c2;simp at c2 hiq;simp only[kC]at hiq;have hs2:eW ((h.set s (.row (dG (iJ d w) o (.bF 1 ((mM d.keys w.key).map kC))))).set o o') s o (iJ d w) (.bF 1 ((mM d.keys w.key).map kC)):=
     ⟨by rw[List.getElem?_set_ne (Ne.symm hne)];exact hss _,by rw[List.getElem?_set_self (by simpa using hol)];exact m1⟩
    obtain⟨h',ks',f1,f2,f3,f4⟩:=ih (i+1) _ (iJ d w) _ (by omega) (by simpa using hn) hnow hs2 hk2 hdm hpm;refine⟨h',ks',f1,f2,(((Fr.refl h [s,o]).set (by simp) _).set (by simp) o').trans f3,?_⟩;simp only[dG]at hr;simp only[dG,iJ]at f4;rw[ak nv.eq_1];simp[uS,zm,ay Bo,q9,zn,zo,ay Iv,Bp,ay Bq,ri,zp,dI,h1,bg e1,e3,aS hr,hat,hlk,hz,c1,c2,hmu,hn,hl,hl1,hset,hset2,hss,hcut,hcut1,hn1,hn2,hs1,hiq,hik,cR];simpa[hik,kC]using f4
  |false=>
   have hmu:∀ e x,V1 .str o (.str w.key) (.sl 3 ((chain d w.key++[nC d w]).map bX)) ⟨e,h++x,fl⟩ (h++x)[o]? =some (.aV [],⟨e,h.set o o'++x,fl⟩):=fun e x=>by
    have:=m2 o ⟨e,h++x,fl⟩;rw[cz hol,←List.set_append_left _ _ hol];exact this
   have hs2:eW (h.set o o') s o (iJ d w) ks:=
    ⟨by rw[List.getElem?_set_ne (Ne.symm hne)];exact hs.row,by rw[List.getElem?_set_self hol];exact m1⟩
   have hk2:nY ks (iJ d w).keys:=by
    show nY ks (bif(chain d w.key).isEmpty then mM d.keys w.key else d.keys);rw[hc];exact hk
   obtain⟨h',ks',f1,f2,f3,f4⟩:=ih (i+1) (h.set o o') (iJ d w) ks (by omega) (by simpa using hn) hnow hs2 hk2 hdm hpm;refine⟨h',ks',f1,f2,((Fr.refl h [s,o]).set (by simp) o').trans f3,?_⟩;have hcl:((chain d w.key).length+1==1)=false:=by
    cases hh:chain d w.key with
    |nil=>rw[hh]at hc;cases hc
    |cons a b=>rw[beq_eq_false_iff_ne];simp
   have hci:(((chain d w.key).length:Int)+1==1)=false:=by
    cases hh:chain d w.key with
    |nil=>rw[hh]at hc;cases hc
    |cons a b=>rw[beq_eq_false_iff_ne];simp;omega
   have hcj:¬(((chain d w.key).length:Int)=0):=by
    cases hh:chain d w.key with
    |nil=>rw[hh]at hc;cases hc
    |cons a b=>simp;omega
   simp only[dG]at hr;simp only[List.map_append,List.map_cons,List.map_nil,bX,nC]at c1 hmu;rw[ak nv.eq_1];simp[uS,zm,ay Bo,q9,zn,zo,ay Bq,ri,zp,dI,h1,bg e1,e3,aS hr,hlk,hz,c1,hmu,hn,hl,hl1,hcut,hcut1,hn1,hn2,hs1,hcl,hci,hcj,cR];simpa using f4
end Go.RE
namespace Go.RE
structure I4(d:Db):Prop where
 right:∀ x∈d.of,eH 0 x.2=true
 last:∀ x∈d.of,fm x.2≤d.now
theorem H6:∀ (l:List jw) (a b:Nat),a≤b→eH b l=true→eH a l=true:=by
 intro l a b hab h;cases l with
 |nil=>rfl
 |cons v r=>
  simp only[eH,bC,Bool.not_eq_true',Bool.or_eq_false_iff,decide_eq_false_iff_not]at h⊢;exact⟨⟨by omega,h.1.2⟩,h.2⟩
theorem yj:∀ (l:List jw) (n a:Nat),eH a l=true→eH a (l.drop n)=true
 |[],n,a,h=>by simpa using h
 |v::r,0,a,h=>h
 |v::r,n+1,a,h=>by
  simp only[eH,bC]at h;have ha:a≤v.At:=by
   have:=h.1;simp only[Bool.not_eq_true',Bool.or_eq_false_iff,decide_eq_false_iff_not]at this;omega
  exact yj r n a (H6 r a v.At ha h.2)
theorem JM(l:List jw)(n:Nat):fm (l.drop n)≤fm l:=by
 unfold fm;rw[List.getLast?_drop];split
 ·exact dW _
 ·exact aq _
theorem Iu{l:List jw}{t:Nat}(h:eH 0 l=true):eH 0 (dh l t)=true:=by
 obtain⟨n,hn⟩:=jk l t;rw[hn];exact yj l n 0 h
theorem Ko(l:List jw)(t:Nat):fm (dh l t)≤fm l:=by
 obtain⟨n,hn⟩:=jk l t;rw[hn];exact JM l n
theorem OL(l:List jw)(t:Nat):(dh l t).length≤l.length:=by
 obtain⟨n,hn⟩:=jk l t;rw[hn,List.length_drop];omega
theorem D4{d:Db}(hd:I4 d)(k:By):eH 0 (chain d k)=true∧fm (chain d k)≤d.now:=by
 by_cases hc:chain d k=[]
 ·rw[hc];exact⟨rfl,dW _⟩
 ·obtain⟨x,hx,he⟩:=wj hc;rw[←he];exact⟨hd.right x hx,hd.last x hx⟩
structure DX(d0:Db)(m i:Nat)(st:Db×List By):Prop where
 fix:st.1.lim=d0.lim∧st.1.now=d0.now
 len:∀ x∈st.1.of,x.2.length+m<small
 dat:∀ x∈st.1.of,∀ v∈x.2,v.Data.length<small
 EM:∀ x∈st.1.of,cw x.2+5000*m<small
 w:I4 st.1
 left:st.2.length≤i∧∀ k∈st.2,k∈d0.keys
 sz:st.1.sk≤i∧st.1.sv≤1000000000*i∧st.1.sb≤2000000000*i
theorem DX.step{d0:Db}{m i:Nat}{st:Db×List By}(h:DX d0 m i st)(low:Nat){k:By}(hk:k∈d0.keys)(hkl:k.length<small)(hm:5000*m<small):DX d0 m (i+1) (gT low st k):=by
 obtain⟨d,left⟩:=st;have hch:(dh (chain d k) low).length+m<small∧(∀ v∈dh (chain d k) low,v.Data.length<small)∧cw (dh (chain d k) low)+5000*m<small:=by
  have hc2:(chain d k).length+m<small∧(∀ v∈chain d k,v.Data.length<small)∧cw (chain d k)+5000*m<small:=by
   by_cases hc:chain d k=[]
   ·rw[hc];exact⟨by simp;omega,fun v hv=>(List.not_mem_nil hv).elim,by simpa[cw]using hm⟩
   ·obtain⟨x,hx,he⟩:=wj hc;rw[←he];exact⟨h.len x hx,h.dat x hx,h.EM x hx⟩
  have:=OL (chain d k) low;have:=tL (chain d k) low;refine⟨by omega,fun v hv=> ?_,by omega⟩;obtain⟨n,hn⟩:=jk (chain d k) low;rw[hn]at hv;exact hc2.2.1 v (List.mem_of_mem_drop hv)
 have hww:=D4 (d:=d) h.w k;have hlast:=Ko (chain d k) low;obtain⟨z1,z2,z3⟩:=h.sz;dsimp only at z1 z2 z3;unfold gT;dsimp only;cases hc:(dh (chain d k) low).isEmpty with
 |true=>
  exact⟨h.fix,fun x hx=>h.len x (o9 hx),fun x hx=>h.dat x (o9 hx),fun x hx=>h.EM x (o9 hx),⟨fun x hx=>h.w.right x (o9 hx),fun x hx=>h.w.last x (o9 hx)⟩,⟨by have:=h.left.1;dsimp only at this⊢;simp only[cond_true];omega,h.left.2⟩,⟨by simp only[cond_true];omega,by simp only[cond_true];omega,by simp only[cond_true];omega⟩⟩
 |false=>
  simp only[cond_false];refine⟨h.fix,fun x hx=> ?_,fun x hx=> ?_,fun x hx=> ?_,⟨fun x hx=> ?_,fun x hx=> ?_⟩,⟨?_,fun x hx=> ?_⟩,⟨?_,?_,?_⟩⟩
  ·rcases iU hx with rfl|hx
   ·exact hch.1
   ·exact h.len x hx
  ·rcases iU hx with rfl|hx
   ·exact hch.2.1
   ·exact h.dat x hx
  ·rcases iU hx with rfl|hx
   ·exact hch.2.2
   ·exact h.EM x hx
  ·rcases iU hx with rfl|hx
   ·exact Iu hww.1
   ·exact h.w.right x hx
  ·rcases iU hx with rfl|hx
   ·show fm (dh (chain d k) low)≤d.now;omega
   ·exact h.w.last x hx
  ·have:=h.left.1;dsimp only at this;simp only[lZ,List.length_cons,List.length_nil];omega
  ·rcases gD.1 hx with hx|hx
   ·exact h.left.2 x hx
   ·simp at hx;subst hx;exact hk
  ·show d.sk+1≤i+1;omega
  ·show d.sv+(dh (chain d k) low).length≤1000000000*(i+1);have:=hch.1;unfold small at this;omega
  ·show d.sb+(k.length+cw (dh (chain d k) low))≤2000000000*(i+1);have:=hch.2.2;unfold small at this hkl;omega
theorem DX.fold{d0:Db}{m:Nat}(low:Nat)(hkl:∀ k∈d0.keys,k.length<small)(hm:5000*m<small):∀ (ks:List By) (i:Nat) (st:Db×List By),(∀ k∈ks,k∈d0.keys)→DX d0 m i st→DX d0 m (i+ks.length) (ks.foldl (gT low) st)
 |[],i,st,_,h=>h
 |k::r,i,st,hs,h=>by
  have:=DX.fold low hkl hm r (i+1) _ (fun x hx=>hs x (gB _ hx)) (h.step low (hs k eU) (hkl k (hs k eU)) hm);rw[show i+(k::r).length=i+1+r.length by simp;omega];exact this
theorem D6{d:Db}{m:Nat}(hd:zU d m)(hw:I4 d)(hm:5000*m<small)(low:Nat):zU (cK d low) m∧I4 (cK d low)∧I7 (cK d low)∧(cK d low).lim=d.lim∧(cK d low).now=d.now∧∀ k∈(cK d low).keys,k∈d.keys:=by
 have h:=DX.fold (m:=m) low hd.sQ hm d.keys 0 ({d with sk:=0,sv:=0,sb:=0},[]) (fun k hk=>hk) ⟨⟨rfl,rfl⟩,hd.len,hd.dat,hd.EM,⟨hw.right,hw.last⟩,⟨by simp,fun k hk=>(List.not_mem_nil hk).elim⟩,⟨dW _,dW _,dW _⟩⟩;rw[Nat.zero_add]at h;have hk:=hd.keys;refine⟨⟨?_,fun k hk=>hd.sQ k (h.left.2 k hk),h.len,h.dat,h.EM⟩,⟨h.w.right,h.w.last⟩,?_,h.fix.1,h.fix.2,h.left.2⟩
 ·have:=h.left.1;show((d.keys.foldl (gT low) ({d with sk:=0,sv:=0,sb:=0},[])).2).length+m<small;omega
 ·obtain⟨a,b,c⟩:=h.sz;unfold small at hk;refine⟨?_,?_,?_⟩
  ·show(d.keys.foldl (gT low) ({d with sk:=0,sv:=0,sb:=0},[])).1.sk≤_;omega
  ·show(d.keys.foldl (gT low) ({d with sk:=0,sv:=0,sb:=0},[])).1.sv≤_;omega
  ·show(d.keys.foldl (gT low) ({d with sk:=0,sv:=0,sb:=0},[])).1.sb≤_;omega
def PO:List By→Prop
 |a::b::r=>lt a b=true∧PO (b::r)
 |_=>True
theorem Ae:∀ (l:List Wt) (p:Option By),eP p l=0→(∀ w∈l,w.key.length≤256∧w.data.length≤4096∧w.key≠[]∧(w.gone=true→w.data=[]))∧(∀ q,p=some q→PO (q::l.map (·.key)))∧PO (l.map (·.key))
 |[],p,_=>⟨fun w hw=>(List.not_mem_nil hw).elim,fun q _=>trivial,trivial⟩
 |w::l,p,h=>by
  simp only[eP]at h;cases hc:fV p w==0 with
  |false=>rw[hc,cond_false]at h;rw[h]at hc;cases hc
  |true=>
   rw[hc,cond_true]at h;obtain⟨i1,i2,i3⟩:=Ae l (some w.key) h;have hc' :fV p w=0:=by simpa using hc
   unfold fV at hc';cases a1:decide (256<w.key.length)with
   |true=>rw[a1]at hc';cases hc'
   |false=>
    cases a2:decide (4096<w.data.length)with
    |true=>rw[a1,a2]at hc';cases hc'
    |false=>
     rw[a1,a2]at hc';simp only[cond_false]at hc';cases a3:(w.key.isEmpty||yY p w.key||(w.gone&&decide (0<w.data.length)))with
     |true=>rw[a3]at hc';cases hc'
     |false=>
      simp only[Bool.or_eq_false_iff]at a3;obtain⟨⟨b1,b2⟩,b3⟩:=a3;have hw:w.key.length≤256∧w.data.length≤4096∧w.key≠[]∧(w.gone=true→w.data=[]):=by
       have c1:=of_decide_eq_false a1;have c2:=of_decide_eq_false a2;refine⟨by omega,by omega,?_,fun hg=> ?_⟩
       ·intro hh;rw[hh]at b1;cases b1
       rw[hg]at b3;have:=of_decide_eq_false (by simpa using b3:decide (0<w.data.length)=false);exact List.length_eq_zero_iff.1 (by omega)
      refine⟨fun x hx=> ?_,fun q hq=> ?_,?_⟩
      ·rcases dS.1 hx with rfl|hx
       ·exact hw
       ·exact i1 x hx
      ·subst hq;simp only[ED,lo0,Bool.not_eq_false']at b2;exact⟨b2,i2 _ rfl⟩
      ·exact i2 _ rfl
end Go.RE
namespace Go.RE
theorem L1:∀ (a:By) (l:List By),PO (a::l)→∀ b∈l,lt a b=true
 |a,[],_,b,hb=>(List.not_mem_nil hb).elim
 |a,c::r,h,b,hb=>by
  rcases dS.1 hb with rfl|hb
  ·exact h.1
  ·exact Dp h.1 (L1 c r h.2 b hb)
theorem tr:∀ l:List By,PO l→l.Nodup
 |[],_=>List.nodup_nil
 |[a],_=>by simp
 |a::b::r,h=>by
  refine List.nodup_cons.2 ⟨fun hm=> ?_,tr (b::r) h.2⟩;have:=L1 a (b::r) h a hm;rw[show lt a a=false from AW a]at this;cases this
theorem rM(d:Db):∀ (l:List Wt) (z:List Wt×Sz),∃ m,(l.foldl (eo d) z).1=z.1++m∧m.Sublist l
 |[],z=>⟨[],by simp,.slnil⟩
 |w::l,z=>by
  rw[List.foldl_cons];unfold eo;cases h1:w.gone&&kY (chain d w.key)with
  |true=>
   obtain⟨m,m1,m2⟩:=rM d l z;exact⟨m,m1,m2.cons w⟩
  |false=>
   simp only[cond_false];cases h2:(chain d w.key).isEmpty with
   |true=>
    obtain⟨m,m1,m2⟩:=rM d l (z.1++[w],z.2.1+1,z.2.2.1+1,z.2.2.2+w.data.length+w.key.length);exact⟨w::m,by simp only[cond_true];refine Eq.trans m1 ?_;simp,m2.cons_cons w⟩
   |false=>
    obtain⟨m,m1,m2⟩:=rM d l (z.1++[w],z.2.1,z.2.2.1+1,z.2.2.2+w.data.length);exact⟨w::m,by simp only[cond_false];refine Eq.trans m1 ?_;simp,m2.cons_cons w⟩
theorem Ag(d:Db)(l:List Wt):(aT d l).1.Sublist l:=by
 obtain⟨m,m1,m2⟩:=rM d l ([],Xn d);have:(aT d l).1=m:=by unfold aT;rw[m1];simp
 rw[this];exact m2
theorem Fr.split{h x h' :List Uo}{l:List Nat}(hf:Fr (h++x) h' l)(hl:∀ i∈l,i<h.length):∃ h2,h' =h2++x∧Fr h h2 l:=by
 refine⟨h'.take h.length,?_,?_,fun j hj=> ?_⟩
 ·have:h'.drop h.length=x:=by
   apply List.ext_getElem?;intro i;rw[qd,hf.2 _ (fun hh=>by have:=hl _ hh;omega),fh (by omega)];congr 1;omega
  rw[←this,List.take_append_drop]
 ·rw[List.length_take,hf.1,lZ];omega
 ·by_cases hjl:j<h.length
  ·rw[jN,if_pos hjl,hf.2 j hj,cz hjl]
  ·rw[jN,if_neg hjl,List.getElem?_eq_none (by omega)]
theorem eW.app{h x:List Uo}{s o:Nat}{d:Db}{ks:U}(hs:eW h s o d ks):eW (h++x) s o d ks:=by
 refine⟨aS hs.row,?_⟩;obtain⟨lc,c,a,b,e⟩:=hs.map;rw[cz (bn.1 b).1];exact⟨lc,c,a,b,e⟩
theorem eW.DM{h x:List Uo}{s o:Nat}{d:Db}{ks:U}(hs:eW (h++x) s o d ks)(h1:s<h.length)(h2:o<h.length):eW h s o d ks:=
 ⟨by have:=hs.row;rwa[cz h1]at this,by have:=hs.map;rwa[cz h2]at this⟩
theorem eW.lt{h:List Uo}{s o:Nat}{d:Db}{ks:U}(hs:eW h s o d ks):s<h.length∧o<h.length:=by
 refine⟨(bn.1 hs.row).1,?_⟩;obtain⟨_,_,_,ho,_⟩:=hs.map;exact(bn.1 ho).1
def iL(d:Db)(c:List Wt×Sz):Db:={c.1.foldl iJ {d with now:=d.now+1}with sk:=c.2.1,sv:=c.2.2.1,sb:=c.2.2.2}
def bN(d:Db)(l:List Wt)(low:Nat):Nat×Nat×Db:=
 bif !(eP none l==0)then(0,eP none l,d)else
 bif l.isEmpty then(d.now,0,d)else
 bif decide (d.lim.last≤d.now)then(0,5,d)else
 bif nH d (aT d l).2 then(d.now+1,0,iL d (aT d l))else
 bif nH (cK d low) (aT (cK d low) l).2 then(d.now+1,0,iL (cK d low) (aT (cK d low) l))else(0,5,cK d low)
theorem Q2{h:List Uo}{s o:Nat}{d:Db}{ks:U}{m:Nat}(fl:Nat)(hf:fl≤h.length)(hs:eW h s o d ks)(hk:nY ks d.keys)(hd:zU d m)(hw:I4 d)(l:List Wt)(hl:l.length≤m)(hm:5000*m<small)(hc:eP none l=0):
  ∃ h' ks',eW h' s o (iL d (aT d l)) ks'∧nY ks' (iL d (aT d l)).keys∧Fr h h' [s,o]∧
  gL br mT qT pT pY 0 nv (h.length+1) ⟨[(72,.int .i64 0),(0,.ptr s 0),(70,.sl 3 ((aT d l).1.map dI)),(10,.ptr h.length 0),(71,.int .i64 ((aT d l).1.length:Int))],h.set s (.row (dG {d with now:=d.now+1} o ks))++[.row (tK (aT d l).2)],fl⟩
   (gI br mT qT pT pY (.seq (.region zq) (.seq (.region zu) .ret)) (kE h.length pY (.aV [.int .u64 ((d.now+1:Nat):Int),.int .i64 0],h',fl))):=by
 obtain⟨hlt,hol⟩:=hs.lt;have hsub:=Ag d l;have hle:=hsub.length_le;obtain⟨k1,_,k3⟩:=Ae l none hc;have hs1:eW (h.set s (.row (dG {d with now:=d.now+1} o ks))) s o {d with now:=d.now+1} ks:=⟨List.getElem?_set_self hlt,by rw[List.getElem?_set_ne hs.ne];exact hs.map⟩;have hp:∀ w∈(aT d l).1.drop 0,qU {d with now:=d.now+1} w:=by
  intro w hw';have hwl:w∈l:=hsub.subset (by simpa using hw');obtain⟨a1,a2,_,a4⟩:=k1 w hwl;have:=D4 hw w.key;exact⟨by show fm (chain d w.key)<d.now+1;omega,this.1,a4,by unfold small;omega,by omega⟩
 obtain⟨h',ks',f1,f2,f3,f4⟩:=qbT s o h.length fl hf hlt (aT d l).1 (aT d l).2 (d.now+1) (by omega) (by omega) (List.Nodup.sublist (hsub.map _) (tr _ k3)) (aT d l).1.length 0 (h.set s (.row (dG {d with now:=d.now+1} o ks))) {d with now:=d.now+1} ks (by omega) (by simp) rfl hs1 hk (zU.le (m:=m) ⟨hd.keys,hd.sQ,hd.len,hd.dat,hd.EM⟩ (by omega)) hp;exact⟨h',ks',f1,f2,((Fr.refl h [s,o]).set (by simp) _).trans f3,f4⟩
theorem t103{h:List Uo}{s o:Nat}{d:Db}{ks:U}{m:Nat}(fl:Nat)(hf:fl≤h.length)(hs:eW h s o d ks)(hk:nY ks d.keys)(hd:zU d m)(hw:I4 d)(hz:I7 d)(hnow:d.now<small)(l:List Wt)(hl:l.length≤m)(hm:5000*m<small)(hok:∀ w∈l,lS w)(low:Nat):
  ∃ h' ks',G 103 [.ptr s 0,.sl 3 (l.map dI),.int .u64 (low:Int)] h fl=some (.aV [.int .u64 ((bN d l low).1:Int),.int .i64 ((bN d l low).2.1:Int)],h',fl)∧eW h' s o (bN d l low).2.2 ks'∧nY ks' (bN d l low).2.2.keys∧Fr h h' [s,o]:=by
 obtain⟨hlt,hol⟩:=hs.lt;have hls:l.length<small:=by omega
 have hl0:decide (s<h.length)=true:=decide_eq_true hlt;have hl1:decide (s<h.length+1)=true:=decide_eq_true (by omega);have c0:=t99 fl hf hs.row;have c1:=t57 l hls hok;have c2:=t142 fl hf hs hd.ok hz l hls hok;have hcut:∀ (H x:List Uo),H.length=h.length→cut h.length fl (H++x)=H:=fun H x hH=>by rw[←hH];exact gf (by rw[hH];exact hf)
 have hcut0:∀ (H:List Uo),H.length=h.length→cut h.length fl H=H:=fun H hH=>by rw[←hH];exact aZ (by rw[hH];exact hf)
 unfold bN;cases hc:eP none l==0 with
 |false=>
  refine⟨h,ks,?_,hs,hk,Fr.refl h _⟩;refine bL (fn:=pY) rfl rfl rfl ?_;have hc' :¬(eP none l=0):=by simpa using hc
  have hci:(((eP none l:Nat):Int) !=0)=true:=by simp;omega
  simp[jt,tP,tQ,tT,tU,Ro,c0,c1,hl0,hcut0,hci,hc']
 |true=>
  have hc' :eP none l=0:=by simpa using hc
  rw[hc']at c1;simp only[Bool.not_true,cond_false];cases he:l.isEmpty with
  |true=>
   have:l=[]:=by simpa using he
   subst this;refine⟨h,ks,?_,hs,hk,Fr.refl h _⟩;refine bL (fn:=pY) rfl rfl rfl ?_;have hr:=hs.row;simp only[dG]at hr;simp at c1;simp[jt,tP,tQ,tT,tU,wV,Rp,c0,c1,hl0,hcut0,hr]
  |false=>
   have hr:=hs.row;simp only[dG]at hr;have hln:((l.length:Int)==0)=false:=by
    rw[beq_eq_false_iff_ne];cases l with
    |nil=>cases he
    |cons a b=>simp;omega
   have hln2:¬(l=[]):=fun hh=>by rw[hh]at he;cases he
   cases hls2:decide (d.lim.last≤d.now)with
   |true=>
    refine⟨h,ks,?_,hs,hk,Fr.refl h _⟩;refine bL (fn:=pY) rfl rfl rfl ?_;simp[jt,tP,tQ,tT,tU,wV,ay zv,sA,Rr,c0,c1,hl0,hcut0,hr,hln,hln2,hls2,cR]
   |false=>
    have wn:aI .u64 ((d.now:Int)+1)=((d.now+1:Nat):Int):=LI (n:=d.now+1) (by unfold small at hnow;omega);have hset:∀ X x,(h++x).set s X=h.set s X++x:=fun X x=>List.set_append_left _ _ hlt;have hss:∀ X:Uo,(h.set s X)[s]? =some X:=fun X=>List.getElem?_set_self hlt;have hat:∀ X x,(h.set s X++x)[s]? =some X:=fun X x=>aS (hss X);have hcut1:∀ (H:List Uo) (a:Uo) (x:List Uo),H.length=h.length→cut (h.length+1) fl (H++a::x)=H++[a]:=fun H a x hH=>by rw[←hH];exact kU (by rw[hH];exact hf) a x
    have c3:=fun z=>t143 (h:=h++[.row (tK z)]) fl (by simp;omega) hs.app z;simp only[cond_false];cases hft:nH d (aT d l).2 with
    |true=>
     have c3' :=c3 (aT d l).2;rw[hft]at c3';obtain⟨h',ks',f1,f2,f3,f4⟩:=Q2 fl hf hs hk hd hw l hl hm hc';refine⟨h',ks',?_,f1,f2,f3⟩;refine bL (fn:=pY) rfl rfl rfl ?_;generalize aT d l=cm at*;simp only[dG]at f4;simp only[tK]at c2 c3' f4;simp only[Int.natCast_add]at wn f4;simp[jt,tP,tQ,tT,tU,wV,ay zv,sA,zj,zk,zl,E8,E9,c0,c1,c2,c3',hl0,hl1,hcut0,hcut1,hr,aS hr,hset,hat,wn,hln,hln2,hls2,cR];simpa using f4
    |false=>
     have c3' :=c3 (aT d l).2;rw[hft]at c3';obtain⟨hC,ksC,d1,d2,d3,d4⟩:=t98 (h:=h++[.row (tK (aT d l).2)]) fl (by simp;omega) hs.app hk hd.ok hz low;obtain⟨h2,rfl,d5⟩:=d4.split (fun i hi=>by simp at hi;rcases hi with rfl|rfl<;>assumption);have hn2:h2.length=h.length:=d5.1;have hs2:eW h2 s o (cK d low) ksC:=d2.DM (by omega) (by omega);obtain⟨r1,r2,r3,r4,r5,r6⟩:=D6 hd hw (by omega) low;have c4:=t142 (h:=h2++[.row (tK (aT d l).2)]) fl (by simp;omega) hs2.app r1.ok r3 l hls hok;have c5:=t143 (h:=h2++[.row (tK (aT (cK d low) l).2)]) fl (by simp;omega) hs2.app (aT (cK d low) l).2;have hsn:∀ (a X:Uo),(h2++[a]).set h.length X=h2++[X]:=fun a X=>by rw[←hn2];exact Ib h2 [] a X
     have han:∀ (a:Uo),(h2++[a])[h.length]? =some a:=fun a=>by rw[←hn2];exact VG h2 [] a
     have hr2:=hs2.row;have hset2:∀ X x,(h2++x).set s X=h2.set s X++x:=fun X x=>List.set_append_left _ _ (by omega);have hss2:∀ X:Uo,(h2.set s X)[s]? =some X:=fun X=>List.getElem?_set_self (by omega);have hat2:∀ X x,(h2.set s X++x)[s]? =some X:=fun X x=>aS (hss2 X);simp only[dG]at hr2;simp only[cond_false];cases hft2:nH (cK d low) (aT (cK d low) l).2 with
     |false=>
      rw[hft2]at c5;refine⟨h2,ksC,?_,hs2,d3,d5⟩;refine bL (fn:=pY) rfl rfl rfl ?_;generalize aT d l=cm at*;generalize aT (cK d low) l=cm2 at*;simp only[tK]at c2 c3' c4 c5 d1;simp[jt,tP,tQ,tT,tU,wV,ay zv,sA,zj,zk,E6,E7,zl,MH,c0,c1,c2,c3',d1,c4,c5,hsn,han,hn2,hl0,hl1,hcut,hcut0,hcut1,hr,aS hr,hset,hat,wn,hln,hln2,hls2,cR]
     |true=>
      rw[hft2]at c5;obtain⟨h',ks',f1,f2,f3,f4⟩:=Q2 fl (by omega) hs2 d3 r1 r2 l hl hm hc';refine⟨h',ks',?_,f1,f2,d5.trans f3⟩;refine bL (fn:=pY) rfl rfl rfl ?_;rw[hn2]at f4;generalize aT d l=cm at*;generalize aT (cK d low) l=cm2 at*;generalize cK d low=dd at*;simp only[dG]at f4;simp only[tK]at c2 c3' c4 c5 d1 f4;rw[r5]at f4;simp only[r5]at hr2;simp only[Int.natCast_add]at wn f4;simp[jt,tP,tQ,tT,tU,wV,ay zv,sA,zj,zk,E6,E7,zl,E8,E9,c0,c1,c2,c3',d1,c4,c5,hsn,han,hn2,hl0,hl1,hcut,hcut0,hcut1,hr,aS hr,hr2,aS hr2,hset2,hat2,wn,hln,hln2,hls2,cR];simpa using f4
end Go.RE
namespace Go.RE
structure Tx where
 id:Nat
 began:Nat
 start:Nat
 marks:List cA
 bT:List Wt
deriving Inhabited,DecidableEq
structure Don where
 id:Nat
 began:Nat
 at_:Nat
 start:Nat
 stop:Nat
 reads:List cA
 writes:List cA
deriving Inhabited,DecidableEq
def wq(d:Don):List U:=[.int .i64 d.id,.int .u64 d.began,.int .u64 d.at_,.int .i64 d.start,.int .i64 d.stop,.sl 2 (d.reads.map aQ),.sl 2 (d.writes.map aQ)]
structure Bs where
 db:Db
 live:List Tx
 ah:List Rc
 done:List Don
 last:Nat
 event:Nat
structure Lv where
 tx:Tx
 t:Nat
 p:Nat
deriving Inhabited,DecidableEq
def nA:Mk Wt By:=⟨.str,.str,Wt.key,fun w=> .agg (dI w),yh,fun _=>rfl⟩
def k8:Mk Lv Int:=⟨.int,fun n=> .int .i64 n,fun l=>(l.tx.id:Int),fun l=> .ptr l.t 0,HO,fun _=>rfl⟩
def lB(t:Tx)(p:Nat):List U:=[.int .i64 t.id,.int .u64 t.began,.int .i64 t.start,.sl 2 (t.marks.map aQ),.map p]
def dz(b:Bs)(s m:Nat)(rc dn:U):List U:=
 [.int .i64 b.db.lim.keys,.int .i64 b.db.lim.gA,.int .i64 b.db.lim.bytes,.int .i64 b.db.lim.marks,.int .i64 b.db.lim.records,.int .i64 b.db.lim.live,.int .u64 b.db.lim.last,.ptr s 0,.map m,rc,dn,.int .i64 b.last,.int .i64 b.event]
def bZ(i s m o:Nat)(lv:List Lv):List Nat:=i::s::m::o::lv.flatMap fun l=>[l.t,l.p]
structure dy(h:List Uo)(i s m o:Nat)(lv:List Lv)(b:Bs)(rc dn ks:U):Prop where
 row:h[i]? =some (.row (dz b s m rc dn))
 st:eW h s o b.db ks
 map:jX k8 h[m]? lv
 OM:lv.map (·.tx)=b.live
 tx:∀ l∈lv,h[l.t]? =some (.row (lB l.tx l.p))∧jX nA h[l.p]? l.tx.bT
 nd:(bZ i s m o lv).Nodup
theorem jX.lt{α κ:Type}[DecidableEq κ]{F:Mk α κ}{h:List Uo}{m:Nat}{l:List α}(hm:jX F h[m]? l):m<h.length:=by
 obtain⟨_,_,_,ho,_⟩:=hm;exact(bn.1 ho).1
theorem t54{h:List Uo}{i:Nat}{s m:Nat}{b:Bs}{rc dn:U}(fl:Nat)(hf:fl≤h.length)(hr:h[i]? =some (.row (dz b s m rc dn))):G 54 [.ptr i 0] h fl=some (.bool true,h,fl):=by
 refine bL (fn:=v54) rfl rfl rfl ?_;simp only[dz]at hr;simp[B9,Zr,Zt,hr,aZ hf]
def dR(b:Bs):Nat:=b.live.foldl (fun n t=>mn n t.began) b.db.now
theorem Qh(a:Nat)(x y:Tx):mn (mn a x.began) y.began=mn (mn a y.began) x.began:=by unfold mn;omega
theorem Qf{l l' :List Tx}(h:l.Perm l'):∀ a:Nat,l.foldl (fun n t=>mn n t.began) a=l'.foldl (fun n t=>mn n t.began) a:=by
 induction h with
 |nil=>intro a;rfl
 |cons x _ ih=>intro a;exact ih _
 |swap x y l=>intro a;simp only[List.foldl_cons];rw[Qh]
 |trans _ _ ih1 ih2=>intro a;rw[ih1,ih2]
theorem EI{α κ:Type}[DecidableEq κ]{F:Mk α κ}{lc vis left:List (α×Nat)}{c:Nat}(hc:ue F lc c)(hp:(vis++left).Perm lc)(hall:∀ a∈lc.map (tD F),a.2.2∈vis.map (·.2)):left=[]:=by
 cases left with
 |nil=>rfl
 |cons a r=>
  exfalso;have hnd:((vis++a::r).map (·.2)).Nodup:=(hp.map (·.2)).nodup_iff.2 hc.IZ;rw[List.map_append,List.nodup_append]at hnd;have ha:a∈lc:=hp.subset (by simp);have:=hall (tD F a) (eS.2 ⟨a,ha,rfl⟩);exact hnd.2.2 a.2 this a.2 (by simp) rfl
theorem oJ{α κ:Type}[DecidableEq κ]{F:Mk α κ}{lc vis left:List (α×Nat)}{c:Nat}[DecidableEq α](hc:ue F lc c)(hp:(vis++left).Perm lc){a:U×U×Nat}(ha:a∈lc.map (tD F))(hn:a.2.2 ∉ vis.map (·.2)):
  ∃ x∈lc,a=tD F x∧((vis++[x])++left.erase x).Perm lc∧(left.erase x).length+1=left.length:=by
 obtain⟨x,hx,rfl⟩:=eS.1 ha;have hl:x∈left:=by
  have:=hp.symm.subset hx;rcases gD.1 this with hv|hv
  ·exact absurd (eS.2 ⟨x,hv,rfl⟩) hn
  ·exact hv
 refine⟨x,hx,rfl,?_,?_⟩
 ·refine List.Perm.trans ?_ hp;rw[kO];exact(List.perm_cons_erase hl).symm.append_left vis
 ·have:=List.length_erase_of_mem hl;have:=List.length_pos_of_mem hl;omega
theorem wm{α κ:Type}[DecidableEq κ]{F:Mk α κ}{lc:List (α×Nat)}{c:Nat}(hc:ue F lc c):∀ a∈lc.map (tD F),a.2.2<c:=by
 intro a ha;obtain⟨x,hx,rfl⟩:=eS.1 ha;exact hc.lt x hx
theorem D5{α κ:Type}[DecidableEq κ]{F:Mk α κ}{lc:List (α×Nat)}{c:Nat}(hc:ue F lc c):((lc.map (tD F)).map (·.2.2)).Nodup:=by
 rw[List.map_map];exact hc.IZ
theorem qfz{h:List Uo}{m:Nat}(fl:Nat)(hf:fl≤h.length)(lc:List (Lv×Nat))(c:Nat)(hc:ue k8 lc c)(hm:h[m]? =some (.map (lc.map (tD k8)) c))(ht:∀ x∈lc,h[x.1.t]? =some (.row (lB x.1.tx x.1.p)))(K:Ex→Vs→Prop)(now:Nat)
  (hK:∀ vis:List (Lv×Nat),vis.Perm lc→K .normal ⟨[(3,.int .u64 ((vis.foldl (fun n x=>mn n x.1.tx.began) now:Nat):Int))],h++[.iter (some m) c (vis.map (·.2)) c],fl⟩):
  ∀ (j:Nat) (vis left:List (Lv×Nat)),left.length≤j→(vis++left).Perm lc→
  gL br mT qT pT UA 0 Ge (h.length+1) ⟨[(3,.int .u64 ((vis.foldl (fun n x=>mn n x.1.tx.began) now:Nat):Int)),(18,.ptr h.length 0)],h++[.iter (some m) c (vis.map (·.2)) c],fl⟩ K:=by
 intro j
 induction j with
 |zero=>
  intro vis left hj hp;obtain rfl:left=[]:=jT (by omega);rw[List.append_nil]at hp;rw[ak Ge.eq_1];simp[UB];refine oE rfl hm (wm hc) (fun _=> ?_) (fun a ha hn=> ?_)
  ·have:=hK vis hp;simpa[kU hf]using this
  ·obtain⟨x,hx,rfl,_,h3⟩:=oJ (left:=[]) hc (by simpa using hp) ha hn;simp at h3
 |succ j ih=>
  intro vis left hj hp;rw[ak Ge.eq_1];simp[UB];refine oE rfl hm (wm hc) (fun hall=> ?_) (fun a ha hn=> ?_)
  ·have:=EI hc hp hall;subst this;rw[List.append_nil]at hp;have:=hK vis hp;simpa[kU hf]using this
  ·obtain⟨x,hx,rfl,h2,h3⟩:=oJ hc hp ha hn;have ih' :=ih (vis++[x]) (left.erase x) (by omega) h2;have htx:=ht x hx;have hent:∀ ev:Env,mF ⟨ev,h++[.iter (some m) c (vis.map (·.2)++[x.2]) c],fl⟩ h.length=some (.aV [.int .i64 (x.1.tx.id:Int),.ptr x.1.t 0]):=fun ev=>wA hm (D5 hc) ha;simp only[lB]at htx;simp[List.map_append,List.foldl_append]at ih';simp[tD,k8,YR,YS,hent,aS htx,kU hf];exact ih'
theorem WC(vis:List (Lv×Nat))(a:Nat):vis.foldl (fun n x=>mn n x.1.tx.began) a=(vis.map (·.1.tx)).foldl (fun n t=>mn n t.began) a:=by
 rw[List.foldl_map]
theorem dy.lc{h:List Uo}{i s m o:Nat}{lv:List Lv}{b:Bs}{rc dn ks:U}(hb:dy h i s m o lv b rc dn ks):∃ (lc:List (Lv×Nat)) (c:Nat),lc.map (·.1)=lv∧h[m]? =some (.map (lc.map (tD k8)) c)∧ue k8 lc c∧(∀ x∈lc,h[x.1.t]? =some (.row (lB x.1.tx x.1.p)))∧lc.map (·.1.tx)=b.live:=by
 obtain⟨lc,c,e1,e2,e3⟩:=hb.map;refine⟨lc,c,e1,e2,e3,fun x hx=>(hb.tx x.1 (by rw[←e1];exact eS.2 ⟨x,hx,rfl⟩)).1,?_⟩;rw[←hb.OM,←e1,List.map_map];rfl
theorem t27{h:List Uo}{i s m o:Nat}{lv:List Lv}{b:Bs}{rc dn ks:U}(fl:Nat)(hf:fl≤h.length)(hb:dy h i s m o lv b rc dn ks):G 27 [.ptr i 0] h fl=some (.int .u64 (dR b:Int),h,fl):=by
 refine bL (fn:=UA) rfl rfl rfl ?_;obtain⟨lc,c,e1,e2,e3,e4,e5⟩:=hb.lc;have hl:decide (i<h.length)=true:=decide_eq_true (bn.1 hb.row).1;have c1:=t54 fl hf hb.row;have c2:=t55 fl hf hb.st.row;have hr:=hb.row;have a:=qfz fl hf lc c e3 e2 e4 (gI br mT qT pT UA (.seq (.region UC) .ret) (kE h.length UA (.int .u64 (dR b:Int),h,fl))) b.db.now (fun vis hv=>by
  have:vis.foldl (fun n x=>mn n x.1.tx.began) b.db.now=dR b:=by
   rw[WC,Qf (hv.map (·.1.tx)),e5];rfl
  rw[this];simp[UC,qA hf]) lc.length [] lc (aq _) (by simp)
 simp only[dz]at hr;simp at a;simp[BZ,YN,YO,YP,YQ,c1,c2,hl,hr,e2,aZ hf,kU hf];exact a
def j9:Option Lv→U
 |some l=> .aV [.ptr l.t 0,.int .i64 0]
 |none=> .aV [.bA,.int .i64 4]
theorem t56{h:List Uo}{i s m o:Nat}{lv:List Lv}{b:Bs}{rc dn ks:U}(fl:Nat)(hf:fl≤h.length)(hb:dy h i s m o lv b rc dn ks)(id:Int):G 56 [.ptr i 0,.int .i64 id] h fl=some (j9 (fK k8 id lv),h,fl):=by
 refine bL (fn:=v56) rfl rfl rfl ?_;have hl:decide (i<h.length)=true:=decide_eq_true (bn.1 hb.row).1;have c1:=t54 fl hf hb.row;have hr:=hb.row;have hlk:∀ e,fH ⟨e,h,fl⟩ .int .bA false (.map m) (.int .i64 id)=some (match fK k8 id lv with|some l=> .ptr l.t 0|none=> .bA):=fun e=>by
  have:=mU k8 (s:=⟨e,h,fl⟩) (m:=m) hb.map .bA id false;refine this.trans ?_;cases fK k8 id lv<;>rfl
 have hz:V.EV .bA=some .bA:=rfl;simp only[dz]at hr;cases hlv:fK k8 id lv with
 |none=>
  rw[hlv]at hlk;simp only at hlk;simp[vK,U1,U2,U3,U4,Zx,c1,hl,hr,hlk,hz,aZ hf,j9]
 |some l=>
  rw[hlv]at hlk;simp only at hlk;have hlt:decide (l.t<h.length)=true:=decide_eq_true (bn.1 (hb.tx l (kR k8 hlv)).1).1;simp[vK,U1,U2,U3,U4,Zy,c1,hl,hr,hlk,hz,aZ hf,j9,hlt]
def ez(b:Bs)(t:Tx)(sp:cA):Tx:={t with marks:=tq (DZ t.marks sp) b.db.lim.marks}
theorem t75{h:List Uo}{i s m t p:Nat}{b:Bs}{tx:Tx}{rc dn:U}(fl:Nat)(hf:fl≤h.length)(hr:h[i]? =some (.row (dz b s m rc dn)))(ht:h[t]? =some (.row (lB tx p)))(hm:tx.marks.length<small / 8)(hlm:b.db.lim.marks<small)(sp:cA):
  G 75 [.ptr i 0,.ptr t 0,.agg (aQ sp)] h fl=some (.aV [],h.set t (.row (lB (ez b tx sp) p)),fl):=by
 refine bL (fn:=v75) rfl rfl rfl ?_;have hlt:=(bn.1 ht).1;have hal:=js tx.marks [sp];have c1:=t112 tx.marks sp (by unfold small at*;omega);have c2:=t101 (DZ tx.marks sp) b.db.lim.marks (by unfold DZ;simp at hal;unfold small at*;omega) hlm;have hset:∀ X x,(h++x).set t X=h.set t X++x:=fun X x=>List.set_append_left _ _ hlt;have hcut:∀ (X:Uo) (x:List Uo),cut h.length fl (h.set t X++x)=h.set t X:=fun X x=>by
  have:=gf (fl:=fl) (h:=h.set t X) (l:=x) (by simpa using hf);simpa using this
 simp only[dz]at hr;simp only[lB]at ht;simp only[aQ]at c1;simp[Ci,ZJ,ay qcB,Vf,aQ,aS hr,aS ht,c1,c2,hset,hcut,lB,ez,cR]
end Go.RE
namespace Go.RE
def yI(t:Tx)(lv:List Lv):List Lv:=lv.map fun l=>if l.tx.id=t.id then {l with tx:=t}else l
def aP(b:Bs)(t:Tx):Bs:={b with live:=b.live.map fun x=>if x.id=t.id then t else x}
theorem mK(i s m o:Nat)(t:Tx)(lv:List Lv):bZ i s m o (yI t lv)=bZ i s m o lv:=by
 unfold bZ yI;congr 4;rw[List.flatMap_map];congr 1;funext l;by_cases h:l.tx.id=t.id<;>simp[h]
theorem jX.map{α κ:Type}[DecidableEq κ]{F:Mk α κ}{o:Option Uo}{l:List α}(h:jX F o l)(g:α→α)(hk:∀ a∈l,F.key (g a)=F.key a)(hv:∀ a∈l,F.val (g a)=F.val a):jX F o (l.map g):=by
 obtain⟨lc,c,rfl,ho,hc⟩:=h;have hk' :∀ x∈lc,F.key (g x.1)=F.key x.1:=fun x hx=>hk _ (eS.2 ⟨x,hx,rfl⟩);have hv' :∀ x∈lc,F.val (g x.1)=F.val x.1:=fun x hx=>hv _ (eS.2 ⟨x,hx,rfl⟩);refine⟨lc.map fun x=>(g x.1,x.2),c,by simp[List.map_map],?_,?_,?_,?_⟩
 ·rw[ho,List.map_map];congr 2;refine List.map_congr_left fun x hx=> ?_;simp only[tD,Function.comp,hk' x hx,hv' x hx]
 ·rw[List.map_map];exact hc.IZ
 ·intro x hx;obtain⟨y,hy,rfl⟩:=eS.1 hx;exact hc.lt y hy
 ·rw[List.map_map];have:(lc.map ((fun x:α×Nat=>F.key x.1)∘fun x=>(g x.1,x.2)))=lc.map fun x=>F.key x.1:=List.map_congr_left fun x hx=>hk' x hx;rw[this];exact hc.keys
theorem dy.ids{h:List Uo}{i s m o:Nat}{lv:List Lv}{b:Bs}{rc dn ks:U}(hb:dy h i s m o lv b rc dn ks):(lv.map (·.tx.id)).Nodup:=by
 obtain⟨lc,c,e1,_,e3⟩:=hb.map;have hk:=e3.keys;rw[←e1,List.map_map];have:(lc.map fun x=>k8.key x.1)=(lc.map ((fun l:Lv=>l.tx.id)∘fun x=>x.1)).map (fun n:Nat=>(n:Int)):=by rw[List.map_map];rfl
 rw[this]at hk;exact List.Pairwise.of_map _ (fun a b hab hh=>hab (by rw[hh])) hk
theorem Qn{lv:List Lv}(h:(lv.map (·.tx.id)).Nodup){a b:Lv}(ha:a∈lv)(hb:b∈lv)(he:a.tx.id=b.tx.id):a=b:=by
 induction lv with
 |nil=>cases ha
 |cons c r ih=>
  simp only[List.map_cons,List.nodup_cons]at h;rcases dS.1 ha with rfl|ha2<;>rcases dS.1 hb with rfl|hb2
  ·rfl
  ·exact absurd (eS.2 ⟨b,hb2,he.symm⟩) h.1
  ·exact absurd (eS.2 ⟨a,ha2,he⟩) h.1
  ·exact ih h.2 ha2 hb2
theorem WB{lv:List Lv}(h:(lv.flatMap fun l=>[l.t,l.p]).Nodup){a b:Lv}(ha:a∈lv)(hb:b∈lv)(hne:a≠b):a.t≠b.t∧a.t≠b.p∧a.p≠b.t∧a.p≠b.p:=by
 induction lv with
 |nil=>cases ha
 |cons c r ih=>
  simp only[List.flatMap_cons,List.cons_append,List.nil_append,List.nodup_cons,dS,List.mem_flatMap,not_or,not_exists,not_and]at h;obtain⟨⟨h0,h1⟩,h2,h3⟩:=h;rcases dS.1 ha with rfl|ha2<;>rcases dS.1 hb with rfl|hb2
  ·exact absurd rfl hne
  ·have a1:=h1 b hb2;have a2:=h2 b hb2;simp at a1 a2;exact⟨a1.1,a1.2,a2.1,a2.2⟩
  ·have a1:=h1 a ha2;have a2:=h2 a ha2;simp at a1 a2;exact⟨fun hh=>a1.1 hh.symm,fun hh=>a2.1 hh.symm,fun hh=>a1.2 hh.symm,fun hh=>a2.2 hh.symm⟩
  ·exact ih h3 ha2 hb2
structure qgZ(i s m o:Nat)(l:Lv):Prop where
 ti:l.t≠i
 ts:l.t≠s
 tm:l.t≠m
 tO:l.t≠o
 pi:l.p≠i
 ps:l.p≠s
 pm:l.p≠m
 pO:l.p≠o
 tp:l.t≠l.p
theorem dy.ne{h:List Uo}{i s m o:Nat}{lv:List Lv}{b:Bs}{rc dn ks:U}(hb:dy h i s m o lv b rc dn ks):i≠s∧i≠m∧i≠o∧s≠m∧s≠o∧m≠o∧(∀ l∈lv,qgZ i s m o l)∧∀ a∈lv,∀ c∈lv,a≠c→a.t≠c.t∧a.t≠c.p∧a.p≠c.t∧a.p≠c.p:=by
 have h:=hb.nd;unfold bZ at h;simp only[List.nodup_cons,dS,List.mem_flatMap,not_or,not_exists,not_and,List.not_mem_nil,or_false]at h;obtain⟨⟨a1,a2,a3,a4⟩,⟨b1,b2,b3⟩,⟨c1,c2⟩,d1,e1⟩:=h;refine⟨a1,a2,a3,b1,b2,c1,fun l hl=> ?_,fun a ha c hc hne=>WB e1 ha hc hne⟩;have x1:=a4 l hl;have x2:=b3 l hl;have x3:=c2 l hl;have x4:=d1 l hl;have x5:l.t≠l.p:=by
  have:[l.t,l.p].Sublist (lv.flatMap fun l=>[l.t,l.p]):=by
   clear e1 x1 x2 x3 x4 a4 b3 c2 d1 hb
   induction lv with
   |nil=>cases hl
   |cons c r ih=>
    simp only[List.flatMap_cons];rcases dS.1 hl with rfl|hl
    ·exact List.sublist_append_left _ _
    ·exact(ih hl).trans (List.sublist_append_right _ _)
  have:=List.Nodup.sublist this e1;simp at this;exact this
 exact⟨fun hh=>x1.1 hh.symm,fun hh=>x2.1 hh.symm,fun hh=>x3.1 hh.symm,fun hh=>x4.1 hh.symm,fun hh=>x1.2 hh.symm,fun hh=>x2.2 hh.symm,fun hh=>x3.2 hh.symm,fun hh=>x4.2 hh.symm,x5⟩
theorem eW.same{h h' :List Uo}{s o:Nat}{d:Db}{ks:U}(hs:eW h s o d ks)(h1:h'[s]? =h[s]?)(h2:h'[o]? =h[o]?):eW h' s o d ks:=
 ⟨by rw[h1];exact hs.row,by rw[h2];exact hs.map⟩
theorem dy.fB{h:List Uo}{i s m o:Nat}{lv:List Lv}{b:Bs}{rc dn ks:U}(hb:dy h i s m o lv b rc dn ks){l:Lv}(hl:l∈lv)(t:Tx)(hid:t.id=l.tx.id)(h2:List Uo)
  (hfr:∀ j,j≠l.t→j≠l.p→h2[j]? =h[j]?) (h3:h2[l.t]? =some (.row (lB t l.p))) (h4:jX nA h2[l.p]? t.bT):dy h2 i s m o (yI t lv) (aP b t) rc dn ks:=by
 obtain⟨_,_,_,_,_,_,hft,hpp⟩:=hb.ne;have f:=hft l hl;refine⟨by rw[hfr i (Ne.symm f.ti) (Ne.symm f.pi)];exact hb.row,hb.st.same (hfr s (Ne.symm f.ts) (Ne.symm f.ps)) (hfr o (Ne.symm f.tO) (Ne.symm f.pO)),?_,?_,fun x hx=> ?_,by rw[mK];exact hb.nd⟩
 ·rw[hfr m (Ne.symm f.tm) (Ne.symm f.pm)];refine hb.map.map _ (fun a ha=> ?_) (fun a ha=> ?_)
  ·by_cases hq:a.tx.id=t.id
   ·simp only[hq,if_true];show((t.id:Nat):Int)=(a.tx.id:Int);rw[hq]
   ·simp only[hq,if_false]
  ·by_cases hq:a.tx.id=t.id
   ·simp only[hq,if_true];rfl
   ·simp only[hq,if_false]
 ·show(yI t lv).map (·.tx)=b.live.map fun x=>if x.id=t.id then t else x
  rw[←hb.OM,yI,List.map_map,List.map_map];refine List.map_congr_left fun a ha=> ?_;by_cases hq:a.tx.id=t.id<;>simp[Function.comp,hq]
 ·obtain⟨a,ha,rfl⟩:=eS.1 hx;by_cases hq:a.tx.id=t.id
  ·have:a=l:=Qn hb.ids ha hl (by rw[hq,hid]);subst this;simp only[hq,if_true];exact⟨h3,h4⟩
  ·simp only[hq,if_false];have hne:a≠l:=fun hh=>hq (by rw[hh,hid]);obtain⟨n1,n2,n3,n4⟩:=hpp a ha l hl hne;rw[hfr a.t n1 n2,hfr a.p n3 n4];exact hb.tx a ha
structure qaa(b:Bs)(n:Nat):Prop where
 db:oV b.db
 lim:b.db.lim.marks<small∧b.db.lim.records<small∧b.db.lim.live<small
 marks:∀ t∈b.live,t.marks.length+n<small / 16
 bT:∀ t∈b.live,t.bT.length+n<small / 16
 wt:∀ t∈b.live,∀ w∈t.bT,lS w
 live:b.live.length<small
 IZ:b.db.keys.Nodup
 kl:b.db.keys.length<small / 2
theorem dy.mem{h:List Uo}{i s m o:Nat}{lv:List Lv}{b:Bs}{rc dn ks:U}(hb:dy h i s m o lv b rc dn ks){l:Lv}(hl:l∈lv):l.tx∈b.live:=by
 rw[←hb.OM];exact eS.2 ⟨l,hl,rfl⟩
def eR(b:Bs)(id:Int):Option Tx:=b.live.find? fun t=>decide ((t.id:Int)=id)
theorem dy.find{h:List Uo}{i s m o:Nat}{lv:List Lv}{b:Bs}{rc dn ks:U}(hb:dy h i s m o lv b rc dn ks)(id:Int):eR b id=(fK k8 id lv).map (·.tx):=by
 unfold eR;rw[←hb.OM,List.find?_map];rfl
def wK(k:By):cA:=(k,k++[0])
def iF(b:Bs)(id:Int)(k:By):(U×Bs):=match eR b id with
 |none=>(.aV [.sl 1 [],.bool false,.int .i64 4],b)
 |some t=>match fK nA k t.bT with
  |some w=>(.aV [.sl 1 (bE w.data),.bool (!w.gone),.int .i64 0],b)
  |none=>(.aV [.sl 1 (bE ((pG (chain b.db k) t.began).getD [])),.bool (pG (chain b.db k) t.began).isSome,.int .i64 0],aP b (ez b t (wK k)))
theorem t36{h:List Uo}{i s m o:Nat}{lv:List Lv}{b:Bs}{rc dn ks:U}(fl:Nat)(hf:fl≤h.length)(hb:dy h i s m o lv b rc dn ks){n:Nat}(hk:qaa b n)(id:Int)(k:By)(hkl:k.length<small):
  ∃ h' lv',G 36 [.ptr i 0,.int .i64 id,.str k] h fl=some ((iF b id k).1,h',fl)∧dy h' i s m o lv' (iF b id k).2 rc dn ks∧Fr h h' (bZ i s m o lv)∧bZ i s m o lv' =bZ i s m o lv:=by
 have hl:decide (i<h.length)=true:=decide_eq_true (bn.1 hb.row).1;have c1:=t56 fl hf hb id;unfold iF;rw[hb.find];cases hlv:fK k8 id lv with
 |none=>
  rw[hlv]at c1;simp only[j9]at c1;refine⟨h,lv,?_,hb,Fr.refl h _,rfl⟩;refine bL (fn:=v36) rfl rfl rfl ?_;simp[ry,Nn,Np,Nq,YT,c1,hl,aZ hf]
 |some l=>
  rw[hlv]at c1;simp only[j9]at c1;have hlm:=kR k8 hlv;have hle:=Md k8 hlv;obtain⟨x1,x2⟩:=hb.tx l hlm;have hlt:=(bn.1 x1).1;have hlt' :decide (l.t<h.length)=true:=decide_eq_true hlt;have hpl:=x2.lt;simp only[Option.map_some];have hlk:∀ e,fH ⟨e,h,fl⟩ .str (.agg [.str [],.bool false,.sl 1 []]) true (.map l.p) (.str k)=some (match fK nA k l.tx.bT with|some w=> .aV [.agg (dI w),.bool true]|none=> .aV [.agg [.str [],.bool false,.sl 1 []],.bool false]):=fun e=>by
   have:=mU nA (s:=⟨e,h,fl⟩) (m:=l.p) x2 (.agg [.str [],.bool false,.sl 1 []]) k true;refine this.trans ?_;cases fK nA k l.tx.bT<;>rfl
  have hz:V.EV (.agg [.str [],.bool false,.ag [] 0 0 1])=some (.agg [.str [],.bool false,.sl 1 []]):=rfl;have x1' :=x1;simp only[lB]at x1';cases hw:fK nA k l.tx.bT with
  |some w=>
   rw[hw]at hlk;simp only[dI]at hlk;refine⟨h,lv,?_,hb,Fr.refl h _,rfl⟩;refine bL (fn:=v36) rfl rfl rfl ?_;have c2:=jK (f:=58) rfl (w:=1) (xs:=bE w.data) [] 0 (by rw[j0];exact(hk.wt l.tx (hb.mem hlm) w (kR nA hw)).2) (by simp);simp[ry,Nn,Np,Nq,UD,UE,ay qcr,UF,c1,c2,hl,hlt',x1',hlk,hz,aZ hf,qA hf,cR]
  |none=>
   rw[hw]at hlk;simp only at hlk;have hml:=hk.marks l.tx (hb.mem hlm);have hmarks:l.tx.marks.length<small / 8:=by unfold small at*;omega
   have hnx:∀ X:Uo,Fr h (h.set l.t X) (bZ i s m o lv):=fun X=>(Fr.refl h _).set (by unfold bZ;simp only[dS,List.mem_flatMap];right;right;right;right;exact⟨l,hlm,by simp⟩) X;have hbu:dy (h.set l.t (.row (lB (ez b l.tx (wK k)) l.p))) i s m o (yI (ez b l.tx (wK k)) lv) (aP b (ez b l.tx (wK k))) rc dn ks:=
    hb.fB hlm (ez b l.tx (wK k)) rfl _ (fun j hj _=>List.getElem?_set_ne (Ne.symm hj)) (List.getElem?_set_self hlt) (by
     obtain⟨_,_,_,_,_,_,hft,_⟩:=hb.ne;rw[List.getElem?_set_ne (hft l hlm).tp];exact x2)
   refine⟨_,_,?_,hbu,hnx _,mK _ _ _ _ _ _⟩;refine bL (fn:=v36) rfl rfl rfl ?_;have hset:∀ X x,(h++x).set l.t X=h.set l.t X++x:=fun X x=>List.set_append_left _ _ hlt;have c2:=t76 k hkl;have c3:=t75 (h:=h++[.row [.str [],.bool false,.sl 1 []]]) fl (by simp;omega) (aS hb.row) (aS x1) hmarks hk.lim.1 (wK k);rw[hset]at c3;have c4:=t77 (h:=h.set l.t (.row (lB (ez b l.tx (wK k)) l.p))++[.row [.str [],.bool false,.sl 1 []]]) fl (by simp;omega) hbu.st.app hk.db k l.tx.began;have hr2:∀ x,(h.set l.t (.row (lB (ez b l.tx (wK k)) l.p))++x)[i]? =some (.row (dz b s m rc dn)):=fun x=>by
    have:=hbu.row;exact aS this
   have ht2:∀ x,(h.set l.t (.row (lB (ez b l.tx (wK k)) l.p))++x)[l.t]? =some (.row (lB (ez b l.tx (wK k)) l.p)):=fun x=>aS (List.getElem?_set_self hlt);have hl1:decide (i<h.length+1)=true:=decide_eq_true (by have:=of_decide_eq_true hl;omega);have hcut:∀ (X:Uo) (x:List Uo),cut h.length fl (h.set l.t X++x)=h.set l.t X:=fun X x=>by
    have:=gf (fl:=fl) (h:=h.set l.t X) (l:=x) (by simpa using hf);simpa using this
   have hcut1:∀ (X a:Uo) (x:List Uo),cut (h.length+1) fl (h.set l.t X++a::x)=h.set l.t X++[a]:=fun X a x=>by
    have:=kU (fl:=fl) (h:=h.set l.t X) (by simpa using hf) a x;simpa using this
   have ht2' :∀ x,(h.set l.t (.row (lB (ez b l.tx (wK k)) l.p))++x)[l.t]? =some (.row [.int .i64 l.tx.id,.int .u64 l.tx.began,.int .i64 l.tx.start,.sl 2 ((ez b l.tx (wK k)).marks.map aQ),.map l.p]):=ht2;clear ht2;generalize hY:Uo.row (lB (ez b l.tx (wK k)) l.p)=Y at*;simp only[sS,aP]at c4;simp only[wK]at c3;simp only[aQ,wK,dz]at c2 c3 hr2;simp[ry,Nn,Np,Nq,UD,UE,YV,ay qcs,Lh,YX,c1,c2,c3,c4,hl,hl1,hlt',x1',hlk,hz,hr2,ht2',hcut,cR]
end Go.RE
