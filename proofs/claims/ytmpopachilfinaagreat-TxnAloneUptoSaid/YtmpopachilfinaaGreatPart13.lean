/- A part of a proof. -/
import Derived.Test.YtmpopachilfinaaGreatPart12
import Derived.WalkKit
import Derived.Test.YtmpopachilfinaaGreatPart11
set_option linter.unusedVariables false
set_option linter.unusedSimpArgs false
set_option linter.unnecessarySimpa false
namespace Go.RE
open Go Go.Proofs Go.Sort Go.Lib Go.RowKit
abbrev Rw:=By×Bool×Option Addr×Nat×Nat
def Nz(x:Rw):List Value:=[.string ⟨x.1.toArray⟩,.slice x.2.2.1 x.2.2.2.1 x.2.2.2.2]
def NA(x:Rw):List Value:=[.string ⟨x.1.toArray⟩,.bool x.2.1,.slice x.2.2.1 x.2.2.2.1 x.2.2.2.2]
def wC(k:Nat):Rw→List Value:=bif Nat.beq k 2 then Nz else NA
set_option maxHeartbeats 1000000 in
theorem Ns(x y:Rw)(W:World):Calls Tryz.prog 82 #[.agg (Nz x).toArray,.agg (Nz y).toArray] W fun e w' =>e=.returned (.int .i64 (oc x.1 y.1))∧∃ q os',w' =grow (W.drewN q) os' :=by
 have hcon:=fun W' =>Any.strings_Compare Tryz.Ej ⟨x.1.toArray⟩ ⟨y.1.toArray⟩ W';change ∀ W',Calls Tryz.prog 83 _ _ _ at hcon;rw[rI]at hcon;simp only[Nz];obtain⟨a,a2,a3,a4,a5⟩:=x;obtain⟨b,b2,b3,b4,b5⟩:=y;dsimp only at hcon⊢;generalize oc a b=r at hcon⊢
 go_enter Tryz.func82,Tryz.ntmps82
 go_wp2_with (go_at_call 83;refine(hcon _).mono ?_;rintro e w' ⟨rfl,rfl⟩)
 go_ret
 exact⟨rfl,0,_,by rw[alloc_eq_grow,alloc_eq_grow,grow_grow];rfl⟩
set_option maxHeartbeats 1000000 in
theorem IU(x y:Rw)(W:World):Calls Tryz.prog 116 #[.agg (NA x).toArray,.agg (NA y).toArray] W fun e w' =>e=.returned (.int .i64 (oc x.1 y.1))∧∃ q os',w' =grow (W.drewN q) os' :=by
 have hcon:=fun W' =>Any.strings_Compare Tryz.Ej ⟨x.1.toArray⟩ ⟨y.1.toArray⟩ W';change ∀ W',Calls Tryz.prog 83 _ _ _ at hcon;rw[rI]at hcon;simp only[NA];obtain⟨a,a2,a3,a4,a5⟩:=x;obtain⟨b,b2,b3,b4,b5⟩:=y;dsimp only at hcon⊢;generalize oc a b=r at hcon⊢
 go_enter Tryz.func116,Tryz.ntmps116
 go_wp2_with (go_at_call 83;refine(hcon _).mono ?_;rintro e w' ⟨rfl,rfl⟩)
 go_ret
 exact⟨rfl,0,_,by rw[alloc_eq_grow,alloc_eq_grow,grow_grow];rfl⟩
theorem LV(x y:Rw):ltOf (fun x y:Rw=>oc x.1 y.1) x y=lt x.1 y.1:=qaw x.1 y.1
theorem qfE:SWO (ltOf fun x y:Rw=>oc x.1 y.1) where
 irrefl x:=by rw[LV];exact AY _
 trans x y z h1 h2:=by rw[LV]at*;exact Dp h1 h2
 ntrans x y z h1 h2:=by
  rw[LV]at*;cases h:lt x.1 z.1 with
  |false=>rfl
  |true=>
   rcases wI x.1 y.1 with h3|h3|h3
   ·rw[show lt x.1 y.1=true from h3]at h1;cases h1
   ·rw[h3]at h;rw[h]at h2;cases h2
   ·rw[show lt y.1 z.1=true from Dp h3 h]at h2;cases h2
def IG(P:Program)(f c k:Nat):Prop:=∀ (blk off cap:Nat) (d:Array Rw) (w:World),HoldsK (wC k) k w blk off d→blk<w.heap.size→d.size<4611686018427387904→
  Calls P f #[.slice (some ⟨blk,off,none⟩) d.size cap,.func (.func c) #[] #[]] w fun e w' =>e=.returned (.tuple #[])∧∃ d' n os,PermIn 0 d.size d d'∧SortedIn (ltOf fun x y:Rw=>oc x.1 y.1) 0 d.size d'∧w' =sortWorldK (wC k) k w blk off n d' os
def II(P:Program)(f c:Nat):Prop:=∀ (p:Option Addr) (cap:Nat) (w:World),Calls P f #[.slice p 0 cap,.func (.func c) #[] #[]] w fun e w' =>e=.returned (.tuple #[])∧w' =w
set_option maxRecDepth 100000 in
theorem qbG:IG Tryz.prog 81 82 2:=by
 intro blk off cap d w hH hblk hsz;have h:=AnyQ.slices_SortFunc Tryz.PL 2 Tryz.isAgg107 Tryz.sizeOf107 Nz (fun _=>rfl) (fun x v hv=>by simp[Nz]at hv;rcases hv with rfl|rfl<;>rfl) (fun x y=>oc x.1 y.1) qfE 82 #[] blk off cap d w
  (enters_of Tryz.func82 (by kernel_rfl) rfl) (fun _ _ _ _ x y=>Ns x y _) hH hblk hsz
 change Calls Tryz.prog 81 _ _ _ at h;exact h
set_option maxRecDepth 100000 in
theorem Xj:IG Tryz.prog 115 116 3:=by
 intro blk off cap d w hH hblk hsz;have h:=AnyQ.slices_SortFunc Tryz.LM 3 Tryz.isAgg25 Tryz.sizeOf25 NA (fun _=>rfl) (fun x v hv=>by simp[NA]at hv;rcases hv with rfl|rfl|rfl<;>rfl) (fun x y=>oc x.1 y.1) qfE 116 #[] blk off cap d w
  (enters_of Tryz.func116 (by kernel_rfl) rfl) (fun _ _ _ _ x y=>IU x y _) hH hblk hsz
 change Calls Tryz.prog 115 _ _ _ at h;exact h
set_option maxRecDepth 100000 in
theorem H7:II Tryz.prog 81 82:=by
 intro p cap w;have h:=AnyF.slices_SortFunc_none Tryz.PL p cap (.func (.func 82) #[] #[]) w;change Calls Tryz.prog 81 _ _ _ at h;exact h
set_option maxRecDepth 100000 in
theorem EE:II Tryz.prog 115 116:=by
 intro p cap w;have h:=AnyF.slices_SortFunc_none Tryz.LM p cap (.func (.func 116) #[] #[]) w;change Calls Tryz.prog 115 _ _ _ at h;exact h
end Go.RE
namespace Go.RE
structure Wt where
 key:By
 gone:Bool
 data:By
deriving Inhabited,DecidableEq
def eO(w:Wt):List U:=[.str w.key,.bool w.gone,.sl 1 (bQ w.data)]
def lo0(a b:By):Bool:= !lt b a
def uC:Option By→By→Bool
 |some q,k=>lo0 k q
 |none,_=>false
@[simp] theorem Et(q k:By):uC (some q) k=lo0 k q:=rfl
@[simp] theorem W8(k:By):uC none k=false:=rfl
def fL(p:Option By)(w:Wt):Nat:=
 bif decide (256<w.key.length)then 3 else bif decide (4096<w.data.length)then 3 else
 bif w.key.isEmpty||uC p w.key||(w.gone&&decide (0<w.data.length))then 1 else 0
def eF:Option By→List Wt→Nat
 |_,[]=>0
 |p,w::l=>bif fL p w==0 then eF (some w.key) l else fL p w
def prevK(l:List Wt):Nat→Option By
 |0=>none
 |i+1=>(l[i]?).map (·.key)
def ow(w:Wt):Prop:=w.key.length<small∧w.data.length<small
theorem IB(b:By):(bQ b).length=b.length:=by simp[bQ]
theorem qfM(l:List Wt)(hl:l.length<small)(hok:∀ w∈l,ow w):∀ (j i:Nat),i+j=l.length→
  gL bq mT qT pT K4 0 zT 0 ⟨[(7,.int .i64 (i:Int)),(0,.sl 3 (l.map eO)),(5,.sl 3 (l.map eO)),(6,.int .i64 (l.length:Int))],[],0⟩
   (gy bq mT qT pT K4 (.seq (.region K5) .ret) (kE 0 K4 (.int .i64 (eF (prevK l i) (l.drop i):Nat),[],0))):=by
 intro j
 induction j with
 |zero=>
  intro i hij;obtain⟨h1,h2⟩:=nB hij;rw[ak zT.eq_1,h2];simp[qm,K5,h1,eF]
 |succ j ih=>
  intro i hij;obtain⟨h1,e3,w,d1,g1⟩:=ql hij hl;have e1:=g1 eO;have hw:ow w:=hok w (List.mem_of_mem_drop (i:=i) (by rw[d1];exact eU));have hpk:prevK l (i+1)=some w.key:=by
   have:l[i]? =some w:=by rw[←List.head?_drop,d1];rfl
   simp[prevK,this]
  have ih' :=ih (i+1) (by omega);rw[hpk]at ih';rw[ak zT.eq_1,d1];have k1:decide (256<(w.key.length:Int))=decide (256<w.key.length):=by rw[decide_eq_decide];omega
  have k2:decide (4096<(w.data.length:Int))=decide (4096<w.data.length):=by rw[decide_eq_decide];omega
  have k3:decide (0<(w.data.length:Int))=decide (0<w.data.length):=by rw[decide_eq_decide];omega
  simp only[eO]at e1;simp only[eF,fL];cases c1:decide (256<w.key.length)with
  |true=>
   rw[c1]at k1;simp[qm,ru,ry,UY,h1,aS e1,eO,k1]
  |false=>
   rw[c1]at k1;cases c2:decide (4096<w.data.length)with
   |true=>
    rw[c2]at k2;simp[qm,ru,ry,s9,UY,h1,aS e1,eO,k1,k2,IB]
   |false=>
    rw[c2]at k2;cases c3:w.key.isEmpty with
    |true=>
     simp[qm,ru,ry,s9,vP,p8,h1,aS e1,eO,k1,k2,IB,c3]
    |false=>
     cases hz:decide (0<i)with
     |false=>
      have hp:prevK l i=none:=by
       have:=of_decide_eq_false hz;obtain rfl:i=0:=by omega
       rfl
      cases c4:w.gone with
      |false=>
       simp[qm,ru,ry,s9,vP,au tW,p9,yB,p8,rq,h1,aS e1,eO,k1,k2,IB,c3,e3,hz,hp,cT,c4];simpa[eO]using ih'
      |true=>
       cases c5:decide (0<w.data.length)with
       |true=>
        rw[c5]at k3;simp[qm,ru,ry,s9,vP,au tW,p9,yB,p8,rq,h1,aS e1,eO,k1,k2,IB,c3,e3,hz,hp,cT,c4,c5,k3]
       |false=>
        rw[c5]at k3;simp[qm,ru,ry,s9,vP,au tW,p9,yB,p8,rq,h1,aS e1,eO,k1,k2,IB,c3,e3,hz,hp,cT,c4,c5,k3];simpa[eO]using ih'
     |true=>
      obtain⟨i',hii⟩:∃ i',i=i'+1:=⟨i - 1,by have:=of_decide_eq_true hz;omega⟩;have hi' :i' <l.length:=by omega
      obtain⟨q,hq⟩:∃ q,l[i']? =some q:=⟨_,bL hi'⟩;have hp:prevK l i=some q.key:=by rw[hii];simp[prevK,hq]
      have e5:(l.map eO)[i']? =some [.str q.key,.bool q.gone,.sl 1 (bQ q.data)]:=by simp[eO,hq]
      have e6:aI .i64 ((i:Int) - 1)=(i' :Int):=by
       rw[show(i:Int) - 1=(i' :Int) by omega];exact eT (by unfold small at hl;omega)
      cases c6:lo0 w.key q.key with
      |true=>
       have c7:=c6;simp only[lo0,Bool.not_eq_true',Bool.not_eq_false']at c7;simp[qm,ru,ry,s9,vP,au tW,p9,yB,p8,rq,h1,aS e1,eO,k1,k2,IB,c3,e3,hz,hp,cT,aS e5,e6,c6,c7]
      |false=>
       have c7:=c6;simp only[lo0,Bool.not_eq_true',Bool.not_eq_false']at c7;cases c4:w.gone with
       |false=>
        simp[qm,ru,ry,s9,vP,au tW,p9,yB,p8,rq,h1,aS e1,eO,k1,k2,IB,c3,e3,hz,hp,cT,c4,aS e5,e6,c6,c7];simpa[eO]using ih'
       |true=>
        cases c5:decide (0<w.data.length)with
        |true=>
         rw[c5]at k3;simp[qm,ru,ry,s9,vP,au tW,p9,yB,p8,rq,h1,aS e1,eO,k1,k2,IB,c3,e3,hz,hp,cT,c4,c5,k3,aS e5,e6,c6,c7]
        |false=>
         rw[c5]at k3;simp[qm,ru,ry,s9,vP,au tW,p9,yB,p8,rq,h1,aS e1,eO,k1,k2,IB,c3,e3,hz,hp,cT,c4,c5,k3,aS e5,e6,c6,c7];simpa[eO]using ih'
theorem t57(l:List Wt)(hl:l.length<small)(hok:∀ w∈l,ow w):G 57 [.sl 3 (l.map eO)] [] 0=some (.int .i64 (eF none l:Nat),[],0):=by
 refine bJ (fn:=K4) rfl rfl rfl ?_;have:=qfM l hl hok l.length 0 (by omega);simp[Cb,ZE,ZF];exact this
abbrev Sz:=Nat×Nat×Nat
def tJ(z:Sz):List U:=[.int .i64 z.1,.int .i64 z.2.1,.int .i64 z.2.2]
def mW(c:List jB):Bool:=(c.getLast?.map (·.qp)).getD true
def eP(d:Db)(s:List Wt×Sz)(w:Wt):List Wt×Sz:=
 bif w.gone&&mW (chain d w.key)then s
 else bif(chain d w.key).isEmpty then(s.1++[w],s.2.1+1,s.2.2.1+1,s.2.2.2+w.data.length+w.key.length)else(s.1++[w],s.2.1,s.2.2.1+1,s.2.2.2+w.data.length)
def Xp(d:Db):Sz:=(d.sk,d.sv,d.sb)
def aO(d:Db)(l:List Wt):List Wt×Sz:=l.foldl (eP d) ([],Xp d)
theorem qb0{h:List Uo}{s o:Nat}{d:Db}{ks:U}(fl:Nat)(hf:fl≤h.length)(hs:eX h s o d ks)(hd:oU d)(l:List Wt)(hl:l.length<small)(hok:∀ w∈l,ow w)
  (K:Ex→Vs→Prop) (R:List Wt×Sz) (hK:K .normal ⟨[(5,.ptr h.length 0),(6,.own (.t 6) 3 (R.1.map eO)),(7,.ptr (h.length+1) 0)],h++[.row [.int .i64 0,.int .i64 0,.int .i64 0],.row (tJ R.2)],fl⟩) (n:Nat) (hn:n=h.length+2):
  ∀ (j i:Nat) (z:List Wt×Sz),i+j=l.length→(l.drop i).foldl (eP d) z=R→z.1.length≤i→z.2.1≤3000000000000000000+i→z.2.2.1≤3000000000000000000+i→z.2.2.2≤3000000000000000000+2000000000*i→
  gL bq mT qT pT BA 0 uX n ⟨[(17,.int .i64 (i:Int)),(7,.ptr (h.length+1) 0),(6,.own (.t 6) 3 (z.1.map eO)),(0,.ptr s 0),(15,.sl 3 (l.map eO)),(5,.ptr h.length 0),(16,.int .i64 (l.length:Int))],h++[.row [.int .i64 0,.int .i64 0,.int .i64 0],.row (tJ z.2)],fl⟩ K:=by
 subst hn;have hl1:decide (s<h.length+2)=true:=decide_eq_true (by have:=(bn.1 hs.row).1;omega);have hr:=hs.row;have hlk:∀ (k:By) (e:Env) (x:List Uo),fG ⟨e,h++x,fl⟩ .str (.sl 3 []) false (.map o) (.str k)=some (.sl 3 ((chain d k).map bX)):=fun k e x=>by
  have hm:jY kO (h++x)[o]? d.of:=by
   have:=hs.map;cases ho:h[o]? with
   |none=>rw[ho]at this;obtain⟨_,_,_,hh,_⟩:=this;cases hh
   |some q=>rw[aT ho,←ho];exact this
  have:=nc kO (s:=⟨e,h++x,fl⟩) (m:=o) hm (.sl 3 []) k false;refine this.trans ?_;unfold chain;cases fF kO k d.of<;>rfl
 have hz:V.EL (.ag [] 0 0 3)=some (.sl 3 []):=rfl;simp only[dz]at hr;intro j
 induction j with
 |zero=>
  intro i z hij hR h1 h2 h3 h4;obtain⟨h1,h2⟩:=nB hij;rw[h2]at hR;simp only[List.foldl_nil]at hR;subst hR;simp only[tJ]at hK;rw[ak uX.eq_1];simp[tV,h1,tJ];simpa[Aq hf]using hK
 |succ j ih=>
  intro i z hij hR q1 q2 q3 q4;obtain⟨h1,e3,w,d1,g1⟩:=ql hij hl;have e1:=g1 eO;have hw:ow w:=hok w (List.mem_of_mem_drop (i:=i) (by rw[d1];exact eU));rw[d1,List.foldl_cons]at hR;rw[ak uX.eq_1];simp only[eO]at e1;have b1:(z.1.length+1)*48≤aZ∧z.1.length+1≤aZ:=by unfold small at hl;unfold aZ;omega
  obtain⟨w1,w2⟩:=hw;have ev:aI .i64 ((z.2.2.1:Int)+1)=((z.2.2.1+1:Nat):Int):=eY (by unfold small at hl;omega);have ek:aI .i64 ((z.2.1:Int)+1)=((z.2.1+1:Nat):Int):=eY (by unfold small at hl;omega);have eb:aI .i64 ((z.2.2.2:Int)+(w.data.length:Int))=((z.2.2.2+w.data.length:Nat):Int):=by
   rw[show(z.2.2.2:Int)+(w.data.length:Int)=((z.2.2.2+w.data.length:Nat):Int) by omega];exact eT (by unfold small at*;omega)
  have ec:aI .i64 ((z.2.2.2:Int)+(w.data.length:Int)+(w.key.length:Int))=((z.2.2.2+w.data.length+w.key.length:Nat):Int):=by
   rw[show(z.2.2.2:Int)+(w.data.length:Int)+(w.key.length:Int)=((z.2.2.2+w.data.length+w.key.length:Nat):Int) by omega];exact eT (by unfold small at*;omega)
  simp only[Int.natCast_add]at ev ek eb ec;have hcok:=mH hd w.key;have hk:=hlk w.key;rcases List.eq_nil_or_concat (chain d w.key)with hc|⟨c',v,hc⟩
  ·rw[hc]at hk;cases hg:w.gone with
   |true=>
    have e:eP d z w=z:=by simp[eP,hg,hc,mW]
    rw[e]at hR;have ih' :=ih (i+1) z (by omega) hR (by omega) (by omega) (by omega) (by omega);simp[tV,xh,au uW,pZ,xk,sA,h1,aS e1,e3,eO,hg,aT hr,hk,hz,hl1,tJ,Aq hf,cT];simpa[tJ,eO,hg]using ih'
   |false=>
    have e:eP d z w=(z.1++[w],z.2.1+1,z.2.2.1+1,z.2.2.2+w.data.length+w.key.length):=by simp[eP,hg,hc,mW]
    rw[e]at hR;have ih' :=ih (i+1) _ (by omega) hR (by simp;omega) (by simp;omega) (by simp;omega) (by simp;unfold small at*;omega);simp[tV,xh,au uW,pZ,xk,Fb,Fc,zD,zF,Mr,Ms,sA,h1,aS e1,e3,eO,hg,aT hr,hk,hz,hl1,tJ,Aq hf,cT,b1,ev,ek,eb,ec,IB];simpa[tJ,eO,hg]using ih'
  ·rw[List.concat_eq_append]at hc;rw[hc]at hk;have hcl:c'.length+1<small:=by have:=hcok.1;rw[hc]at this;simpa using this
   have hlen:((c'++[v]).map bX).length=c'.length+1:=by simp
   have e7:((c'++[v]).map bX)[c'.length]? =some [.int .u64 v.At,.bool v.qp,.sl 1 (bQ v.Data)]:=by simp[bX]
   have e5:aI .i64 ((c'.length:Int)+1 - 1)=(c'.length:Int):=by
    rw[show(c'.length:Int)+1 - 1=(c'.length:Int) by omega];exact eT (by unfold small at hcl;omega)
   have e6:((c'.length:Int)+1==0)=false:=by rw[beq_eq_false_iff_ne];omega
   generalize (c'++[v]).map bX=X at*;have hlg:mW (chain d w.key)=v.qp:=by rw[hc];simp[mW]
   have hem:(chain d w.key).isEmpty=false:=by rw[hc];simp
   simp at e5;cases hg:w.gone with
   |true=>
    cases hv:v.qp with
    |true=>
     have e:eP d z w=z:=by simp[eP,hg,hlg,hv]
     rw[e]at hR;rw[hv]at e7;have ih' :=ih (i+1) z (by omega) hR (by omega) (by omega) (by omega) (by omega);simp[tV,xh,au uW,pZ,xk,sA,h1,aS e1,e3,eO,hg,aT hr,hk,hz,hl1,tJ,Aq hf,cT,hlen,e5,e6,aS e7];simpa[tJ,eO,hg]using ih'
    |false=>
     have e:eP d z w=(z.1++[w],z.2.1,z.2.2.1+1,z.2.2.2+w.data.length):=by simp[eP,hg,hlg,hv,hem]
     rw[e]at hR;rw[hv]at e7;have ih' :=ih (i+1) _ (by omega) hR (by simp;omega) (by simp;omega) (by simp;omega) (by simp;unfold small at*;omega);simp[tV,xh,au uW,pZ,xk,sA,h1,aS e1,e3,eO,hg,aT hr,hk,hz,hl1,tJ,Aq hf,cT,hlen,e5,e6,aS e7,Fb,Fc,zD,zF,b1,ev,ek,eb,ec,IB];simpa[tJ,eO,hg]using ih'
   |false=>
    have e:eP d z w=(z.1++[w],z.2.1,z.2.2.1+1,z.2.2.2+w.data.length):=by simp[eP,hg,hem]
    rw[e]at hR;have ih' :=ih (i+1) _ (by omega) hR (by simp;omega) (by simp;omega) (by simp;omega) (by simp;unfold small at*;omega);simp[tV,xh,au uW,pZ,xk,sA,h1,aS e1,e3,eO,hg,aT hr,hk,hz,hl1,tJ,Aq hf,cT,hlen,e5,e6,aS e7,Fb,Fc,zD,zF,b1,ev,ek,eb,ec,IB];simpa[tJ,eO,hg]using ih'
def IJ(d:Db):Prop:=d.sk≤3000000000000000000∧d.sv≤3000000000000000000∧d.sb≤3000000000000000000
theorem t142{h:List Uo}{s o:Nat}{d:Db}{ks:U}(fl:Nat)(hf:fl≤h.length)(hs:eX h s o d ks)(hd:oU d)(hz:IJ d)(l:List Wt)(hl:l.length<small)(hok:∀ w∈l,ow w):
  G 142 [.ptr s 0,.sl 3 (l.map eO)] h fl=some (.aX [.sl 3 ((aO d l).1.map eO),.agg (tJ (aO d l).2)],h,fl):=by
 refine bJ (fn:=BA) rfl rfl rfl ?_;have hl1:decide (s<h.length)=true:=decide_eq_true (bn.1 hs.row).1;have a:=qb0 fl hf hs hd l hl hok (gy bq mT qT pT BA (.seq (.draw Fa) .ret) (kE h.length BA (.aX [.sl 3 ((aO d l).1.map eO),.agg (tJ (aO d l).2)],h,fl))) (aO d l) (by
  simp[tJ,au Se,BB,th hf,cT]) (h.length+2) rfl l.length 0 ([],Xp d) (by omega) rfl (by simp) hz.1 hz.2.1 hz.2.2
 have hr:=hs.row;simp only[dz]at hr;have hl2:decide (s<h.length+2)=true:=decide_eq_true (by have:=of_decide_eq_true hl1;omega);simp[tJ,Xp]at a;simp[xm,Sc,Sd,Sf,Sh,aT hr,tJ,hl2,Aq hf];exact a
def lS(d:Db)(z:Sz):Bool:=decide (z.1≤d.lim.keys)&&decide (z.2.1≤d.lim.gA)&&decide (z.2.2≤d.lim.bytes)
theorem t143{h:List Uo}{s o:Nat}{d:Db}{ks:U}(fl:Nat)(hf:fl≤h.length)(hs:eX h s o d ks)(z:Sz):G 143 [.ptr s 0,.agg (tJ z)] h fl=some (.bool (lS d z),h,fl):=by
 refine bJ (fn:=v143) rfl rfl rfl ?_;have hr:=hs.row;simp only[dz]at hr;cases h1:decide (z.1≤d.lim.keys)<;>cases h2:decide (z.2.1≤d.lim.gA)<;>
  simp[xq,Sj,au Xt,Fe,tJ,aT hr,th hf,lS,h1,h2,cT]
end Go.RE
namespace Go.RE
theorem jm(l:List jB)(t:Nat):∃ n,dm l t=l.drop n:=by
 unfold dm;split
 ·exact⟨0,rfl⟩
 ·rename_i n _;cases(l[n]?.getD default).qp
  ·exact⟨n,rfl⟩
  ·exact⟨n+1,rfl⟩
theorem JS(l:List jB):∀ n,cB (l.drop n)≤cB l:=by
 induction l with
 |nil=>intro n;simp
 |cons a l ih=>
  intro n;cases n with
  |zero=>exact aq _
  |succ n=>have:=ih n;simp only[List.drop_succ_cons,cB,List.map_cons,List.sum_cons]at this⊢;omega
theorem nI.drop{l:List jB}(h:nI l)(n:Nat):nI (l.drop n):=
 ⟨by have:=h.1;simp only[List.length_drop];omega,fun v hv=>h.2 v (List.mem_of_mem_drop hv)⟩
theorem Ij{l:List jB}(h:nI l)(t:Nat):nI (dm l t):=by
 obtain⟨n,hn⟩:=jm l t;rw[hn];exact h.drop n
theorem tK(l:List jB)(t:Nat):cB (dm l t)≤cB l:=by
 obtain⟨n,hn⟩:=jm l t;rw[hn];exact JS l n
theorem C7{d:Db}(hd:oU d)(k:By):cB (chain d k)<small:=by
 unfold chain;cases h:fF kO k d.of with
 |none=>exact(by decide:0<small)
 |some x=>exact hd.ED x (kQ _ h)
def gV(low:Nat)(st:Db×List By)(k:By):Db×List By:=
 let c:=dm (chain st.1 k) low
 bif c.isEmpty then({st.1 with of:=jd kO k st.1.of},st.2)
 else({st.1 with of:=lu kO (k,c) st.1.of,sk:=st.1.sk+1,sv:=st.1.sv+c.length,sb:=st.1.sb+(k.length+cB c)},st.2++[k])
def b9(d:Db)(low:Nat):Db:=
 let r:=d.keys.foldl (gV low) ({d with sk:=0,sv:=0,sb:=0},[])
 {r.1 with keys:=r.2}
theorem o9{k:By}{l:List (By×List jB)}{x:By×List jB}(h:x∈jd kO k l):x∈l:=by
 induction l with
 |nil=>cases h
 |cons b r ih=>
  simp only[jd]at h;cases hb:decide (kO.key b=k)with
  |true=>rw[hb]at h;exact gB _ h
  |false=>
   rw[hb]at h;rcases dM.1 h with rfl|h
   ·exact eU
   ·exact gB _ (ih h)
theorem ja{a:By×List jB}{l:List (By×List jB)}{x:By×List jB}(h:x∈lu kO a l):x=a∨x∈l:=by
 have hm:∀ l:List (By×List jB),x∈sO kO a l→x=a∨x∈l:=by
  intro l
  induction l with
  |nil=>intro h;cases h
  |cons b r ih=>
   intro h;simp only[sO]at h;cases hb:decide (kO.key b=kO.key a)with
   |true=>
    rw[hb]at h;rcases dM.1 h with rfl|h
    ·exact .inl rfl
    ·exact .inr (gB _ h)
   |false=>
    rw[hb]at h;rcases dM.1 h with rfl|h
    ·exact .inr eU
    ·rcases ih h with h|h
     ·exact .inl h
     ·exact .inr (gB _ h)
 unfold lu at h;cases hb:(fF kO (kO.key a) l).isSome with
 |true=>rw[hb]at h;exact hm l h
 |false=>
  rw[hb]at h;rcases gd.1 h with h|h
  ·exact .inr h
  ·simp at h;exact .inl h
theorem Wl{d:Db}{left:List By}{low:Nat}{k:By}(hd:oU d):oU (gV low (d,left) k).1:=by
 unfold gV;dsimp only;cases hc:(dm (chain d k) low).isEmpty with
 |true=>exact⟨hd.keys,hd.sN,fun x hx=>hd.of x (o9 hx),fun x hx=>hd.ED x (o9 hx)⟩
 |false=>
  refine⟨hd.keys,hd.sN,fun x hx=> ?_,fun x hx=> ?_⟩
  ·rcases ja hx with rfl|hx
   ·exact Ij (mH hd k) low
   ·exact hd.of x hx
  ·rcases ja hx with rfl|hx
   ·have:=tK (chain d k) low;have:=C7 hd k;simp only;omega
   ·exact hd.ED x hx
theorem C8(low:Nat)(st:Db×List By)(k:By):(gV low st k).1.keys=st.1.keys∧(gV low st k).1.lim=st.1.lim∧(gV low st k).1.now=st.1.now:=by
 unfold gV;dsimp only;cases(dm (chain st.1 k) low).isEmpty<;>exact⟨rfl,rfl,rfl⟩
def Fr(h h' :List Uo)(l:List Nat):Prop:=h'.length=h.length∧∀ j,j ∉ l→h'[j]? =h[j]?
theorem Fr.refl(h:List Uo)(l:List Nat):Fr h h l:=⟨rfl,fun _ _=>rfl⟩
theorem Fr.trans{h h1 h2:List Uo}{l:List Nat}(a:Fr h h1 l)(b:Fr h1 h2 l):Fr h h2 l:=⟨b.1.trans a.1,fun j hj=>(b.2 j hj).trans (a.2 j hj)⟩
theorem Fr.set{h h' :List Uo}{l:List Nat}(a:Fr h h' l){i:Nat}(hi:i∈l)(x:Uo):Fr h (h'.set i x) l:=
 ⟨by rw[List.length_set];exact a.1,fun j hj=>by rw[List.getElem?_set_ne (by rintro rfl;exact hj hi)];exact a.2 j hj⟩
theorem qfU(s o low was:Nat)(n fl:Nat)(hf:fl≤n)(hsn:s<n)(keys:List By)(hkn:keys.length<small)(hkl:∀ k∈keys,k.length<small):∀ (j i:Nat) (h:List Uo) (d:Db) (left:List By),i+j=keys.length→h.length=n→d.keys=keys→eX h s o d (.bE 1 (keys.map kC))→oU d→left.length≤i→
  d.sk≤i→d.sv≤1000000000*i→d.sb≤2000000000*i→was≤3000000000000000000→
  ∃ h',eX h' s o ((keys.drop i).foldl (gV low) (d,left)).1 (.bE 1 (((keys.drop i).foldl (gV low) (d,left)).2.map kC))∧Fr h h' [s,o]∧
  gL bq mT qT pT Oy 0 sK n ⟨[(32,.int .i64 (i:Int)),(0,.ptr s 0),(6,.own (.t 6) 1 (left.map kC)),(1,.int .u64 (low:Int)),(30,.own (.c s 8) 1 (keys.map kC)),(5,.int .i64 (was:Int)),(31,.int .i64 (keys.length:Int))],h,fl⟩
   (gy bq mT qT pT Oy (.seq (.region Gn) (.seq (.region Gp) .ret)) (kE n Oy (.int .i64 ((was:Int) - (((keys.drop i).foldl (gV low) (d,left)).1.sv:Int)),h',fl))):=by
 have hcut:∀ H:List Uo,H.length=n→cut n fl H=H:=fun H hH=>by subst hH;exact aR hf
 have hl:decide (s<n)=true:=decide_eq_true hsn;intro j
 induction j with
 |zero=>
  intro i h d left hij hn hk hs hd hle b1 b2 b3 b4;obtain⟨h1,h2⟩:=nB hij;rw[h2];simp only[List.foldl_nil];have hr:=hs.row;simp only[dz]at hr;have hlt:=(bn.1 hs.row).1;refine⟨h.set s (.row (dz d o (.bE 1 (left.map kC)))),hs.lM,(Fr.refl h _).set (by simp) _,?_⟩;have hss:∀ X:Uo,(h.set s X)[s]? =some X:=fun X=>List.getElem?_set_self hlt;have ew:aI .i64 ((was:Int) - (d.sv:Int))=(was:Int) - (d.sv:Int):=dh (by unfold small at hkn;omega) (by omega);rw[ak sK.eq_1];simp[Iw,Gn,Gp,h1,hr,hss,hl,hcut,hn,dz,ew]
 |succ j ih=>
  intro i h d left hij hn hk hs hd hle b1 b2 b3 b4;obtain⟨h1,e3,k,d1,g1⟩:=ql hij hkn;have e1:=g1 kC;simp only[kC]at e1;have hik:i<keys.length:=by omega
  have ia:∀ s',qf s' 1 (some (.own (.c s 8) 1 (keys.map kC))) (some (.int .i64 (i:Int)))=some (.bD (.c s 8) i 0,s'):=fun s' =>cz (by simpa using hik);rw[d1,List.foldl_cons];have hr:=hs.row;have hlt:=(bn.1 hs.row).1;have hne:=hs.ne;have hlk:∀ e,fG ⟨e,h,fl⟩ .str (.sl 3 []) false (.map o) (.str k)=some (.sl 3 ((chain d k).map bX)):=fun e=>by
   have:=nc kO (s:=⟨e,h,fl⟩) (m:=o) hs.map (.sl 3 []) k false;refine this.trans ?_;unfold chain;cases fF kO k d.of<;>rfl
  have hz:V.EL (.ag [] 0 0 3)=some (.sl 3 []):=rfl;have c1:=t136 (chain d k) low (mH hd k);have hco:=Ij (mH hd k) low;have hcs:cB (dm (chain d k) low)<small:=by have:=tK (chain d k) low;have:=C7 hd k;omega
  have hok:=Wl (left:=left) (low:=low) (k:=k) hd;have hkk:=(C8 low (d,left) k);have hol:decide (o<n)=true:=by
   obtain⟨_,_,_,ho,_⟩:=hs.map;rw[←hn];exact decide_eq_true (bn.1 ho).1
  have hss:∀ X:Uo,(h.set s X)[s]? =some X:=fun X=>List.getElem?_set_self hlt;have hkl' :k.length<small:=hkl k (List.mem_of_mem_drop (i:=i) (by rw[d1];exact eU));cases hc:(dm (chain d k) low).isEmpty with
  |true=>
   have hcn:dm (chain d k) low=[]:=by simpa using hc
   have e:gV low (d,left) k=({d with of:=jd kO k d.of},left):=by unfold gV;dsimp only;rw[hc];rfl
   rw[e]at hok hkk⊢;obtain⟨o',m1,m2⟩:=LX kO hs.map k;have hs2:eX (h.set o o') s o {d with of:=jd kO k d.of} (.bE 1 (keys.map kC)):=
    ⟨by rw[List.getElem?_set_ne (Ne.symm hne)];exact hs.row,by rw[List.getElem?_set_self (by rw[hn];exact of_decide_eq_true hol)];exact m1⟩
   obtain⟨hF,f1,f2,f3⟩:=ih (i+1) (h.set o o') {d with of:=jd kO k d.of} left (by omega) (by simpa using hn) hk hs2 hok (by omega) (by show d.sk≤_;omega) (by show d.sv≤_;omega) (by show d.sb≤_;omega) b4;refine⟨hF,f1,((Fr.refl h [s,o]).set (by simp) o').trans f2,?_⟩;rw[hcn]at c1;have hdl:∀ e,IZ .str o (.str k) ⟨e,h,fl⟩ h[o]? =some (.aX [],⟨e,h.set o o',fl⟩):=fun e=>m2 o ⟨e,h,fl⟩ rfl;simp only[dz]at hr;rw[ak sK.eq_1];simp[Iw,Vp,Vq,Lg,Vf,Lh,h1,ia,e1,e3,hr,hlk,hz,hl,hcut,hn,c1,hdl];simpa using f3
  |false=>
   have hcne:¬(dm (chain d k) low=[]):=fun hh=>by rw[hh]at hc;cases hc
   generalize hct:dm (chain d k) low=c at*;have e:gV low (d,left) k=({d with of:=lu kO (k,c) d.of,sk:=d.sk+1,sv:=d.sv+c.length,sb:=d.sb+(k.length+cB c)},left++[k]):=by unfold gV;dsimp only;rw[hct,hc];rfl
   rw[e]at hok hkk⊢;obtain⟨o',m1,m2⟩:=map_set kO hs.map (k,c);have hmu:∀ e,VV .str o (.str k) (.sl 3 (c.map bX)) ⟨e,h,fl⟩ h[o]? =some (.aX [],⟨e,h.set o o',fl⟩):=fun e=>m2 o ⟨e,h,fl⟩;have c2:=t137 c hco hcs;have hr1:(h.set o o')[s]? =h[s]? :=List.getElem?_set_ne (Ne.symm hne);have hss1:∀ X:Uo,((h.set o o').set s X)[s]? =some X:=fun X=>List.getElem?_set_self (by simpa using hlt);have hs2:eX ((h.set o o').set s (.row (dz {d with of:=lu kO (k,c) d.of,sk:=d.sk+1,sv:=d.sv+c.length,sb:=d.sb+(k.length+cB c)} o (.bE 1 (keys.map kC))))) s o {d with of:=lu kO (k,c) d.of,sk:=d.sk+1,sv:=d.sv+c.length,sb:=d.sb+(k.length+cB c)} (.bE 1 (keys.map kC)):=
    ⟨hss1 _,by rw[List.getElem?_set_ne hne,List.getElem?_set_self (by rw[hn];exact of_decide_eq_true hol)];exact m1⟩
   have hclen:c.length<small:=hco.1;obtain⟨hF,f1,f2,f3⟩:=ih (i+1) ((h.set o o').set s (.row (dz {d with of:=lu kO (k,c) d.of,sk:=d.sk+1,sv:=d.sv+c.length,sb:=d.sb+(k.length+cB c)} o (.bE 1 (keys.map kC))))) {d with of:=lu kO (k,c) d.of,sk:=d.sk+1,sv:=d.sv+c.length,sb:=d.sb+(k.length+cB c)} (left++[k]) (by omega) (by simpa using hn) hk hs2 hok (by simp;omega) (by show d.sk+1≤_;omega) (by show d.sv+c.length≤_;unfold small at hclen;omega) (by show d.sb+(k.length+cB c)≤_;unfold small at hcs hkl';omega) b4;refine⟨hF,f1,(((Fr.refl h [s,o]).set (by simp) o').set (by simp) _).trans f2,?_⟩;have b5:(left.length+1)*16≤aZ∧left.length+1≤aZ:=by unfold small at hkn;unfold aZ;omega
   have w1:aI .i64 ((d.sk:Int)+1)=((d.sk+1:Nat):Int):=eY (by unfold small at hkn;omega);have w2:aI .i64 ((d.sv:Int)+(c.length:Int))=((d.sv+c.length:Nat):Int):=by
    rw[show(d.sv:Int)+(c.length:Int)=((d.sv+c.length:Nat):Int) by omega];exact eT (by unfold small at*;omega)
   have w3:aI .i64 ((k.length:Int)+(cB c:Int))=((k.length+cB c:Nat):Int):=by
    rw[show(k.length:Int)+(cB c:Int)=((k.length+cB c:Nat):Int) by omega];exact eT (by unfold small at*;omega)
   have w4:aI .i64 ((d.sb:Int)+((k.length:Int)+(cB c:Int)))=((d.sb+(k.length+cB c):Nat):Int):=by
    rw[show(d.sb:Int)+((k.length:Int)+(cB c:Int))=((d.sb+(k.length+cB c):Nat):Int) by omega];exact eT (by unfold small at*;omega)
   have hcl0:(((c.length:Int))==0)=false:=by
    rw[beq_eq_false_iff_ne];cases c with
    |nil=>exact absurd rfl hcne
    |cons a b=>simp;omega
   have hcl1:¬(c.length=0):=fun hh=>hcne (List.length_eq_zero_iff.1 hh);simp only[Int.natCast_add]at w1 w2 w3 w4;simp only[dz]at hr f3;rw[ak sK.eq_1];simp[Iw,Vp,Vq,Lg,Vg,Vh,Vi,Vj,au XC,Gm,Lh,kC,h1,ia,e1,e3,hr,hlk,hz,hl,hcut,hn,c1,c2,hmu,hr1,hss1,b5,w1,w2,w3,w4,hcl0,hcl1,hcne,cT];simpa[kC]using f3
def n9(ks:U)(keys:List By):Prop:=ks=.bE 1 (keys.map kC)∨(ks=.nl 1∧keys=[])
def slO(d w:Nat)(s:Vs):Option Nat→Option Nat→Option Nat→Option (U×Vs)
 |some 0,some 0,some 0=>some (.own (.t d) w [],s.kill (.t d))
 |_,_,_=>none
@[simp] theorem qiV(d w:Nat)(s:Vs):slO d w s (some 0) (some 0) (some 0)=some (.own (.t d) w [],s.kill (.t d)):=rfl
@[simp] theorem Yd(d w:Nat)(g:Tg)(lo hi:Option bH)(m:bH)(xs:List (List U))(s:Vs):iz d w lo hi (some m) (.own g w xs) s=slO d w s (bw s.e hi xs.length xs.length) (bw s.e (some m) xs.length xs.length) (bw s.e lo 0 0):=by
 simp only[iz,iY,cond_true];rfl
theorem t98{h:List Uo}{s o:Nat}{d:Db}{ks:U}(fl:Nat)(hf:fl≤h.length)(hs:eX h s o d ks)(hk:n9 ks d.keys)(hd:oU d)(hz:IJ d)(low:Nat):
  ∃ h' ks',G 98 [.ptr s 0,.int .u64 (low:Int)] h fl=some (.int .i64 ((d.sv:Int) - ((b9 d low).sv:Int)),h',fl)∧eX h' s o (b9 d low) ks'∧n9 ks' (b9 d low).keys∧Fr h h' [s,o]:=by
 have hlt:=(bn.1 hs.row).1;have hl:decide (s<h.length)=true:=decide_eq_true hlt;have c0:=t99 fl hf hs.row;have hr:=hs.row;have hss:∀ X:Uo,(h.set s X)[s]? =some X:=fun X=>List.getElem?_set_self hlt;have hcut:∀ H:List Uo,H.length=h.length→cut h.length fl H=H:=fun H hH=>by rw[←hH];exact aR (by rw[hH];exact hf)
 have e0:fK (.int .i64 0) 0=some 0:=rfl;have e0' :∀ n,fK (.int .i64 0) n=some 0:=fun n=>by
  show asNat (.int .i64 0) n=some 0;simp only[asNat];rw[if_pos ⟨by decide,Int.natCast_nonneg n⟩];rfl
 rcases hk with rfl|⟨rfl,hk⟩
 ·have hs1:eX (h.set s (.row (dz {d with sk:=0,sv:=0,sb:=0} o (.bE 1 (d.keys.map kC))))) s o {d with sk:=0,sv:=0,sb:=0} (.bE 1 (d.keys.map kC)):=
   ⟨hss _,by rw[List.getElem?_set_ne hs.ne];exact hs.map⟩
  obtain⟨h',f1,f2,f3⟩:=qfU s o low d.sv h.length fl hf hlt d.keys hd.keys hd.sN d.keys.length 0 (h.set s (.row (dz {d with sk:=0,sv:=0,sb:=0} o (.bE 1 (d.keys.map kC))))) {d with sk:=0,sv:=0,sb:=0} [] (by omega) (by simp) rfl hs1 ⟨hd.keys,hd.sN,hd.of,hd.ED⟩ (by simp) (by simp) (by simp) (by simp) hz.2.1;refine⟨h',_,?_,⟨f1.row,f1.map⟩,.inl rfl,((Fr.refl h [s,o]).set (by simp) _).trans f2⟩;refine bJ (fn:=Oy) rfl rfl rfl ?_;simp only[dz]at hr f3;simp at f3;simp[vV,Vd,Ve,Vl,Vm,Vn,Vo,c0,hr,hl,hss,hcut,e0,e0'];exact f3
 ·refine⟨h.set s (.row (dz {d with sk:=0,sv:=0,sb:=0} o (.nl 1))),.nl 1,?_,⟨by rw[hss];simp[b9,hk,dz],by rw[List.getElem?_set_ne hs.ne];simpa[b9,hk]using hs.map⟩,.inr ⟨rfl,by simp[b9,hk]⟩,(Fr.refl h [s,o]).set (by simp) _⟩;refine bJ (fn:=Oy) rfl rfl rfl ?_;have ew:aI .i64 ((d.sv:Int) - 0)=(d.sv:Int):=by rw[Int.sub_zero];exact eT (by have:=hz.2.1;omega)
  have e:(b9 d low).sv=0:=by simp[b9,hk]
  rw[e];simp only[dz]at hr;simp at ew;simp[vV,Vd,Ve,Vl,Vm,Vn,Vo,c0,hr,hl,hss,hcut,e0,e0',dz];rw[ak sK.eq_1];simp[Iw,Gn,Gp,hss,hl,hcut,ew]
end Go.RE
namespace Go.RE
section
variable{α κ:Type}[DecidableEq κ](F:Mk α κ)
theorem PS(k:κ)(a:α):∀ l:List α,(fF F (F.key a) l).isSome=true→fF F k (sO F a l)=if F.key a=k then some a else fF F k l:=by
 intro l
 induction l with
 |nil=>intro h;cases h
 |cons b r ih=>
  intro h;simp only[sO];by_cases hb:F.key b=F.key a
  ·simp only[hb,decide_true,cond_true];by_cases hk:F.key a=k
   ·simp[fF,List.find?_cons,hk]
   ·simp[fF,List.find?_cons,hk,hb]
  ·simp only[hb,decide_false,cond_false];have h' :(fF F (F.key a) r).isSome=true:=by
    simp only[fF,List.find?_cons,hb,decide_false]at h;exact h
   have ih' :=ih h';by_cases hk:F.key b=k
   ·have:¬F.key a=k:=fun hh=>hb (by rw[hk,hh]);simp[fF,List.find?_cons,hk,this]
   ·have e1:fF F k (b::sO F a r)=fF F k (sO F a r):=by simp[fF,List.find?_cons,hk]
    have e2:fF F k (b::r)=fF F k r:=by simp[fF,List.find?_cons,hk]
    rw[e1,e2,ih']
theorem Ht(k:κ)(a:α)(l:List α):fF F k (lu F a l)=if F.key a=k then some a else fF F k l:=by
 unfold lu;cases h:(fF F (F.key a) l).isSome with
 |true=>exact PS F k a l h
 |false=>
  have hn:fF F (F.key a) l=none:=by simpa using h
  rw[cond_false];by_cases hk:F.key a=k
  ·subst hk;simp only[fF]at hn⊢;rw[List.find?_append,hn];simp
  ·simp only[fF];rw[List.find?_append];simp[hk]
end
theorem NP(ks:List By):kj (ks.map kC)=some ks:=by
 induction ks with
 |nil=>rfl
 |cons a r ih=>show(match pP (kC a),kj (r.map kC)with|some k,some l=>some (k::l)|_,_=>none)=_;rw[ih];rfl
theorem LC(ks:List By)(n t:Nat)(k:By)(hn:n≤ks.length)(hl:ks.length<small):NO (ks.map kC) [.int .i64 (n:Int),.own (.t t) 1 [[.str k]]]=some ((ks.take n++[k]++ks.drop n).map kC):=by
 have h1:(kj (ks.map kC)).isSome=true:=by rw[NP];rfl
 have h2:iP 1 (ks.map kC)=true:=nv (fun v=>by simp[kC]) ks;have h3:Nat.ble n (ks.map kC).length=true:=ou (by simpa using hn);have h4:Nat.blt (ks.map kC).length 1000000000=true:=by
  simp only[List.length_map];exact ou hl
 simp only[NO,h1,h2,Int.toNat_natCast,h3,h4,Int.natCast_nonneg,decide_true,Bool.and_self,cond_true];simp[kC]
def aN(s:Vs)(d w:Nat)(rest:List U):Option (List (List U))→Option (U×Vs)
 |some ys=>bif lW w ys&&uv .r rest then some (.own (.t d) w ys,(s.kill .r).kill (.t d))else none
 |none=>none
@[simp] theorem qgt(s:Vs)(d w:Nat)(rest:List U)(ys:List (List U)):aN s d w rest (some ys)=bif lW w ys&&uv .r rest then some (.own (.t d) w ys,(s.kill .r).kill (.t d))else none:=rfl
@[simp] theorem qd9(Q:mE)(F:FU)(s:Vs)(d f:Nat)(w:Nat)(rest:List U)(q:List (List U)→List U→Option (List (List U))):
  xZ Q F s d f (.nl w::rest) (some q)=aN s d w rest (q [] rest):=by
 simp only[xZ];cases q [] rest<;>rfl
def mS(ks:List By)(k:By):List By:=ks.take (ot ks k)++[k]++ks.drop (ot ks k)
theorem G8(ks:List By)(k:By):(mS ks k).length=ks.length+1:=by
 have:=EH ks k;simp[mS];omega
def nH(d:Db)(w:Wt):jB:=⟨d.now,w.gone,w.data⟩
def iO(d:Db)(w:Wt):Db:=
 {d with of:=lu kO (w.key,chain d w.key++[nH d w]) d.of,keys:=bif(chain d w.key).isEmpty then mS d.keys w.key else d.keys}
theorem rH(d:Db)(w:Wt)(k:By):chain (iO d w) k=if w.key=k then chain d w.key++[nH d w]else chain d k:=by
 show((fF kO k (lu kO (w.key,chain d w.key++[nH d w]) d.of)).map (·.2)).getD []=_;rw[Ht];by_cases h:w.key=k
 ·have:kO.key (w.key,chain d w.key++[nH d w])=k:=h;rw[if_pos this,if_pos h];rfl
 ·have:¬kO.key (w.key,chain d w.key++[nH d w])=k:=h;rw[if_neg this,if_neg h];rfl
structure zX(d:Db)(m:Nat):Prop where
 keys:d.keys.length+m<small
 sN:∀ k∈d.keys,k.length<small
 len:∀ x∈d.of,x.2.length+m<small
 dat:∀ x∈d.of,∀ v∈x.2,v.Data.length<small
 ED:∀ x∈d.of,cB x.2+5000*m<small
theorem zX.ok{d:Db}{m:Nat}(h:zX d m):oU d:=
 ⟨by have:=h.keys;omega,h.sN,fun x hx=>⟨by have:=h.len x hx;omega,h.dat x hx⟩,fun x hx=>by have:=h.ED x hx;omega⟩
theorem zX.le{d:Db}{m n:Nat}(h:zX d m)(hn:n≤m):zX d n:=
 ⟨by have:=h.keys;omega,h.sN,fun x hx=>by have:=h.len x hx;omega,h.dat,fun x hx=>by have:=h.ED x hx;omega⟩
theorem wo{d:Db}{k:By}(h:chain d k≠[]):∃ x∈d.of,x.2=chain d k:=by
 unfold chain at h⊢;cases hh:fF kO k d.of with
 |none=>rw[hh]at h;exact absurd rfl h
 |some x=>exact⟨x,kQ _ hh,rfl⟩
theorem zX.put{d:Db}{m:Nat}(h:zX d (m+1))(hs:5000*(m+1)<small)(w:Wt)(hw:w.key.length<small)(hd:w.data.length≤5000):zX (iO d w) m:=by
 have hch:(chain d w.key).length+(m+1)<small∧(∀ v∈chain d w.key,v.Data.length<small)∧cB (chain d w.key)+5000*(m+1)<small:=by
  by_cases hc:chain d w.key=[]
  ·rw[hc];exact⟨by simp;omega,fun v hv=>(List.not_mem_nil hv).elim,by simpa[cB]using hs⟩
  ·obtain⟨x,hx,he⟩:=wo hc;rw[←he];exact⟨h.len x hx,h.dat x hx,h.ED x hx⟩
 have hkl:∀ k∈mS d.keys w.key,k.length<small:=by
  intro k hk;simp only[mS,gd,dM,List.not_mem_nil,or_false]at hk;rcases hk with(hk|rfl)|hk
  ·exact h.sN k (List.mem_of_mem_take hk)
  ·exact hw
  ·exact h.sN k (List.mem_of_mem_drop hk)
 refine⟨?_,?_,fun x hx=> ?_,fun x hx v hv=> ?_,fun x hx=> ?_⟩
 ·have:=h.keys;show(bif(chain d w.key).isEmpty then mS d.keys w.key else d.keys).length+m<small;cases(chain d w.key).isEmpty with
  |true=>rw[cond_true,G8];omega
  |false=>rw[cond_false];omega
 ·show ∀ k∈(bif(chain d w.key).isEmpty then mS d.keys w.key else d.keys),k.length<small;cases(chain d w.key).isEmpty with
  |true=>exact hkl
  |false=>exact h.sN
 ·rcases ja hx with rfl|hx
  ·have:=hch.1;simp;omega
  ·have:=h.len x hx;omega
 ·rcases ja hx with rfl|hx
  ·rcases gd.1 hv with hv|hv
   ·exact hch.2.1 v hv
   ·simp at hv;subst hv;show w.data.length<small;unfold small;omega
  ·exact h.dat x hx v hv
 ·rcases ja hx with rfl|hx
  ·have:=hch.2.2;simp[cB,nH]at this⊢;omega
  ·have:=h.ED x hx;omega
def qO(d:Db)(w:Wt):Prop:=fW (chain d w.key)<d.now∧eG 0 (chain d w.key)=true∧(w.gone=true→w.data=[])∧w.key.length<small∧w.data.length≤5000
theorem Qh{d:Db}{w:Wt}(h:qO d w):W9 (chain d w.key) (nH d w)=(some (chain d w.key++[nH d w]),0):=by
 obtain⟨h1,h2,h3,_⟩:=h;have e1:eG 0 [nH d w]=true:=by
  have a:decide (d.now≤0)=false:=decide_eq_false (by omega);have b:(w.gone&&decide (0<w.data.length))=false:=by
   cases hg:w.gone with
   |false=>rfl
   |true=>rw[h3 hg];rfl
  show(!(decide (d.now≤0)||(w.gone&&decide (0<w.data.length)))&&true)=true;rw[a,b];rfl
 have e2:decide ((nH d w).At≤fW (chain d w.key))=false:=decide_eq_false (by show ¬d.now≤_;omega);unfold W9;rw[h2,e1,e2];rfl
theorem qbV(s o:Nat)(n fl:Nat)(hf:fl≤n)(hsn:s<n)(come:List Wt)(z:Sz)(now:Nat)(hcn:come.length<small)(h5:5000*come.length<small)(hnd:(come.map (·.key)).Nodup):
  ∀ (j i:Nat) (h:List Uo) (d:Db) (ks:U),i+j=come.length→h.length=n→d.now=now→eX h s o d ks→n9 ks d.keys→zX d j→(∀ w∈come.drop i,qO d w)→
  ∃ h' ks',eX h' s o {(come.drop i).foldl iO d with sk:=z.1,sv:=z.2.1,sb:=z.2.2} ks'∧n9 ks' ((come.drop i).foldl iO d).keys∧Fr h h' [s,o]∧
  gL bq mT qT pT pW 0 nE (n+1) ⟨[(72,.int .i64 (i:Int)),(0,.ptr s 0),(70,.sl 3 (come.map eO)),(10,.ptr n 0),(71,.int .i64 (come.length:Int))],h++[.row (tJ z)],fl⟩
   (gy bq mT qT pT pW (.seq (.region zw) (.seq (.region zy) .ret)) (kE n pW (.aX [.int .u64 (now:Int),.int .i64 0],h',fl))):=by
 have hcut:∀ (H x:List Uo),H.length=n→cut n fl (H++x)=H:=fun H x hH=>by subst hH;exact gh hf
 have hcut1:∀ (H:List Uo) (a:Uo) (x:List Uo),H.length=n→cut (n+1) fl (H++a::x)=H++[a]:=fun H a x hH=>by subst hH;exact kV hf a x
 have hl:decide (s<n)=true:=decide_eq_true hsn;have hl1:decide (s<n+1)=true:=decide_eq_true (by omega);intro j
 induction j with
 |zero=>
  intro i h d ks hij hn hnow hs hk hd hp;obtain⟨h1,h2⟩:=nB hij;rw[h2];simp only[List.foldl_nil];have hr:=hs.row;simp only[dz]at hr;have hlt:=(bn.1 hs.row).1;have hset:∀ X x,(h++x).set s X=h.set s X++x:=fun X x=>List.set_append_left _ _ hlt;have hss:∀ X:Uo,(h.set s X)[s]? =some X:=fun X=>List.getElem?_set_self hlt;have hat:∀ X x,(h.set s X++x)[s]? =some X:=fun X x=>aT (hss X);have hn0:∀ a:Uo,(h++[a])[n]? =some a:=fun a=>by rw[←hn];exact OG h [] a
  refine⟨h.set s (.row (dz {d with sk:=z.1,sv:=z.2.1,sb:=z.2.2} o ks)),ks,⟨hss _,by rw[List.getElem?_set_ne hs.ne];exact hs.map⟩,hk,(Fr.refl h _).set (by simp) _,?_⟩;rw[ak nE.eq_1];subst hnow;simp[uQ,zw,zy,h1,aT hr,hset,hat,hn0,hl,hl1,hcut,hcut1,hn,dz,tJ]
 |succ j ih=>
  intro i h d ks hij hn hnow hs hk hd hp;obtain⟨h1,e3,w,d1,g1⟩:=ql hij hcn;have e1:=g1 eO;simp only[eO]at e1;have hpw:qO d w:=hp w (by rw[d1];exact eU);rw[d1,List.foldl_cons];have hr:=hs.row;have hlt:=(bn.1 hs.row).1;have hne:=hs.ne;have hol:o<h.length:=by
   obtain⟨_,_,_,ho,_⟩:=hs.map;exact(bn.1 ho).1
  have hlk:∀ (e:Env) (x:List Uo),fG ⟨e,h++x,fl⟩ .str (.sl 3 []) false (.map o) (.str w.key)=some (.sl 3 ((chain d w.key).map bX)):=fun e x=>by
   have hm:jY kO (h++x)[o]? d.of:=by
    rw[cw hol];exact hs.map
   have:=nc kO (s:=⟨e,h++x,fl⟩) (m:=o) hm (.sl 3 []) w.key false;refine this.trans ?_;unfold chain;cases fF kO w.key d.of<;>rfl
  have hz:V.EL (.ag [] 0 0 3)=some (.sl 3 []):=rfl;have c1:=t144 (chain d w.key) (nH d w) (mH hd.ok w.key) (by show w.data.length<small;have:=hpw.2.2.2.2;unfold small;omega);rw[Qh hpw]at c1;simp only[N5,bX,nH,Option.getD_some]at c1;have hjc:(j+1)≤come.length:=by omega
  have hdm:=hd.put (by omega) w hpw.2.2.2.1 hpw.2.2.2.2;have hpm:∀ v∈come.drop (i+1),qO (iO d w) v:=by
   intro v hv;have hvv:=hp v (by rw[d1];exact gB _ hv);have hnk:¬w.key=v.key:=by
    have:((come.drop i).map (·.key)).Nodup:=List.Nodup.sublist ((List.drop_sublist i come).map _) hnd;rw[d1,List.map_cons,List.nodup_cons]at this;intro hh;exact this.1 (hh▸eR.2 ⟨v,hv,rfl⟩)
   unfold qO at hvv⊢;rw[rH,if_neg hnk];exact hvv
  obtain⟨o',m1,m2⟩:=map_set kO hs.map (w.key,chain d w.key++[nH d w]);have hset:∀ X x,(h++x).set s X=h.set s X++x:=fun X x=>List.set_append_left _ _ hlt;have hss:∀ X:Uo,(h.set s X)[s]? =some X:=fun X=>List.getElem?_set_self hlt;have hset2:∀ Y X x,(h.set s Y++x).set s X=h.set s X++x:=fun Y X x=>by
   rw[List.set_append_left _ _ (by simpa using hlt),List.set_set]
  have hn1:∀ (a:Uo) x,(h++a::x)[n]? =some a:=fun a x=>by rw[←hn];exact OG h x a
  have hn2:∀ (a b:Uo) x,(h++a::b::x)[n+1]? =some b:=fun a b x=>by rw[←hn];exact at1 h x a b
  have hs1:∀ (a b X:Uo) x,(h++a::b::x).set (n+1) X=h++a::X::x:=fun a b X x=>by rw[←hn];exact Xh h x a b X
  cases hc:(chain d w.key).isEmpty with
  |true=>
   have hcn0:chain d w.key=[]:=by simpa using hc
   have hkeq:(iO d w).keys=mS d.keys w.key:=by
    show(bif(chain d w.key).isEmpty then mS d.keys w.key else d.keys)=_;rw[hc];rfl
   have hk2:n9 (.bE 1 ((mS d.keys w.key).map kC)) (iO d w).keys:=by rw[hkeq];exact .inl rfl
   have hat:∀ X x,(h.set s X++x)[s]? =some X:=fun X x=>aT (hss X);have hmu:∀ e X x,VV .str o (.str w.key) (.sl 3 ((chain d w.key++[nH d w]).map bX)) ⟨e,h.set s X++x,fl⟩ (h.set s X++x)[o]? =some (.aX [],⟨e,(h.set s X).set o o'++x,fl⟩):=fun e X x=>by
    have:=m2 o ⟨e,h.set s X++x,fl⟩;have e2:(h.set s X).set o o'++x=(h.set s X++x).set o o' :=(List.set_append_left _ _ (by simpa using hol)).symm;rw[cw (by simpa using hol),e2,List.getElem?_set_ne hne];exact this
   have c2:=t106 d.keys w.key hd.ok.keys;have hsl:=EH d.keys w.key;rw[hcn0]at c1 hlk hmu;simp only[List.map_append,List.map_cons,List.map_nil,bX,nH,List.nil_append]at c1 hmu hlk;rcases hk with rfl|⟨rfl,hk⟩
   ·have hiq:=fun t=>LC d.keys (ot d.keys w.key) t w.key hsl hd.ok.keys;have hik:mS d.keys w.key=d.keys.take (ot d.keys w.key)++[w.key]++d.keys.drop (ot d.keys w.key):=rfl;rw[←hik]at hiq;have hs2:eX ((h.set s (.row (dz (iO d w) o (.bE 1 ((mS d.keys w.key).map kC))))).set o o') s o (iO d w) (.bE 1 ((mS d.keys w.key).map kC)):=
     ⟨by rw[List.getElem?_set_ne (Ne.symm hne)];exact hss _,by rw[List.getElem?_set_self (by simpa using hol)];exact m1⟩
    obtain⟨h',ks',f1,f2,f3,f4⟩:=ih (i+1) _ (iO d w) _ (by omega) (by simpa using hn) hnow hs2 hk2 hdm hpm;refine⟨h',ks',f1,f2,(((Fr.refl h [s,o]).set (by simp) _).set (by simp) o').trans f3,?_⟩;simp only[dz]at hr;simp only[dz,iO]at f4;rw[ak nE.eq_1];simp[uQ,zp,au Bo,qU,zq,zu,au Il,Bp,au Bq,qV,zv,eO,h1,aS e1,e3,aT hr,hat,hlk,hz,c1,c2,hmu,hn,hl,hl1,hset,hset2,hss,hcut,hcut1,hn1,hn2,hs1,hiq,cT];simpa using f4
   ·have hz0:ot d.keys w.key=0:=by rw[hk]at hsl;simp at hsl;rw[hk];exact hsl
    have hiq:=fun t=>LC [] 0 t w.key (aq _) (by decide);have hik:mS d.keys w.key=[w.key]:=by unfold mS;rw[hk];simp
    rw[hk]at hz0;rw[hk,hz0]at c2;simp at c2 hiq;simp only[kC]at hiq;have hs2:eX ((h.set s (.row (dz (iO d w) o (.bE 1 ((mS d.keys w.key).map kC))))).set o o') s o (iO d w) (.bE 1 ((mS d.keys w.key).map kC)):=
     ⟨by rw[List.getElem?_set_ne (Ne.symm hne)];exact hss _,by rw[List.getElem?_set_self (by simpa using hol)];exact m1⟩
    obtain⟨h',ks',f1,f2,f3,f4⟩:=ih (i+1) _ (iO d w) _ (by omega) (by simpa using hn) hnow hs2 hk2 hdm hpm;refine⟨h',ks',f1,f2,(((Fr.refl h [s,o]).set (by simp) _).set (by simp) o').trans f3,?_⟩;simp only[dz]at hr;simp only[dz,iO]at f4;rw[ak nE.eq_1];simp[uQ,zp,au Bo,qU,zq,zu,au Il,Bp,au Bq,qV,zv,eO,h1,aS e1,e3,aT hr,hat,hlk,hz,c1,c2,hmu,hn,hl,hl1,hset,hset2,hss,hcut,hcut1,hn1,hn2,hs1,hiq,hik,cT];simpa[hik,kC]using f4
  |false=>
   have hmu:∀ e x,VV .str o (.str w.key) (.sl 3 ((chain d w.key++[nH d w]).map bX)) ⟨e,h++x,fl⟩ (h++x)[o]? =some (.aX [],⟨e,h.set o o'++x,fl⟩):=fun e x=>by
    have:=m2 o ⟨e,h++x,fl⟩;rw[cw hol,←List.set_append_left _ _ hol];exact this
   have hs2:eX (h.set o o') s o (iO d w) ks:=
    ⟨by rw[List.getElem?_set_ne (Ne.symm hne)];exact hs.row,by rw[List.getElem?_set_self hol];exact m1⟩
   have hk2:n9 ks (iO d w).keys:=by
    show n9 ks (bif(chain d w.key).isEmpty then mS d.keys w.key else d.keys);rw[hc];exact hk
   obtain⟨h',ks',f1,f2,f3,f4⟩:=ih (i+1) (h.set o o') (iO d w) ks (by omega) (by simpa using hn) hnow hs2 hk2 hdm hpm;refine⟨h',ks',f1,f2,((Fr.refl h [s,o]).set (by simp) o').trans f3,?_⟩;have hcl:((chain d w.key).length+1==1)=false:=by
    cases hh:chain d w.key with
    |nil=>rw[hh]at hc;cases hc
    |cons a b=>rw[beq_eq_false_iff_ne];simp
   have hci:(((chain d w.key).length:Int)+1==1)=false:=by
    cases hh:chain d w.key with
    |nil=>rw[hh]at hc;cases hc
    |cons a b=>rw[beq_eq_false_iff_ne];simp;omega
   have hcj:¬(((chain d w.key).length:Int)=0):=by
    cases hh:chain d w.key with
    |nil=>rw[hh]at hc;cases hc
    |cons a b=>simp;omega
   simp only[dz]at hr;simp only[List.map_append,List.map_cons,List.map_nil,bX,nH]at c1 hmu;rw[ak nE.eq_1];simp[uQ,zp,au Bo,qU,zq,zu,au Bq,qV,zv,eO,h1,aS e1,e3,aT hr,hlk,hz,c1,hmu,hn,hl,hl1,hcut,hcut1,hn1,hn2,hs1,hcl,hci,hcj,cT];simpa using f4
end Go.RE
namespace Go.RE
structure IF(d:Db):Prop where
 right:∀ x∈d.of,eG 0 x.2=true
 last:∀ x∈d.of,fW x.2≤d.now
theorem HR:∀ (l:List jB) (a b:Nat),a≤b→eG b l=true→eG a l=true:=by
 intro l a b hab h;cases l with
 |nil=>rfl
 |cons v r=>
  simp only[eG,bC,Bool.not_eq_true',Bool.or_eq_false_iff,decide_eq_false_iff_not]at h⊢;exact⟨⟨by omega,h.1.2⟩,h.2⟩
theorem yo:∀ (l:List jB) (n a:Nat),eG a l=true→eG a (l.drop n)=true
 |[],n,a,h=>by simpa using h
 |v::r,0,a,h=>h
 |v::r,n+1,a,h=>by
  simp only[eG,bC]at h;have ha:a≤v.At:=by
   have:=h.1;simp only[Bool.not_eq_true',Bool.or_eq_false_iff,decide_eq_false_iff_not]at this;omega
  exact yo r n a (HR r a v.At ha h.2)
theorem Jr(l:List jB)(n:Nat):fW (l.drop n)≤fW l:=by
 unfold fW;rw[List.getLast?_drop];split
 ·exact dS _
 ·exact aq _
theorem Ik{l:List jB}{t:Nat}(h:eG 0 l=true):eG 0 (dm l t)=true:=by
 obtain⟨n,hn⟩:=jm l t;rw[hn];exact yo l n 0 h
theorem J4(l:List jB)(t:Nat):fW (dm l t)≤fW l:=by
 obtain⟨n,hn⟩:=jm l t;rw[hn];exact Jr l n
theorem Oh(l:List jB)(t:Nat):(dm l t).length≤l.length:=by
 obtain⟨n,hn⟩:=jm l t;rw[hn,List.length_drop];omega
theorem yO{d:Db}(hd:IF d)(k:By):eG 0 (chain d k)=true∧fW (chain d k)≤d.now:=by
 by_cases hc:chain d k=[]
 ·rw[hc];exact⟨rfl,dS _⟩
 ·obtain⟨x,hx,he⟩:=wo hc;rw[←he];exact⟨hd.right x hx,hd.last x hx⟩
structure DT(d0:Db)(m i:Nat)(st:Db×List By):Prop where
 fix:st.1.lim=d0.lim∧st.1.now=d0.now
 len:∀ x∈st.1.of,x.2.length+m<small
 dat:∀ x∈st.1.of,∀ v∈x.2,v.Data.length<small
 ED:∀ x∈st.1.of,cB x.2+5000*m<small
 w:IF st.1
 left:st.2.length≤i∧∀ k∈st.2,k∈d0.keys
 sz:st.1.sk≤i∧st.1.sv≤1000000000*i∧st.1.sb≤2000000000*i
theorem DT.step{d0:Db}{m i:Nat}{st:Db×List By}(h:DT d0 m i st)(low:Nat){k:By}(hk:k∈d0.keys)(hkl:k.length<small)(hm:5000*m<small):DT d0 m (i+1) (gV low st k):=by
 obtain⟨d,left⟩:=st;have hch:(dm (chain d k) low).length+m<small∧(∀ v∈dm (chain d k) low,v.Data.length<small)∧cB (dm (chain d k) low)+5000*m<small:=by
  have hc2:(chain d k).length+m<small∧(∀ v∈chain d k,v.Data.length<small)∧cB (chain d k)+5000*m<small:=by
   by_cases hc:chain d k=[]
   ·rw[hc];exact⟨by simp;omega,fun v hv=>(List.not_mem_nil hv).elim,by simpa[cB]using hm⟩
   ·obtain⟨x,hx,he⟩:=wo hc;rw[←he];exact⟨h.len x hx,h.dat x hx,h.ED x hx⟩
  have:=Oh (chain d k) low;have:=tK (chain d k) low;refine⟨by omega,fun v hv=> ?_,by omega⟩;obtain⟨n,hn⟩:=jm (chain d k) low;rw[hn]at hv;exact hc2.2.1 v (List.mem_of_mem_drop hv)
 have hww:=yO (d:=d) h.w k;have hlast:=J4 (chain d k) low;obtain⟨z1,z2,z3⟩:=h.sz;dsimp only at z1 z2 z3;unfold gV;dsimp only;cases hc:(dm (chain d k) low).isEmpty with
 |true=>
  exact⟨h.fix,fun x hx=>h.len x (o9 hx),fun x hx=>h.dat x (o9 hx),fun x hx=>h.ED x (o9 hx),⟨fun x hx=>h.w.right x (o9 hx),fun x hx=>h.w.last x (o9 hx)⟩,⟨by have:=h.left.1;dsimp only at this⊢;simp only[cond_true];omega,h.left.2⟩,⟨by simp only[cond_true];omega,by simp only[cond_true];omega,by simp only[cond_true];omega⟩⟩
 |false=>
  simp only[cond_false];refine⟨h.fix,fun x hx=> ?_,fun x hx=> ?_,fun x hx=> ?_,⟨fun x hx=> ?_,fun x hx=> ?_⟩,⟨?_,fun x hx=> ?_⟩,⟨?_,?_,?_⟩⟩
  ·rcases ja hx with rfl|hx
   ·exact hch.1
   ·exact h.len x hx
  ·rcases ja hx with rfl|hx
   ·exact hch.2.1
   ·exact h.dat x hx
  ·rcases ja hx with rfl|hx
   ·exact hch.2.2
   ·exact h.ED x hx
  ·rcases ja hx with rfl|hx
   ·exact Ik hww.1
   ·exact h.w.right x hx
  ·rcases ja hx with rfl|hx
   ·show fW (dm (chain d k) low)≤d.now;omega
   ·exact h.w.last x hx
  ·have:=h.left.1;dsimp only at this;simp only[lG,List.length_cons,List.length_nil];omega
  ·rcases gd.1 hx with hx|hx
   ·exact h.left.2 x hx
   ·simp at hx;subst hx;exact hk
  ·show d.sk+1≤i+1;omega
  ·show d.sv+(dm (chain d k) low).length≤1000000000*(i+1);have:=hch.1;unfold small at this;omega
  ·show d.sb+(k.length+cB (dm (chain d k) low))≤2000000000*(i+1);have:=hch.2.2;unfold small at this hkl;omega
theorem DT.fold{d0:Db}{m:Nat}(low:Nat)(hkl:∀ k∈d0.keys,k.length<small)(hm:5000*m<small):∀ (ks:List By) (i:Nat) (st:Db×List By),(∀ k∈ks,k∈d0.keys)→DT d0 m i st→DT d0 m (i+ks.length) (ks.foldl (gV low) st)
 |[],i,st,_,h=>h
 |k::r,i,st,hs,h=>by
  have:=DT.fold low hkl hm r (i+1) _ (fun x hx=>hs x (gB _ hx)) (h.step low (hs k eU) (hkl k (hs k eU)) hm);rw[show i+(k::r).length=i+1+r.length by simp;omega];exact this
theorem D1{d:Db}{m:Nat}(hd:zX d m)(hw:IF d)(hm:5000*m<small)(low:Nat):zX (b9 d low) m∧IF (b9 d low)∧IJ (b9 d low)∧(b9 d low).lim=d.lim∧(b9 d low).now=d.now∧∀ k∈(b9 d low).keys,k∈d.keys:=by
 have h:=DT.fold (m:=m) low hd.sN hm d.keys 0 ({d with sk:=0,sv:=0,sb:=0},[]) (fun k hk=>hk) ⟨⟨rfl,rfl⟩,hd.len,hd.dat,hd.ED,⟨hw.right,hw.last⟩,⟨by simp,fun k hk=>(List.not_mem_nil hk).elim⟩,⟨dS _,dS _,dS _⟩⟩;rw[Nat.zero_add]at h;have hk:=hd.keys;refine⟨⟨?_,fun k hk=>hd.sN k (h.left.2 k hk),h.len,h.dat,h.ED⟩,⟨h.w.right,h.w.last⟩,?_,h.fix.1,h.fix.2,h.left.2⟩
 ·have:=h.left.1;show((d.keys.foldl (gV low) ({d with sk:=0,sv:=0,sb:=0},[])).2).length+m<small;omega
 ·obtain⟨a,b,c⟩:=h.sz;unfold small at hk;refine⟨?_,?_,?_⟩
  ·show(d.keys.foldl (gV low) ({d with sk:=0,sv:=0,sb:=0},[])).1.sk≤_;omega
  ·show(d.keys.foldl (gV low) ({d with sk:=0,sv:=0,sb:=0},[])).1.sv≤_;omega
  ·show(d.keys.foldl (gV low) ({d with sk:=0,sv:=0,sb:=0},[])).1.sb≤_;omega
def Px:List By→Prop
 |a::b::r=>lt a b=true∧Px (b::r)
 |_=>True
theorem Ai:∀ (l:List Wt) (p:Option By),eF p l=0→(∀ w∈l,w.key.length≤256∧w.data.length≤4096∧w.key≠[]∧(w.gone=true→w.data=[]))∧(∀ q,p=some q→Px (q::l.map (·.key)))∧Px (l.map (·.key))
 |[],p,_=>⟨fun w hw=>(List.not_mem_nil hw).elim,fun q _=>trivial,trivial⟩
 |w::l,p,h=>by
  simp only[eF]at h;cases hc:fL p w==0 with
  |false=>rw[hc,cond_false]at h;rw[h]at hc;cases hc
  |true=>
   rw[hc,cond_true]at h;obtain⟨i1,i2,i3⟩:=Ai l (some w.key) h;have hc' :fL p w=0:=by simpa using hc
   unfold fL at hc';cases a1:decide (256<w.key.length)with
   |true=>rw[a1]at hc';cases hc'
   |false=>
    cases a2:decide (4096<w.data.length)with
    |true=>rw[a1,a2]at hc';cases hc'
    |false=>
     rw[a1,a2]at hc';simp only[cond_false]at hc';cases a3:(w.key.isEmpty||uC p w.key||(w.gone&&decide (0<w.data.length)))with
     |true=>rw[a3]at hc';cases hc'
     |false=>
      simp only[Bool.or_eq_false_iff]at a3;obtain⟨⟨b1,b2⟩,b3⟩:=a3;have hw:w.key.length≤256∧w.data.length≤4096∧w.key≠[]∧(w.gone=true→w.data=[]):=by
       have c1:=of_decide_eq_false a1;have c2:=of_decide_eq_false a2;refine⟨by omega,by omega,?_,fun hg=> ?_⟩
       ·intro hh;rw[hh]at b1;cases b1
       rw[hg]at b3;have:=of_decide_eq_false (by simpa using b3:decide (0<w.data.length)=false);exact List.length_eq_zero_iff.1 (by omega)
      refine⟨fun x hx=> ?_,fun q hq=> ?_,?_⟩
      ·rcases dM.1 hx with rfl|hx
       ·exact hw
       ·exact i1 x hx
      ·subst hq;simp only[Et,lo0,Bool.not_eq_false']at b2;exact⟨b2,i2 _ rfl⟩
      ·exact i2 _ rfl
end Go.RE
namespace Go.RE
theorem LA:∀ (a:By) (l:List By),Px (a::l)→∀ b∈l,lt a b=true
 |a,[],_,b,hb=>(List.not_mem_nil hb).elim
 |a,c::r,h,b,hb=>by
  rcases dM.1 hb with rfl|hb
  ·exact h.1
  ·exact Dp h.1 (LA c r h.2 b hb)
theorem tq:∀ l:List By,Px l→l.Nodup
 |[],_=>List.nodup_nil
 |[a],_=>by simp
 |a::b::r,h=>by
  refine List.nodup_cons.2 ⟨fun hm=> ?_,tq (b::r) h.2⟩;have:=LA a (b::r) h a hm;rw[show lt a a=false from AY a]at this;cases this
theorem rJ(d:Db):∀ (l:List Wt) (z:List Wt×Sz),∃ m,(l.foldl (eP d) z).1=z.1++m∧m.Sublist l
 |[],z=>⟨[],by simp,.slnil⟩
 |w::l,z=>by
  rw[List.foldl_cons];unfold eP;cases h1:w.gone&&mW (chain d w.key)with
  |true=>
   obtain⟨m,m1,m2⟩:=rJ d l z;exact⟨m,m1,m2.cons w⟩
  |false=>
   simp only[cond_false];cases h2:(chain d w.key).isEmpty with
   |true=>
    obtain⟨m,m1,m2⟩:=rJ d l (z.1++[w],z.2.1+1,z.2.2.1+1,z.2.2.2+w.data.length+w.key.length);exact⟨w::m,by simp only[cond_true];refine Eq.trans m1 ?_;simp,m2.cons_cons w⟩
   |false=>
    obtain⟨m,m1,m2⟩:=rJ d l (z.1++[w],z.2.1,z.2.2.1+1,z.2.2.2+w.data.length);exact⟨w::m,by simp only[cond_false];refine Eq.trans m1 ?_;simp,m2.cons_cons w⟩
theorem Ak(d:Db)(l:List Wt):(aO d l).1.Sublist l:=by
 obtain⟨m,m1,m2⟩:=rJ d l ([],Xp d);have:(aO d l).1=m:=by unfold aO;rw[m1];simp
 rw[this];exact m2
theorem Fr.split{h x h' :List Uo}{l:List Nat}(hf:Fr (h++x) h' l)(hl:∀ i∈l,i<h.length):∃ h2,h' =h2++x∧Fr h h2 l:=by
 refine⟨h'.take h.length,?_,?_,fun j hj=> ?_⟩
 ·have:h'.drop h.length=x:=by
   apply List.ext_getElem?;intro i;rw[qd,hf.2 _ (fun hh=>by have:=hl _ hh;omega),eZ (by omega)];congr 1;omega
  rw[←this,List.take_append_drop]
 ·rw[List.length_take,hf.1,lG];omega
 ·by_cases hjl:j<h.length
  ·rw[jP,if_pos hjl,hf.2 j hj,cw hjl]
  ·rw[jP,if_neg hjl,List.getElem?_eq_none (by omega)]
theorem eX.app{h x:List Uo}{s o:Nat}{d:Db}{ks:U}(hs:eX h s o d ks):eX (h++x) s o d ks:=by
 refine⟨aT hs.row,?_⟩;obtain⟨lc,c,a,b,e⟩:=hs.map;rw[cw (bn.1 b).1];exact⟨lc,c,a,b,e⟩
theorem eX.DJ{h x:List Uo}{s o:Nat}{d:Db}{ks:U}(hs:eX (h++x) s o d ks)(h1:s<h.length)(h2:o<h.length):eX h s o d ks:=
 ⟨by have:=hs.row;rwa[cw h1]at this,by have:=hs.map;rwa[cw h2]at this⟩
theorem eX.lt{h:List Uo}{s o:Nat}{d:Db}{ks:U}(hs:eX h s o d ks):s<h.length∧o<h.length:=by
 refine⟨(bn.1 hs.row).1,?_⟩;obtain⟨_,_,_,ho,_⟩:=hs.map;exact(bn.1 ho).1
def ic(d:Db)(c:List Wt×Sz):Db:={c.1.foldl iO {d with now:=d.now+1}with sk:=c.2.1,sv:=c.2.2.1,sb:=c.2.2.2}
def aV(d:Db)(l:List Wt)(low:Nat):Nat×Nat×Db:=
 bif !(eF none l==0)then(0,eF none l,d)else
 bif l.isEmpty then(d.now,0,d)else
 bif decide (d.lim.last≤d.now)then(0,5,d)else
 bif lS d (aO d l).2 then(d.now+1,0,ic d (aO d l))else
 bif lS (b9 d low) (aO (b9 d low) l).2 then(d.now+1,0,ic (b9 d low) (aO (b9 d low) l))else(0,5,b9 d low)
theorem QG{h:List Uo}{s o:Nat}{d:Db}{ks:U}{m:Nat}(fl:Nat)(hf:fl≤h.length)(hs:eX h s o d ks)(hk:n9 ks d.keys)(hd:zX d m)(hw:IF d)(l:List Wt)(hl:l.length≤m)(hm:5000*m<small)(hc:eF none l=0):
  ∃ h' ks',eX h' s o (ic d (aO d l)) ks'∧n9 ks' (ic d (aO d l)).keys∧Fr h h' [s,o]∧
  gL bq mT qT pT pW 0 nE (h.length+1) ⟨[(72,.int .i64 0),(0,.ptr s 0),(70,.sl 3 ((aO d l).1.map eO)),(10,.ptr h.length 0),(71,.int .i64 ((aO d l).1.length:Int))],h.set s (.row (dz {d with now:=d.now+1} o ks))++[.row (tJ (aO d l).2)],fl⟩
   (gy bq mT qT pT pW (.seq (.region zw) (.seq (.region zy) .ret)) (kE h.length pW (.aX [.int .u64 ((d.now+1:Nat):Int),.int .i64 0],h',fl))):=by
 obtain⟨hlt,hol⟩:=hs.lt;have hsub:=Ak d l;have hle:=hsub.length_le;obtain⟨k1,_,k3⟩:=Ai l none hc;have hs1:eX (h.set s (.row (dz {d with now:=d.now+1} o ks))) s o {d with now:=d.now+1} ks:=⟨List.getElem?_set_self hlt,by rw[List.getElem?_set_ne hs.ne];exact hs.map⟩;have hp:∀ w∈(aO d l).1.drop 0,qO {d with now:=d.now+1} w:=by
  intro w hw';have hwl:w∈l:=hsub.subset (by simpa using hw');obtain⟨a1,a2,_,a4⟩:=k1 w hwl;have:=yO hw w.key;exact⟨by show fW (chain d w.key)<d.now+1;omega,this.1,a4,by unfold small;omega,by omega⟩
 obtain⟨h',ks',f1,f2,f3,f4⟩:=qbV s o h.length fl hf hlt (aO d l).1 (aO d l).2 (d.now+1) (by omega) (by omega) (List.Nodup.sublist (hsub.map _) (tq _ k3)) (aO d l).1.length 0 (h.set s (.row (dz {d with now:=d.now+1} o ks))) {d with now:=d.now+1} ks (by omega) (by simp) rfl hs1 hk (zX.le (m:=m) ⟨hd.keys,hd.sN,hd.len,hd.dat,hd.ED⟩ (by omega)) hp;exact⟨h',ks',f1,f2,((Fr.refl h [s,o]).set (by simp) _).trans f3,f4⟩
theorem t103{h:List Uo}{s o:Nat}{d:Db}{ks:U}{m:Nat}(fl:Nat)(hf:fl≤h.length)(hs:eX h s o d ks)(hk:n9 ks d.keys)(hd:zX d m)(hw:IF d)(hz:IJ d)(hnow:d.now<small)(l:List Wt)(hl:l.length≤m)(hm:5000*m<small)(hok:∀ w∈l,ow w)(low:Nat):
  ∃ h' ks',G 103 [.ptr s 0,.sl 3 (l.map eO),.int .u64 (low:Int)] h fl=some (.aX [.int .u64 ((aV d l low).1:Int),.int .i64 ((aV d l low).2.1:Int)],h',fl)∧eX h' s o (aV d l low).2.2 ks'∧n9 ks' (aV d l low).2.2.keys∧Fr h h' [s,o]:=by
 obtain⟨hlt,hol⟩:=hs.lt;have hls:l.length<small:=by omega
 have hl0:decide (s<h.length)=true:=decide_eq_true hlt;have hl1:decide (s<h.length+1)=true:=decide_eq_true (by omega);have c0:=t99 fl hf hs.row;have c1:=t57 l hls hok;have c2:=t142 fl hf hs hd.ok hz l hls hok;have hcut:∀ (H x:List Uo),H.length=h.length→cut h.length fl (H++x)=H:=fun H x hH=>by rw[←hH];exact gh (by rw[hH];exact hf)
 have hcut0:∀ (H:List Uo),H.length=h.length→cut h.length fl H=H:=fun H hH=>by rw[←hH];exact aR (by rw[hH];exact hf)
 unfold aV;cases hc:eF none l==0 with
 |false=>
  refine⟨h,ks,?_,hs,hk,Fr.refl h _⟩;refine bJ (fn:=pW) rfl rfl rfl ?_;have hc' :¬(eF none l=0):=by simpa using hc
  have hci:(((eF none l:Nat):Int) !=0)=true:=by simp;omega
  simp[jA,tM,tP,tQ,tT,QZ,c0,c1,hl0,hcut0,hci,hc']
 |true=>
  have hc' :eF none l=0:=by simpa using hc
  rw[hc']at c1;simp only[Bool.not_true,cond_false];cases he:l.isEmpty with
  |true=>
   have:l=[]:=by simpa using he
   subst this;refine⟨h,ks,?_,hs,hk,Fr.refl h _⟩;refine bJ (fn:=pW) rfl rfl rfl ?_;have hr:=hs.row;simp only[dz]at hr;simp at c1;simp[jA,tM,tP,tQ,tT,wX,Q2,c0,c1,hl0,hcut0,hr]
  |false=>
   have hr:=hs.row;simp only[dz]at hr;have hln:((l.length:Int)==0)=false:=by
    rw[beq_eq_false_iff_ne];cases l with
    |nil=>cases he
    |cons a b=>simp;omega
   have hln2:¬(l=[]):=fun hh=>by rw[hh]at he;cases he
   cases hls2:decide (d.lim.last≤d.now)with
   |true=>
    refine⟨h,ks,?_,hs,hk,Fr.refl h _⟩;refine bJ (fn:=pW) rfl rfl rfl ?_;simp[jA,tM,tP,tQ,tT,wX,au zA,sn,Q4,c0,c1,hl0,hcut0,hr,hln,hln2,hls2,cT]
   |false=>
    have wn:aI .u64 ((d.now:Int)+1)=((d.now+1:Nat):Int):=Gs (n:=d.now+1) (by unfold small at hnow;omega);have hset:∀ X x,(h++x).set s X=h.set s X++x:=fun X x=>List.set_append_left _ _ hlt;have hss:∀ X:Uo,(h.set s X)[s]? =some X:=fun X=>List.getElem?_set_self hlt;have hat:∀ X x,(h.set s X++x)[s]? =some X:=fun X x=>aT (hss X);have hcut1:∀ (H:List Uo) (a:Uo) (x:List Uo),H.length=h.length→cut (h.length+1) fl (H++a::x)=H++[a]:=fun H a x hH=>by rw[←hH];exact kV (by rw[hH];exact hf) a x
    have c3:=fun z=>t143 (h:=h++[.row (tJ z)]) fl (by simp;omega) hs.app z;simp only[cond_false];cases hft:lS d (aO d l).2 with
    |true=>
     have c3' :=c3 (aO d l).2;rw[hft]at c3';obtain⟨h',ks',f1,f2,f3,f4⟩:=QG fl hf hs hk hd hw l hl hm hc';refine⟨h',ks',?_,f1,f2,f3⟩;refine bJ (fn:=pW) rfl rfl rfl ?_;generalize aO d l=cm at*;simp only[dz]at f4;simp only[tJ]at c2 c3' f4;simp only[Int.natCast_add]at wn f4;simp[jA,tM,tP,tQ,tT,wX,au zA,sn,zm,zn,zo,EY,EZ,c0,c1,c2,c3',hl0,hl1,hcut0,hcut1,hr,aT hr,hset,hat,wn,hln,hln2,hls2,cT];simpa using f4
    |false=>
     have c3' :=c3 (aO d l).2;rw[hft]at c3';obtain⟨hC,ksC,d1,d2,d3,d4⟩:=t98 (h:=h++[.row (tJ (aO d l).2)]) fl (by simp;omega) hs.app hk hd.ok hz low;obtain⟨h2,rfl,d5⟩:=d4.split (fun i hi=>by simp at hi;rcases hi with rfl|rfl<;>assumption);have hn2:h2.length=h.length:=d5.1;have hs2:eX h2 s o (b9 d low) ksC:=d2.DJ (by omega) (by omega);obtain⟨r1,r2,r3,r4,r5,r6⟩:=D1 hd hw (by omega) low;have c4:=t142 (h:=h2++[.row (tJ (aO d l).2)]) fl (by simp;omega) hs2.app r1.ok r3 l hls hok;have c5:=t143 (h:=h2++[.row (tJ (aO (b9 d low) l).2)]) fl (by simp;omega) hs2.app (aO (b9 d low) l).2;have hsn:∀ (a X:Uo),(h2++[a]).set h.length X=h2++[X]:=fun a X=>by rw[←hn2];exact Qr h2 [] a X
     have han:∀ (a:Uo),(h2++[a])[h.length]? =some a:=fun a=>by rw[←hn2];exact OG h2 [] a
     have hr2:=hs2.row;have hset2:∀ X x,(h2++x).set s X=h2.set s X++x:=fun X x=>List.set_append_left _ _ (by omega);have hss2:∀ X:Uo,(h2.set s X)[s]? =some X:=fun X=>List.getElem?_set_self (by omega);have hat2:∀ X x,(h2.set s X++x)[s]? =some X:=fun X x=>aT (hss2 X);simp only[dz]at hr2;simp only[cond_false];cases hft2:lS (b9 d low) (aO (b9 d low) l).2 with
     |false=>
      rw[hft2]at c5;refine⟨h2,ksC,?_,hs2,d3,d5⟩;refine bJ (fn:=pW) rfl rfl rfl ?_;generalize aO d l=cm at*;generalize aO (b9 d low) l=cm2 at*;simp only[tJ]at c2 c3' c4 c5 d1;simp[jA,tM,tP,tQ,tT,wX,au zA,sn,zm,zn,EW,EX,zo,Mg,c0,c1,c2,c3',d1,c4,c5,hsn,han,hn2,hl0,hl1,hcut,hcut0,hcut1,hr,aT hr,hset,hat,wn,hln,hln2,hls2,cT]
     |true=>
      rw[hft2]at c5;obtain⟨h',ks',f1,f2,f3,f4⟩:=QG fl (by omega) hs2 d3 r1 r2 l hl hm hc';refine⟨h',ks',?_,f1,f2,d5.trans f3⟩;refine bJ (fn:=pW) rfl rfl rfl ?_;rw[hn2]at f4;generalize aO d l=cm at*;generalize aO (b9 d low) l=cm2 at*;generalize b9 d low=dd at*;simp only[dz]at f4;simp only[tJ]at c2 c3' c4 c5 d1 f4;rw[r5]at f4;simp only[r5]at hr2;simp only[Int.natCast_add]at wn f4;simp[jA,tM,tP,tQ,tT,wX,au zA,sn,zm,zn,EW,EX,zo,EY,EZ,c0,c1,c2,c3',d1,c4,c5,hsn,han,hn2,hl0,hl1,hcut,hcut0,hcut1,hr,aT hr,hr2,aT hr2,hset2,hat2,wn,hln,hln2,hls2,cT];simpa using f4
end Go.RE
namespace Go.RE
structure Tx where
 id:Nat
 began:Nat
 start:Nat
 marks:List cD
 ct:List Wt
deriving Inhabited,DecidableEq
structure Vy where
 id:Nat
 began:Nat
 at_:Nat
 start:Nat
 stop:Nat
 reads:List cD
 writes:List cD
deriving Inhabited,DecidableEq
def gG(d:Vy):List U:=[.int .i64 d.id,.int .u64 d.began,.int .u64 d.at_,.int .i64 d.start,.int .i64 d.stop,.sl 2 (d.reads.map aP),.sl 2 (d.writes.map aP)]
structure Bs where
 db:Db
 live:List Tx
 ah:List Rc
 done:List Vy
 last:Nat
 event:Nat
structure Lv where
 tx:Tx
 t:Nat
 p:Nat
deriving Inhabited,DecidableEq
def nU:Mk Wt By:=⟨.str,.str,Wt.key,fun w=> .agg (eO w),ym,fun _=>rfl⟩
def k8:Mk Lv Int:=⟨.int,fun n=> .int .i64 n,fun l=>(l.tx.id:Int),fun l=> .ptr l.t 0,HF,fun _=>rfl⟩
def lC(t:Tx)(p:Nat):List U:=[.int .i64 t.id,.int .u64 t.began,.int .i64 t.start,.sl 2 (t.marks.map aP),.map p]
def dc(b:Bs)(s m:Nat)(rc dn:U):List U:=
 [.int .i64 b.db.lim.keys,.int .i64 b.db.lim.gA,.int .i64 b.db.lim.bytes,.int .i64 b.db.lim.marks,.int .i64 b.db.lim.records,.int .i64 b.db.lim.live,.int .u64 b.db.lim.last,.ptr s 0,.map m,rc,dn,.int .i64 b.last,.int .i64 b.event]
def bZ(i s m o:Nat)(lv:List Lv):List Nat:=i::s::m::o::lv.flatMap fun l=>[l.t,l.p]
structure dw(h:List Uo)(i s m o:Nat)(lv:List Lv)(b:Bs)(rc dn ks:U):Prop where
 row:h[i]? =some (.row (dc b s m rc dn))
 st:eX h s o b.db ks
 map:jY k8 h[m]? lv
 Oi:lv.map (·.tx)=b.live
 tx:∀ l∈lv,h[l.t]? =some (.row (lC l.tx l.p))∧jY nU h[l.p]? l.tx.ct
 nd:(bZ i s m o lv).Nodup
theorem jY.lt{α κ:Type}[DecidableEq κ]{F:Mk α κ}{h:List Uo}{m:Nat}{l:List α}(hm:jY F h[m]? l):m<h.length:=by
 obtain⟨_,_,_,ho,_⟩:=hm;exact(bn.1 ho).1
theorem t54{h:List Uo}{i:Nat}{s m:Nat}{b:Bs}{rc dn:U}(fl:Nat)(hf:fl≤h.length)(hr:h[i]? =some (.row (dc b s m rc dn))):G 54 [.ptr i 0] h fl=some (.bool true,h,fl):=by
 refine bJ (fn:=v54) rfl rfl rfl ?_;simp only[dc]at hr;simp[B9,Zx,Zy,hr,aR hf]
def cR(b:Bs):Nat:=b.live.foldl (fun n t=>mn n t.began) b.db.now
theorem PZ(a:Nat)(x y:Tx):mn (mn a x.began) y.began=mn (mn a y.began) x.began:=by unfold mn;omega
theorem PX{l l' :List Tx}(h:l.Perm l'):∀ a:Nat,l.foldl (fun n t=>mn n t.began) a=l'.foldl (fun n t=>mn n t.began) a:=by
 induction h with
 |nil=>intro a;rfl
 |cons x _ ih=>intro a;exact ih _
 |swap x y l=>intro a;simp only[List.foldl_cons];rw[PZ]
 |trans _ _ ih1 ih2=>intro a;rw[ih1,ih2]
theorem Ez{α κ:Type}[DecidableEq κ]{F:Mk α κ}{lc vis left:List (α×Nat)}{c:Nat}(hc:tY F lc c)(hp:(vis++left).Perm lc)(hall:∀ a∈lc.map (tD F),a.2.2∈vis.map (·.2)):left=[]:=by
 cases left with
 |nil=>rfl
 |cons a r=>
  exfalso;have hnd:((vis++a::r).map (·.2)).Nodup:=(hp.map (·.2)).nodup_iff.2 hc.ID;rw[List.map_append,List.nodup_append]at hnd;have ha:a∈lc:=hp.subset (by simp);have:=hall (tD F a) (eR.2 ⟨a,ha,rfl⟩);exact hnd.2.2 a.2 this a.2 (by simp) rfl
theorem oJ{α κ:Type}[DecidableEq κ]{F:Mk α κ}{lc vis left:List (α×Nat)}{c:Nat}[DecidableEq α](hc:tY F lc c)(hp:(vis++left).Perm lc){a:U×U×Nat}(ha:a∈lc.map (tD F))(hn:a.2.2 ∉ vis.map (·.2)):
  ∃ x∈lc,a=tD F x∧((vis++[x])++left.erase x).Perm lc∧(left.erase x).length+1=left.length:=by
 obtain⟨x,hx,rfl⟩:=eR.1 ha;have hl:x∈left:=by
  have:=hp.symm.subset hx;rcases gd.1 this with hv|hv
  ·exact absurd (eR.2 ⟨x,hv,rfl⟩) hn
  ·exact hv
 refine⟨x,hx,rfl,?_,?_⟩
 ·refine List.Perm.trans ?_ hp;rw[kN];exact(List.perm_cons_erase hl).symm.append_left vis
 ·have:=List.length_erase_of_mem hl;have:=List.length_pos_of_mem hl;omega
theorem wu{α κ:Type}[DecidableEq κ]{F:Mk α κ}{lc:List (α×Nat)}{c:Nat}(hc:tY F lc c):∀ a∈lc.map (tD F),a.2.2<c:=by
 intro a ha;obtain⟨x,hx,rfl⟩:=eR.1 ha;exact hc.lt x hx
theorem D0{α κ:Type}[DecidableEq κ]{F:Mk α κ}{lc:List (α×Nat)}{c:Nat}(hc:tY F lc c):((lc.map (tD F)).map (·.2.2)).Nodup:=by
 rw[List.map_map];exact hc.ID
theorem qfI{h:List Uo}{m:Nat}(fl:Nat)(hf:fl≤h.length)(lc:List (Lv×Nat))(c:Nat)(hc:tY k8 lc c)(hm:h[m]? =some (.map (lc.map (tD k8)) c))(ht:∀ x∈lc,h[x.1.t]? =some (.row (lC x.1.tx x.1.p)))(K:Ex→Vs→Prop)(now:Nat)
  (hK:∀ vis:List (Lv×Nat),vis.Perm lc→K .normal ⟨[(3,.int .u64 ((vis.foldl (fun n x=>mn n x.1.tx.began) now:Nat):Int))],h++[.iter (some m) c (vis.map (·.2)) c],fl⟩):
  ∀ (j:Nat) (vis left:List (Lv×Nat)),left.length≤j→(vis++left).Perm lc→
  gL bq mT qT pT Ut 0 FY (h.length+1) ⟨[(3,.int .u64 ((vis.foldl (fun n x=>mn n x.1.tx.began) now:Nat):Int)),(18,.ptr h.length 0)],h++[.iter (some m) c (vis.map (·.2)) c],fl⟩ K:=by
 intro j
 induction j with
 |zero=>
  intro vis left hj hp;obtain rfl:left=[]:=jq (by omega);rw[List.append_nil]at hp;rw[ak FY.eq_1];simp[Uu];refine oE rfl hm (wu hc) (fun _=> ?_) (fun a ha hn=> ?_)
  ·have:=hK vis hp;simpa[kV hf]using this
  ·obtain⟨x,hx,rfl,_,h3⟩:=oJ (left:=[]) hc (by simpa using hp) ha hn;simp at h3
 |succ j ih=>
  intro vis left hj hp;rw[ak FY.eq_1];simp[Uu];refine oE rfl hm (wu hc) (fun hall=> ?_) (fun a ha hn=> ?_)
  ·have:=Ez hc hp hall;subst this;rw[List.append_nil]at hp;have:=hK vis hp;simpa[kV hf]using this
  ·obtain⟨x,hx,rfl,h2,h3⟩:=oJ hc hp ha hn;have ih' :=ih (vis++[x]) (left.erase x) (by omega) h2;have htx:=ht x hx;have hent:∀ ev:Env,mL ⟨ev,h++[.iter (some m) c (vis.map (·.2)++[x.2]) c],fl⟩ h.length=some (.aX [.int .i64 (x.1.tx.id:Int),.ptr x.1.t 0]):=fun ev=>wD hm (D0 hc) ha;simp only[lC]at htx;simp[List.map_append,List.foldl_append]at ih';simp[tD,k8,YW,YX,hent,aT htx,kV hf];exact ih'
theorem WB(vis:List (Lv×Nat))(a:Nat):vis.foldl (fun n x=>mn n x.1.tx.began) a=(vis.map (·.1.tx)).foldl (fun n t=>mn n t.began) a:=by
 rw[List.foldl_map]
theorem dw.lc{h:List Uo}{i s m o:Nat}{lv:List Lv}{b:Bs}{rc dn ks:U}(hb:dw h i s m o lv b rc dn ks):∃ (lc:List (Lv×Nat)) (c:Nat),lc.map (·.1)=lv∧h[m]? =some (.map (lc.map (tD k8)) c)∧tY k8 lc c∧(∀ x∈lc,h[x.1.t]? =some (.row (lC x.1.tx x.1.p)))∧lc.map (·.1.tx)=b.live:=by
 obtain⟨lc,c,e1,e2,e3⟩:=hb.map;refine⟨lc,c,e1,e2,e3,fun x hx=>(hb.tx x.1 (by rw[←e1];exact eR.2 ⟨x,hx,rfl⟩)).1,?_⟩;rw[←hb.Oi,←e1,List.map_map];rfl
theorem t27{h:List Uo}{i s m o:Nat}{lv:List Lv}{b:Bs}{rc dn ks:U}(fl:Nat)(hf:fl≤h.length)(hb:dw h i s m o lv b rc dn ks):G 27 [.ptr i 0] h fl=some (.int .u64 (cR b:Int),h,fl):=by
 refine bJ (fn:=Ut) rfl rfl rfl ?_;obtain⟨lc,c,e1,e2,e3,e4,e5⟩:=hb.lc;have hl:decide (i<h.length)=true:=decide_eq_true (bn.1 hb.row).1;have c1:=t54 fl hf hb.row;have c2:=t55 fl hf hb.st.row;have hr:=hb.row;have a:=qfI fl hf lc c e3 e2 e4 (gy bq mT qT pT Ut (.seq (.region Uv) .ret) (kE h.length Ut (.int .u64 (cR b:Int),h,fl))) b.db.now (fun vis hv=>by
  have:vis.foldl (fun n x=>mn n x.1.tx.began) b.db.now=cR b:=by
   rw[WB,PX (hv.map (·.1.tx)),e5];rfl
  rw[this];simp[Uv,th hf]) lc.length [] lc (aq _) (by simp)
 simp only[dc]at hr;simp at a;simp[B0,YS,YT,YU,YV,c1,c2,hl,hr,e2,aR hf,kV hf];exact a
def j7:Option Lv→U
 |some l=> .aX [.ptr l.t 0,.int .i64 0]
 |none=> .aX [.bA,.int .i64 4]
theorem t56{h:List Uo}{i s m o:Nat}{lv:List Lv}{b:Bs}{rc dn ks:U}(fl:Nat)(hf:fl≤h.length)(hb:dw h i s m o lv b rc dn ks)(id:Int):G 56 [.ptr i 0,.int .i64 id] h fl=some (j7 (fF k8 id lv),h,fl):=by
 refine bJ (fn:=v56) rfl rfl rfl ?_;have hl:decide (i<h.length)=true:=decide_eq_true (bn.1 hb.row).1;have c1:=t54 fl hf hb.row;have hr:=hb.row;have hlk:∀ e,fG ⟨e,h,fl⟩ .int .bA false (.map m) (.int .i64 id)=some (match fF k8 id lv with|some l=> .ptr l.t 0|none=> .bA):=fun e=>by
  have:=nc k8 (s:=⟨e,h,fl⟩) (m:=m) hb.map .bA id false;refine this.trans ?_;cases fF k8 id lv<;>rfl
 have hz:V.EL .bA=some .bA:=rfl;simp only[dc]at hr;cases hlv:fF k8 id lv with
 |none=>
  rw[hlv]at hlk;simp only at hlk;simp[vO,UT,UU,UW,UX,ZC,c1,hl,hr,hlk,hz,aR hf,j7]
 |some l=>
  rw[hlv]at hlk;simp only at hlk;have hlt:decide (l.t<h.length)=true:=decide_eq_true (bn.1 (hb.tx l (kQ k8 hlv)).1).1;simp[vO,UT,UU,UW,UX,ZD,c1,hl,hr,hlk,hz,aR hf,j7,hlt]
def eo(b:Bs)(t:Tx)(sp:cD):Tx:={t with marks:=qo (DW t.marks sp) b.db.lim.marks}
theorem t75{h:List Uo}{i s m t p:Nat}{b:Bs}{tx:Tx}{rc dn:U}(fl:Nat)(hf:fl≤h.length)(hr:h[i]? =some (.row (dc b s m rc dn)))(ht:h[t]? =some (.row (lC tx p)))(hm:tx.marks.length<small / 8)(hlm:b.db.lim.marks<small)(sp:cD):
  G 75 [.ptr i 0,.ptr t 0,.agg (aP sp)] h fl=some (.aX [],h.set t (.row (lC (eo b tx sp) p)),fl):=by
 refine bJ (fn:=v75) rfl rfl rfl ?_;have hlt:=(bn.1 ht).1;have hal:=iD tx.marks [sp];have c1:=t112 tx.marks sp (by unfold small at*;omega);have c2:=t101 (DW tx.marks sp) b.db.lim.marks (by unfold DW;simp at hal;unfold small at*;omega) hlm;have hset:∀ X x,(h++x).set t X=h.set t X++x:=fun X x=>List.set_append_left _ _ hlt;have hcut:∀ (X:Uo) (x:List Uo),cut h.length fl (h.set t X++x)=h.set t X:=fun X x=>by
  have:=gh (fl:=fl) (h:=h.set t X) (l:=x) (by simpa using hf);simpa using this
 simp only[dc]at hr;simp only[lC]at ht;simp only[aP]at c1;simp[Ci,ZO,au qcF,U8,aP,aT hr,aT ht,c1,c2,hset,hcut,lC,eo,cT]
end Go.RE
namespace Go.RE
def yL(t:Tx)(lv:List Lv):List Lv:=lv.map fun l=>if l.tx.id=t.id then {l with tx:=t}else l
def aK(b:Bs)(t:Tx):Bs:={b with live:=b.live.map fun x=>if x.id=t.id then t else x}
theorem mQ(i s m o:Nat)(t:Tx)(lv:List Lv):bZ i s m o (yL t lv)=bZ i s m o lv:=by
 unfold bZ yL;congr 4;rw[List.flatMap_map];congr 1;funext l;by_cases h:l.tx.id=t.id<;>simp[h]
theorem jY.map{α κ:Type}[DecidableEq κ]{F:Mk α κ}{o:Option Uo}{l:List α}(h:jY F o l)(g:α→α)(hk:∀ a∈l,F.key (g a)=F.key a)(hv:∀ a∈l,F.val (g a)=F.val a):jY F o (l.map g):=by
 obtain⟨lc,c,rfl,ho,hc⟩:=h;have hk' :∀ x∈lc,F.key (g x.1)=F.key x.1:=fun x hx=>hk _ (eR.2 ⟨x,hx,rfl⟩);have hv' :∀ x∈lc,F.val (g x.1)=F.val x.1:=fun x hx=>hv _ (eR.2 ⟨x,hx,rfl⟩);refine⟨lc.map fun x=>(g x.1,x.2),c,by simp[List.map_map],?_,?_,?_,?_⟩
 ·rw[ho,List.map_map];congr 2;refine List.map_congr_left fun x hx=> ?_;simp only[tD,Function.comp,hk' x hx,hv' x hx]
 ·rw[List.map_map];exact hc.ID
 ·intro x hx;obtain⟨y,hy,rfl⟩:=eR.1 hx;exact hc.lt y hy
 ·rw[List.map_map];have:(lc.map ((fun x:α×Nat=>F.key x.1)∘fun x=>(g x.1,x.2)))=lc.map fun x=>F.key x.1:=List.map_congr_left fun x hx=>hk' x hx;rw[this];exact hc.keys
theorem dw.ids{h:List Uo}{i s m o:Nat}{lv:List Lv}{b:Bs}{rc dn ks:U}(hb:dw h i s m o lv b rc dn ks):(lv.map (·.tx.id)).Nodup:=by
 obtain⟨lc,c,e1,_,e3⟩:=hb.map;have hk:=e3.keys;rw[←e1,List.map_map];have:(lc.map fun x=>k8.key x.1)=(lc.map ((fun l:Lv=>l.tx.id)∘fun x=>x.1)).map (fun n:Nat=>(n:Int)):=by rw[List.map_map];rfl
 rw[this]at hk;exact List.Pairwise.of_map _ (fun a b hab hh=>hab (by rw[hh])) hk
theorem P6{lv:List Lv}(h:(lv.map (·.tx.id)).Nodup){a b:Lv}(ha:a∈lv)(hb:b∈lv)(he:a.tx.id=b.tx.id):a=b:=by
 induction lv with
 |nil=>cases ha
 |cons c r ih=>
  simp only[List.map_cons,List.nodup_cons]at h;rcases dM.1 ha with rfl|ha2<;>rcases dM.1 hb with rfl|hb2
  ·rfl
  ·exact absurd (eR.2 ⟨b,hb2,he.symm⟩) h.1
  ·exact absurd (eR.2 ⟨a,ha2,he⟩) h.1
  ·exact ih h.2 ha2 hb2
theorem Wz{lv:List Lv}(h:(lv.flatMap fun l=>[l.t,l.p]).Nodup){a b:Lv}(ha:a∈lv)(hb:b∈lv)(hne:a≠b):a.t≠b.t∧a.t≠b.p∧a.p≠b.t∧a.p≠b.p:=by
 induction lv with
 |nil=>cases ha
 |cons c r ih=>
  simp only[List.flatMap_cons,List.cons_append,List.nil_append,List.nodup_cons,dM,List.mem_flatMap,not_or,not_exists,not_and]at h;obtain⟨⟨h0,h1⟩,h2,h3⟩:=h;rcases dM.1 ha with rfl|ha2<;>rcases dM.1 hb with rfl|hb2
  ·exact absurd rfl hne
  ·have a1:=h1 b hb2;have a2:=h2 b hb2;simp at a1 a2;exact⟨a1.1,a1.2,a2.1,a2.2⟩
  ·have a1:=h1 a ha2;have a2:=h2 a ha2;simp at a1 a2;exact⟨fun hh=>a1.1 hh.symm,fun hh=>a2.1 hh.symm,fun hh=>a1.2 hh.symm,fun hh=>a2.2 hh.symm⟩
  ·exact ih h3 ha2 hb2
structure qha(i s m o:Nat)(l:Lv):Prop where
 ti:l.t≠i
 ts:l.t≠s
 tm:l.t≠m
 tO:l.t≠o
 pi:l.p≠i
 ps:l.p≠s
 pm:l.p≠m
 pO:l.p≠o
 tp:l.t≠l.p
theorem dw.ne{h:List Uo}{i s m o:Nat}{lv:List Lv}{b:Bs}{rc dn ks:U}(hb:dw h i s m o lv b rc dn ks):i≠s∧i≠m∧i≠o∧s≠m∧s≠o∧m≠o∧(∀ l∈lv,qha i s m o l)∧∀ a∈lv,∀ c∈lv,a≠c→a.t≠c.t∧a.t≠c.p∧a.p≠c.t∧a.p≠c.p:=by
 have h:=hb.nd;unfold bZ at h;simp only[List.nodup_cons,dM,List.mem_flatMap,not_or,not_exists,not_and,List.not_mem_nil,or_false]at h;obtain⟨⟨a1,a2,a3,a4⟩,⟨b1,b2,b3⟩,⟨c1,c2⟩,d1,e1⟩:=h;refine⟨a1,a2,a3,b1,b2,c1,fun l hl=> ?_,fun a ha c hc hne=>Wz e1 ha hc hne⟩;have x1:=a4 l hl;have x2:=b3 l hl;have x3:=c2 l hl;have x4:=d1 l hl;have x5:l.t≠l.p:=by
  have:[l.t,l.p].Sublist (lv.flatMap fun l=>[l.t,l.p]):=by
   clear e1 x1 x2 x3 x4 a4 b3 c2 d1 hb
   induction lv with
   |nil=>cases hl
   |cons c r ih=>
    simp only[List.flatMap_cons];rcases dM.1 hl with rfl|hl
    ·exact List.sublist_append_left _ _
    ·exact(ih hl).trans (List.sublist_append_right _ _)
  have:=List.Nodup.sublist this e1;simp at this;exact this
 exact⟨fun hh=>x1.1 hh.symm,fun hh=>x2.1 hh.symm,fun hh=>x3.1 hh.symm,fun hh=>x4.1 hh.symm,fun hh=>x1.2 hh.symm,fun hh=>x2.2 hh.symm,fun hh=>x3.2 hh.symm,fun hh=>x4.2 hh.symm,x5⟩
theorem eX.same{h h' :List Uo}{s o:Nat}{d:Db}{ks:U}(hs:eX h s o d ks)(h1:h'[s]? =h[s]?)(h2:h'[o]? =h[o]?):eX h' s o d ks:=
 ⟨by rw[h1];exact hs.row,by rw[h2];exact hs.map⟩
theorem dw.fB{h:List Uo}{i s m o:Nat}{lv:List Lv}{b:Bs}{rc dn ks:U}(hb:dw h i s m o lv b rc dn ks){l:Lv}(hl:l∈lv)(t:Tx)(hid:t.id=l.tx.id)(h2:List Uo)
  (hfr:∀ j,j≠l.t→j≠l.p→h2[j]? =h[j]?) (h3:h2[l.t]? =some (.row (lC t l.p))) (h4:jY nU h2[l.p]? t.ct):dw h2 i s m o (yL t lv) (aK b t) rc dn ks:=by
 obtain⟨_,_,_,_,_,_,hft,hpp⟩:=hb.ne;have f:=hft l hl;refine⟨by rw[hfr i (Ne.symm f.ti) (Ne.symm f.pi)];exact hb.row,hb.st.same (hfr s (Ne.symm f.ts) (Ne.symm f.ps)) (hfr o (Ne.symm f.tO) (Ne.symm f.pO)),?_,?_,fun x hx=> ?_,by rw[mQ];exact hb.nd⟩
 ·rw[hfr m (Ne.symm f.tm) (Ne.symm f.pm)];refine hb.map.map _ (fun a ha=> ?_) (fun a ha=> ?_)
  ·by_cases hq:a.tx.id=t.id
   ·simp only[hq,if_true];show((t.id:Nat):Int)=(a.tx.id:Int);rw[hq]
   ·simp only[hq,if_false]
  ·by_cases hq:a.tx.id=t.id
   ·simp only[hq,if_true];rfl
   ·simp only[hq,if_false]
 ·show(yL t lv).map (·.tx)=b.live.map fun x=>if x.id=t.id then t else x
  rw[←hb.Oi,yL,List.map_map,List.map_map];refine List.map_congr_left fun a ha=> ?_;by_cases hq:a.tx.id=t.id<;>simp[Function.comp,hq]
 ·obtain⟨a,ha,rfl⟩:=eR.1 hx;by_cases hq:a.tx.id=t.id
  ·have:a=l:=P6 hb.ids ha hl (by rw[hq,hid]);subst this;simp only[hq,if_true];exact⟨h3,h4⟩
  ·simp only[hq,if_false];have hne:a≠l:=fun hh=>hq (by rw[hh,hid]);obtain⟨n1,n2,n3,n4⟩:=hpp a ha l hl hne;rw[hfr a.t n1 n2,hfr a.p n3 n4];exact hb.tx a ha
structure qae(b:Bs)(n:Nat):Prop where
 db:oU b.db
 lim:b.db.lim.marks<small∧b.db.lim.records<small∧b.db.lim.live<small
 marks:∀ t∈b.live,t.marks.length+n<small / 16
 ct:∀ t∈b.live,t.ct.length+n<small / 16
 wt:∀ t∈b.live,∀ w∈t.ct,ow w
 live:b.live.length<small
 ID:b.db.keys.Nodup
 kl:b.db.keys.length<small / 2
theorem dw.mem{h:List Uo}{i s m o:Nat}{lv:List Lv}{b:Bs}{rc dn ks:U}(hb:dw h i s m o lv b rc dn ks){l:Lv}(hl:l∈lv):l.tx∈b.live:=by
 rw[←hb.Oi];exact eR.2 ⟨l,hl,rfl⟩
def gz(b:Bs)(id:Int):Option Tx:=b.live.find? fun t=>decide ((t.id:Int)=id)
theorem dw.find{h:List Uo}{i s m o:Nat}{lv:List Lv}{b:Bs}{rc dn ks:U}(hb:dw h i s m o lv b rc dn ks)(id:Int):gz b id=(fF k8 id lv).map (·.tx):=by
 unfold gz;rw[←hb.Oi,List.find?_map];rfl
def wM(k:By):cD:=(k,k++[0])
def iw(b:Bs)(id:Int)(k:By):(U×Bs):=match gz b id with
 |none=>(.aX [.sl 1 [],.bool false,.int .i64 4],b)
 |some t=>match fF nU k t.ct with
  |some w=>(.aX [.sl 1 (bQ w.data),.bool (!w.gone),.int .i64 0],b)
  |none=>(.aX [.sl 1 (bQ ((pF (chain b.db k) t.began).getD [])),.bool (pF (chain b.db k) t.began).isSome,.int .i64 0],aK b (eo b t (wM k)))
theorem t36{h:List Uo}{i s m o:Nat}{lv:List Lv}{b:Bs}{rc dn ks:U}(fl:Nat)(hf:fl≤h.length)(hb:dw h i s m o lv b rc dn ks){n:Nat}(hk:qae b n)(id:Int)(k:By)(hkl:k.length<small):
  ∃ h' lv',G 36 [.ptr i 0,.int .i64 id,.str k] h fl=some ((iw b id k).1,h',fl)∧dw h' i s m o lv' (iw b id k).2 rc dn ks∧Fr h h' (bZ i s m o lv)∧bZ i s m o lv' =bZ i s m o lv:=by
 have hl:decide (i<h.length)=true:=decide_eq_true (bn.1 hb.row).1;have c1:=t56 fl hf hb id;unfold iw;rw[hb.find];cases hlv:fF k8 id lv with
 |none=>
  rw[hlv]at c1;simp only[j7]at c1;refine⟨h,lv,?_,hb,Fr.refl h _,rfl⟩;refine bJ (fn:=v36) rfl rfl rfl ?_;simp[ri,MW,MX,MY,YY,c1,hl,aR hf]
 |some l=>
  rw[hlv]at c1;simp only[j7]at c1;have hlm:=kQ k8 hlv;have hle:=LO k8 hlv;obtain⟨x1,x2⟩:=hb.tx l hlm;have hlt:=(bn.1 x1).1;have hlt' :decide (l.t<h.length)=true:=decide_eq_true hlt;have hpl:=x2.lt;simp only[Option.map_some];have hlk:∀ e,fG ⟨e,h,fl⟩ .str (.agg [.str [],.bool false,.sl 1 []]) true (.map l.p) (.str k)=some (match fF nU k l.tx.ct with|some w=> .aX [.agg (eO w),.bool true]|none=> .aX [.agg [.str [],.bool false,.sl 1 []],.bool false]):=fun e=>by
   have:=nc nU (s:=⟨e,h,fl⟩) (m:=l.p) x2 (.agg [.str [],.bool false,.sl 1 []]) k true;refine this.trans ?_;cases fF nU k l.tx.ct<;>rfl
  have hz:V.EL (.agg [.str [],.bool false,.ag [] 0 0 1])=some (.agg [.str [],.bool false,.sl 1 []]):=rfl;have x1' :=x1;simp only[lC]at x1';cases hw:fF nU k l.tx.ct with
  |some w=>
   rw[hw]at hlk;simp only[eO]at hlk;refine⟨h,lv,?_,hb,Fr.refl h _,rfl⟩;refine bJ (fn:=v36) rfl rfl rfl ?_;have c2:=gQ (f:=58) rfl (w:=1) (xs:=bQ w.data) [] 0 (by rw[j0];exact(hk.wt l.tx (hb.mem hlm) w (kQ nU hw)).2) (by simp);simp[ri,MW,MX,MY,Uw,Ux,au qcv,Uy,c1,c2,hl,hlt',x1',hlk,hz,aR hf,th hf,cT]
  |none=>
   rw[hw]at hlk;simp only at hlk;have hml:=hk.marks l.tx (hb.mem hlm);have hmarks:l.tx.marks.length<small / 8:=by unfold small at*;omega
   have hnx:∀ X:Uo,Fr h (h.set l.t X) (bZ i s m o lv):=fun X=>(Fr.refl h _).set (by unfold bZ;simp only[dM,List.mem_flatMap];right;right;right;right;exact⟨l,hlm,by simp⟩) X;have hbu:dw (h.set l.t (.row (lC (eo b l.tx (wM k)) l.p))) i s m o (yL (eo b l.tx (wM k)) lv) (aK b (eo b l.tx (wM k))) rc dn ks:=
    hb.fB hlm (eo b l.tx (wM k)) rfl _ (fun j hj _=>List.getElem?_set_ne (Ne.symm hj)) (List.getElem?_set_self hlt) (by
     obtain⟨_,_,_,_,_,_,hft,_⟩:=hb.ne;rw[List.getElem?_set_ne (hft l hlm).tp];exact x2)
   refine⟨_,_,?_,hbu,hnx _,mQ _ _ _ _ _ _⟩;refine bJ (fn:=v36) rfl rfl rfl ?_;have hset:∀ X x,(h++x).set l.t X=h.set l.t X++x:=fun X x=>List.set_append_left _ _ hlt;have c2:=t76 k hkl;have c3:=t75 (h:=h++[.row [.str [],.bool false,.sl 1 []]]) fl (by simp;omega) (aT hb.row) (aT x1) hmarks hk.lim.1 (wM k);rw[hset]at c3;have c4:=t77 (h:=h.set l.t (.row (lC (eo b l.tx (wM k)) l.p))++[.row [.str [],.bool false,.sl 1 []]]) fl (by simp;omega) hbu.st.app hk.db k l.tx.began;have hr2:∀ x,(h.set l.t (.row (lC (eo b l.tx (wM k)) l.p))++x)[i]? =some (.row (dc b s m rc dn)):=fun x=>by
    have:=hbu.row;exact aT this
   have ht2:∀ x,(h.set l.t (.row (lC (eo b l.tx (wM k)) l.p))++x)[l.t]? =some (.row (lC (eo b l.tx (wM k)) l.p)):=fun x=>aT (List.getElem?_set_self hlt);have hl1:decide (i<h.length+1)=true:=decide_eq_true (by have:=of_decide_eq_true hl;omega);have hcut:∀ (X:Uo) (x:List Uo),cut h.length fl (h.set l.t X++x)=h.set l.t X:=fun X x=>by
    have:=gh (fl:=fl) (h:=h.set l.t X) (l:=x) (by simpa using hf);simpa using this
   have hcut1:∀ (X a:Uo) (x:List Uo),cut (h.length+1) fl (h.set l.t X++a::x)=h.set l.t X++[a]:=fun X a x=>by
    have:=kV (fl:=fl) (h:=h.set l.t X) (by simpa using hf) a x;simpa using this
   have ht2' :∀ x,(h.set l.t (.row (lC (eo b l.tx (wM k)) l.p))++x)[l.t]? =some (.row [.int .i64 l.tx.id,.int .u64 l.tx.began,.int .i64 l.tx.start,.sl 2 ((eo b l.tx (wM k)).marks.map aP),.map l.p]):=ht2;clear ht2;generalize hY:Uo.row (lC (eo b l.tx (wM k)) l.p)=Y at*;simp only[sP,aK]at c4;simp only[wM]at c3;simp only[aP,wM,dc]at c2 c3 hr2;simp[ri,MW,MX,MY,Uw,Ux,Y0,au qcw,KW,Y4,c1,c2,c3,c4,hl,hl1,hlt',x1',hlk,hz,hr2,ht2',hcut,cT]
end Go.RE
namespace Go.RE
section
variable{α:Type}(key:α→By)
def dN(a:α):List α→List α
 |[]=>[a]
 |b::l=>bif lt (key b) (key a)then b::dN a l else a::b::l
def dR(l:List α):List α:=l.foldr (dN key) []
theorem Ji{a b:α}(h:key a≠key b):∀ l,dN key a (dN key b l)=dN key b (dN key a l):=by
 have two:∀ l,(bif lt (key b) (key a)then b::a::l else a::b::l)=(bif lt (key a) (key b)then a::b::l else b::a::l):=by
  intro l;rcases wI (key a) (key b)with h1|h1|h1
  ·rw[show lt (key a) (key b)=true from h1,show lt (key b) (key a)=false from tC h1];rfl
  ·exact absurd h1 h
  ·rw[show lt (key b) (key a)=true from h1,show lt (key a) (key b)=false from tC h1];rfl
 intro l
 induction l with
 |nil=>simp only[dN];exact two []
 |cons x l ih=>
  cases h1:lt (key x) (key a)with
  |true=>
   cases h2:lt (key x) (key b)with
   |true=>simp only[dN,h1,h2,cond_true,ih]
   |false=>
    have h3:lt (key b) (key a)=true:=by
     rcases wI (key b) (key x)with h|h|h
     ·exact Dp h h1
     ·rw[h];exact h1
     ·rw[show lt (key x) (key b)=true from h]at h2;cases h2
    have h4:lt (key a) (key b)=false:=tC h3;simp only[dN,h1,h2,h3,h4,cond_true,cond_false]
  |false=>
   cases h2:lt (key x) (key b)with
   |true=>
    have h3:lt (key a) (key b)=true:=by
     rcases wI (key a) (key x)with h|h|h
     ·exact Dp h h2
     ·rw[h];exact h2
     ·rw[show lt (key x) (key a)=true from h]at h1;cases h1
    have h4:lt (key b) (key a)=false:=tC h3;simp only[dN,h1,h2,h3,h4,cond_true,cond_false]
   |false=>
    simp only[dN,h1,h2,cond_false];have:=two (x::l);cases h3:lt (key b) (key a)with
    |true=>rw[h3]at this;cases h4:lt (key a) (key b)with
     |true=>rw[show lt (key a) (key b)=false from tC h3]at h4;cases h4
     |false=>simp only[dN,h3,h4,h1,h2,cond_true,cond_false]
    |false=>
     rw[h3]at this;cases h4:lt (key a) (key b)with
     |true=>simp only[dN,h3,h4,h1,h2,cond_true,cond_false]
     |false=>
      rcases wI (key a) (key b)with h|h' |h
      ·rw[show lt (key a) (key b)=true from h]at h4;cases h4
      ·exact absurd h' h
      ·rw[show lt (key b) (key a)=true from h]at h3;cases h3
theorem yz{l l' :List α}(h:l.Perm l'):(l.map key).Nodup→dR key l=dR key l' :=by
 induction h with
 |nil=>intro _;rfl
 |cons x _ ih=>
  intro hn;simp only[List.map_cons,List.nodup_cons]at hn;show dN key x (dR key _)=dN key x (dR key _);rw[ih hn.2]
 |swap x y l=>
  intro hn;simp only[List.map_cons,List.nodup_cons,dM,not_or]at hn;exact Ji key hn.1.1 _
 |trans h1 _ ih1 ih2=>
  intro hn;rw[ih1 hn,ih2 ((h1.map key).nodup_iff.1 hn)]
theorem Dk(a:α):∀ l,(dN key a l).length=l.length+1
 |[]=>rfl
 |b::l=>by
  unfold dN;cases lt (key b) (key a)with
  |true=>simp only[cond_true,List.length_cons,Dk a l]
  |false=>rfl
theorem kJ:∀ l:List α,(dR key l).length=l.length
 |[]=>rfl
 |a::l=>by show(dN key a (dR key l)).length=_;rw[Dk,kJ l];rfl
theorem AK(a:α):∀ l,(dN key a l).Perm (a::l)
 |[]=> .refl _
 |b::l=>by
  unfold dN;cases lt (key b) (key a)with
  |true=>exact((AK a l).cons b).trans (.swap a b l)
  |false=>exact .refl _
theorem lz:∀ l:List α,(dR key l).Perm l
 |[]=> .refl _
 |a::l=>(AK key a _).trans ((lz l).cons a)
variable(f:α→List U)(hf:∀ a,pP (f a)=some (key a))
include hf
theorem Jq(l:List α):kj (l.map f)=some (l.map key):=by
 induction l with
 |nil=>rfl
 |cons a l ih=>show(match pP (f a),kj (l.map f)with|some k,some l=>some (k::l)|_,_=>none)=_;rw[hf,ih];rfl
theorem PE(a:α)(l:List α):He (f a) (l.map f)=(dN key a l).map f:=by
 induction l with
 |nil=>rfl
 |cons b l ih=>
  have e:L2 (f b) (f a)=lt (key b) (key a):=by simp only[L2,hf]
  simp only[List.map_cons,He,dN,e];cases lt (key b) (key a)with
  |true=>simp only[cond_true,List.map_cons,ih]
  |false=>rfl
theorem Od(l:List α):H8 (l.map f)=(dR key l).map f:=by
 induction l with
 |nil=>rfl
 |cons a l ih=>
  show He (f a) (H8 (l.map f))=(dN key a (dR key l)).map f;rw[ih,PE key f hf]
theorem DB(k c:Nat)(hr:∀ a,kg k (f a)=true)(l:List α)(hn:(l.map key).Nodup)(hl:l.length<small):oq k c (l.map f) [.func c [] []]=some ((dR key l).map f):=by
 have h2:(l.map f).all (kg k)=true:=by rw[List.all_map,jr];intro a _;exact hr a
 have h1:Nat.blt (l.map f).length 4611686018427387904=true:=by
  simp only[List.length_map];exact ou (by unfold small at hl;omega)
 simp only[oq,iY,h1,h2,Bool.and_self,cond_true,Jq key f hf,if_pos hn,Od key f hf]
end
def qb(t:Tx):List Wt:=dR Wt.key t.ct
theorem qfT{h:List Uo}{m:Nat}(fl:Nat)(hf:fl≤h.length)(lc:List (Wt×Nat))(c:Nat)(hc:tY nU lc c)(hm:h[m]? =some (.map (lc.map (tD nU)) c))(hlc:lc.length<small)(K:Ex→Vs→Prop)
  (hK:∀ vis:List (Wt×Nat),vis.Perm lc→K .normal ⟨[(3,.own (.t 3) 3 (vis.map fun x=>eO x.1))],h++[.iter (some m) c (vis.map (·.2)) c],fl⟩):
  ∀ (j:Nat) (vis left:List (Wt×Nat)),left.length≤j→(vis++left).Perm lc→
  gL bq mT qT pT v79 0 Gl (h.length+1) ⟨[(3,.own (.t 3) 3 (vis.map fun x=>eO x.1)),(10,.ptr h.length 0)],h++[.iter (some m) c (vis.map (·.2)) c],fl⟩ K:=by
 intro j
 induction j with
 |zero=>
  intro vis left hj hp;obtain rfl:left=[]:=jq (by omega);rw[List.append_nil]at hp;rw[ak Gl.eq_1];simp[U9];refine oE rfl hm (wu hc) (fun _=> ?_) (fun a ha hn=> ?_)
  ·have:=hK vis hp;simpa[kV hf]using this
  ·obtain⟨x,hx,rfl,_,h3⟩:=oJ (left:=[]) hc (by simpa using hp) ha hn;simp at h3
 |succ j ih=>
  intro vis left hj hp;rw[ak Gl.eq_1];simp[U9];refine oE rfl hm (wu hc) (fun hall=> ?_) (fun a ha hn=> ?_)
  ·have:=Ez hc hp hall;subst this;rw[List.append_nil]at hp;have:=hK vis hp;simpa[kV hf]using this
  ·obtain⟨x,hx,rfl,h2,h3⟩:=oJ hc hp ha hn;have ih' :=ih (vis++[x]) (left.erase x) (by omega) h2;have hvl:vis.length<small:=by have:=hp.length_eq;simp at this;omega
   have b1:(vis.length+1)*48≤aZ∧vis.length+1≤aZ:=by unfold small at hvl;unfold aZ;omega
   have hent:∀ ev:Env,mL ⟨ev,h++[.iter (some m) c (vis.map (·.2)++[x.2]) c],fl⟩ h.length=some (.aX [.str x.1.key,.agg (eO x.1)]):=fun ev=>wD hm (D0 hc) ha;simp[List.map_append,eO]at ih';simp only[eO]at hent;simp[tD,nU,ZZ,Z0,hent,eO,b1,kV hf];exact ih'
theorem t79{h:List Uo}{t p:Nat}{tx:Tx}(fl:Nat)(hf:fl≤h.length)(ht:h[t]? =some (.row (lC tx p)))(hp:jY nU h[p]? tx.ct)(hpl:tx.ct.length<small):G 79 [.ptr t 0] h fl=some (.own .r 3 ((qb tx).map eO),h,fl):=by
 refine bJ (fn:=v79) rfl rfl rfl ?_;obtain⟨lc,c,e1,e2,e3⟩:=hp;have hl:decide (t<h.length)=true:=decide_eq_true (bn.1 ht).1;have hll0:lc.length=tx.ct.length:=by rw[←e1];simp
 have hll:lc.length<small:=by omega
 have a:=qfT fl hf lc c e3 e2 hll (gy bq mT qT pT v79 (.seq (.region Va) (.seq (.region Vb) .ret)) (kE h.length v79 (.own .r 3 ((qb tx).map eO),h,fl))) (fun vis hv=>by
  have hnk:((vis.map (·.1)).map Wt.key).Nodup:=by
   rw[List.map_map];exact(hv.map _).nodup_iff.2 e3.keys
  have hs:dR Wt.key (vis.map (·.1))=qb tx:=by
   unfold qb;rw[←e1];exact yz Wt.key (hv.map _) hnk
  have hq:oq 3 116 (vis.map fun x=>eO x.1) [.func 116 [] []]=some ((qb tx).map eO):=by
   have e:(vis.map fun x=>eO x.1)=(vis.map (·.1)).map eO:=by rw[List.map_map];rfl
   have hvl:=hv.length_eq;rw[e,DB Wt.key eO (fun _=>rfl) 3 116 (fun _=>rfl) _ hnk (by simp;omega),hs]
  simp[Va,Vb,hq,th hf]) lc.length [] lc (aq _) (by simp)
 simp only[lC]at ht;simp at a;simp[Cm,ZW,ZX,ZY,hl,ht,e2,aR hf,kV hf];exact a
end Go.RE
namespace Go.RE
theorem Jj{α:Type}(key:α→By){a:α}:∀ {l:List α},(∀ x∈l,lt (key x) (key a)=false)→dN key a l=a::l
 |[],_=>rfl
 |b::l,h=>by
  unfold dN;rw[h b (.head _)];rfl
theorem s8{α:Type}(key:α→By):∀ {l:List α},l.Pairwise (fun a b=>lt (key b) (key a)=false)→dR key l=l
 |[],_=>rfl
 |a::l,h=>by
  rw[List.pairwise_cons]at h;show dN key a (dR key l)=a::l;rw[s8 key h.2];exact Jj key h.1
theorem Ia{α:Type}(key:α→By){l l' :List α}(hp:l.Perm l')(hs:l'.Pairwise (fun a b=>lt (key b) (key a)=false))(hn:(l.map key).Nodup):l' =dR key l:=by
 rw[yz key hp hn,s8 key hs]
end Go.RE
namespace Go.RE
open Go Go.Proofs Go.Sort Go.Lib Go.RowKit
inductive ta{α β:Type}(R:α→β→Prop):List α→List β→Prop
 |nil:ta R [] []
 |cons {a b l m} (h:R a b) (t:ta R l m):ta R (a::l) (b::m)
theorem ta.length{α β:Type}{R:α→β→Prop}{l:List α}{m:List β}(h:ta R l m):l.length=m.length:=by
 induction h with
 |nil=>rfl
 |cons _ _ ih=>simp[ih]
theorem Jh{α β:Type}{R:α→β→Prop}{k1:α→By}{k2:β→By}(hk:∀ a b,R a b→k1 a=k2 b){a:α}{b:β}(hab:R a b){l:List α}{m:List β}(h:ta R l m):ta R (dN k1 a l) (dN k2 b m):=by
 induction h with
 |nil=>exact .cons hab .nil
 |cons h t ih=>
  simp only[dN,hk _ _ hab,hk _ _ h];rename_i a' b' l' m';cases lt (k2 b') (k2 b)with
  |true=>exact .cons h ih
  |false=>exact .cons hab (.cons h t)
theorem yy{α β:Type}{R:α→β→Prop}{k1:α→By}{k2:β→By}(hk:∀ a b,R a b→k1 a=k2 b){l:List α}{m:List β}(h:ta R l m):ta R (dR k1 l) (dR k2 m):=by
 induction h with
 |nil=>exact .nil
 |cons h t ih=>exact Jh hk h ih
theorem Dm{α β:Type}{R:α→β→Prop}{k1:α→By}{k2:β→By}(hk:∀ a b,R a b→k1 a=k2 b){l:List α}{m:List β}(h:ta R l m):l.map k1=m.map k2:=by
 induction h with
 |nil=>rfl
 |cons h t ih=>simp[hk _ _ h,ih]
def LJ:V→Bool
 | .bu=>true
 | .bK=>true
 | .slice .. =>true
 | .ag .. =>true
 |_=>false
def mU(k:Nat):List V→Bool
 |[.str _,v]=>Nat.beq k 2&&LJ v
 |[.str _,.bool _,v]=>Nat.beq k 3&&LJ v
 |_=>false
def Cr:List V→By
 | .str k::_=>k
 |_=>[]
def chunk(k:Nat):Nat→List V→List (List V)
 |0,_=>[]
 |n+1,l=>l.take k::chunk k n (l.drop k)
def DD(k len:Nat)(cs:List V)(off:Nat):List V:=(dR Cr (chunk k len (cs.drop off))).flatten
def nq(k c:Nat):List V→St→Option (V×St):=fun vs s=>match vs with
 |[.bu,.func g [] []]=>bif Nat.beq g c then some (.aX [],s)else none
 |[.bK,.func g [] []]=>bif Nat.beq g c then some (.aX [],s)else none
 |[.slice b off 0 cap sz ex,.func g [] []]=>bif Nat.beq g c then some (.aX [],s)else none
 |[.slice b off len cap sz ex,.func g [] []]=>bif Nat.beq g c&&Nat.beq sz k then(match s.vW b with
  |some cs=>bif Nat.ble (off+len*k) cs.length&&Nat.blt len 4611686018427387904&&(chunk k len (cs.drop off)).all (mU k)then
    (if((chunk k len (cs.drop off)).map Cr).Nodup then some (.aX [],s.put b (.row (jR cs off (DD k len cs off))))else none)else none
  |none=>none)else none
 |_=>none
theorem Pe{k:Nat}(hk:k=2∨k=3)(x:Rw):(wC k x).length=k:=by rcases hk with rfl|rfl<;>rfl
def V7(w0:World)(ρ:Ren)(k:Nat)(r:List V)(x:Rw):Prop:=Cr r=x.1∧mU k r=true∧aU w0 ρ r (wC k x)
theorem QA{w0:World}{ρ:Ren}{v:V}{y:Value}(h:aC w0 ρ v y)(hv:LJ v=true):∃ p n c,y=.slice p n c:=by
 cases h<;>first|exact⟨_,_,_,rfl⟩|cases hv
theorem QF{s:ByteArray}{a:By}(h:s.data.toList=a):s=⟨a.toArray⟩:=by
 subst h;cases s;simp
theorem qby{w0:World}{ρ:Ren}{k:Nat}{r:List V}{ys:List Value}(hr:mU k r=true)(h:aU w0 ρ r ys):∃ x,V7 w0 ρ k r x∧wC k x=ys:=by
 unfold mU at hr;split at hr
 ·rename_i a v;simp only[bC]at hr;have hk:=bR hr.1;subst hk;have h0:=h;obtain⟨y1,ys1,rfl,h1,h2⟩:=h.bx;obtain⟨y2,ys2,rfl,h3,h4⟩:=h2.bx;obtain rfl:=h4.dV;obtain⟨p,n,c,rfl⟩:=QA h3 hr.2;cases h1 with
  |str hs=>
   have hs' :=QF hs;subst hs';exact⟨(a,false,p,n,c),⟨rfl,by simp[mU,hr.2],h0⟩,rfl⟩
 ·rename_i a b v;simp only[bC]at hr;have hk:=bR hr.1;subst hk;have h0:=h;obtain⟨y1,ys1,rfl,h1,h2⟩:=h.bx;obtain⟨y2,ys2,rfl,h3,h4⟩:=h2.bx;obtain⟨y3,ys3,rfl,h5,h6⟩:=h4.bx;obtain rfl:=h6.dV;obtain⟨p,n,c,rfl⟩:=QA h5 hr.2;cases h1 with
  |str hs=>
   have hs' :=QF hs;subst hs';cases h3;exact⟨(a,b,p,n,c),⟨rfl,by simp[mU,hr.2],h0⟩,rfl⟩
 ·cases hr
theorem L3{w0:World}{ρ:Ren}{k:Nat}:∀ (n:Nat) {l:List V} {ys:List Value},(chunk k n l).all (mU k)=true→n*k≤l.length→aU w0 ρ (l.take (n*k)) ys→∃ ds:List Rw,ta (V7 w0 ρ k) (chunk k n l) ds∧(ds.map (wC k)).flatten=ys
 |0,l,ys,_,_,h=>by
  rw[Nat.zero_mul,List.take_zero]at h;obtain rfl:=h.dV;exact⟨[],.nil,rfl⟩
 |n+1,l,ys,ha,hl,h=>by
  rw[Nat.succ_mul]at hl;simp only[chunk,List.all_cons,bC]at ha;have e:l.take ((n+1)*k)=l.take k++(l.drop k).take (n*k):=by
   rw[Nat.succ_mul,Nat.add_comm,List.take_add]
  rw[e]at h;have hlen:=h.1;have hk1:(l.take k).length=k:=by simp;omega
  have hy:ys=ys.take k++ys.drop k:=(List.take_append_drop k ys).symm;have h1:aU w0 ρ (l.take k) (ys.take k):=by
   refine⟨by simp at hlen⊢;omega,fun i h1 h2=> ?_⟩;have:=h.2 i (by simp at h1⊢;omega) (by simp at h2⊢;omega);rw[List.getElem_append_left h1]at this;simpa using this
  have h2:aU w0 ρ ((l.drop k).take (n*k)) (ys.drop k):=by
   refine⟨by simp at hlen⊢;omega,fun i h1 h2=> ?_⟩;have:=h.2 (k+i) (by simp at h1⊢;omega) (by simp at h2⊢;omega);rw[List.getElem_append_right (by omega)]at this;rw[List.getElem_drop];simpa[hk1,CX]using this
  obtain⟨x,r1,r2⟩:=qby ha.1 h1;obtain⟨ds,r3,r4⟩:=L3 n ha.2 (by simp;omega) h2;exact⟨x::ds,.cons r1 r3,by rw[List.map_cons,List.flatten_cons,r2,r4,←hy]⟩
theorem Ni{w0:World}{ρ:Ren}{k:Nat}{l:List (List V)}{m:List Rw}(h:ta (V7 w0 ρ k) l m):aU w0 ρ l.flatten (m.map (wC k)).flatten:=by
 induction h with
 |nil=>exact .nil
 |cons h t ih=>rw[List.flatten_cons,List.map_cons,List.flatten_cons];exact h.2.2.append ih
theorem GX{α:Type}[Inhabited α]{enc:α→List Value}{k:Nat}(hk:∀ x,(enc x).length=k):∀ (l:List α) (t:Nat),(l.map enc).flatten[t]? =if t<l.length*k then some ((enc (l[t / k]?.getD default))[t % k]!)else none
 |[],t=>by simp
 |a::l,t=>by
  rw[List.map_cons,List.flatten_cons];have hl:(a::l).length*k=l.length*k+k:=by rw[List.length_cons,Nat.succ_mul]
  rw[hl];by_cases h:t<k
  ·rw[cw (by rw[hk];exact h),if_pos (by omega),Nat.div_eq_of_lt h,Nat.mod_eq_of_lt h,bL (by rw[hk];exact h)];simp only[List.getElem?_cons_zero,Option.getD_some];rw[getElem!_pos _ _ (by rw[hk];exact h)]
  ·rw[eZ (by rw[hk];omega),hk,GX hk l (t - k)];by_cases hk0:k=0
   ·subst hk0;simp
   ·by_cases h2:t - k<l.length*k
    ·rw[if_pos h2,if_pos (by omega)];have e1:t / k=(t - k) / k+1:=by
      rw[←Nat.add_div_right _ (Nat.pos_of_ne_zero hk0),Nat.sub_add_cancel (by omega)]
     have e2:t % k=(t - k) % k:=by rw[←Nat.mod_eq_sub_mod (by omega)]
     rw[e1,e2,List.getElem?_cons_succ]
    ·rw[if_neg h2,if_neg (by omega)]
theorem AB{α:Type}[Inhabited α]{enc:α→List Value}{k:Nat}(hk:∀ x,(enc x).length=k)(d:Array α):(Go.Sort.flatK enc k d).toList=(d.toList.map enc).flatten:=by
 apply List.ext_getElem?;intro t;rw[GX hk,Array.getElem?_toList];by_cases h:t<d.size*k
 ·have h' :t<(Go.Sort.flatK enc k d).size:=by rw[size_flatK];exact h
  rw[if_pos (by simpa using h),sR h',←getElem!_pos _ t h',get_flatK enc k d t h];congr 3;rw[Array.getElem!_eq_getD];simp[rE]
 ·rw[if_neg (by simpa using h),CW (by rw[size_flatK];omega)]
end Go.RE
namespace Go.RE
open Go Go.Proofs Go.Sort Go.Lib Go.RowKit
theorem Ql{w0:World}{ρ:Ren}{s:St}{w:World}(h:Rel w0 ρ s w)(os:Array Obj):Rel w0 ρ s (Go.Sort.grow w os)∧jQ ρ s w ρ s (Go.Sort.grow w os):=by
 have hget:∀ r,r<w.heap.size→(Go.Sort.grow w os).heap[r]? =w.heap[r]? :=fun r hr=>by
  show(w.heap++os)[r]? =_;rw[Array.getElem?_append_left hr]
 have hsz:w.heap.size≤(Go.Sort.grow w os).heap.size:=by simp[Go.Sort.grow]
 refine⟨⟨fun r hr=> ?_,Nat.le_trans h.size hsz,h.os,h.output,fun n r o lim e=> ?_,h.fresh,fun n r o lim e=> ?_,h.inj⟩,⟨aq _,Ren.le_refl _,(fun n x a b=>by rw[a]at b;cases b),hsz,fun _ _ _=>rfl,fun r hr hx=>⟨hget r hr,hx⟩⟩⟩
 ·rw[hget r (mg hr h.size)];exact h.old r hr
 ·have:=h.dom n r o lim e;exact⟨this.1,this.2.1,mg this.2.2 hsz⟩
 ·rw[hget r (h.dom n r o lim e).2.2];exact h.ob n r o lim e
theorem Ib{d d' :Array Rw}(hp:PermIn 0 d.size d d')(hs:SortedIn (ltOf fun x y:Rw=>oc x.1 y.1) 0 d.size d')(hn:(d.toList.map (·.1)).Nodup):d'.toList=dR (·.1) d.toList:=by
 obtain⟨h1,_,h3⟩:=hp;have e1:d'.extract 0 d.size=d' :=by rw[←h1];simp
 have e2:d.extract 0 d.size=d:=by simp
 rw[e1,e2]at h3;refine Ia (fun x:Rw=>x.1) h3.symm ?_ hn;rw[List.pairwise_iff_getElem];intro i j hi hj hij;have:=hs i j (dS _) hij (by rw[←h1];simpa using hj);rw[LV,getElem!_pos d' i (by simpa using hi),getElem!_pos d' j (by simpa using hj)]at this;simpa using this
theorem uE{P:Program}{f c k:Nat}(hk:k=2∨k=3)(hfn:∃ fn b,P.funcs[f]? =some fn∧fn.body=some b∧(fn.name== "runtime.NumGoroutine")=false)(hS:IG P f c k)(hN:II P f c)(w0:World):DV P w0 f 2 (nq k c):=by
 refine⟨hfn,?_⟩;intro args s v s' ρ w args' hl hp hR hA;have stay:∀ (p:Option Addr) (cap:Nat),Calls P f #[.slice p 0 cap,.func (.func c) #[] #[]] w fun e w' =>∃ ρ' x,e=.returned x∧Rel w0 ρ' s w'∧jQ ρ s w ρ' s w'∧aC w0 ρ' (.aX []) x:=fun p cap=>by
  refine(hN p cap w).mono ?_;rintro e w' ⟨rfl,rfl⟩;exact⟨ρ,_,rfl,hR,jQ.refl _ _ _,.aX rfl (fun i h=>by simp at h)⟩
 have hfun:∀ {g:Nat} {y:Value},aC w0 ρ (.func g [] []) y→y=.func (.func g) #[] #[]:=fun {g y} h=>by
  cases h with
  |func ha hb va vb=>
   rename_i a' b';have h1:a' = #[]:=Array.eq_empty_of_size_eq_zero ha.symm;have h2:b' = #[]:=Array.eq_empty_of_size_eq_zero hb.symm;rw[h1,h2]
 unfold nq at hp;split at hp
 ·obtain⟨hg,hp⟩:=aM hp;simp only[ai,aL]at hp;obtain⟨rfl,rfl⟩:=hp;have:=bR hg;subst this;obtain⟨x,xs,rfl,hx,hxs⟩:=hA.bx;obtain⟨x2,xs2,rfl,hx2,hxs2⟩:=hxs.bx;obtain rfl:=hxs2.dV;obtain rfl:=hfun hx2;cases hx;exact stay _ _
 ·obtain⟨hg,hp⟩:=aM hp;simp only[ai,aL]at hp;obtain⟨rfl,rfl⟩:=hp;have:=bR hg;subst this;obtain⟨x,xs,rfl,hx,hxs⟩:=hA.bx;obtain⟨x2,xs2,rfl,hx2,hxs2⟩:=hxs.bx;obtain rfl:=hxs2.dV;obtain rfl:=hfun hx2;cases hx;exact stay _ _
 ·obtain⟨hg,hp⟩:=aM hp;simp only[ai,aL]at hp;obtain⟨rfl,rfl⟩:=hp;have:=bR hg;subst this;obtain⟨x,xs,rfl,hx,hxs⟩:=hA.bx;obtain⟨x2,xs2,rfl,hx2,hxs2⟩:=hxs.bx;obtain rfl:=hxs2.dV;obtain rfl:=hfun hx2;cases hx;exact stay _ _
 ·rename_i b off len cap sz ex g hz;obtain⟨hg,hp2⟩:=aM hp;clear hp;simp only[bC]at hg;have hg1:=bR hg.1;have hg2:=bR hg.2;subst hg1;subst hg2;split at hp2
  case h_2=>cases hp2
  rename_i cs hcs;obtain⟨hb,hp3⟩:=aM hp2;clear hp2;simp only[bC]at hb;obtain⟨⟨hb1,hb2⟩,hb3⟩:=hb;have hle:=gb hb1;have hlt:len<4611686018427387904:=by simp only[Nat.blt,gv]at hb2;omega
  split at hp3
  case isFalse=>cases hp3
  rename_i hnd;simp only[ai,aL]at hp3;obtain⟨rfl,rfl⟩:=hp3;obtain⟨x,xs,rfl,hx,hxs⟩:=hA.bx;obtain⟨x2,xs2,rfl,hx2,hxs2⟩:=hxs.bx;obtain rfl:=hxs2.dV;obtain rfl:=hfun hx2;have hob:=rD hcs;cases hx with
  |slice hρ h1 h2 h3 h4 hcb=>
  rename_i r o lim a cap';obtain⟨c,t,fr,q1,q2,q3,q4,q5⟩:iQ w0 ρ o lim (some (.row cs)) w.heap[r]? :=by
   have:=hR.ob b r o lim hρ;rw[hob]at this;exact this
  have hdom:=hR.dom b r o lim hρ;have hz:len≠0:=fun hh=>hz hh;have ha:a=⟨r,o+off,none⟩:=by
   rcases h4 with h4|h4
   ·omega
   ·exact h4.1
  subst ha
  -- what is written back
  have key:∀ (w2:World) (F:Array Value) (ws:List V),ws.length=len*sz→aU w0 ρ ws F.toList→w2.os=w.os→w2.output=w.output→w2.heap=w.heap.modify r (onCells (putCells id (o+off) F))→∀ os:Array Obj,Rel w0 ρ (s.put b (.row (jR cs off ws))) (grow w2 os)∧jQ ρ s w ρ (s.put b (.row (jR cs off ws))) (grow w2 os):=by
   intro w2 F ws hd hF ho hp' hh os;have hFs:F.size=len*sz:=by have:=hF.1;simp at this;omega
   have hmod:w.heap.modify r (onCells (putCells id (o+off) F))=w.heap.setIfInBounds r (.cells (putCells id (o+off) F c) t fr):=by
    apply Array.ext_getElem?;intro k;rw[Array.getElem?_modify,Gu];by_cases hk:r=k
    ·subst hk;rw[if_pos rfl,if_pos rfl,if_pos hdom.2.2,q1];rfl
    ·rw[if_neg hk,if_neg hk]
   have hobr:iQ w0 ρ o lim (some (.row (jR cs off ws))) (some (.cells (putCells id (o+off) F c) t fr)):=by
    have hlen:(jR cs off ws).length=cs.length:=by simp[jR];omega
    refine⟨_,_,_,rfl,by simpa[putCells]using q2,by rw[hlen];exact q3,q4,fun i hi=> ?_⟩;rw[hlen]at hi;obtain⟨v,e1,e2⟩:=q5 i hi;have e3:(putCells id (o+off) F c)[o+i]? =some (if o+off≤o+i∧o+i<o+off+F.size then id F[o+i - (o+off)]! else v):=by
     unfold putCells;rw[Array.getElem?_mapIdx,e1];rfl
    refine⟨_,e3,?_⟩;by_cases hin:off≤i∧i<off+len*sz
    ·rw[if_pos (by omega)];have e4:o+i - (o+off)=i - off:=by omega
     have e5:(jR cs off ws)[i]'(by rw[hlen];exact hi)=ws[i - off]'(by omega):=by
      have h5:(jR cs off ws)[i]? =some (ws[i - off]'(by omega)):=by
       unfold jR;rw[kN,eZ (by simp;omega)];have e6:(cs.take off).length=off:=by simp;omega
       rw[e6,cw (by omega),bL (by omega)]
      rw[bL (by rw[hlen];exact hi)]at h5;exact Option.some.inj h5
     rw[e5,e4];have e7:=hF.2 (i - off) (by omega) (by simp;omega);have e8:id F[i - off]! =F.toList[i - off]'(by simp;omega):=by
      show F[i - off]! =_;rw[getElem!_pos _ _ (by omega)];simp
     rw[e8];exact e7
    ·rw[if_neg (by omega)];have e5:(jR cs off ws)[i]'(by rw[hlen];exact hi)=cs[i]:=by
      have h5:(jR cs off ws)[i]? =cs[i]? :=by
       unfold jR;by_cases hi2:i<off
       ·rw[kN,cw (by simp;omega),jP,if_pos hi2]
       ·rw[eZ (by simp;omega),qd];congr 1;simp;omega
      rw[bL (by rw[hlen];exact hi),bL hi]at h5;exact Option.some.inj h5
     rw[e5];exact e2
   obtain⟨k1,k2⟩:=hR.put hρ (by rw[hob];trivial) hobr;have hheap:w2.heap=({w with heap:=w.heap.setIfInBounds r (.cells (putCells id (o+off) F c) t fr)}:World).heap:=by rw[hh,hmod]
   have k3:=k1.same (w' :=w2) hheap ho hp';have k4:=k2.trans (jQ.same (w' :=w2) hheap);obtain⟨k5,k6⟩:=Ql k3 os;exact⟨k5,k4.trans k6⟩
  -- what it holds
  have hcell:∃ ys,aU w0 ρ ((cs.drop off).take (len*sz)) ys∧∀ j,j<len*sz→c[o+off+j]? =ys[j]? :=by
   refine⟨(List.range (len*sz)).map fun j=>c[o+off+j]!,⟨by simp;omega,fun i h1 h2=> ?_⟩,fun j hj=> ?_⟩
   ·simp at h1;obtain⟨v,e1,e2⟩:=q5 (off+i) (by omega);have e3:c[o+off+i]! =v:=by rw[Array.getElem!_eq_getD,rE,Nat.add_assoc,e1];rfl
    simp[e3];exact e2
   ·obtain⟨v,e1,e2⟩:=q5 (off+j) (by omega);have e3:c[o+off+j]! =v:=by rw[Array.getElem!_eq_getD,rE,Nat.add_assoc,e1];rfl
    rw[List.getElem?_map,List.getElem?_range hj,Option.map_some,e3,Nat.add_assoc,e1]
  obtain⟨ys,hy1,hy2⟩:=hcell;obtain⟨ds,r1,r2⟩:=L3 len hb3 (by simp;omega) hy1;have hkl:=Pe hk;have hdl:ds.length=len:=by
   rw[←r1.length];have:∀ (n:Nat) (l:List V),(chunk sz n l).length=n:=by
    intro n;induction n with
    |zero=>intro l;rfl
    |succ n ih=>intro l;simp[chunk,ih]
   exact this _ _
  have hH:HoldsK (wC sz) sz w r (o+off) ds.toArray:=by
   intro j hj;rw[size_flatK]at hj;have hj' :j<len*sz:=by simpa[hdl]using hj
   have hF:=AB hkl ds.toArray;have e1:(Go.Sort.flatK (wC sz) sz ds.toArray)[j]? =c[o+off+j]? :=by
    rw[hy2 j hj',←r2,←Array.getElem?_toList,hF]
   obtain⟨v,e2,e3⟩:=q5 (off+j) (by omega);have e4:c[o+off+j]? =some v:=by rw[Nat.add_assoc];exact e2
   refine⟨?_,?_⟩
   ·have e7:id (Go.Sort.flatK (wC sz) sz ds.toArray)[j]! =v:=by
     show(Go.Sort.flatK (wC sz) sz ds.toArray)[j]! =v;rw[Array.getElem!_eq_getD,rE,e1,e4];rfl
    rw[e7];simp only[World.cell?,q1,e4];rfl
   ·simp only[World.frozen?,q1];have:=q4 (o+off+j) (by omega);obtain⟨f1,f2⟩:=fr;simp only at this⊢;simpa using this
  have:=hS r (o+off) cap' ds.toArray w hH hdom.2.2 (by simp;omega);have hsz:ds.toArray.size=len:=by simp[hdl]
  rw[hsz]at this;refine this.mono ?_;rintro e w' ⟨rfl,d',n,os,hpm,hst,rfl⟩;have hkeys:∀ (a:List V) (b:Rw),V7 w0 ρ sz a b→Cr a=b.1:=fun a b h=>h.1;have hkk:=Dm (k1:=Cr) (k2:=fun x:Rw=>x.1) hkeys r1;have hd' :=Ib (by rw[hsz];exact hpm) (by rw[hsz];exact hst) (by simpa using hkk▸hnd);have r3:=yy (k1:=Cr) (k2:=fun x:Rw=>x.1) hkeys r1;have r4:=Ni r3;have hF:aU w0 ρ (DD sz len cs off) (Go.Sort.flatK (wC sz) sz d').toList:=by
   rw[AB hkl,hd'];exact r4
  have hwl:(DD sz len cs off).length=len*sz:=by
   rw[hF.1,Array.length_toList,size_flatK];have:d'.size=len:=by have:=hpm.1;omega
   rw[this]
  obtain⟨k1,k2⟩:=key (putRow id (Sort.ahead w n) r (o+off) (Go.Sort.flatK (wC sz) sz d')) _ _ hwl hF rfl rfl rfl os;exact⟨ρ,_,rfl,k1,k2,.aX rfl (fun i h=>by simp at h)⟩
 ·cases hp
end Go.RE
namespace Go.RE
def wH:List U→By
 | .str k::_=>k
 |_=>[]
theorem nu{k:Nat}{x:List U}(h:kg k x=true):pP x=some (wH x)∧x.length=k:=by
 unfold kg at h;split at h
 ·exact⟨rfl,(bR h).symm⟩
 ·exact⟨rfl,(bR h).symm⟩
 ·cases h
theorem A9{k:Nat}:∀ {xs:List (List U)},xs.all (kg k)=true→kj xs=some (xs.map wH)
 |[],_=>rfl
 |x::xs,h=>by
  simp only[List.all_cons,bC]at h;simp only[kj,(nu h.1).1,A9 h.2,List.map_cons]
theorem LD{k:Nat}{a:List U}(ha:kg k a=true):∀ {l:List (List U)},l.all (kg k)=true→He a l=dN wH a l
 |[],_=>rfl
 |b::l,h=>by
  simp only[List.all_cons,bC]at h;simp only[He,dN,L2,(nu ha).1,(nu h.1).1,LD ha h.2]
theorem AJ{α:Type}(key:α→By){a x:α}:∀ {l:List α},x∈dN key a l→x=a∨x∈l
 |[],h=>by simp[dN]at h;exact .inl h
 |b::l,h=>by
  unfold dN at h;cases hc:lt (key b) (key a)with
  |true=>
   rw[hc,cond_true]at h;rcases dM.1 h with h|h
   ·exact .inr (h▸eU)
   ·rcases AJ key h with h|h
    ·exact .inl h
    ·exact .inr (gB _ h)
  |false=>
   rw[hc,cond_false]at h;rcases dM.1 h with h|h
   ·exact .inl h
   ·exact .inr h
theorem nW{α:Type}(key:α→By){x:α}:∀ {l:List α},x∈dR key l→x∈l
 |[],h=>by cases h
 |b::l,h=>by
  rcases AJ key (show x∈dN key b (dR key l)from h)with h|h
  ·exact h▸eU
  ·exact gB _ (nW key h)
theorem qP{α:Type}(key:α→By):∀ (l:List α),(dR key l).length=l.length:=by
 have ins:∀ (a:α) (l:List α),(dN key a l).length=l.length+1:=by
  intro a l
  induction l with
  |nil=>rfl
  |cons b l ih=>
   unfold dN;cases lt (key b) (key a)with
   |true=>rw[cond_true,List.length_cons,ih,List.length_cons]
   |false=>rfl
 intro l
 induction l with
 |nil=>rfl
 |cons a l ih=>show(dN key a (dR key l)).length=_;rw[ins,ih];rfl
theorem H9{k:Nat}:∀ {xs:List (List U)},xs.all (kg k)=true→H8 xs=dR wH xs
 |[],_=>rfl
 |x::xs,h=>by
  simp only[List.all_cons,bC]at h;show He x (H8 xs)=dN wH x (dR wH xs);rw[H9 h.2];exact LD h.1 (jr.2 fun y hy=>jr.1 h.2 y (nW wH hy))
section
variable{σ:Sg}{Z:Zs}
def V8(σ:Sg)(Z:Zs)(k:Nat)(x:List U)(r:List V):Prop:=wH x=Cr r∧mU k r=true∧kg k x=true∧LU σ Z 0 x r
theorem Me{n:Nat}{w:Nat}{xs:List (List U)}{v:V}(h:UR σ Z n (.sl w xs) v):LJ v=true:=by cases h<;>rfl
theorem Xf{k:Nat}{x:List U}{r:List V}(hx:kg k x=true)(h:LU σ Z 0 x r):V8 σ Z k x r:=by
 have h0:=h;have hx0:=hx;unfold kg at hx;split at hx
 ·obtain⟨v1,r1,rfl,h1,h2⟩:=h.bx;obtain⟨v2,r2,rfl,h3,h4⟩:=h2.bx;obtain rfl:=h4.dV;cases h1;exact⟨rfl,by simp only[mU,hx,Me h3,Bool.and_self],hx0,h0⟩
 ·obtain⟨v1,r1,rfl,h1,h2⟩:=h.bx;obtain⟨v2,r2,rfl,h3,h4⟩:=h2.bx;obtain⟨v3,r3,rfl,h5,h6⟩:=h4.bx;obtain rfl:=h6.dV;cases h1;cases h3;exact⟨rfl,by simp only[mU,hx,Me h5,Bool.and_self],hx0,h0⟩
 ·cases hx
theorem HS{k:Nat}:∀ {xs:List (List U)} {l:List V},xs.all (kg k)=true→xs.length*k≤l.length→LU σ Z 0 xs.flatten (l.take (xs.length*k))→ta (V8 σ Z k) xs (chunk k xs.length l)
 |[],l,_,_,_=> .nil
 |x::xs,l,ha,hl,h=>by
  simp only[List.all_cons,bC]at ha;have hxl:=(nu ha.1).2;rw[List.length_cons,Nat.succ_mul]at hl h;rw[List.flatten_cons]at h;have h1:=h.take k;have h2:=h.drop k;rw[List.take_append_of_le_length (by omega),jU (by omega),List.take_take,Nat.min_eq_left (by omega)]at h1;rw[List.drop_append_of_le_length (by omega),Gt (by omega),List.nil_append,List.drop_take,Nat.add_sub_cancel]at h2;exact .cons (Xf ha.1 h1) (HS ha.2 (by simp;omega) h2)
theorem V9{k:Nat}{xs:List (List U)}{l:List (List V)}(h:ta (V8 σ Z k) xs l):LU σ Z 0 xs.flatten l.flatten:=by
 induction h with
 |nil=>exact LU.nil
 |cons h t ih=>rw[List.flatten_cons,List.flatten_cons];exact h.2.2.2.append ih
theorem IK{k:Nat}{xs:List (List U)}{l:List (List V)}(h:ta (V8 σ Z k) xs l):l.all (mU k)=true:=by
 induction h with
 |nil=>rfl
 |cons h t ih=>rw[List.all_cons,h.2.1,ih];rfl
theorem JU(row ws:List V)(off:Nat)(h:off+ws.length≤row.length):((jR row off ws).drop off).take ws.length=ws:=by
 unfold jR;rw[kN,List.drop_append_of_le_length (by simp;omega)];have h2:(row.take off).drop off=[]:=Gt (by simp;omega);rw[h2,List.nil_append,List.take_append_of_le_length (aq _),jU (aq _)]
theorem DC{C:Nat→Option b8}{M:oV}{f k c:Nat}(hC:C f=some (qi 2 (nq k c))):vZ (cZ C M) f (oq k c):=by
 intro xs rest ys hq E σ Z ω s u st g w v vs p0 hk hp0 hor hlen hr;unfold oq at hq;split at hq
 case h_2=>cases hq
 rename_i gg;obtain⟨hb,hq2⟩:=aM hq;clear hq;simp only[bC]at hb;obtain⟨⟨hg1,hsm0⟩,hrows⟩:=hb;have hg:=bR hg1;subst hg;have hsm:xs.length<4611686018427387904:=by simp only[Nat.blt,gv]at hsm0;omega
 rw[A9 hrows]at hq2;simp only at hq2;split at hq2
 case isFalse=>cases hq2
 rename_i hnd;simp only[ai]at hq2;rw[H9 hrows]at hq2;subst hq2;obtain⟨v2,rfl⟩:∃ v2,vs=[v2]:=by
  match vs,hlen with
  |[v2],_=>exact⟨v2,rfl⟩
 have hv2:v2=.func gg [] []:=by
  have:=hr 0 _ _ rfl rfl;have h2:UR σ Z s.h.length (.func gg [] []) v2:=Ma this rfl;cases h2 with
  |func ha hb va vb=>
   have h1:=jq ha.symm;have h2:=jq hb.symm;rw[h1,h2]
 subst hv2;have hbq:Nat.beq gg gg=true:=iY gg;have hor0:=hor;unfold OR at hor;split at hor
 ·rename_i hg;obtain⟨h0,hv⟩:=hor;subst h0;refine j4 hC rfl (st' :=st) (v:=.aX []) ?_ ⟨rfl,ω,hk.QJ hp0 hg⟩;rcases hv with rfl|rfl<;>simp only[nq,hbq,cond_true]
 ·rename_i I hg;obtain⟨rfl,⟨rfl,hIx⟩,e1,e2,e3,e4⟩:=hor;have hIr:=hk.lF g I hg;cases xs with
  |nil=>
   refine j4 hC rfl (st' :=st) (v:=.aX []) (by simp only[nq,List.length_nil,hbq,cond_true]) ⟨rfl,?_⟩;have hup:=hk.Bl hp0 hg (ys:=[]) (row' :=I.row) (by rw[hIx]) (fun h=>h) (fun r hr=>by cases hr) (by simpa using LU.nil);refine⟨dL ω g (some {I with row:=I.row,xs:=[]}),?_⟩;have hx:I={I with row:=I.row,xs:=[]}:=by
    cases I;simp only at hIx⊢;subst hIx;rfl
   have hω:dL ω g (some {I with row:=I.row,xs:=[]})=ω:=by
    funext x;by_cases hxx:x=g
    ·subst hxx;rw[bp,hg,←hx]
    ·rw[cW _ _ hxx]
   rw[hω]at hup⊢;refine hup.mem (st' :=st) (aq _) hk.fresh fun b _=> ?_;rw[St.dU];split
   ·subst b;exact hIr
   ·rfl
  |cons x0 xr=>
   have hw1:I.w=k:=by
    have:=e3 x0 (by simp);rw[List.all_cons,bC]at hrows;rw[←this];exact(nu hrows.1).2
   generalize hxs:x0::xr=xs at*;have hpos:xs.length≠0:=by rw[←hxs];simp
   rw[hw1]at e2 e4;have hle:I.off+xs.length*k≤I.row.length:=by
    have:=me k e1;omega
   have ha:=HS hrows (by simp;omega) e4;have hs:=yy (k1:=wH) (k2:=Cr) (fun _ _ h=>h.1) ha;have hkk:=Dm (k1:=wH) (k2:=Cr) (fun _ _ h=>h.1) ha;have hlu:=V9 hs;have hnd' :((chunk k xs.length (I.row.drop I.off)).map Cr).Nodup:=hkk▸hnd;have hwl:(DD k xs.length I.row I.off).length=xs.length*k:=by
    have h1:=hlu.1;show(dR Cr (chunk k xs.length (I.row.drop I.off))).flatten.length=_;rw[←h1,dD (w:=k) (fun x hx=>(nu (jr.1 hrows x (nW wH hx))).2),qP]
   have hp:nq k gg [.slice I.b I.off xs.length I.cap I.w I.ex,.func gg [] []] st=some (.aX [],st.put I.b (.row (jR I.row I.off (DD k xs.length I.row I.off)))):=by
    rw[hw1];obtain⟨m,hm⟩:∃ m,xs.length=m+1:=⟨xs.length - 1,by omega⟩;have hb1:Nat.ble (I.off+xs.length*k) I.row.length=true:=ou hle;have hb2:Nat.blt xs.length 4611686018427387904=true:=by simp only[Nat.blt];exact ou hsm
    have hb3:=IK ha;rw[hm]at hb1 hb2 hb3 hnd'⊢;simp only[nq,hbq,iY,Bool.and_self,cond_true,qC hIr,hb1,hb2,hb3,if_pos hnd']
   refine j4 hC rfl hp ⟨rfl,?_⟩;have hup:=hk.Bl hp0 hg (ys:=dR wH xs) (row' :=jR I.row I.off (DD k xs.length I.row I.off)) (by rw[hIx,qP]) (by simp[jR]<;>omega)
    (fun x hx=>by rw[hw1];exact(nu (jr.1 hrows x (nW wH hx))).2) (by
     rw[hw1,qP,←hwl,JU _ _ _ (by omega)];exact hlu)
   exact⟨_,hup⟩
end
end Go.RE
namespace Go.RE
open Go Go.Proofs Go.Sort Go.Lib Go.RowKit
def jE{α:Type}(cs:List α)(i:Nat)(x:α):List α:=cs.take i++x::cs.drop i
theorem AL{α:Type}(cs:List α)(i:Nat)(x:α)(h:i≤cs.length):(jE cs i x).length=cs.length+1:=by
 simp[jE];omega
def qdM(P:Program)(f:Nat):Prop:=∀ (base:Option Addr) (n c i vb voff vc:Nat) (cs:List Value) (x:Value) (w:World),i≤n→n≤c→c<n+1→(n+1)*16≤140737488355328→cs.length=n→(base=none→n=0)→
  (i<n→∃ b off,base=some ⟨b,off,none⟩)→(∀ a,base=some a→∀ j v,cs[j]? =some v→w.cell? (a.add j)=some v)→w.cell? ⟨vb,voff,none⟩=some x→x.oneCell' =true→(∀ v∈cs,v.oneCell' =true)→
  Calls P f #[.slice base n c,.int .i64 i,.slice (some ⟨vb,voff,none⟩) 1 vc] w fun e w' =>∃ (c' :Nat) (C:Array Value) (t:TypeId),e=.returned (.slice (some ⟨w.heap.size,0,none⟩) (n+1) c')∧n+1≤c'∧c'≤9223372036854775807∧C.size=c'∧
   (∀ j,j<n+1→C[j]? =(jE cs i x)[j]?)∧w'.heap=w.heap.push (.cells C t (0,0))∧w'.os=w.os∧w'.output=w.output
def qdN(P:Program)(f:Nat):Prop:=∀ (b off n c i vb voff vc:Nat) (cs:List Value) (x:Value) (w:World) (C:Array Value) (t:TypeId) (fr:Nat×Nat) (vC:Array Value) (vt:TypeId) (vfr:Nat×Nat),i≤n→n+1≤c→c≤9223372036854775807→
  w.heap[b]? =some (.cells C t fr)→off+c≤C.size→(∀ j,j≤C.size→¬(fr.1≤j∧j<fr.2))→cs.length=n→(∀ j v,cs[j]? =some v→C[off+j]? =some v)→vb≠b→
  w.heap[vb]? =some (.cells vC vt vfr)→vC[voff]? =some x→(∀ j,j≤vC.size→¬(vfr.1≤j∧j<vfr.2))→x.oneCell' =true→(∀ v∈cs,v.oneCell' =true)→
  Calls P f #[.slice (some ⟨b,off,none⟩) n c,.int .i64 i,.slice (some ⟨vb,voff,none⟩) 1 vc] w fun e w' =>e=.returned (.slice (some ⟨b,off,none⟩) (n+1) c)∧∃ C' :Array Value,w'.heap=w.heap.setIfInBounds b (.cells C' t fr)∧C'.size=C.size∧
   w'.os=w.os∧w'.output=w.output∧∀ j,C'[j]? =if off≤j∧j<off+(n+1)then(jE cs i x)[j - off]? else C[j]?
theorem uq{w:World}{need old:Nat}{e:TypeId}(h:need<9223372036854775808):grownCap w need old e≤9223372036854775807:=by
 show need+w.tape w.drawn (.appendCap need old e) % (2 ^ 63 - need)≤_;have:=Nat.mod_lt (w.tape w.drawn (.appendCap need old e)) (show 2 ^ 63 - need>0 by omega);omega
set_option maxRecDepth 100000 in
theorem WJ:qdM Tryz.prog 145:=by
 intro base n c i vb voff vc cs x w hi hnc hroom hbig hcl hnil hb hcs hx h1x h1c;have hvs:∀ j v,[x][j]? =some v→w.cell? ⟨vb,voff+j,none⟩=some v:=fun j v hj=>by
  cases j with
  |zero=>simpa[←hj]using hx
  |succ j=>simp at hj
 have h1v:∀ v∈[x],v.oneCell' =true:=fun v hv=>by simp at hv;subst hv;exact h1x
 by_cases hin:i=n
 ·subst hin;have h:=Any2.slices_Insert_string_end_grow Tryz.yS base i c vb voff 1 vc cs [x] w (by omega) hnc hroom hbig hcl rfl hnil hcs hvs h1v;change Calls Tryz.prog 145 _ _ _ at h;refine h.mono ?_;rintro e w' ⟨rfl,rfl⟩;refine⟨_,_,_,rfl,grownCap_ge w (i+1) c _,uq (by omega),?_,fun j hj=> ?_,rfl,rfl,rfl⟩
  ·have:=grownCap_ge w (i+1) c (Tryz.cO.t 9);simp[Builtin.zeroCells,Value.cells,hcl];omega
  ·have e1:jE cs i x=cs++[x]:=by unfold jE;rw[jU (by omega),Gt (by omega)]
   rw[e1,Array.getElem?_append_left (by simp;omega)];simp
 ·obtain⟨b,off,rfl⟩:=hb (by omega);have h:=Any2.slices_Insert_string_grow Tryz.yS b off n c i vb voff 1 vc cs [x] w (by omega) (by omega) hnc hroom hbig hcl rfl (fun j v hj=>by have:=hcs _ rfl j v hj;rwa[Addr.add_lit]at this) hvs h1c h1v;change Calls Tryz.prog 145 _ _ _ at h;refine h.mono ?_;rintro e w' ⟨rfl,rfl⟩;have hge:=grownCap_ge w (n+1) c (Tryz.cO.t 9);have hle:=uq (w:=w) (need:=n+1) (old:=c) (e:=Tryz.cO.t 9) (by omega);generalize hG:grownCap w (n+1) c (Tryz.cO.t 9)=G at*;generalize hC0:(cs.take i).toArray++Builtin.zeroCells (Value.string ⟨#[]⟩).cells (n+1 - i)++Builtin.zeroCells (Value.string ⟨#[]⟩).cells (G - (n+1))=C0 at*;have hs0:C0.size=G:=by rw[←hC0];simp[Builtin.zeroCells,Value.cells];omega
  have g0:(w.alloc (.cells C0 (Tryz.cO.t 9))).drew.heap[w.heap.size]? =some (.cells C0 (Tryz.cO.t 9) (0,0)):=by
   show(w.heap.push _)[w.heap.size]? =_;simp
  obtain⟨C1,a1,a2,a3⟩:=fk w.heap.size (Tryz.cO.t 9) (0,0) [x] i (w.alloc (.cells C0 (Tryz.cO.t 9))).drew C0 g0;have g1:((w.alloc (.cells C0 (Tryz.cO.t 9))).drew.setCells w.heap.size i [x]).drew.heap[w.heap.size]? =some (.cells C1 (Tryz.cO.t 9) (0,0)):=by
   rw[a1];show((w.heap.push _).setIfInBounds _ _)[w.heap.size]? =_;simp
  obtain⟨C2,b1,b2,b3⟩:=fk w.heap.size (Tryz.cO.t 9) (0,0) (cs.drop i) (i+1) _ C1 g1;refine⟨_,C2,Tryz.cO.t 9,rfl,hge,hle,by omega,fun j hj=> ?_,?_,?_,?_⟩
  ·rw[b3,a3];have hlen:(jE cs i x).length=n+1:=by rw[AL _ _ _ (by omega)];omega
   unfold jE;by_cases c1:i+1≤j
   ·rw[if_pos (by simp;omega),eZ (by simp;omega)];have e1:(cs.take i).length=i:=by simp;omega
    rw[e1,show j - i=(j - (i+1))+1 by omega,List.getElem?_cons_succ]
   ·rw[if_neg (by omega)];by_cases c2:i=j
    ·subst c2;have e1:(cs.take i).length=i:=by simp;omega
     have hCs:C0.size=G:=hs0;rw[if_pos ⟨aq _,by simp,by have:(w.alloc (.cells C0 (Tryz.cO.t 9))).drew=(w.alloc (.cells C0 (Tryz.cO.t 9))).drew:=rfl;omega⟩,eZ (by omega),e1,Nat.sub_self];rfl
    ·rw[if_neg (by simp;omega),cw (by simp;omega),←hC0,Array.append_assoc,Array.getElem?_append_left (by simp;omega)];simp
  ·rw[b1,a1];show((w.heap.push _).setIfInBounds _ _).setIfInBounds _ _=_;apply Array.ext_getElem?;intro k;simp only[Gu,Array.getElem?_push,Array.size_push,Array.size_setIfInBounds];by_cases hk:w.heap.size=k
   ·subst hk;simp
   ·simp[hk,Ne.symm hk]
  ·rw[b1,a1];rfl
  ·rw[b1,a1];rfl
set_option maxRecDepth 100000 in
theorem WM:qdN Tryz.prog 145:=by
 intro b off n c i vb voff vc cs x w C t fr vC vt vfr hi hnc hc63 hC hoc hfr hcl hcs hvb hV hvx hvfr h1x h1c;have hcellb:∀ j,w.cell? ⟨b,j,none⟩=C[j]? :=fun j=>by simp[World.cell?,hC]
 have hcellv:∀ j,w.cell? ⟨vb,j,none⟩=vC[j]? :=fun j=>by simp[World.cell?,hV]
 have hvlt:voff<vC.size:=by
  rcases Nat.lt_or_ge voff vC.size with h|h
  ·exact h
  ·rw[CW h]at hvx;cases hvx
 have hfz:∀ j,j≤C.size→w.frozen? ⟨b,j,none⟩=false:=fun j hj=>by
  have:=hfr j hj;obtain⟨f1,f2⟩:=fr;simp only[World.frozen?,hC]at this⊢;simpa using this
 have hvz:∀ j,j≤vC.size→w.frozen? ⟨vb,j,none⟩=false:=fun j hj=>by
  have:=hvfr j hj;obtain⟨f1,f2⟩:=vfr;simp only[World.frozen?,hV]at this⊢;simpa using this
 have hvs:∀ j v,[x][j]? =some v→w.cell? ⟨vb,voff+j,none⟩=some v:=fun j v hj=>by
  cases j with
  |zero=>rw[hcellv];simpa[←hj]using hvx
  |succ j=>simp at hj
 have h1v:∀ v∈[x],v.oneCell' =true:=fun v hv=>by simp at hv;subst hv;exact h1x
 have hcs' :∀ j v,cs[j]? =some v→w.cell? ⟨b,off+j,none⟩=some v:=fun j v hj=>by rw[hcellb];exact hcs j v hj
 by_cases hin:i=n
 ·subst hin;have h:=Any2.slices_Insert_string_end_room Tryz.yS b off i c vb voff 1 vc [x] w (by omega) hnc hc63 rfl (fun j hj=>by rw[hcellb,sR (by omega)];rfl) (fun j hj=>hfz _ (by omega)) hvs h1v;change Calls Tryz.prog 145 _ _ _ at h;refine h.mono ?_;rintro e w' ⟨rfl,rfl⟩;obtain⟨C1,a1,a2,a3⟩:=fk b t fr [x] (off+i) w C hC;refine⟨rfl,C1,by rw[a1],a2,by rw[a1],by rw[a1],fun j=> ?_⟩;have e1:jE cs i x=cs++[x]:=by unfold jE;rw[jU (by omega),Gt (by omega)]
  rw[a3,e1];by_cases c1:off≤j∧j<off+(i+1)
  ·rw[if_pos c1];by_cases c2:off+i≤j
   ·rw[if_pos ⟨c2,by simp;omega,by omega⟩,eZ (by omega),hcl];congr 1;omega
   ·rw[if_neg (by omega),cw (by omega)];have:=hcs (j - off) _ (bL (by omega));rw[show off+(j - off)=j by omega]at this;rw[this,bL (by omega)]
  ·rw[if_neg c1,if_neg (by simp;omega)]
 ·have h:=Any2.slices_Insert_string_shift Tryz.yS b off n c i vb voff 1 vc cs [x] w (by omega) (by omega) hnc hc63 hvb hcl rfl hcs' (fun j hj=>by rw[hcellb,sR (by omega)];rfl) (fun j hj=>hfz _ (by omega)) hvs h1c h1v
   vt t vC.size C.size (by simp[World.shape?,hV]) (by simp[World.shape?,hC]) (by omega) (hvz _ (by omega)) (hvz _ (aq _))
  change Calls Tryz.prog 145 _ _ _ at h;refine h.mono ?_;rintro e w' ⟨rfl,rfl⟩;have hC0:w.drew.heap[b]? =some (.cells C t fr):=hC;obtain⟨C1,a1,a2,a3⟩:=fk b t fr (cs.drop i) (off+(i+1)) w.drew C hC0;have hblt:b<w.heap.size:=by
   rcases Nat.lt_or_ge b w.heap.size with h|h
   ·exact h
   ·rw[CW h]at hC;cases hC
  have hC1:(w.drew.setCells b (off+(i+1)) (cs.drop i)).heap[b]? =some (.cells C1 t fr):=by
   rw[a1];show(w.heap.setIfInBounds b _)[b]? =_;rw[Gu,if_pos rfl,if_pos hblt]
  obtain⟨C2,b1,b2,b3⟩:=fk b t fr [x] (off+i) _ C1 hC1;refine⟨rfl,C2,?_,by omega,by rw[b1,a1];rfl,by rw[b1,a1];rfl,fun j=> ?_⟩
  ·rw[b1,a1];show(w.heap.setIfInBounds _ _).setIfInBounds _ _=_;apply Array.ext_getElem?;intro k;simp only[Gu,Array.size_setIfInBounds];by_cases hk:b=k
   ·subst hk;simp
   ·simp[hk]
  ·have e1:(cs.take i).length=i:=by simp;omega
   rw[b3,a3];unfold jE;by_cases c1:off≤j∧j<off+(n+1)
   ·rw[if_pos c1];by_cases c2:off+i=j
    ·subst c2;rw[if_pos ⟨by omega,by simp,by omega⟩,eZ (by omega),e1,show off+i - (off+i)=0 by omega,show off+i - off - i=0 by omega];rfl
    ·rw[if_neg (by simp;omega)];by_cases c3:off+(i+1)≤j
     ·rw[if_pos ⟨c3,by simp;omega,by omega⟩,eZ (by omega),e1,show j - off - i=(j - (off+(i+1)))+1 by omega,List.getElem?_cons_succ]
     ·rw[if_neg (by omega),cw (by omega),jP,if_pos (by omega)];have:=hcs (j - off) _ (bL (by omega));rw[show off+(j - off)=j by omega]at this;rw[this,bL (by omega)]
   ·rw[if_neg c1,if_neg (by simp;omega),if_neg (by simp;omega)]
end Go.RE
