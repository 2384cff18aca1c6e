/- Contracts without names for results: values. -/
import Derived.Test.YtigkmaeaoaejiaaGreatDoorPart13
import Derived.Test.YtigkmaeaoaejiaaGreatDoorPart12
set_option linter.unusedVariables false
set_option linter.unusedSimpArgs false
set_option linter.unnecessarySimpa false
namespace Go.RE
variable{M:eA}{Q:fq}{Pm:gU}
def br(k n:Int)(s:By):List U:=[.int .i64 k,.int .i64 n,.str s]
def PI(r:U)(h:List Uo)(fl:Nat):Prop:=h=[]∧fl=0∧∃ n:Int,r=.int .i64 n
theorem qdp(hp:aG Pm)(k n:Int)(s:By):∃ e:Int,gF ah M Q Pm 125 [.agg (br k n s)] [] 0=some (.int .i64 e,[],0):=by
 have h:=jx (VF:=ah) (M:=M) (Q:=Q) (Pm:=Pm) (fn:=B0) (f:=125) (us:=[.agg (br k n s)]) (h:=[]) (fl:=0) (P:=PI) (hp 125 (by decide) (by decide)) rfl rfl rfl (by
  rcases aV (s==[])with q2|q2
  ·by_cases k3:k=3
   ·by_cases q1:(64:Int)<(s.length:Int)
    ·simp[c6,iq,iC,iB,ij,tS,Kb,br,k3,q1];exact⟨rfl,rfl,_,rfl⟩
    ·rcases aV (n !=0)with q3|q3
     ·simp[c6,iq,iC,iB,ij,tS,BT,iV,sI,br,k3,q1,q3];exact⟨rfl,rfl,_,rfl⟩
     ·simp[c6,iq,iC,iB,ij,tS,BT,iV,oK,br,k3,q1,q3];exact⟨rfl,rfl,_,rfl⟩
   by_cases k2:k=2
   ·rcases aV (n !=0)with q3|q3
    ·simp[c6,iq,iC,iB,ij,nL,tE,m8,iV,oK,br,k2,q2,q3];exact⟨rfl,rfl,_,rfl⟩
    ·rcases aV (n !=1)with q4|q4
     ·simp[c6,iq,iC,iB,ij,nL,tE,m8,iV,oK,br,k2,q2,q3,q4];exact⟨rfl,rfl,_,rfl⟩
     ·simp[c6,iq,iC,iB,ij,nL,tE,m8,iV,oK,br,k2,q2,q3,q4];exact⟨rfl,rfl,_,rfl⟩
   by_cases k1:k=1
   ·simp[c6,iq,iC,iB,ij,nL,AZ,m8,iV,oK,br,k1,q2];exact⟨rfl,rfl,_,rfl⟩
   ·simp[c6,iq,iC,iB,ij,nL,AZ,D1,br,k1,k2,k3];exact⟨rfl,rfl,_,rfl⟩
  ·by_cases k3:k=3
   ·by_cases q1:(64:Int)<(s.length:Int)
    ·simp[c6,iq,iC,iB,ij,tS,Kb,br,k3,q1];exact⟨rfl,rfl,_,rfl⟩
    ·rcases aV (n !=0)with q3|q3
     ·simp[c6,iq,iC,iB,ij,tS,BT,iV,sI,br,k3,q1,q3];exact⟨rfl,rfl,_,rfl⟩
     ·simp[c6,iq,iC,iB,ij,tS,BT,iV,oK,br,k3,q1,q3];exact⟨rfl,rfl,_,rfl⟩
   by_cases k2:k=2
   ·rcases aV (n !=0)with q3|q3
    ·simp[c6,iq,iC,iB,ij,nL,tE,m8,iV,sI,br,k2,q2,q3];exact⟨rfl,rfl,_,rfl⟩
    ·rcases aV (n !=1)with q4|q4
     ·simp[c6,iq,iC,iB,ij,nL,tE,m8,iV,sI,br,k2,q2,q3,q4];exact⟨rfl,rfl,_,rfl⟩
     ·simp[c6,iq,iC,iB,ij,nL,tE,m8,iV,oK,br,k2,q2,q3,q4];exact⟨rfl,rfl,_,rfl⟩
   by_cases k1:k=1
   ·simp[c6,iq,iC,iB,ij,nL,AZ,m8,iV,sI,br,k1,q2];exact⟨rfl,rfl,_,rfl⟩
   ·simp[c6,iq,iC,iB,ij,nL,AZ,D1,br,k1,k2,k3];exact⟨rfl,rfl,_,rfl⟩)
 obtain⟨r,h,fl,h1,rfl,rfl,e,rfl⟩:=h;exact⟨e,h1⟩
def qi6(r:U)(h:List Uo)(fl:Nat):Prop:=h=[]∧fl=0∧∃ (k n:Int) (s:By) (m e:Int),r=.aP [.agg (br k n s),.int .i64 m,.int .i64 e]
theorem qll(hp:aG Pm)(hq:cI Q)(b:By)(hb:b.length<small):∃ r h fl,gF ah M Q Pm 121 [.sl 1 (az b)] [] 0=some (r,h,fl)∧qi6 r h fl:=by
 refine jx (fn:=Hw) (hp 121 (by decide) (by decide)) rfl rfl rfl ?_;cases b with
 |nil=>
  simp[lS,wU,w9,QI,aB,cut];exact⟨rfl,rfl,0,0,[],0,6,rfl⟩
 |cons c r=>
  have hr:r.length<small:=by simp at hb;omega
  have e0:(az (c::r))[0]? =some (nZ c):=rfl;simp only[nZ]at e0;have ia:=fun s=>eC (s:=s) (w:=1) (k:=.i64) e0;simp at ia;have h1:=Wd (M:=M) hp hq r hr;have a1:gJ (.int .i64 (1:Int)) (r.length+1)=some 1:=nR (n:=1) (by omega);have hdr:(az (c::r)).drop 1=az r:=by simp[bW]
  have htk:(az (c::r)).take (r.length+1)=az (c::r):=pI (by rw[qb];simp);have fin:∀ (k n:Int) (s:By) (a:Nat) (e:Int),a≤r.length→gC ah M Q Pm Hw (.seq (.seq (.region uI) (.seq (.region uN) (.cond (.t 38) (.seq (.region Ft) .ret) .skip))) (.seq (.seq (.region yI) (.seq (.region yj) (.cond (.t 44) (.seq (.region FN) .ret) .skip))) (.seq (.draw yF) .ret))) ⟨[(2,.ptr 0 0),(5,.ptr 1 0),(0,.sl 1 (az (c::r))),(6,.ptr 2 0)],[.row eD,.row (br k n s),fu r a e],0⟩ (kX 0 Hw qi6):=fun k n s a e ha=>by
   have c1:=Rm (M:=M) (Q:=Q) (Pm:=Pm) (b:=r) (a:=a) (e:=e) (p:=2) (h:=[.row eD,.row (br k n s),fu r a e]) (fl:=0) hp rfl (by simp);have c2:=PU (M:=M) (Q:=Q) (Pm:=Pm) (b:=r) (a:=a) (e:=e) (p:=2) (h:=[.row eD,.row (br k n s),fu r a e]) (fl:=0) hp hr ha rfl (by simp);obtain⟨f,c3⟩:=qdp (M:=M) (Q:=Q) hp k n s;simp[fu,eD,br]at c1 c2 c3;by_cases g1:e=0
   ·subst g1;by_cases g2:f=0
    ·subst g2;have c4:=PU (M:=M) (Q:=Q) (Pm:=Pm) (b:=r) (a:=a) (e:=0) (p:=2) (h:=[.row eD,.gone,fu r a 0]) (fl:=0) hp hr ha rfl (by simp);simp[fu,eD]at c4;simp[uI,uN,yI,yj,bn Ry,Ii,fu,eD,br,hq,c1,c2,c3,c4,pS,gm,hY,cut];exact⟨rfl,rfl,_,_,_,_,_,rfl⟩
    ·simp[uI,uN,yI,yj,FN,fu,eD,br,hq,c1,c3,g2,cut];exact⟨rfl,rfl,0,0,[],_,_,rfl⟩
   ·simp[uI,uN,Ft,fu,eD,br,hq,c1,g1,cut];exact⟨rfl,rfl,0,0,[],_,_,rfl⟩
  obtain⟨r1,h2,fl2,e2,rfl,⟨a2,f2,rfl,ha2⟩,n2,rfl⟩:=qkR (M:=M) (Q:=Q) (Pm:=Pm) (b:=r) (a:=0) (e:=0) (p:=2) (h:=[.row eD,.row eD,fu r 0 0]) (fl:=0) hp hq hr (by omega) rfl (by simp);obtain⟨r1,h3,fl3,e3,rfl,⟨a3,f3,rfl,ha3⟩,s3,rfl,hs3⟩:=QO (M:=M) (Q:=Q) (Pm:=Pm) (b:=r) (a:=0) (e:=0) (p:=2) (h:=[.row eD,.row eD,fu r 0 0]) (fl:=0) hp hq 64 (by decide) hr (by omega) rfl (by simp);have c183:gF ah M Q Pm 183 [.int .i64 n2] [] 0=some (.agg (br 1 n2 []),[],0):=by
   refine bq hp rfl rfl ?_;simp[wP,Vn,SU,br]
  have c185:gF ah M Q Pm 185 [.str s3] [] 0=some (.agg (br 3 0 s3),[],0):=by
   refine bq hp rfl rfl ?_;simp[wK,Wu,VI,br]
  simp only[br]at c183 c185;simp[fu,eD]at e2 e3 h1;by_cases k1:(c.toNat:Int)=1
  ·have:=fin 1 n2 [] a2 f2 ha2;simp[fu,eD,br]at this;simp[lS,wU,w9,AV,Ag,BD,Ad,TT,hq,kR,a1,hdr,htk,h1,ia,k1,e2,c183,cut];exact this
  by_cases k2:(c.toNat:Int)=2
  ·have:=fin 2 n2 [] a2 f2 ha2;simp[fu,eD,br]at this;simp[lS,wU,w9,AV,Ag,BD,Ad,Fi,VD,hq,kR,a1,hdr,htk,h1,ia,k2,e2,cut];exact this
  by_cases k3:(c.toNat:Int)=3
  ·have:=fin 3 0 s3 a3 f3 ha3;simp[fu,eD,br]at this;simp[lS,wU,w9,AV,Ag,BD,Ad,Fi,E5,MD,hq,kR,a1,hdr,htk,h1,ia,k3,e3,c185,cut];exact this
  ·simp[lS,wU,w9,AV,Ag,BD,Ad,Fi,E5,Oo,hq,kR,a1,hdr,htk,h1,ia,k1,k2,k3,cut];exact⟨rfl,rfl,0,0,[],_,_,rfl⟩
def uM(k:UInt8)(nm ky id ins:By)(tk nd at_:Nat):List U:=[.int .u8 k.toNat,.str nm,.str ky,.str id,.str ins,.int .u64 (tk:Int),.int .u64 (nd:Int),.int .u64 (at_:Int)]
section
variable(nm ky id ins:By)(tk nd at_:Nat)
theorem Q6(hp:aG Pm)(hq:cI Q)(htk:tk<18446744073709551616)(hnd:nd<18446744073709551616):gF ah M Q Pm 168 [.agg (uM 109 nm ky id ins tk nd at_)] [] 0=some (.aP [.sl 1 [[.str nm],[.str ky],[.str ins],[.str (qN tk)],[.str (qN nd)]],.agg [.int .u8 109,.str [],.str [],.str id,.str [],.int .u64 0,.int .u64 0,.int .u64 (at_:Int)],.int .i64 0],[],0):=by
 refine bq hp rfl rfl ?_;have c171:=t171 (M:=M) (Q:=Q) hp 109;have e171:oq 109=some [110,107,105,116,111]:=by decide
 simp[e171]at c171;simp[jd,rQ,q9,uM,hq,c171,rZ,tG,tV];have w1:aD .i64 (1:Int)=1:=by decide
 have f0:=fun h i hi=>zc (M:=M) (Q:=Q) (Pm:=Pm) h 0 i hp hi;rw[aq b8.eq_1];simp[dc,ej,eu,eo,iR,jl,c9,BX,hq,f0,w1,aW];have w2:aD .i64 (2:Int)=2:=by decide
 have f1:=fun h i hi=>Ht (M:=M) (Q:=Q) (Pm:=Pm) h 0 i hp hi;rw[aq b8.eq_1];simp[dc,ej,eu,eo,iR,jl,c9,BX,hq,f1,w2,aW];have w3:aD .i64 (3:Int)=3:=by decide
 have f2:=fun h i hi=>qP (M:=M) (Q:=Q) (Pm:=Pm) h 0 i hp hi;rw[aq b8.eq_1];simp[dc,ej,eu,eo,iR,jl,c9,BX,hq,f2,w3,aW];have w4:aD .i64 (4:Int)=4:=by decide
 have f3:=fun h i hi=>uu (M:=M) (Q:=Q) (Pm:=Pm) h 0 i hp hi;have g3:=fun h i hi=>rM (M:=M) (Q:=Q) (Pm:=Pm) h 0 i hp hi;have n3:=t228 (M:=M) (Q:=Q) hp tk htk;rw[aq b8.eq_1];simp[dc,ej,eu,eo,jk,je,iY,g3,n3,c9,BX,hq,f3,w4,aW];have w5:aD .i64 (5:Int)=5:=by decide
 have f4:=fun h i hi=>uE (M:=M) (Q:=Q) (Pm:=Pm) h 0 i hp hi;have g4:=fun h i hi=>rJ (M:=M) (Q:=Q) (Pm:=Pm) h 0 i hp hi;have n4:=t228 (M:=M) (Q:=Q) hp nd hnd;rw[aq b8.eq_1];simp[dc,ej,eu,eo,jk,je,iY,g4,n4,c9,BX,hq,f4,w5,aW];rw[aq b8.eq_1];simp[dc,bn p9,nE]
theorem SM(hp:aG Pm)(hq:cI Q)(htk:tk<18446744073709551616)(hnd:nd<18446744073709551616):gF ah M Q Pm 168 [.agg (uM 115 nm ky id ins tk nd at_)] [] 0=some (.aP [.sl 1 [[.str nm],[.str ins],[.str (qN tk)],[.str (qN nd)]],.agg [.int .u8 115,.str [],.str ky,.str id,.str [],.int .u64 0,.int .u64 0,.int .u64 (at_:Int)],.int .i64 0],[],0):=by
 refine bq hp rfl rfl ?_;have c171:=t171 (M:=M) (Q:=Q) hp 115;have e171:oq 115=some [110,105,116,111]:=by decide
 simp[e171]at c171;simp[jd,rQ,q9,uM,hq,c171,rZ,tG,tV];have w1:aD .i64 (1:Int)=1:=by decide
 have f0:=fun h i hi=>zc (M:=M) (Q:=Q) (Pm:=Pm) h 0 i hp hi;rw[aq b8.eq_1];simp[dc,ej,eu,eo,iR,jl,c9,BX,hq,f0,w1,aW];have w2:aD .i64 (2:Int)=2:=by decide
 have f1:=fun h i hi=>qP (M:=M) (Q:=Q) (Pm:=Pm) h 0 i hp hi;rw[aq b8.eq_1];simp[dc,ej,eu,eo,iR,jl,c9,BX,hq,f1,w2,aW];have w3:aD .i64 (3:Int)=3:=by decide
 have f2:=fun h i hi=>uu (M:=M) (Q:=Q) (Pm:=Pm) h 0 i hp hi;have g2:=fun h i hi=>rM (M:=M) (Q:=Q) (Pm:=Pm) h 0 i hp hi;have n2:=t228 (M:=M) (Q:=Q) hp tk htk;rw[aq b8.eq_1];simp[dc,ej,eu,eo,jk,je,iY,g2,n2,c9,BX,hq,f2,w3,aW];have w4:aD .i64 (4:Int)=4:=by decide
 have f3:=fun h i hi=>uE (M:=M) (Q:=Q) (Pm:=Pm) h 0 i hp hi;have g3:=fun h i hi=>rJ (M:=M) (Q:=Q) (Pm:=Pm) h 0 i hp hi;have n3:=t228 (M:=M) (Q:=Q) hp nd hnd;rw[aq b8.eq_1];simp[dc,ej,eu,eo,jk,je,iY,g3,n3,c9,BX,hq,f3,w4,aW];rw[aq b8.eq_1];simp[dc,bn p9,nE]
theorem Qz(hp:aG Pm)(hq:cI Q)(hat_:at_<18446744073709551616)(htk:tk<18446744073709551616)(hnd:nd<18446744073709551616):gF ah M Q Pm 168 [.agg (uM 122 nm ky id ins tk nd at_)] [] 0=some (.aP [.sl 1 [[.str (qN at_)],[.str ins],[.str (qN tk)],[.str (qN nd)]],.agg [.int .u8 122,.str nm,.str ky,.str id,.str [],.int .u64 0,.int .u64 0,.int .u64 0],.int .i64 0],[],0):=by
 refine bq hp rfl rfl ?_;have c171:=t171 (M:=M) (Q:=Q) hp 122;have e171:oq 122=some [97,105,116,111]:=by decide
 simp[e171]at c171;simp[jd,rQ,q9,uM,hq,c171,rZ,tG,tV];have w1:aD .i64 (1:Int)=1:=by decide
 have f0:=fun h i hi=>qag (M:=M) (Q:=Q) (Pm:=Pm) h 0 i hp hi;have g0:=fun h i hi=>ZN (M:=M) (Q:=Q) (Pm:=Pm) h 0 i hp hi;have n0:=t228 (M:=M) (Q:=Q) hp at_ hat_;rw[aq b8.eq_1];simp[dc,ej,eu,eo,jk,je,iY,g0,n0,c9,BX,hq,f0,w1,aW];have w2:aD .i64 (2:Int)=2:=by decide
 have f1:=fun h i hi=>qP (M:=M) (Q:=Q) (Pm:=Pm) h 0 i hp hi;rw[aq b8.eq_1];simp[dc,ej,eu,eo,iR,jl,c9,BX,hq,f1,w2,aW];have w3:aD .i64 (3:Int)=3:=by decide
 have f2:=fun h i hi=>uu (M:=M) (Q:=Q) (Pm:=Pm) h 0 i hp hi;have g2:=fun h i hi=>rM (M:=M) (Q:=Q) (Pm:=Pm) h 0 i hp hi;have n2:=t228 (M:=M) (Q:=Q) hp tk htk;rw[aq b8.eq_1];simp[dc,ej,eu,eo,jk,je,iY,g2,n2,c9,BX,hq,f2,w3,aW];have w4:aD .i64 (4:Int)=4:=by decide
 have f3:=fun h i hi=>uE (M:=M) (Q:=Q) (Pm:=Pm) h 0 i hp hi;have g3:=fun h i hi=>rJ (M:=M) (Q:=Q) (Pm:=Pm) h 0 i hp hi;have n3:=t228 (M:=M) (Q:=Q) hp nd hnd;rw[aq b8.eq_1];simp[dc,ej,eu,eo,jk,je,iY,g3,n3,c9,BX,hq,f3,w4,aW];rw[aq b8.eq_1];simp[dc,bn p9,nE]
theorem YH(hp:aG Pm)(hq:cI Q)(htk:tk<18446744073709551616)(hnd:nd<18446744073709551616):gF ah M Q Pm 168 [.agg (uM 97 nm ky id ins tk nd at_)] [] 0=some (.aP [.sl 1 [[.str ins],[.str (qN tk)],[.str (qN nd)]],.agg [.int .u8 97,.str nm,.str ky,.str id,.str [],.int .u64 0,.int .u64 0,.int .u64 (at_:Int)],.int .i64 0],[],0):=by
 refine bq hp rfl rfl ?_;have c171:=t171 (M:=M) (Q:=Q) hp 97;have e171:oq 97=some [105,116,111]:=by decide
 simp[e171]at c171;simp[jd,rQ,q9,uM,hq,c171,rZ,tG,tV];have w1:aD .i64 (1:Int)=1:=by decide
 have f0:=fun h i hi=>qP (M:=M) (Q:=Q) (Pm:=Pm) h 0 i hp hi;rw[aq b8.eq_1];simp[dc,ej,eu,eo,iR,jl,c9,BX,hq,f0,w1,aW];have w2:aD .i64 (2:Int)=2:=by decide
 have f1:=fun h i hi=>uu (M:=M) (Q:=Q) (Pm:=Pm) h 0 i hp hi;have g1:=fun h i hi=>rM (M:=M) (Q:=Q) (Pm:=Pm) h 0 i hp hi;have n1:=t228 (M:=M) (Q:=Q) hp tk htk;rw[aq b8.eq_1];simp[dc,ej,eu,eo,jk,je,iY,g1,n1,c9,BX,hq,f1,w2,aW];have w3:aD .i64 (3:Int)=3:=by decide
 have f2:=fun h i hi=>uE (M:=M) (Q:=Q) (Pm:=Pm) h 0 i hp hi;have g2:=fun h i hi=>rJ (M:=M) (Q:=Q) (Pm:=Pm) h 0 i hp hi;have n2:=t228 (M:=M) (Q:=Q) hp nd hnd;rw[aq b8.eq_1];simp[dc,ej,eu,eo,jk,je,iY,g2,n2,c9,BX,hq,f2,w3,aW];rw[aq b8.eq_1];simp[dc,bn p9,nE]
end
def Wm(a b c d:By)(x y z:Nat):Bool:=(a==[])&&(b==[])&&(c==[])&&(d==[])&&((x:Int)==0)&&((y:Int)==0)&&((z:Int)==0)
theorem ZD(hp:aG Pm)(hq:cI Q)(k:UInt8)(nm ky id ins:By)(tk nd at_:Nat)(ps:List By)(a b c d:By)(x y z:Nat)
  (h168:gF ah M Q Pm 168 [.agg (uM k nm ky id ins tk nd at_)] [] 0=some (.aP [.sl 1 (ps.map fun s=>[.str s]),.agg (uM k a b c d x y z),.int .i64 0],[],0))
  (h227:gF ah M Q Pm 227 [.int .u8 k.toNat,.sl 1 (ps.map fun s=>[.str s])] [] 0=some (.str (hO k ps),[],0)):
  gF ah M Q Pm 166 [.agg (uM k nm ky id ins tk nd at_)] [] 0=some (.aP (if Wm a b c d x y z=true then[.str (hO k ps),.int .i64 0]else[.str [],.int .i64 1]),[],0):=by
 refine bq hp rfl rfl ?_;simp only[uM]at h168⊢;unfold Wm;rcases aV (a==[])with q0|q0
 ·simp[eW,mD,mB,mM,nW,qI,hq,h168,q0]
 rcases aV (b==[])with q1|q1
 ·simp[eW,mD,mB,mM,nW,qI,hq,h168,q0,q1]
 rcases aV (c==[])with q2|q2
 ·simp[eW,mD,mB,mM,nW,qI,hq,h168,q0,q1,q2]
 rcases aV (d==[])with q3|q3
 ·simp[eW,mD,mB,mM,nW,qI,hq,h168,q0,q1,q2,q3]
 rcases aV ((x:Int)==0)with q4|q4
 ·simp[eW,mD,mB,mM,nW,qI,hq,h168,q0,q1,q2,q3,q4]
 rcases aV ((y:Int)==0)with q5|q5
 ·simp[eW,mD,mB,mM,nW,qI,hq,h168,q0,q1,q2,q3,q4,q5]
 rcases aV ((z:Int)==0)with q6|q6
 ·simp[eW,mD,mB,mM,nW,qI,hq,h168,q0,q1,q2,q3,q4,q5,q6]
 simp[eW,mD,mB,mM,nW,D8,hq,h168,h227,q0,q1,q2,q3,q4,q5,q6]
theorem qkF(hp:aG Pm)(hq:cI Q)(b:By)(hb:b.length<small):∃ (k n:Int) (s:By) (e:Int),gF ah M Q Pm 120 [.sl 1 (az b)] [] 0=some (.aP [.agg (br k n s),.int .i64 e],[],0):=by
 obtain⟨r,h,fl,e1,rfl,rfl,k,n,s,m,e,rfl⟩:=qll (M:=M) hp hq b hb;simp[br]at e1;by_cases g1:e=0
 ·by_cases g2:m<(b.length:Int)
  ·refine⟨k,n,s,10,bq hp rfl rfl ?_⟩;simp[qe,FD,E8,FI,Ti,F4,br,hq,e1,g1,g2]
  ·refine⟨k,n,s,e,bq hp rfl rfl ?_⟩;simp[qe,FD,E8,FI,F4,br,hq,e1,g1,g2]
 ·refine⟨k,n,s,e,bq hp rfl rfl ?_⟩;have g1' :(e==0)=false:=by simpa using g1
  simp[qe,FD,E8,FI,F4,br,hq,e1,g1',g1]
def Yq(x y:Int):Nat:=(BitVec.ofInt 64 x ^^^ BitVec.ofInt 64 y).toNat
theorem OA(x y:Int):Yq x y<18446744073709551616:=(BitVec.ofInt 64 x ^^^ BitVec.ofInt 64 y).isLt
theorem Qi(ek:fD)(x y:Int):cU .xor ek (.int .u64 x) (.int .u64 y)=some (.int .u64 (Yq x y:Int)):=by
 have h1:cU .xor ek (.int .u64 x) (.int .u64 y)=some (.int .u64 (aD .u64 (BitVec.ofInt 64 x ^^^ BitVec.ofInt 64 y).toNat)):=rfl;rw[h1];show _=some (V.int .u64 ((Yq x y:Nat):Int));congr 2;exact Oz (OA x y)
theorem qlP(hp:aG Pm)(hq:cI Q)(n:Int):∃ b:By,gF ah M Q Pm 192 [.int .i64 n] [] 0=some (.own .r 1 (az b),[],0)∧b.length≤10:=by
 obtain⟨y,h1⟩:∃ y,iz .shl .no (.int .i64 n) (.int .u64 1)=some (.int .i64 y):=⟨_,rfl⟩;obtain⟨z,h2⟩:∃ z,iz .shr .no (.int .i64 n) (.int .u64 63)=some (.int .i64 z):=⟨_,rfl⟩;have h3:=t191 (M:=M) (Q:=Q) hp _ (OA (aD .u64 y) (aD .u64 z));refine⟨_,bq hp rfl rfl ?_,iT (Yq (aD .u64 y) (aD .u64 z))⟩;simp[v8,TZ,Th,hq,h1,h2,Qi,h3]
theorem pE(d:By):((az d).all fun r=>r.all U.aL&&U.bX 0 r&&decide (r.length=1))=true:=by
 have h:(fun r:List U=>r.all U.aL&&U.bX 0 r&&decide (r.length=1))=fun r=>r.all U.aL&&U.bX 0 r&&Nat.beq r.length 1:=by funext r;rw[H6]
 rw[h];exact GZ d
theorem qms(hp:aG Pm)(hq:cI Q)(k n:Int)(s:By)(hs:s.length<10000000):∃ b:By,gF ah M Q Pm 126 [.agg (br k n s)] [] 0=some (.own .r 1 (az b),[],0)∧b.length<30000000:=by
 obtain⟨e,c1⟩:=qdp (M:=M) (Q:=Q) hp k n s;obtain⟨d,c2,hd⟩:=qlP (M:=M) hp hq n;have c3:=t190 (M:=M) hp hq s (by unfold small;omega);have hl:=iT s.length;simp only[br]at c1;by_cases g1:e=0
 ·by_cases g2:k=3
  ·subst g2;refine⟨Ab 3::qU s,bq hp rfl rfl ?_,by simp[qU];omega⟩;have f1:1+(qU s).length≤aW:=by simp[qU];unfold aW;omega
   have f2:(qU s).length+1≤aW:=by simp[qU];unfold aW;omega
   simp[pT,E4,EB,Km,K5,QU,br,hq,c1,c3,g1,tY,bW,f1,f2,bH,pE]
  ·refine⟨Ab k::d,bq hp rfl rfl ?_,by simp;omega⟩;have f1:1+d.length≤aW:=by unfold aW;omega
   have f2:d.length+1≤aW:=by unfold aW;omega
   simp[pT,E4,EB,Km,K5,RM,br,hq,c1,c2,g1,g2,tY,bW,f1,f2,bH,pE]
 ·refine⟨[],bq hp rfl rfl ?_,by simp⟩;simp[pT,E4,EB,Xl,br,hq,c1,g1,aB]
theorem qk1(hp:aG Pm)(hq:cI Q)(x:Ar)(hn:x.name.length<10000000)(hk:x.key.length<10000000)(dn:Nat)(hdu:x.due=(dn:Int))(hdn:dn<18446744073709551616):∃ b:By,gF ah M Q Pm 127 [.agg (bV x)] [] 0=some (.own .r 1 (az b),[],0)∧b.length<30000000∧(b≠[]→BV x):=by
 obtain⟨r,h,fl,c1,rfl,rfl,e,rfl,hK⟩:=qi1 (M:=M) hp hq x;have c2:=t191 (M:=M) (Q:=Q) hp dn hdn;have c3:=t190 (M:=M) hp hq x.name (by unfold small;omega);have c4:=t190 (M:=M) hp hq x.key (by unfold small;omega);have l1:=iT x.name.length;have l2:=iT x.key.length;have l3:=iT dn;simp only[bV,hdu]at c1;by_cases g1:e=0
 ·have hK' :=hK g1;by_cases k1:x.kind=1
  ·refine⟨Ab x.kind::yb dn,bq hp rfl rfl ?_,by simp;omega,fun _=>hK'⟩;have f1:1+(yb dn).length≤aW:=by unfold aW;omega
   have f2:(yb dn).length+1≤aW:=by unfold aW;omega
   simp[k1]at c1;simp[ny,AL,zB,Er,E7,W6,bV,hdu,hq,c1,c2,g1,k1,tY,bW,f1,f2,bH,pE]
  by_cases k2:x.kind=2
  ·refine⟨Ab x.kind::(qU x.name++qU x.key),bq hp rfl rfl ?_,by simp[qU];omega,fun _=>hK'⟩;have f1:1+(qU x.name).length≤aW:=by simp[qU];unfold aW;omega
   have f2:(qU x.name).length+1≤aW:=by simp[qU];unfold aW;omega
   have f3:(qU x.name).length+1+(qU x.key).length≤aW:=by simp[qU];unfold aW;omega
   have f4:(qU x.name).length+(qU x.key).length+1≤aW:=by simp[qU];unfold aW;omega
   simp[k2]at c1;simp[ny,AL,zB,Er,E7,Ls,L1,Rp,JF,bV,hdu,hq,c1,c3,c4,g1,k2,tY,bW,eU,f1,f2,f3,f4,bH,pE]
  ·refine⟨Ab x.kind::qU x.name,bq hp rfl rfl ?_,by simp[qU];omega,fun _=>hK'⟩;have f1:1+(qU x.name).length≤aW:=by simp[qU];unfold aW;omega
   have f2:(qU x.name).length+1≤aW:=by simp[qU];unfold aW;omega
   simp[ny,AL,zB,Er,E7,Ls,L1,JF,bV,hdu,hq,c1,c3,g1,k1,k2,tY,bW,f1,f2,bH,pE]
 ·refine⟨[],bq hp rfl rfl ?_,by simp,fun h=>absurd rfl h⟩;simp[ny,AL,zB,UE,bV,hdu,hq,c1,g1,aB]
theorem t128(hp:aG Pm):gF ah M Q Pm 128 [.sl 1 [[.aK],[.aK]]] [] 0=some (.aK,[],0):=by
 refine bq hp rfl rfl ?_;have w2:aD .i64 (2:Int)=2:=by decide
 simp[wT,Vw,VK];rw[aq yS.eq_1];simp[F8,Md,KT,KH,Tf,RJ];rw[aq yS.eq_1];simp[F8,Md,KT,KH,Tf,w2];rw[aq yS.eq_1];simp[F8,SK]
def X3(ins:By)(tk nd:Nat)(x:Ar)(d:Nat):List U:=if x.kind=1 then bJ 122 [] [] [] ins tk nd d else if x.kind=2 then bJ 109 x.name x.key [] ins tk nd 0 else bJ 115 x.name [] [] ins tk nd 0
theorem t129(hp:aG Pm)(ins:By)(tk nd:Nat)(x:Ar)(d:Nat)(hd:x.due=(d:Int))(hK:BV x):gF ah M Q Pm 129 [.str ins,.int .u64 (tk:Int),.int .u64 (nd:Int),.agg (bV x)] [] 0=some (.agg (X3 ins tk nd x d),[],0):=by
 refine bq hp rfl rfl ?_;unfold X3;rcases hK with k|k|k
 ·simp[pZ,Fq,FX,Eg,Ff,yG,bn Yx,Mx,bV,bJ,hd,k,hY]
 ·simp[pZ,Fq,FX,Eg,Ff,KO,WN,yG,bn Yt,NX,bV,bJ,hd,k,hY]
 ·simp[pZ,Fq,FX,Eg,Ff,KO,WH,yG,bn Ym,NT,bV,bJ,hd,k,hY]
def MJ(M:eA)(Q:fq)(Pm:gU)(r:List U)(key:By):Prop:=gF ah M Q Pm 166 [.agg r] [] 0=some (.aP [.str key,.int .i64 0],[],0)
theorem El(hp:aG Pm)(hq:cI Q)(k:UInt8)(nm ky id ins:By)(tk nd at_:Nat)(ps:List By)(a b c d:By)(x y z:Nat)(hP:BW 1048576 5 ps)(hz:Wm a b c d x y z=true)
  (h168:gF ah M Q Pm 168 [.agg (uM k nm ky id ins tk nd at_)] [] 0=some (.aP [.sl 1 (ps.map fun s=>[.str s]),.agg (uM k a b c d x y z),.int .i64 0],[],0)):∃ key,MJ M Q Pm (bJ k nm ky id ins tk nd at_) key∧key.length<small:=by
 have h227:gF ah M Q Pm 227 [.int .u8 k.toNat,.sl 1 (ps.map fun s=>[.str s])] [] 0=some (.str (hO k ps),[],0):=by
  obtain⟨a,b⟩:=hP.sum;refine t227 hp k ps (by have:=hP.1;unfold small;omega) (fun s hs=>by have:=hP.2 s hs;unfold small;omega) ?_;simp only[hO,List.length_cons];unfold small;omega
 have:=ZD hp hq k nm ky id ins tk nd at_ ps a b c d x y z h168 h227;rw[hz]at this;obtain⟨_,b⟩:=hP.sum;exact⟨hO k ps,this,by simp only[hO,List.length_cons];unfold small;omega⟩
theorem ps3{n:Nat}{a b c:By}(ha:a.length≤n)(hb:b.length≤n)(hc:c.length≤n):BW n 5 [a,b,c]:=⟨by simp,fun p hp=>by simp at hp;rcases hp with rfl|rfl|rfl<;>assumption⟩
theorem ps4{n:Nat}{a b c d:By}(ha:a.length≤n)(hb:b.length≤n)(hc:c.length≤n)(hd:d.length≤n):BW n 5 [a,b,c,d]:=⟨by simp,fun p hp=>by simp at hp;rcases hp with rfl|rfl|rfl|rfl<;>assumption⟩
theorem ps5{n:Nat}{a b c d e:By}(ha:a.length≤n)(hb:b.length≤n)(hc:c.length≤n)(hd:d.length≤n)(he:e.length≤n):BW n 5 [a,b,c,d,e]:=⟨by simp,fun p hp=>by simp at hp;rcases hp with rfl|rfl|rfl|rfl|rfl<;>assumption⟩
theorem qcK(hp:aG Pm)(hq:cI Q)(ins:By)(tk nd d:Nat)(x:Ar)(hi:ins.length≤1048576)(hn:x.name.length≤1048576)(hk:x.key.length≤1048576)(htk:tk<18446744073709551616)(hnd:nd<18446744073709551616)(hd:d<18446744073709551616):∃ key,MJ M Q Pm (X3 ins tk nd x d) key∧key.length<small:=by
 have ln:∀ n,(qN n).length≤1048576:=fun n=>by rw[zP];decide
 unfold X3;split
 ·exact El hp hq 122 [] [] [] ins tk nd d _ [] [] [] [] 0 0 0 (ps4 (ln d) hi (ln tk) (ln nd)) rfl (Qz [] [] [] ins tk nd d hp hq hd htk hnd)
 ·split
  ·exact El hp hq 109 _ _ [] ins tk nd 0 _ [] [] [] [] 0 0 0 (ps5 hn hk hi (ln tk) (ln nd)) rfl (Q6 x.name x.key [] ins tk nd 0 hp hq htk hnd)
  ·exact El hp hq 115 _ [] [] ins tk nd 0 _ [] [] [] [] 0 0 0 (ps4 hn hi (ln tk) (ln nd)) rfl (SM x.name [] [] ins tk nd 0 hp hq htk hnd)
theorem Mg(hp:aG Pm)(hq:cI Q)(ins:By)(tk nd:Nat)(hi:ins.length≤1048576)(htk:tk<18446744073709551616)(hnd:nd<18446744073709551616):∃ key,MJ M Q Pm (bJ 97 [] [] [] ins tk nd 0) key∧key.length<small:=by
 have ln:∀ n,(qN n).length≤1048576:=fun n=>by rw[zP];decide
 exact El hp hq 97 [] [] [] ins tk nd 0 _ [] [] [] [] 0 0 0 (ps3 hi (ln tk) (ln nd)) rfl (YH [] [] [] ins tk nd 0 hp hq htk hnd)
theorem Jh:∀ (k x:By),(!lt x k&&lt x (k++[0]))=(x==k):=by
 intro k
 induction k with
 |nil=>
  intro x;cases x with
  |nil=>rfl
  |cons b y=>simp[lt,Op.bytesLess]
 |cons a k ih=>
  intro x;cases x with
  |nil=>simp[lt,Op.bytesLess]
  |cons b y=>
   have:=ih y;simp only[lt,List.cons_append,Op.bytesLess]at this⊢;by_cases h1:b<a
   ·have hne:b≠a:=fun hh=>by subst hh;simp at h1
    have:(b::y==a::k)=false:=by
     cases h:(b::y==a::k)with
     |false=>rfl
     |true=>have:=eq_of_beq h;simp at this;exact absurd this.1 hne
    simp[h1,this]
   ·by_cases h2:b=a
    ·subst h2;have e:(b::y==b::k)=(y==k):=by show(b==b&&y==k)=_;simp
     rw[e,←this];simp[h1]
    ·have:(b::y==a::k)=false:=by
      cases h:(b::y==a::k)with
      |false=>rfl
      |true=>have:=eq_of_beq h;simp at this;exact absurd this.1 h2
     simp[h1,h2,this]
theorem Pv(k x:By):has k (k++[0]) x=(x==k):=by
 unfold has;have:(k++[0]==([]:By))=false:=by cases k<;>rfl
 rw[this,Bool.false_or];exact Jh k x
theorem NI(x:By):has [] [] x=true:=by
 unfold has;cases x<;>rfl
def ue(P:List Pr):Prop:=P.Pairwise fun a b=>lt a.1 b.1=true
theorem qas(l:List Pr)(k:By):Br l k=l.filter fun x=> !(x.1==k):=by
 unfold Br;congr 1;funext x;rw[Pv]
theorem eY{P:List Pr}(h:ue P)(p:Pr→Bool):ue (P.filter p):=List.Pairwise.filter p h
theorem sP{P:List Pr}(h:ue P)(p:Pr):ue (rq P p):=by
 unfold rq ue;rw[List.pairwise_append,List.pairwise_append];refine⟨⟨eY h _,List.pairwise_singleton _ _,fun a ha b hb=> ?_⟩,eY h _,fun a ha b hb=> ?_⟩
 ·simp at hb;subst hb;exact(List.mem_filter.1 ha).2
 ·have hb2:=(List.mem_filter.1 hb).2;rcases ic.1 ha with ha|ha
  ·exact NJ (List.mem_filter.1 ha).2 hb2
  ·simp at ha;subst ha;exact hb2
theorem qn5(l:List Pr):ue (Bw l):=by
 unfold Bw;have:∀ (l P:List Pr),ue P→ue (l.foldl rq P):=by
  intro l
  induction l with
  |nil=>intro P h;exact h
  |cons p l ih=>intro P h;exact ih _ (sP h p)
 exact this l [] List.Pairwise.nil
theorem Px{P:List Pr}(h:ue P)(w:List Wr):ue (xq P w):=by
 unfold xq
 induction w generalizing P with
 |nil=>exact h
 |cons x w ih=>
  refine ih ?_;unfold oa Br;split
  ·exact eY h _
  ·exact sP (eY h _) _
theorem qce{a b:By}(h:a≠b):lt a b=true∨lt b a=true:=by
 rcases DJ a b with h1|h1|h1
 ·exact .inl h1
 ·exact absurd h1 h
 ·exact .inr h1
theorem qA(P:List Pr)(p x:Pr):x∈rq P p↔x=p∨(x∈P∧x.1≠p.1):=by
 unfold rq;simp only[ic,List.mem_filter,List.mem_singleton];constructor
 ·rintro((⟨h1,h2⟩|h)|⟨h1,h2⟩)
  ·refine .inr ⟨h1,fun hh=> ?_⟩;rw[hh]at h2;rw[show lt p.1 p.1=false from qC _]at h2;cases h2
  ·exact .inl h
  ·refine .inr ⟨h1,fun hh=> ?_⟩;rw[hh]at h2;rw[show lt p.1 p.1=false from qC _]at h2;cases h2
 ·rintro(h|⟨h1,h2⟩)
  ·exact .inl (.inr h)
  ·rcases qce h2 with h|h
   ·exact .inl (.inl ⟨h1,h⟩)
   ·exact .inr ⟨h1,h⟩
theorem s6(P:List Pr)(k:By)(x:Pr):x∈Br P k↔x∈P∧x.1≠k:=by
 rw[qas,List.mem_filter];constructor
 ·rintro⟨h1,h2⟩;exact⟨h1,fun hh=>by rw[hh]at h2;simp at h2⟩
 ·rintro⟨h1,h2⟩;refine⟨h1,?_⟩;cases h:x.1==k with
  |false=>rfl
  |true=>exact absurd (eq_of_beq h) h2
theorem ur:∀ {P R:List Pr},ue P→ue R→(∀ x,x∈P↔x∈R)→P=R:=by
 intro P
 induction P with
 |nil=>
  intro R _ _ h;cases R with
  |nil=>rfl
  |cons a R=>exact absurd ((h a).2 (by simp)) (by simp)
 |cons p P ih=>
  intro R hP hR h;cases R with
  |nil=>exact absurd ((h p).1 (by simp)) (by simp)
  |cons r R=>
   obtain⟨hp1,hp2⟩:=List.pairwise_cons.1 hP;obtain⟨hr1,hr2⟩:=List.pairwise_cons.1 hR;have hpr:p=r:=by
    rcases eB.1 ((h p).1 (by simp))with h1|h1
    ·exact h1
    ·rcases eB.1 ((h r).2 (by simp))with h2|h2
     ·exact h2.symm
     ·have a:=hr1 p h1;have b:=hp1 r h2;have:=BN a;rw[show Op.bytesLess p.1 r.1=true from b]at this;cases this
   subst hpr;congr 1;refine ih hp2 hr2 fun x=>⟨fun hx=> ?_,fun hx=> ?_⟩
   ·rcases eB.1 ((h x).1 (ki _ hx))with h1|h1
    ·subst h1;have:=hp1 x hx;rw[show lt x.1 x.1=false from qC _]at this;cases this
    ·exact h1
   ·rcases eB.1 ((h x).2 (ki _ hx))with h1|h1
    ·subst h1;have:=hr1 x hx;rw[show lt x.1 x.1=false from qC _]at this;cases this
    ·exact h1
def vgR(a:Option (Option By))(k:By):List U:=match a with
 |none=>[.sl 1 [],.bool false,.iface 45 (.agg [.str k,.str k])]
 |some none=>[.sl 1 [],.bool false,.aK]
 |some (some d)=>[.sl 1 (az d),.bool true,.aK]
def vsR(a:Option (List Pr))(lo hi:By):List U:=match a with
 |none=>[.sl 2 [],.iface 45 (.agg [.str lo,.str hi])]
 |some l=>[.sl 2 (l.map fL),.aK]
structure PK(M:eA)(Q:fq)(Pm:gU)(t i m:Nat)(Vp:List Uo→Prop)(g:By→Option (Option By))(sc:By→By→Option (List Pr)):Prop where
 mG:∃ f,M t "Get" =some f∧∀ h fl k,Vp h→fl≤h.length→gF ah M Q Pm f [.ptr i 0,.str k] h fl=some (.aP (vgR (g k) k),h,fl)
 mS:∃ f,M t "Scan" =some f∧∀ h fl lo hi,Vp h→fl≤h.length→gF ah M Q Pm f [.ptr i 0,.str lo,.str hi] h fl=some (.aP (vsR (sc lo hi) lo hi),h,fl)
 lt:∀ h,Vp h→i<h.length
 app:∀ h l,Vp h→Vp (h++l)
 set:∀ h x,Vp h→Vp (h.set m x)
 dat:∀ k d,g k=some (some d)→d.length<small
 qmj:∀ lo hi l,sc lo hi=some l→ue l∧l.length≤1000000∧∀ p∈l,p.1.length<small∧p.2.length<small
structure iO(h:List Uo)(c t i m:Nat)(ms:List bL)(cl:Nat):Prop where
 row:h[c]? =some (.row [.iface t (.ptr i 0),.map m])
 map:h[m]? =some (.map (ms.map iS) cl)
 ok:oT ms cl
theorem iO.app{h:List Uo}{c t i m:Nat}{ms:List bL}{cl:Nat}(hc:iO h c t i m ms cl)(l:List Uo):iO (h++l) c t i m ms cl:=⟨bl hc.row,bl hc.map,hc.ok⟩
structure Rn where
 k:UInt8
 a:By
 b:By
 c:By
 d:By
 x:Nat
 y:Nat
 z:Nat
def bg(r:Rn):List U:=bJ r.k r.a r.b r.c r.d r.x r.y r.z
def kS(M:eA)(Q:fq)(Pm:gU)(r:Rn)(key:By)(e:Int):Prop:=gF ah M Q Pm 166 [.agg (bg r)] [] 0=some (.aP [.str key,.int .i64 e],[],0)
def cW(k:UInt8)(e:Int):Uo:=.row [.str [k],.iface 43 (.int .i64 e)]
def oF(k:UInt8)(lo hi:By):Uo:=.row [.str [k],.iface 45 (.agg [.str lo,.str hi])]
theorem qaP(hp:aG Pm)(hq:cI Q)(b:UInt8)(lo hi:By):gF ah M Q Pm 106 [.int .u8 b.toNat,.iface 45 (.agg [.str lo,.str hi])] [] 0=some (.iface 191 (.ptr 0 0),[oF b lo hi],0):=by
 refine bq hp rfl rfl ?_;simp[nv,Aq,Ah,hq,pJ,kr,iQ,t167 hp [b] 45 (.agg [.str lo,.str hi]) (by simp),oF]
section
variable{h:List Uo}{fl c t i m cl:Nat}{ms:List bL}
theorem lt0{i:Nat}{h:List Uo}{o:Uo}(hi:h[i]? =some o):decide (i<h.length)=true:=decide_eq_true (cz.1 hi).1
theorem sW(hp:aG Pm)(hq:cI Q){r:Rn}{key:By}(hk:kS M Q Pm r key 0)(hc:iO h c t i m ms cl)(hf:fl≤h.length):gF ah M Q Pm 105 [.ptr c 0,.agg (bg r)] h fl=some (.aP [.str key,.aK],h,fl):=by
 refine bq hp rfl rfl ?_;have h106:=SV (M:=M) hp hq r.k;simp only[kS,bg,bJ]at hk;simp[p8,EY,Fc,ET,bg,bJ,bl hc.row,hq,hk,bn EC,yf,Ws hp,h106,ez hf,hY]
theorem uW(hp:aG Pm)(hq:cI Q){r:Rn}{key:By}{e:Int}(he:e≠0)(hk:kS M Q Pm r key e)(hc:iO h c t i m ms cl)(hf:fl≤h.length):gF ah M Q Pm 105 [.ptr c 0,.agg (bg r)] h fl=some (.aP [.str key,.iface 191 (.ptr (h.length+1) 0)],h++[.row (bg r),cW r.k e],fl):=by
 refine bq hp rfl rfl ?_;simp only[kS,bg,bJ]at hk;simp[p8,EY,Fc,ET,bg,bJ,cW,bl hc.row,hq,hk,bn EC,yf,t107 hp e he,od hp hq,ez hf,hY]
inductive GA where
 |err (f:Uo)
 |val (d:Option By)
def eG(ms:List bL)(g:By→Option (Option By))(k:By):Option (Option By):=match di k ms with
 |some e=>some (if e.g=true then none else some e.d)
 |none=>g k
def kY(r:Rn)(key:By)(e:Int)(a:Option (Option By)):GA:=if e=0 then(match a with|none=> .err (oF r.k key key)|some v=> .val v)else .err (cW r.k e)
def I9(F:FU)(f:Nat)(us:List U)(h:List Uo)(fl:Nat)(z:U→U)(o:Uo):Prop:=∃ X p,F f us h fl=some (z (.iface 191 (.ptr p 0)),h++X,fl)∧h.length≤p∧(h++X)[p]? =some o
def kD(F:FU)(f:Nat)(us:List U)(h:List Uo)(fl:Nat):GA→Prop
 | .err o=>I9 F f us h fl (fun e=> .aP [.sl 1 [],.bool false,e]) o
 | .val d=>F f us h fl=some (.aP [.sl 1 (az (d.getD [])),.bool d.isSome,.aK],h,fl)
theorem x64(hp:aG Pm)(hq:cI Q)(hcl:Pm 49=some bU){Vp:List Uo→Prop}{g:By→Option (Option By)}{sc:By→By→Option (List Pr)}(hv:PK M Q Pm t i m Vp g sc){r:Rn}{key:By}{e:Int}(hk:kS M Q Pm r key e)(hc:iO h c t i m ms cl)(hV:Vp h)(hf:fl≤h.length):
  kD (gF ah M Q Pm) 64 [.ptr c 0,.agg (bg r)] h fl (kY r key e (eG ms g key)):=by
 have hd1:=l7 hc.row;have hlc:=(cz.1 hc.row).1;by_cases he:e=0
 ·subst he;have c105:=sW (M:=M) hp hq hk (hc.app [.row (bg r)]) (fl:=fl) (by simp;omega);simp only[kY,if_true,eG];have hlk:=fun z s hs=>(Ax key ms cl m z s hs).1;simp only[bg,bJ]at c105;have hcu:=fun l=>ez hf l;cases hce:di key ms with
  |some ec=>
   have hm:=B8 hce;have hdl:=hc.ok.dat ec hm;have hgn:=hc.ok.gone ec hm;simp only[hce]at hlk;have hres:gF ah M Q Pm 64 [.ptr c 0,.agg (bg r)] h fl=some (.aP [.sl 1 (az ec.d),.bool (!ec.g),.aK],h,fl):=by
    refine bq hp rfl rfl ?_;simp[mg,A0,zC,Bf,CF,CS,bg,bJ,hq,c105,hd1,bl hc.row,bl hc.map,hlk,Gc,bn qcZ,Q2,t49 hcl _ hdl,bH,hcu,hY]
   cases hg:ec.g with
   |true=>rw[hg]at hres;simpa[kD,hg,hgn hg,aB]using hres
   |false=>rw[hg]at hres;simpa[kD,hg]using hres
  |none=>
   simp only[hce]at hlk;obtain⟨f,hM,hG⟩:=hv.mG;have hg:=hG (h++[.row (bg r),.row [.bool false,.sl 1 []]]) fl key (hv.app _ _ hV) (by simp;omega);have hdi:=decide_eq_true (show i<h.length+2 by have:=hv.lt h hV;omega);simp only[bg,bJ]at hg;cases ha:g key with
   |none=>
    simp only[ha,vgR]at hg;refine⟨[.row (bg r),.row [.bool false,.sl 1 []],oF r.k key key],h.length+2,bq hp rfl rfl ?_,by omega,by simp⟩;have h106:=qaP (M:=M) hp hq r.k key key;simp only[oF]at h106⊢;simp[mg,A0,zC,Bf,CF,CS,GR,Hg,Q0,bg,bJ,hq,c105,hd1,hdi,bl hc.row,bl hc.map,hlk,Gc,hM,hg,h106,bH,hcu]
   |some v=>
    cases v with
    |none=>
     simp only[ha,vgR]at hg;refine bq hp rfl rfl ?_;simp[mg,A0,zC,Bf,CF,CS,GR,Hg,JU,bg,bJ,hq,c105,hd1,hdi,bl hc.row,bl hc.map,hlk,Gc,hM,hg,hcu,aB]
    |some d=>
     simp only[ha,vgR]at hg;refine bq hp rfl rfl ?_;simp[mg,A0,zC,Bf,CF,CS,GR,Hg,JU,bg,bJ,hq,c105,hd1,hdi,bl hc.row,bl hc.map,hlk,Gc,hM,hg,hcu]
 ·have c105:=uW (M:=M) hp hq he hk (hc.app [.row (bg r)]) (fl:=fl) (by simp;omega);simp only[kY,he,if_false];refine⟨[.row (bg r),.row (bg r),cW r.k e],h.length+2,bq hp rfl rfl ?_,by omega,by simp⟩;simp[bg,bJ,cW]at c105;simp[mg,A0,zC,Bf,qbV,bg,bJ,cW,hq,c105,hd1]
end
def O4(ms:List bL)(cl:Nat)(k:By)(g:Bool)(d:By):Uo:=.map ((uD k g d cl ms).map iS) (yd k cl ms)
section
variable{h:List Uo}{fl c t i m cl:Nat}{ms:List bL}
theorem zO(hp:aG Pm)(hq:cI Q)(hcl:Pm 49=some bU){r:Rn}{key d:By}(hk:kS M Q Pm r key 0)(hd:d.length<small)(hc:iO h c t i m ms cl)(hf:fl≤h.length):
  gF ah M Q Pm 66 [.ptr c 0,.agg (bg r),.sl 1 (az d)] h fl=some (.aK,h.set m (O4 ms cl key false d),fl):=by
 refine bq hp rfl rfl ?_;have hd1:=l7 hc.row;have c105:=sW (M:=M) hp hq hk (hc.app [.row (bg r)]) (fl:=fl) (by simp;omega);have hmu:=NK key false d ms cl m;have hso:=fun l x=>dO (l:=l) (x:=x) hc.map;have hcs:=fun x l=>kz hf m x l;simp only[bg,bJ]at c105;simp[vp,QX,Tp,Wy,TU,bg,bJ,hq,c105,hd1,bl hc.row,bl hc.map,bn qeR,QG,t49 hcl d hd,bH,hmu,hso,hcs,O4,hY]
theorem qeG(hp:aG Pm)(hq:cI Q){r:Rn}{key d:By}{e:Int}(he:e≠0)(hk:kS M Q Pm r key e)(hc:iO h c t i m ms cl)(hf:fl≤h.length):
  I9 (gF ah M Q Pm) 66 [.ptr c 0,.agg (bg r),.sl 1 (az d)] h fl (fun e=>e) (cW r.k e):=by
 have hd1:=l7 hc.row;have c105:=uW (M:=M) hp hq he hk (hc.app [.row (bg r)]) (fl:=fl) (by simp;omega);refine⟨[.row (bg r),.row (bg r),cW r.k e],h.length+2,bq hp rfl rfl ?_,by omega,by simp⟩;simp[bg,bJ,cW]at c105;simp[vp,QX,Tp,Wy,TU,bg,bJ,cW,hq,c105,hd1]
theorem Lw(hp:aG Pm)(hq:cI Q){r:Rn}{key:By}(hk:kS M Q Pm r key 0)(hc:iO h c t i m ms cl)(hf:fl≤h.length):
  gF ah M Q Pm 67 [.ptr c 0,.agg (bg r)] h fl=some (.aK,h.set m (O4 ms cl key true []),fl):=by
 refine bq hp rfl rfl ?_;have hd1:=l7 hc.row;have c105:=sW (M:=M) hp hq hk (hc.app [.row (bg r)]) (fl:=fl) (by simp;omega);have hmu:=NK key true [] ms cl m;have hso:=fun l x=>dO (l:=l) (x:=x) hc.map;have hcs:=fun x l=>kz hf m x l;simp only[bg,bJ,aB]at c105 hmu;simp[uk,S2,Uw,UF,qb1,VU,bg,bJ,hq,c105,hd1,bl hc.row,bl hc.map,hmu,hso,hcs,O4]
theorem qcU(hp:aG Pm)(hq:cI Q){r:Rn}{key:By}{e:Int}(he:e≠0)(hk:kS M Q Pm r key e)(hc:iO h c t i m ms cl)(hf:fl≤h.length):
  I9 (gF ah M Q Pm) 67 [.ptr c 0,.agg (bg r)] h fl (fun e=>e) (cW r.k e):=by
 have hd1:=l7 hc.row;have c105:=uW (M:=M) hp hq he hk (hc.app [.row (bg r)]) (fl:=fl) (by simp;omega);refine⟨[.row (bg r),.row (bg r),cW r.k e],h.length+2,bq hp rfl rfl ?_,by omega,by simp⟩;simp[bg,bJ,cW]at c105;simp[uk,S2,Uw,UF,VU,bg,bJ,cW,hq,c105,hd1]
inductive SA where
 |err (f:Uo)
 |put (k:By) (g:Bool) (d:By)
def tu(F:FU)(f:Nat)(us:List U)(h:List Uo)(fl m:Nat)(ms:List bL)(cl:Nat):SA→Prop
 | .err o=>I9 F f us h fl (fun e=>e) o
 | .put k g d=>F f us h fl=some (.aK,h.set m (O4 ms cl k g d),fl)
def H8(r:Rn)(key:By)(e:Int)(d:By):SA:=if e=0 then(if d=[]then .err (cW r.k 1)else .put key false d)else .err (cW r.k e)
theorem qgN(hp:aG Pm)(hq:cI Q)(hcl:Pm 49=some bU){r:Rn}{key d:By}{e:Int}(hk:kS M Q Pm r key e)(hd:d.length<small)(hc:iO h c t i m ms cl)(hf:fl≤h.length):
  tu (gF ah M Q Pm) 122 [.ptr c 0,.agg (bg r),.sl 1 (az d)] h fl m ms cl (H8 r key e d):=by
 have hd1:=l7 hc.row;have hcu:=fun l=>ez hf l;by_cases he:e=0
 ·subst he;have c105:=sW (M:=M) hp hq hk (hc.app [.row (bg r)]) (fl:=fl) (by simp;omega);simp only[bg,bJ]at c105;simp only[H8,if_true];cases d with
  |nil=>
   simp only[if_true];refine⟨[.row (bg r),cW r.k 1],h.length+1,bq hp rfl rfl ?_,by omega,by simp⟩;simp[pR,Es,Ed,DL,KC,bn qam,M0,bg,bJ,cW,hq,c105,hd1,aB,t107 hp 1 (by decide),od hp hq,hY]
  |cons b r' =>
   have c66:=zO (M:=M) hp hq hcl hk hd (hc.app [.row (bg r)]) (fl:=fl) (by simp;omega);simp only[bg,bJ,dO hc.map]at c66;have hcs:=fun x l=>kz hf m x l;rw[if_neg (by simp)];refine bq hp rfl rfl ?_;have hl:¬((r'.length:Int)+1=0):=by omega
   simp[pR,Es,Ed,DL,KC,SI,bg,bJ,hq,c105,hd1,hl,c66,hcs]
 ·have c105:=uW (M:=M) hp hq he hk (hc.app [.row (bg r)]) (fl:=fl) (by simp;omega);simp only[H8,he,if_false];refine⟨[.row (bg r),.row (bg r),cW r.k e],h.length+2,bq hp rfl rfl ?_,by omega,by simp⟩;simp[bg,bJ,cW]at c105;simp[pR,Es,Ed,DL,Uv,bg,bJ,cW,hq,c105,hd1]
end
structure Vl where
 k:Int
 n:Int
 s:By
def jw(v:Vl):List U:=br v.k v.n v.s
inductive TA(α:Type) where
 |err (f:Uo)
 |no
 |yes (x:α)
def cB{α:Type}(r:Rn)(T:By→α×Int):GA→TA α
 | .err f=> .err f
 | .val none=> .no
 | .val (some d)=>if(T d).2=0 then .yes (T d).1 else .err (cW r.k (T d).2)
def bN{α:Type}(F:FU)(f:Nat)(us:List U)(h:List Uo)(fl:Nat)(z:U)(C:α→U):TA α→Prop
 | .err o=>I9 F f us h fl (fun e=> .aP [z,.bool false,e]) o
 | .no=>F f us h fl=some (.aP [z,.bool false,.aK],h,fl)
 | .yes x=>F f us h fl=some (.aP [C x,.bool true,.aK],h,fl)
def GA.gb:GA→Prop
 | .val (some d)=>d.length<small
 |_=>True
theorem wM{ms:List bL}{cl:Nat}{t i m:Nat}{Vp:List Uo→Prop}{g:By→Option (Option By)}{sc:By→By→Option (List Pr)}(hv:PK M Q Pm t i m Vp g sc)(hok:oT ms cl)(r:Rn)(key:By)(e:Int):(kY r key e (eG ms g key)).gb:=by
 unfold kY eG;split
 ·cases hce:di key ms with
  |some ec=>
   have hm:=B8 hce;have hdl:=hok.dat ec hm;simp only;cases ec.g<;>simp[GA.gb,hdl]
  |none=>
   cases ha:g key with
   |none=>simp[GA.gb]
   |some v=>
    cases v with
    |none=>simp[GA.gb]
    |some d=>simpa[GA.gb]using hv.dat key d ha
 ·simp[GA.gb]
section
variable{h:List Uo}{fl c t i m cl:Nat}{ms:List bL}
theorem js(h l:List Uo)(n:Nat):(h++l)[h.length+n]? =l[n]? :=by rw[gf (by omega),s9]
theorem jS(h l:List Uo)(n:Nat)(x:Uo):(h++l).set (h.length+n) x=h++l.set n x:=by rw[List.set_append_right _ _ (by omega),s9]
theorem x98(hp:aG Pm)(hq:cI Q)(r:Rn){a:GA}(T:By→In×Int)(hT:∀ d,d.length<small→gF ah M Q Pm 100 [.sl 1 (az d)] [] 0=some (.aP [.agg (kG (T d).1),.int .i64 (T d).2],[],0))(hfew:a.gb)(hc:iO h c t i m ms cl)(hf:fl≤h.length)
  (hG:kD (gF ah M Q Pm) 64 [.ptr c 0,.agg (bg r)] (h++[.row (bg r),.row bt,.row bt]) fl a):bN (gF ah M Q Pm) 98 [.ptr c 0,.agg (bg r),.func 100 [] []] h fl (.agg bt) (fun x=> .agg (kG x)) (cB r T a):=by
 have hd1:=l7 hc.row;have hcu:=fun l=>ez hf l;cases a with
 |err o=>
  obtain⟨X,p,e1,h1,h2⟩:=hG;simp at h1;have hdp:decide (p<h.length)=false:=decide_eq_false (by omega);refine⟨.row (bg r)::.row bt::.row bt::X,p,bq hp rfl rfl ?_,by omega,by simpa using h2⟩;simp[bg,bJ,bt]at e1;simp[og,Dz,CT,C8,DA,Oa,bg,bJ,bt,hq,e1,hd1,hdp]
 |val v=>
  cases v with
  |none=>
   simp[kD,bg,bJ,bt,aB]at hG;refine bq hp rfl rfl ?_;simp[og,Dz,CT,C8,DA,Oa,bg,bJ,bt,hq,hG,hd1,hcu]
  |some d=>
   have e2:=hT d hfew;simp[kD,bg,bJ,bt]at hG;simp only[cB];generalize T d=y at e2;obtain⟨x,e⟩:=y;simp only[kG,jw,br]at e2;by_cases he:e=0
   ·simp only[he,if_true];refine bq hp rfl rfl ?_;simp[og,Dz,CT,C8,DA,SF,VA,qcu,bg,bJ,bt,kG,jw,br,hq,hG,e2,he,hd1,hcu]
   ·simp only[he,if_false];refine⟨[.row (bg r),.row bt,.row bt,.row (kG x),cW r.k e],h.length+4,bq hp rfl rfl ?_,by omega,by rw[gf (by omega),s9];rfl⟩;have h107:=t107 (M:=M) (Q:=Q) hp e he;have h106:=od (M:=M) hp hq r.k e;simp[og,Dz,CT,C8,DA,SF,VA,bn qdE,QJ,bg,bJ,bt,kG,jw,br,cW,hq,hG,e2,he,h106,h107,hd1,hcu,js,jS,hY]
theorem qk6(hp:aG Pm)(hq:cI Q)(r:Rn){a:GA}(T:By→Tk×Int)(hT:∀ d,d.length<small→gF ah M Q Pm 114 [.sl 1 (az d)] [] 0=some (.aP [.agg (lI (T d).1),.int .i64 (T d).2],[],0))(hfew:a.gb)(hc:iO h c t i m ms cl)(hf:fl≤h.length)
  (hG:kD (gF ah M Q Pm) 64 [.ptr c 0,.agg (bg r)] (h++[.row (bg r),.row c8,.row c8]) fl a):bN (gF ah M Q Pm) 112 [.ptr c 0,.agg (bg r),.func 114 [] []] h fl (.agg c8) (fun x=> .agg (lI x)) (cB r T a):=by
 have hd1:=l7 hc.row;have hcu:=fun l=>ez hf l;cases a with
 |err o=>
  obtain⟨X,p,e1,h1,h2⟩:=hG;simp at h1;have hdp:decide (p<h.length)=false:=decide_eq_false (by omega);refine⟨.row (bg r)::.row c8::.row c8::X,p,bq hp rfl rfl ?_,by omega,by simpa using h2⟩;simp[bg,bJ,c8]at e1;simp[nh,zk,A4,z8,Bx,Ku,bg,bJ,c8,hq,e1,hd1,hdp]
 |val v=>
  cases v with
  |none=>
   simp[kD,bg,bJ,c8,aB]at hG;refine bq hp rfl rfl ?_;simp[nh,zk,A4,z8,Bx,Ku,bg,bJ,c8,hq,hG,hd1,hcu]
  |some d=>
   have e2:=hT d hfew;simp[kD,bg,bJ,c8]at hG;simp only[cB];generalize T d=y at e2;obtain⟨x,e⟩:=y;simp only[lI,jw,br]at e2;by_cases he:e=0
   ·simp only[he,if_true];refine bq hp rfl rfl ?_;simp[nh,zk,A4,z8,Bx,KA,JY,Xz,bg,bJ,c8,lI,jw,br,hq,hG,e2,he,hd1,hcu]
   ·simp only[he,if_false];refine⟨[.row (bg r),.row c8,.row c8,.row (lI x),cW r.k e],h.length+4,bq hp rfl rfl ?_,by omega,by rw[gf (by omega),s9];rfl⟩;have h107:=t107 (M:=M) (Q:=Q) hp e he;have h106:=od (M:=M) hp hq r.k e;simp[nh,zk,A4,z8,Bx,KA,JY,bn YB,Od,bg,bJ,c8,lI,jw,br,cW,hq,hG,e2,he,h106,h107,hd1,hcu,js,jS,hY]
theorem qhB(hp:aG Pm)(hq:cI Q)(r:Rn){a:GA}(T:By→Ar×Int)(hT:∀ d,d.length<small→gF ah M Q Pm 117 [.sl 1 (az d)] [] 0=some (.aP [.agg (bV (T d).1),.int .i64 (T d).2],[],0))(hfew:a.gb)(hc:iO h c t i m ms cl)(hf:fl≤h.length)
  (hG:kD (gF ah M Q Pm) 64 [.ptr c 0,.agg (bg r)] (h++[.row (bg r),.row bP,.row bP]) fl a):bN (gF ah M Q Pm) 115 [.ptr c 0,.agg (bg r),.func 117 [] []] h fl (.agg bP) (fun x=> .agg (bV x)) (cB r T a):=by
 have hd1:=l7 hc.row;have hcu:=fun l=>ez hf l;cases a with
 |err o=>
  obtain⟨X,p,e1,h1,h2⟩:=hG;simp at h1;have hdp:decide (p<h.length)=false:=decide_eq_false (by omega);refine⟨.row (bg r)::.row bP::.row bP::X,p,bq hp rfl rfl ?_,by omega,by simpa using h2⟩;simp[bg,bJ,bP]at e1;simp[nk,AR,AK,Bu,AE,Mc,bg,bJ,bP,hq,e1,hd1,hdp]
 |val v=>
  cases v with
  |none=>
   simp[kD,bg,bJ,bP,aB]at hG;refine bq hp rfl rfl ?_;simp[nk,AR,AK,Bu,AE,Mc,bg,bJ,bP,hq,hG,hd1,hcu]
  |some d=>
   have e2:=hT d hfew;simp[kD,bg,bJ,bP]at hG;simp only[cB];generalize T d=y at e2;obtain⟨x,e⟩:=y;simp only[bV,jw,br]at e2;by_cases he:e=0
   ·simp only[he,if_true];refine bq hp rfl rfl ?_;simp[nk,AR,AK,Bu,AE,I5,Jg,R6,bg,bJ,bP,bV,jw,br,hq,hG,e2,he,hd1,hcu]
   ·simp only[he,if_false];refine⟨[.row (bg r),.row bP,.row bP,.row (bV x),cW r.k e],h.length+4,bq hp rfl rfl ?_,by omega,by rw[gf (by omega),s9];rfl⟩;have h107:=t107 (M:=M) (Q:=Q) hp e he;have h106:=od (M:=M) hp hq r.k e;simp[nk,AR,AK,Bu,AE,I5,Jg,bn Y3,MC,bg,bJ,bP,bV,jw,br,cW,hq,hG,e2,he,h106,h107,hd1,hcu,js,jS,hY]
theorem qkW(hp:aG Pm)(hq:cI Q)(r:Rn){a:GA}(T:By→Vl×Int)(hT:∀ d,d.length<small→gF ah M Q Pm 120 [.sl 1 (az d)] [] 0=some (.aP [.agg (jw (T d).1),.int .i64 (T d).2],[],0))(hfew:a.gb)(hc:iO h c t i m ms cl)(hf:fl≤h.length)
  (hG:kD (gF ah M Q Pm) 64 [.ptr c 0,.agg (bg r)] (h++[.row (bg r),.row eD,.row eD]) fl a):bN (gF ah M Q Pm) 118 [.ptr c 0,.agg (bg r),.func 120 [] []] h fl (.agg eD) (fun x=> .agg (jw x)) (cB r T a):=by
 have hd1:=l7 hc.row;have hcu:=fun l=>ez hf l;cases a with
 |err o=>
  obtain⟨X,p,e1,h1,h2⟩:=hG;simp at h1;have hdp:decide (p<h.length)=false:=decide_eq_false (by omega);refine⟨.row (bg r)::.row eD::.row eD::X,p,bq hp rfl rfl ?_,by omega,by simpa using h2⟩;simp[bg,bJ,eD]at e1;simp[nq,AU,BO,zu,zv,KW,bg,bJ,eD,hq,e1,hd1,hdp]
 |val v=>
  cases v with
  |none=>
   simp[kD,bg,bJ,eD,aB]at hG;refine bq hp rfl rfl ?_;simp[nq,AU,BO,zu,zv,KW,bg,bJ,eD,hq,hG,hd1,hcu]
  |some d=>
   have e2:=hT d hfew;simp[kD,bg,bJ,eD]at hG;simp only[cB];generalize T d=y at e2;obtain⟨x,e⟩:=y;simp only[jw,jw,br]at e2;by_cases he:e=0
   ·simp only[he,if_true];refine bq hp rfl rfl ?_;simp[nq,AU,BO,zu,zv,Ky,Jv,Rg,bg,bJ,eD,jw,jw,br,hq,hG,e2,he,hd1,hcu]
   ·simp only[he,if_false];refine⟨[.row (bg r),.row eD,.row eD,.row (jw x),cW r.k e],h.length+4,bq hp rfl rfl ?_,by omega,by rw[gf (by omega),s9];rfl⟩;have h107:=t107 (M:=M) (Q:=Q) hp e he;have h106:=od (M:=M) hp hq r.k e;simp[nq,AU,BO,zu,zv,Ky,Jv,bn Yk,NR,bg,bJ,eD,jw,jw,br,cW,hq,hG,e2,he,h106,h107,hd1,hcu,js,jS,hY]
theorem qlr(hp:aG Pm)(hq:cI Q)(r:Rn){a:GA}(T:By→Int×Int)(hT:∀ d,d.length<small→gF ah M Q Pm 111 [.sl 1 (az d)] [] 0=some (.aP [.int .u64 (T d).1,.int .i64 (T d).2],[],0))(hfew:a.gb)(hc:iO h c t i m ms cl)(hf:fl≤h.length)
  (hG:kD (gF ah M Q Pm) 64 [.ptr c 0,.agg (bg r)] (h++[.row (bg r)]) fl a):bN (gF ah M Q Pm) 110 [.ptr c 0,.agg (bg r),.func 111 [] []] h fl (.int .u64 0) (fun x=> .int .u64 x) (cB r T a):=by
 have hd1:=l7 hc.row;have hcu:=fun l=>ez hf l;cases a with
 |err o=>
  obtain⟨X,p,e1,h1,h2⟩:=hG;simp at h1;have hdp:decide (p<h.length)=false:=decide_eq_false (by omega);refine⟨.row (bg r)::X,p,bq hp rfl rfl ?_,by omega,by simpa using h2⟩;simp[bg,bJ]at e1;simp[m9,zq,AS,Af,zV,Lh,bg,bJ,hq,e1,hd1,hdp]
 |val v=>
  cases v with
  |none=>
   simp[kD,bg,bJ,aB]at hG;refine bq hp rfl rfl ?_;simp[m9,zq,AS,Af,zV,Lh,bg,bJ,hq,hG,hd1,hcu]
  |some d=>
   have e2:=hT d hfew;simp[kD,bg,bJ]at hG;simp only[cB];generalize T d=y at e2;obtain⟨x,e⟩:=y;simp only at e2;by_cases he:e=0
   ·simp only[he,if_true];refine bq hp rfl rfl ?_;simp[m9,zq,AS,Af,zV,LI,LN,Vc,bg,bJ,hq,hG,e2,he,hd1,hcu]
   ·simp only[he,if_false];refine⟨[.row (bg r),cW r.k e],h.length+1,bq hp rfl rfl ?_,by omega,by simp⟩;have h107:=t107 (M:=M) (Q:=Q) hp e he;have h106:=od (M:=M) hp hq r.k e;simp[m9,zq,AS,Af,zV,LI,LN,bn Z6,Oh,bg,bJ,cW,hq,hG,e2,he,h106,h107,hd1,hcu,hY]
end
def eP(s:By):Rn:=⟨105,[],[],[],s,0,0,0⟩
def kI(s:By)(x:Nat):Rn:=⟨116,[],[],[],s,x,0,0⟩
def dJ(s:By)(x y:Nat):Rn:=⟨97,[],[],[],s,x,y,0⟩
def gA(s n:By):Rn:=⟨118,n,[],[],s,0,0,0⟩
section
variable{h:List Uo}{fl c t i m cl:Nat}{ms:List bL}
theorem x42(hp:aG Pm)(hq:cI Q){s:By}{a:TA In}(hc:iO h c t i m ms cl)(hf:fl≤h.length)
  (hT:bN (gF ah M Q Pm) 98 [.ptr c 0,.agg (bg (eP s)),.func 100 [] []] (h++[.row bt]) fl (.agg bt) (fun x=> .agg (kG x)) a):bN (gF ah M Q Pm) 42 [.ptr c 0,.str s] h fl (.agg bt) (fun x=> .agg (kG x)) a:=by
 have hd1:=l7 hc.row;have hcu:=fun l=>ez hf l;have hr:=t99 (M:=M) (Q:=Q) hp s
 try simp[vI,Kz,Ik,Kg]at hr
 cases a with
 |err o=>
  obtain⟨X,p,e1,h1,h2⟩:=hT;simp at h1;have hdp:decide (p<h.length)=false:=decide_eq_false (by omega);refine⟨.row bt::X,p,bq hp rfl rfl ?_,by omega,by simpa using h2⟩;simp[bg,bJ,eP,bt]at e1;simp[p6,GD,GK,bt,hq,hr,e1,hd1,hdp]
 |no=>
  simp[bN,bg,bJ,eP,bt]at hT;refine bq hp rfl rfl ?_;simp[p6,GD,GK,bt,hq,hr,hT,hd1,hcu]
 |yes x=>
  simp[bN,bg,bJ,eP,bt,kG,br]at hT;refine bq hp rfl rfl ?_;simp[p6,GD,GK,bt,kG,br,hq,hr,hT,hd1,hcu]
theorem x69(hp:aG Pm)(hq:cI Q){s:By}{x:Nat}{a:TA Tk}(hc:iO h c t i m ms cl)(hf:fl≤h.length)
  (hT:bN (gF ah M Q Pm) 112 [.ptr c 0,.agg (bg (kI s x)),.func 114 [] []] (h++[.row c8]) fl (.agg c8) (fun x=> .agg (lI x)) a):bN (gF ah M Q Pm) 69 [.ptr c 0,.str s,.int .u64 (x:Int)] h fl (.agg c8) (fun x=> .agg (lI x)) a:=by
 have hd1:=l7 hc.row;have hcu:=fun l=>ez hf l;have hr:=t113 (M:=M) (Q:=Q) hp s x
 try simp[vI,Kz,Ik,Kg]at hr
 cases a with
 |err o=>
  obtain⟨X,p,e1,h1,h2⟩:=hT;simp at h1;have hdp:decide (p<h.length)=false:=decide_eq_false (by omega);refine⟨.row c8::X,p,bq hp rfl rfl ?_,by omega,by simpa using h2⟩;simp[bg,bJ,kI,c8]at e1;simp[sn,MT,MV,c8,hq,hr,e1,hd1,hdp]
 |no=>
  simp[bN,bg,bJ,kI,c8]at hT;refine bq hp rfl rfl ?_;simp[sn,MT,MV,c8,hq,hr,hT,hd1,hcu]
 |yes x=>
  simp[bN,bg,bJ,kI,c8,lI,br]at hT;refine bq hp rfl rfl ?_;simp[sn,MT,MV,c8,lI,br,hq,hr,hT,hd1,hcu]
theorem x70(hp:aG Pm)(hq:cI Q){s:By}{x y:Nat}{a:TA Ar}(hc:iO h c t i m ms cl)(hf:fl≤h.length)
  (hT:bN (gF ah M Q Pm) 115 [.ptr c 0,.agg (bg (dJ s x y)),.func 117 [] []] (h++[.row bP]) fl (.agg bP) (fun x=> .agg (bV x)) a):bN (gF ah M Q Pm) 70 [.ptr c 0,.str s,.int .u64 (x:Int),.int .u64 (y:Int)] h fl (.agg bP) (fun x=> .agg (bV x)) a:=by
 have hd1:=l7 hc.row;have hcu:=fun l=>ez hf l;have hr:=t116 (M:=M) (Q:=Q) hp s x y
 try simp[vI,Kz,Ik,Kg]at hr
 cases a with
 |err o=>
  obtain⟨X,p,e1,h1,h2⟩:=hT;simp at h1;have hdp:decide (p<h.length)=false:=decide_eq_false (by omega);refine⟨.row bP::X,p,bq hp rfl rfl ?_,by omega,by simpa using h2⟩;simp[bg,bJ,dJ,bP]at e1;simp[rN,Nv,Na,bP,hq,hr,e1,hd1,hdp]
 |no=>
  simp[bN,bg,bJ,dJ,bP]at hT;refine bq hp rfl rfl ?_;simp[rN,Nv,Na,bP,hq,hr,hT,hd1,hcu]
 |yes x=>
  simp[bN,bg,bJ,dJ,bP,bV,br]at hT;refine bq hp rfl rfl ?_;simp[rN,Nv,Na,bP,bV,br,hq,hr,hT,hd1,hcu]
theorem x71(hp:aG Pm)(hq:cI Q){s n:By}{a:TA Vl}(hc:iO h c t i m ms cl)(hf:fl≤h.length)
  (hT:bN (gF ah M Q Pm) 118 [.ptr c 0,.agg (bg (gA s n)),.func 120 [] []] (h++[.row eD]) fl (.agg eD) (fun x=> .agg (jw x)) a):bN (gF ah M Q Pm) 71 [.ptr c 0,.str s,.str n] h fl (.agg eD) (fun x=> .agg (jw x)) a:=by
 have hd1:=l7 hc.row;have hcu:=fun l=>ez hf l;have hr:=t119 (M:=M) (Q:=Q) hp s n
 try simp[vI,Kz,Ik,Kg]at hr
 cases a with
 |err o=>
  obtain⟨X,p,e1,h1,h2⟩:=hT;simp at h1;have hdp:decide (p<h.length)=false:=decide_eq_false (by omega);refine⟨.row eD::X,p,bq hp rfl rfl ?_,by omega,by simpa using h2⟩;simp[bg,bJ,gA,eD]at e1;simp[qQ,Nt,Mz,eD,hq,hr,e1,hd1,hdp]
 |no=>
  simp[bN,bg,bJ,gA,eD]at hT;refine bq hp rfl rfl ?_;simp[qQ,Nt,Mz,eD,hq,hr,hT,hd1,hcu]
 |yes x=>
  simp[bN,bg,bJ,gA,eD,jw,br]at hT;refine bq hp rfl rfl ?_;simp[qQ,Nt,Mz,eD,jw,br,hq,hr,hT,hd1,hcu]
theorem x68(hp:aG Pm)(hq:cI Q){r:Rn}{a:TA Int}(hc:iO h c t i m ms cl)(hf:fl≤h.length)
  (hT:bN (gF ah M Q Pm) 110 [.ptr c 0,.agg (bg r),.func 111 [] []] (h++[.row (bg r)]) fl (.int .u64 0) (fun x=> .int .u64 x) a):bN (gF ah M Q Pm) 68 [.ptr c 0,.agg (bg r)] h fl (.int .u64 0) (fun x=> .int .u64 x) a:=by
 have hd1:=l7 hc.row;have hcu:=fun l=>ez hf l;cases a with
 |err o=>
  obtain⟨X,p,e1,h1,h2⟩:=hT;simp at h1;have hdp:decide (p<h.length)=false:=decide_eq_false (by omega);refine⟨.row (bg r)::X,p,bq hp rfl rfl ?_,by omega,by simpa using h2⟩;simp[bg,bJ]at e1;simp[sA,OC,OE,bg,bJ,hq,e1,hd1,hdp]
 |no=>
  simp[bN,bg,bJ]at hT;refine bq hp rfl rfl ?_;simp[sA,OC,OE,bg,bJ,hq,hT,hd1,hcu]
 |yes x=>
  simp[bN,bg,bJ]at hT;refine bq hp rfl rfl ?_;simp[sA,OC,OE,bg,bJ,hq,hT,hd1,hcu]
theorem x72(hp:aG Pm)(hq:cI Q){s:By}{x:In}{b:By}(hb:gF ah M Q Pm 123 [.agg (kG x)] [] 0=some (.own .r 1 (az b),[],0)){a:SA}(hc:iO h c t i m ms cl)(hf:fl≤h.length)
  (hS:tu (gF ah M Q Pm) 122 [.ptr c 0,.agg (bg (eP s)),.sl 1 (az b)] (h++[.row (kG x)]) fl m ms cl a):tu (gF ah M Q Pm) 72 [.ptr c 0,.str s,.agg (kG x)] h fl m ms cl a:=by
 have hd1:=l7 hc.row;have hr:=t99 (M:=M) (Q:=Q) hp s;simp only[kG]at hb;cases a with
 |err o=>
  obtain⟨X,p,e1,h1,h2⟩:=hS;simp at h1;have hdp:decide (p<h.length)=false:=decide_eq_false (by omega);refine⟨.row (kG x)::X,p,bq hp rfl rfl ?_,by omega,by simpa using h2⟩;simp[bg,bJ,eP,kG]at e1;simp[uQ,Vu,bn VE,KU,kG,hq,hr,hb,e1,hd1,hdp,bH,hY]
 |put k g d=>
  have hcs:=fun x l=>kz hf m x l;simp[tu,bg,bJ,eP,kG,dO hc.map]at hS;refine bq hp rfl rfl ?_;simp[uQ,Vu,bn VE,KU,kG,hq,hr,hb,hS,hd1,hcs,bH,hY]
theorem x73(hp:aG Pm)(hq:cI Q){s:By}{y:Nat}{x:Tk}{b:By}(hb:gF ah M Q Pm 124 [.agg (lI x)] [] 0=some (.own .r 1 (az b),[],0)){a:SA}(hc:iO h c t i m ms cl)(hf:fl≤h.length)
  (hS:tu (gF ah M Q Pm) 122 [.ptr c 0,.agg (bg (kI s y)),.sl 1 (az b)] (h++[.row (lI x)]) fl m ms cl a):tu (gF ah M Q Pm) 73 [.ptr c 0,.str s,.int .u64 (y:Int),.agg (lI x)] h fl m ms cl a:=by
 have hd1:=l7 hc.row;have hr:=t113 (M:=M) (Q:=Q) hp s y;simp[vI,Kz]at hr;simp only[lI]at hb;cases a with
 |err o=>
  obtain⟨X,p,e1,h1,h2⟩:=hS;simp at h1;have hdp:decide (p<h.length)=false:=decide_eq_false (by omega);refine⟨.row (lI x)::X,p,bq hp rfl rfl ?_,by omega,by simpa using h2⟩;simp[bg,bJ,kI,lI]at e1;simp[vO,VL,bn UI,Kd,lI,hq,hr,hb,e1,hd1,hdp,bH,hY]
 |put k g d=>
  have hcs:=fun x l=>kz hf m x l;simp[tu,bg,bJ,kI,lI,dO hc.map]at hS;refine bq hp rfl rfl ?_;simp[vO,VL,bn UI,Kd,lI,hq,hr,hb,hS,hd1,hcs,bH,hY]
end
abbrev Cg:=By×Bool×By
abbrev Ms:=List bL×Nat
def cx(t:Ms)(w:Cg):Ms:=(uD w.1 w.2.1 w.2.2 t.2 t.1,yd w.1 t.2 t.1)
def mb(t:Ms):Uo:=.map (t.1.map iS) t.2
inductive PA where
 |err (f:Uo)
 |lU (l:List Cg)
def gQ(F:FU)(f:Nat)(us:List U)(h:List Uo)(fl m:Nat)(t:Ms):PA→Prop
 | .err o=>I9 F f us h fl (fun e=>e) o
 | .lU l=>F f us h fl=some (.aK,h.set m (mb (l.foldl cx t)),fl)
def SA.all:SA→PA
 | .err f=> .err f
 | .put k g d=> .lU [(k,g,d)]
theorem tu.all{F:FU}{f:Nat}{us:List U}{h:List Uo}{fl m:Nat}{ms:List bL}{cl:Nat}{a:SA}(hs:tu F f us h fl m ms cl a):gQ F f us h fl m (ms,cl) a.all:=by
 cases a with
 |err o=>exact hs
 |put k g d=>exact hs
theorem iO.set{h:List Uo}{c t i m:Nat}{ms:List bL}{cl:Nat}(hc:iO h c t i m ms cl)(k:By)(g:Bool)(d:By)(hd:d.length<small)(hg:g=true→d=[])(hk:k.length<small):iO (h.set m (mb (cx (ms,cl) (k,g,d)))) c t i m (uD k g d cl ms) (yd k cl ms):=by
 have hcm:c≠m:=fun hh=>by have h1:=hc.row;have h2:=hc.map;rw[hh,h2]at h1;cases h1
 refine⟨by rw[List.getElem?_set_ne (Ne.symm hcm)];exact hc.row,by rw[List.getElem?_set_self (cz.1 hc.map).1];rfl,hc.ok.set k g d hd hg hk⟩
theorem iO.self{h:List Uo}{c t i m:Nat}{ms:List bL}{cl:Nat}(hc:iO h c t i m ms cl):h.set m (mb (ms,cl))=h:=by
 obtain⟨h1,h2⟩:=cz.1 hc.map;have:mb (ms,cl)=h[m]:=h2.symm;rw[this];exact List.set_getElem_self h1
section
variable{h:List Uo}{fl c t i m cl:Nat}{ms:List bL}
theorem x74(hp:aG Pm)(hq:cI Q)(hcl:Pm 49=some bU){s:By}{x:Vr}{key:By}{e e2:Int}{b:By}(hk:kS M Q Pm (gA s x.name) key e)(h125:gF ah M Q Pm 125 [.agg (br x.kind x.n x.s)] [] 0=some (.int .i64 e2,[],0))
  (h126:gF ah M Q Pm 126 [.agg (br x.kind x.n x.s)] [] 0=some (.own .r 1 (az b),[],0)) (hb:b.length<small) (hc:iO h c t i m ms cl) (hf:fl≤h.length):
  tu (gF ah M Q Pm) 74 [.ptr c 0,.str s,.agg (nG x)] h fl m ms cl (if e=0 then(if e2=0 then .put key false b else .err (cW 118 e2))else .err (cW 118 e)):=by
 have hd1:=l7 hc.row;have hr:=t119 (M:=M) (Q:=Q) hp s x.name;simp[vI,Kg]at hr;simp only[br]at h125 h126;by_cases he:e=0
 ·subst he;have c105:=sW (M:=M) hp hq hk (hc.app [.row (nG x),.row (bg (gA s x.name))]) (fl:=fl) (by simp;omega);simp[bg,bJ,gA,nG]at c105;simp only[if_true];by_cases h2:e2=0
  ·subst h2;have c66:=zO (M:=M) hp hq hcl hk hb (hc.app [.row (nG x),.row (bg (gA s x.name))]) (fl:=fl) (by simp;omega);simp[bg,bJ,gA,nG,dO hc.map]at c66;have hcs:=fun x l=>kz hf m x l;refine bq hp rfl rfl ?_;simp[si,M4,OO,Mn,OD,T5,Sj,bn qeV,Sd,nG,hq,hr,c105,h125,h126,c66,hd1,hcs,bH,hY]
  ·simp only[h2,if_false];have h107:=t107 (M:=M) (Q:=Q) hp e2 h2;have h106:=od (M:=M) hp hq 118 e2;simp at h106;refine⟨[.row (nG x),.row (bg (gA s x.name)),cW 118 e2],h.length+2,bq hp rfl rfl ?_,by omega,by simp⟩;simp[si,M4,OO,Mn,OD,T5,Sj,bn qek,WW,nG,bg,bJ,gA,cW,hq,hr,c105,h125,h2,h106,h107,hd1,hY]
 ·have c105:=uW (M:=M) hp hq he hk (hc.app [.row (nG x),.row (bg (gA s x.name))]) (fl:=fl) (by simp;omega);simp only[he,if_false];refine⟨[.row (nG x),.row (bg (gA s x.name)),.row (bg (gA s x.name)),cW 118 e],h.length+3,bq hp rfl rfl ?_,by omega,by rw[js];rfl⟩;simp[bg,bJ,gA,nG,cW]at c105;simp[si,M4,OO,Mn,OD,qct,nG,bg,bJ,gA,cW,hq,hr,c105,hd1]
def jF(ka:By)(kx:Ar→By):TA Ar→PA
 | .err f=> .err f
 | .no=> .lU []
 | .yes x=> .lU [(ka,true,[]),(kx x,true,[])]
theorem x76(hp:aG Pm)(hq:cI Q){s:By}{y z:Nat}{ka:By}{kx:Ar→By}(hka:kS M Q Pm (dJ s y z) ka 0)(hla:ka.length<small){a:TA Ar}
  (hkx:∀ x,a=.yes x→BV x∧∃ d:Nat,x.due=(d:Int)∧∃ r:Rn,X3 s y z x d=bg r∧kS M Q Pm r (kx x) 0) (hc:iO h c t i m ms cl) (hf:fl≤h.length)
  (hT:bN (gF ah M Q Pm) 70 [.ptr c 0,.str s,.int .u64 (y:Int),.int .u64 (z:Int)] h fl (.agg bP) (fun x=> .agg (bV x)) a):
  gQ (gF ah M Q Pm) 76 [.ptr c 0,.str s,.int .u64 (y:Int),.int .u64 (z:Int)] h fl m (ms,cl) (jF ka kx a):=by
 have hd0:=lt0 hc.row;have hd1:=l7 hc.row;have hcu:=fun l=>ez hf l;have hcc:=b9 hf;have hr:=t116 (M:=M) (Q:=Q) hp s y z;simp[vI,Ik]at hr;cases a with
 |err o=>
  obtain⟨X,p,e1,h1,h2⟩:=hT;have hdp:decide (p<h.length)=false:=decide_eq_false (by omega);have hpl:=(cz.1 h2).1;refine⟨X++[.row bP],p,bq hp rfl rfl ?_,h1,by rw[←ow];exact bl h2⟩;simp[bP]at e1;have q1:∀ o:Uo,(h++(X++[o]))[h.length+X.length]? =some o:=fun o=>by rw[←ow,←oC];simp
  have q2:∀ o x:Uo,(h++(X++[o])).set (h.length+X.length) x=h++(X++[x]):=fun o x=>by rw[←ow,←oC,qf7,ow]
  simp[rX,Ou,OJ,Nd,T9,bP,hq,e1,hd0,hd1,hdp,q1,q2]
 |no=>
  simp[bN,bP]at hT;simp only[jF,gQ,List.foldl_nil,hc.self];refine bq hp rfl rfl ?_;simp[rX,Ou,OJ,Nd,T9,bP,hq,hT,hd0,hcu]
 |yes x=>
  obtain⟨hK,d,hdu,r,hir,hkr⟩:=hkx x rfl;have h129:=t129 (M:=M) (Q:=Q) hp s y z x d hdu hK;rw[hir]at h129;simp[bN]at hT;have c1:=Lw (M:=M) hp hq hka (hc.app [.row (bV x)]) (fl:=fl) (by simp;omega);simp only[dO hc.map]at c1;have hc2:=hc.set ka true [] (by decide) (fun _=>rfl) hla;have c2:=Lw (M:=M) hp hq hkr (hc2.app [.row (bV x)]) (fl:=fl) (by simp;omega);simp only[dO hc2.map,List.set_set]at c2;have hlen:(h.set m (mb (cx (ms,cl) (ka,true,[])))).length=h.length:=by simp
  have a0:=Wp (h.set m (mb (cx (ms,cl) (ka,true,[]))));rw[hlen]at a0;have hcs:=fun x l=>kz hf m x l;simp only[jF,gQ,List.foldl_cons,List.foldl_nil];have e1:mb (cx (cx (ms,cl) (ka,true,[])) (kx x,true,[]))=O4 (uD ka true [] cl ms) (yd ka cl ms) (kx x) true []:=rfl;have e2:mb (cx (ms,cl) (ka,true,[]))=O4 ms cl ka true []:=rfl;rw[e1];rw[e2]at c2 a0;have h128:=t128 (M:=M) (Q:=Q) hp;generalize O4 (uD ka true [] cl ms) (yd ka cl ms) (kx x) true []=W2 at*;generalize O4 ms cl ka true []=W1 at*;have hdm1:decide (c<(h.set m W1).length+1)=true:=by simpa using hd1 1
  refine bq hp rfl rfl ?_;simp[bg,bJ,dJ,bV]at c1 c2 hT h129 a0;simp[rX,Ou,OJ,Nd,bn qdP,Vq,bP,bV,hq,hr,hT,hd0,hd1,c1,c2,a0,h128,h129,hcs,hcu,U.same,hY]
end
def Eu(w:Cg):Prop:=w.2.2.length<small∧(w.2.1=true→w.2.2=[])∧w.1.length<small
section
variable{h:List Uo}{fl c t i m:Nat}
theorem iO.sets:∀ {l:List Cg} {h:List Uo} {ms:List bL} {cl:Nat},iO h c t i m ms cl→(∀ w∈l,Eu w)→iO (h.set m (mb (l.foldl cx (ms,cl)))) c t i m (l.foldl cx (ms,cl)).1 (l.foldl cx (ms,cl)).2:=by
 intro l
 induction l with
 |nil=>intro h ms cl hc _;rw[List.foldl_nil,hc.self];exact hc
 |cons w l ih=>
  intro h ms cl hc hl;have hw:=hl w k7;have h1:=hc.set w.1 w.2.1 w.2.2 hw.1 hw.2.1 hw.2.2;have h2:=ih h1 (fun v hv=>hl v (ki _ hv));rw[List.set_set]at h2;exact h2
variable{cl:Nat}{ms:List bL}
def fP(b:By)(ka kx:By):PA→PA
 | .err f=>if b=[]then .err (cW 97 1)else .err f
 | .lU l=>if b=[]then .err (cW 97 1)else .lU (l++[(ka,false,b),(kx,false,[])])
theorem x75(hp:aG Pm)(hq:cI Q)(hcl:Pm 49=some bU){s:By}{y z:Nat}{x:Ar}{ka kx b:By}(hka:kS M Q Pm (dJ s y z) ka 0)(hla:ka.length<small)(h127:gF ah M Q Pm 127 [.agg (bV x)] [] 0=some (.own .r 1 (az b),[],0))(hb:b.length<small)
  (hkx:b≠[]→BV x∧∃ d:Nat,x.due=(d:Int)∧∃ r:Rn,X3 s y z x d=bg r∧kS M Q Pm r kx 0) {a:PA} (ha:∀ l,a=.lU l→∀ w∈l,Eu w) (hc:iO h c t i m ms cl) (hf:fl≤h.length)
  (hD:gQ (gF ah M Q Pm) 76 [.ptr c 0,.str s,.int .u64 (y:Int),.int .u64 (z:Int)] (h++[.row (bV x),.row (bg (dJ s y z))]) fl m (ms,cl) a):
  gQ (gF ah M Q Pm) 75 [.ptr c 0,.str s,.int .u64 (y:Int),.int .u64 (z:Int),.agg (bV x)] h fl m (ms,cl) (fP b ka kx a):=by
 have hd1:=l7 hc.row;have hcu:=fun l=>ez hf l;have hr:=t116 (M:=M) (Q:=Q) hp s y z;simp[vI,Ik]at hr;have c105:=sW (M:=M) hp hq hka (hc.app [.row (bV x),.row (bg (dJ s y z))]) (fl:=fl) (by simp;omega);simp[bg,bJ,dJ,bV]at c105;simp only[bV]at h127;cases b with
 |nil=>
  have h107:=t107 (M:=M) (Q:=Q) hp 1 (by decide);have h106:=od (M:=M) hp hq 97 1;simp at h106;have hA:fP [] ka kx a=.err (cW 97 1):=by cases a<;>rfl
  rw[hA];refine⟨[.row (bV x),.row (bg (dJ s y z)),cW 97 1],h.length+2,bq hp rfl rfl ?_,by omega,by simp⟩;simp[rT,M3,Ow,Np,Ml,Nx,NW,bn qdU,Qv,bV,bg,bJ,dJ,cW,hq,hr,c105,h127,aB,h106,h107,hd1,hY]
 |cons b0 b1=>
  obtain⟨hK,d,hdu,r,hir,hkr⟩:=hkx (by simp);have hlb:¬((b1.length:Int)+1=0):=by omega
  cases a with
  |err o=>
   obtain⟨X,p,e1,h1,h2⟩:=hD;simp at h1;have hdp:decide (p<h.length)=false:=decide_eq_false (by omega);refine⟨.row (bV x)::.row (bg (dJ s y z))::X,p,bq hp rfl rfl ?_,by omega,by simpa using h2⟩;simp[bg,bJ,dJ,bV]at e1;simp[rT,M3,Ow,Np,Ml,Nx,NW,RY,VQ,RH,bV,bg,bJ,dJ,hq,hr,c105,h127,hlb,e1,hd1,hdp]
  |lU l=>
   have hl:=ha l rfl;have hc1:=hc.sets hl;have h129:=t129 (M:=M) (Q:=Q) hp s y z x d hdu hK;rw[hir]at h129;have h128:=t128 (M:=M) (Q:=Q) hp;have c1:=zO (M:=M) hp hq hcl hka hb (hc1.app [.row (bV x),.row (bg (dJ s y z))]) (fl:=fl) (by simp;omega);simp only[dO hc1.map,List.set_set]at c1;have hc2:=hc1.set ka false (b0::b1) hb (fun h=>by cases h) hla;rw[List.set_set]at hc2;have c2:=zO (M:=M) hp hq hcl (d:=[]) hkr (by decide) (hc2.app [.row (bV x),.row (bg (dJ s y z))]) (fl:=fl) (by simp;omega);simp only[dO hc2.map,List.set_set]at c2;simp only[gQ,dO hc.map]at hD;have e1:mb ((l++[(ka,false,b0::b1),(kx,false,[])]).foldl cx (ms,cl))=O4 (uD ka false (b0::b1) (l.foldl cx (ms,cl)).2 (l.foldl cx (ms,cl)).1) (yd ka (l.foldl cx (ms,cl)).2 (l.foldl cx (ms,cl)).1) kx false []:=by
    rw[List.foldl_append];rfl
   have e2:mb (cx ((l.foldl cx (ms,cl)).1,(l.foldl cx (ms,cl)).2) (ka,false,b0::b1))=O4 (l.foldl cx (ms,cl)).1 (l.foldl cx (ms,cl)).2 ka false (b0::b1):=rfl;have hA:fP (b0::b1) ka kx (.lU l)=.lU (l++[(ka,false,b0::b1),(kx,false,[])]):=rfl;rw[hA];simp only[gQ];rw[e1];rw[e2]at c2;generalize mb (l.foldl cx (ms,cl))=W0 at*;generalize O4 (uD ka false (b0::b1) (l.foldl cx (ms,cl)).2 (l.foldl cx (ms,cl)).1) (yd ka (l.foldl cx (ms,cl)).2 (l.foldl cx (ms,cl)).1) kx false []=W2 at*;generalize O4 (l.foldl cx (ms,cl)).1 (l.foldl cx (ms,cl)).2 ka false (b0::b1)=W1 at*;have a0:∀ (W:Uo) (a b:Uo),(h.set m W++[a,b])[h.length]? =some a:=fun W a b=>by simp
   have a1:∀ (W:Uo) (a b:Uo),(h.set m W++[a,b])[h.length+1]? =some b:=fun W a b=>by simp
   have hcs:=fun x l=>kz hf m x l;refine bq hp rfl rfl ?_;simp[bg,bJ,dJ,bV,bW,aB]at c1 c2 hD h129 h127;simp[rT,M3,Ow,Np,Ml,Nx,NW,RY,VQ,bn Za,M9,bV,bg,bJ,dJ,hq,hr,c105,h127,bW,aB,hlb,hD,c1,c2,a0,a1,h128,h129,hd1,hcs,bH,U.same,hY]
end
structure qnC where
 k:By
 n:Nat
 b:Nat
def ptU(e:qnC):U×U×Nat:=(.str e.k,.int .i64 (e.n:Int),e.b)
def qnG(k:By)(es:List qnC):Option qnC:=es.find? fun e=>e.k==k
def cnt(k:By)(es:List qnC):Nat:=((qnG k es).map (·.n)).getD 0
def qoe(k:By)(n:Nat):List qnC→List qnC
 |[]=>[]
 |e::r=>if(e.k==k)=true then⟨k,n,e.b⟩::r else e::qoe k n r
theorem qox(k:By):∀ (es:List qnC) (j:Nat),(qnG k es=none∧jt .str (.str k) (es.map ptU) j=some none)∨
  ∃ e i,qnG k es=some e∧jt .str (.str k) (es.map ptU) j=some (some (j+i,.int .i64 (e.n:Int)))∧∀ n:Nat,ox i (fun e=>(.str k,.int .i64 (n:Int),e.2.2)) (es.map ptU)=(qoe k n es).map ptU:=by
 intro es
 induction es with
 |nil=>intro j;exact .inl ⟨rfl,rfl⟩
 |cons e es ih=>
  intro j;have hf:jt .str (.str k) ((e::es).map ptU) j=(match some (k==e.k)with
   |some true=>some (some (j,.int .i64 (e.n:Int)))
   |some false=>jt .str (.str k) (es.map ptU) (j+1)
   |none=>none):=rfl
  rw[hf,NL k e.k];cases hk:e.k==k with
  |true=>
   refine .inr ⟨e,0,by simp[qnG,List.find?_cons,hk],rfl,fun n=> ?_⟩;simp[qoe,hk,ox,ptU]
  |false=>
   have hfe:qnG k (e::es)=qnG k es:=by simp[qnG,List.find?_cons,hk]
   rcases ih (j+1)with⟨a,b⟩|⟨e',i,a,b,c⟩
   ·exact .inl ⟨by rw[hfe];exact a,b⟩
   ·refine .inr ⟨e',i+1,by rw[hfe];exact a,by rw[show j+(i+1)=j+1+i by omega];exact b,fun n=> ?_⟩;simp only[List.map_cons,ox,qoe,hk];rw[c];simp
theorem qn4(k:By)(es:List qnC)(c m:Nat)(s:Vs)(hm:s.h[m]? =some (.map (es.map ptU) c)):
  fO s .str (.int .i64 0) false (.map m) (.str k)=some (.int .i64 (cnt k es:Int)):=by
 have hk:bR .str (.str k)=true:=rfl;rcases qox k es 0 with⟨a,b⟩|⟨e,i,a,b,_⟩
 ·simp only[fO,hm,hk,cond_true,b,cnt,a];rfl
 ·simp only[fO,hm,hk,cond_true,b,cnt,a];rfl
def qoO(k:By)(n c:Nat)(es:List qnC):List qnC:=if(qnG k es).isSome=true then qoe k n es else es++[⟨k,n,c⟩]
def qpr(k:By)(c:Nat)(es:List qnC):Nat:=if(qnG k es).isSome=true then c else c+1
theorem qqe(k:By)(n:Nat)(es:List qnC)(c m:Nat)(s:Vs):muP .str m (.str k) (.int .i64 (n:Int)) s (some (.map (es.map ptU) c))=some (.aP [],⟨s.e,s.h.set m (.map ((qoO k n c es).map ptU) (qpr k c es)),s.fl⟩):=by
 have hk:bR .str (.str k)=true:=rfl;rcases qox k es 0 with⟨a,b⟩|⟨e,i,a,b,d⟩
 ·simp[muP,hk,cond_true,b,U.low,qoO,qpr,a,ptU]
 ·simp only[muP,hk,cond_true,b,U.low,qoO,qpr,a,Nat.zero_add,d,Option.isSome_some,if_true]
def bump(k:By)(t:List qnC×Nat):List qnC×Nat:=(qoO k (cnt k t.1+1) t.2 t.1,qpr k t.2 t.1)
def ptO(t:List qnC×Nat):Uo:=.map (t.1.map ptU) t.2
def qoL(es:List dK)(k:By):List dK:=if(dZ k es).isSome=true then ya k es else es
def qnT(es:List dK)(D:List Pr):List dK:=D.foldl (fun es p=>qoL es p.1) es
def qnE(t:Tb)(lo hi:By)(L:List Pr):Tb:=(L.filter fun x=>has lo hi x.1).foldl n9 t
structure qny where
 t:Tb
 p:List qnC×Nat
 s:List ZG
def qnU(t:Tb)(lo hi:By)(L:List Pr):Tb:=qnE (qnT t.1 (Pd t.1 lo hi (oO t.1)),t.2) lo hi L
def e9(x:Les)(a:qny):qny:=
 if x.1.1=x.1.2 then⟨qnU a.t x.1.1 (x.1.1++[0]) x.2,bump x.1.1 a.p,a.s⟩
 else if right x.1.1 x.1.2=true then⟨qnU a.t x.1.1 x.1.2 x.2,a.p,a.s++[x.1]⟩else a
theorem qpx(es:List dK)(lo hi:By):(Pd es lo hi (oO es)).length≤es.length:=by
 unfold Pd;rw[List.length_map];have:=List.length_filter_le (has lo hi) (oO es);have h2:(oO es).length=es.length:=by unfold oO;rw[HY,List.length_map]
 omega
structure Rl(es:List dK)(P:List Pr):Prop where
 nd:(es.map (·.k)).Nodup
 XW:ue P
 mem:∀ k d,(k,d)∈P↔∃ e∈es,e.k=k∧e.d=d
theorem V5:Rl [] []:=⟨by simp,List.Pairwise.nil,fun k d=>by simp⟩
theorem UN(k d:By):∀ es,(th k d es).map (·.k)=es.map (·.k):=by
 intro es
 induction es with
 |nil=>rfl
 |cons e r ih=>
  simp only[th];split
  ·rename_i h;simp[eq_of_beq h]
  ·simp[ih]
theorem tZ(k d:By):∀ es,(th k d es).map (·.b)=es.map (·.b):=by
 intro es
 induction es with
 |nil=>rfl
 |cons e r ih=>
  simp only[th];split
  ·simp
  ·simp[ih]
theorem DN(k d:By):∀ es,(es.map (·.k)).Nodup→∀ x,x∈th k d es↔(x∈es∧x.k≠k)∨∃ e∈es,e.k=k∧x=⟨k,d,e.b⟩:=by
 intro es
 induction es with
 |nil=>intro _ x;simp[th]
 |cons e r ih=>
  intro hn x;simp only[List.map_cons,List.nodup_cons]at hn;simp only[th];split
  ·rename_i h;have hk:=eq_of_beq h;have hr:∀ y∈r,y.k≠k:=fun y hy hh=>hn.1 (by rw[hk,←hh];exact fh.2 ⟨y,hy,rfl⟩);simp only[eB];constructor
   ·rintro(h1|h1)
    ·exact .inr ⟨e,.inl rfl,hk,h1⟩
    ·exact .inl ⟨.inr h1,hr x h1⟩
   ·rintro(⟨h1|h1,h2⟩|⟨y,h1|h1,h2,h3⟩)
    ·subst h1;exact absurd hk h2
    ·exact .inr h1
    ·subst h1;exact .inl h3
    ·exact absurd h2 (hr y h1)
  ·rename_i h;have hk:e.k≠k:=fun hh=>h (by rw[hh];exact beq_self_eq_true k);simp only[eB,ih hn.2];constructor
   ·rintro(h1|⟨h1,h2⟩|⟨y,h1,h2,h3⟩)
    ·subst h1;exact .inl ⟨.inl rfl,hk⟩
    ·exact .inl ⟨.inr h1,h2⟩
    ·exact .inr ⟨y,.inr h1,h2,h3⟩
   ·rintro(⟨h1|h1,h2⟩|⟨y,h1|h1,h2,h3⟩)
    ·exact .inl h1
    ·exact .inr (.inl ⟨h1,h2⟩)
    ·subst h1;exact absurd h2 hk
    ·exact .inr (.inr ⟨y,h1,h2,h3⟩)
theorem Mr(k:By):∀ es,(es.map (·.k)).Nodup→∀ x,x∈ya k es↔x∈es∧x.k≠k:=by
 intro es
 induction es with
 |nil=>intro _ x;simp[ya]
 |cons e r ih=>
  intro hn x;simp only[List.map_cons,List.nodup_cons]at hn;simp only[ya];split
  ·rename_i h;have hk:=eq_of_beq h;have hr:∀ y∈r,y.k≠k:=fun y hy hh=>hn.1 (by rw[hk,←hh];exact fh.2 ⟨y,hy,rfl⟩);simp only[eB];constructor
   ·intro h1;exact⟨.inr h1,hr x h1⟩
   ·rintro⟨h1|h1,h2⟩
    ·subst h1;exact absurd hk h2
    ·exact h1
  ·rename_i h;have hk:e.k≠k:=fun hh=>h (by rw[hh];exact beq_self_eq_true k);simp only[eB,ih hn.2];constructor
   ·rintro(h1|⟨h1,h2⟩)
    ·subst h1;exact⟨.inl rfl,hk⟩
    ·exact⟨.inr h1,h2⟩
   ·rintro⟨h1|h1,h2⟩
    ·exact .inl h1
    ·exact .inr ⟨h1,h2⟩
theorem vw(k:By):∀ es,(ya k es).Sublist es:=by
 intro es
 induction es with
 |nil=>exact List.Sublist.refl _
 |cons e r ih=>
  simp only[ya];split
  ·exact List.sublist_cons_self _ _
  ·exact ih.cons_cons _
theorem WK{k:By}{es:List dK}(h:(dZ k es).isSome=true):∃ e∈es,e.k=k:=by
 obtain⟨e,he⟩:=Option.isSome_iff_exists.1 h;have:=List.find?_some he;exact⟨e,B8 he,eq_of_beq this⟩
theorem GB{k:By}{es:List dK}(h:¬(dZ k es).isSome=true):∀ e∈es,e.k≠k:=by
 intro e he hk;apply h;unfold dZ;rw[List.find?_isSome];exact⟨e,he,by rw[hk];exact beq_self_eq_true k⟩
theorem VJ{es:List dK}{P:List Pr}(h:Rl es P)(k d:By)(c:Nat):Rl (B7 k d c es) (rq P (k,d)):=by
 unfold B7;split
 ·rename_i hs;obtain⟨e0,m0,k0⟩:=WK hs;refine⟨by rw[UN];exact h.nd,sP h.XW _,fun k' d' => ?_⟩;rw[qA];constructor
  ·rintro(h1|⟨h1,h2⟩)
   ·cases h1;exact⟨_,(DN k d es h.nd _).2 (.inr ⟨e0,m0,k0,rfl⟩),rfl,rfl⟩
   ·obtain⟨e,m,rfl,rfl⟩:=(h.mem k' d').1 h1;exact⟨e,(DN k d es h.nd e).2 (.inl ⟨m,h2⟩),rfl,rfl⟩
  ·rintro⟨x,hx,rfl,rfl⟩;rcases(DN k d es h.nd x).1 hx with⟨m,hne⟩|⟨e,m,hk,rfl⟩
   ·exact .inr ⟨(h.mem _ _).2 ⟨x,m,rfl,rfl⟩,hne⟩
   ·exact .inl rfl
 ·rename_i hs;have hno:=GB hs;refine⟨?_,sP h.XW _,fun k' d' => ?_⟩
  ·rw[List.map_append,List.nodup_append];refine⟨h.nd,by simp,fun a ha b hb hab=> ?_⟩;obtain⟨e,m,rfl⟩:=fh.1 ha;simp at hb;subst hb;exact hno e m hab
  ·rw[qA];simp only[ic,List.mem_singleton];constructor
   ·rintro(h1|⟨h1,h2⟩)
    ·cases h1;exact⟨⟨k,d,c⟩,.inr rfl,rfl,rfl⟩
    ·obtain⟨e,m,rfl,rfl⟩:=(h.mem k' d').1 h1;exact⟨e,.inl m,rfl,rfl⟩
   ·rintro⟨x,hx|rfl,rfl,rfl⟩
    ·exact .inr ⟨(h.mem _ _).2 ⟨x,hx,rfl,rfl⟩,hno x hx⟩
    ·exact .inl rfl
theorem qeA{es:List dK}{P:List Pr}(h:Rl es P)(k:By):Rl (if(dZ k es).isSome=true then ya k es else es) (Br P k):=by
 have hs:ue (Br P k):=eY h.XW _;split
 ·refine⟨((vw k es).map (·.k)).nodup h.nd,hs,fun k' d' => ?_⟩;rw[s6];constructor
  ·rintro⟨h1,h2⟩;obtain⟨e,m,rfl,rfl⟩:=(h.mem k' d').1 h1;exact⟨e,(Mr k es h.nd e).2 ⟨m,h2⟩,rfl,rfl⟩
  ·rintro⟨x,hx,rfl,rfl⟩;obtain⟨m,hne⟩:=(Mr k es h.nd x).1 hx;exact⟨(h.mem _ _).2 ⟨x,m,rfl,rfl⟩,hne⟩
 ·rename_i hn;have hno:=GB hn;refine⟨h.nd,hs,fun k' d' => ?_⟩;rw[s6];constructor
  ·rintro⟨h1,h2⟩;exact(h.mem k' d').1 h1
  ·intro h1;obtain⟨e,m,rfl,rfl⟩:=h1;exact⟨(h.mem _ _).2 ⟨e,m,rfl,rfl⟩,hno e m⟩
theorem NU{P:List Pr}(h:ue P)(k d:By):rq (Br P k) (k,d)=rq P (k,d):=by
 refine ur (sP (eY h _) _) (sP h _) fun x=> ?_;rw[qA,qA,s6];constructor
 ·rintro(h1|⟨⟨h1,_⟩,h2⟩)
  ·exact .inl h1
  ·exact .inr ⟨h1,h2⟩
 ·rintro(h1|⟨h1,h2⟩)
  ·exact .inl h1
  ·exact .inr ⟨⟨h1,h2⟩,h2⟩
theorem HZ:∀ (l:List Pr) (t:Tb) (P:List Pr),Rl t.1 P→Rl (l.foldl n9 t).1 (l.foldl rq P):=by
 intro l
 induction l with
 |nil=>intro t P h;exact h
 |cons p l ih=>intro t P h;exact ih _ _ (VJ h p.1 p.2 t.2)
theorem Hu{t:Tb}{P:List Pr}(h:Rl t.1 P)(x:Wr):Rl (stepT t x).1 (oa P x):=by
 unfold stepT oa Cm;simp only;split
 ·exact qeA h x.1
 ·rw[NU h.XW];exact VJ h x.1 x.2.2 t.2
theorem MH(a x:By):∀ l,x∈k8 a l↔x=a∨x∈l:=by
 intro l
 induction l with
 |nil=>simp[k8]
 |cons y l ih=>
  simp only[k8];split
  ·simp only[eB,ih];constructor
   ·rintro(h|h|h)
    ·exact .inr (.inl h)
    ·exact .inl h
    ·exact .inr (.inr h)
   ·rintro(h|h|h)
    ·exact .inr (.inl h)
    ·exact .inl h
    ·exact .inr (.inr h)
  ·simp only[eB]
theorem Hf(x:By):∀ l,x∈dy l↔x∈l:=by
 intro l
 induction l with
 |nil=>exact Iff.rfl
 |cons a l ih=>show x∈k8 a (dy l)↔_;rw[MH,ih,eB]
theorem ZX(a:By):∀ l,l.Pairwise (fun x y=>lt x y=true)→a ∉ l→(k8 a l).Pairwise (fun x y=>lt x y=true):=by
 intro l
 induction l with
 |nil=>intro _ _;exact List.pairwise_singleton _ _
 |cons y l ih=>
  intro h hn;obtain⟨h1,h2⟩:=List.pairwise_cons.1 h;simp only[eB,not_or]at hn;simp only[k8];split
  ·rename_i hlt;refine List.pairwise_cons.2 ⟨fun z hz=> ?_,ih h2 hn.2⟩;rcases(MH a z l).1 hz with rfl|hz
   ·exact hlt
   ·exact h1 z hz
  ·rename_i hlt;have hay:lt a y=true:=by
    rcases qce hn.1 with h3|h3
    ·exact h3
    ·exact absurd h3 hlt
   refine List.pairwise_cons.2 ⟨fun z hz=> ?_,h⟩;rcases eB.1 hz with rfl|hz
   ·exact hay
   ·exact NJ hay (h1 z hz)
theorem Ww:∀ l:List By,l.Nodup→(dy l).Pairwise (fun x y=>lt x y=true):=by
 intro l
 induction l with
 |nil=>intro _;exact List.Pairwise.nil
 |cons a l ih=>
  intro h;obtain⟨h1,h2⟩:=List.nodup_cons.1 h;exact ZX a _ (ih h2) (fun hh=>h1 ((Hf a l).1 hh))
theorem K8{es:List dK}(hn:(es.map (·.k)).Nodup){e:dK}(he:e∈es):dZ e.k es=some e:=by
 unfold dZ
 induction es with
 |nil=>cases he
 |cons a r ih=>
  simp only[List.map_cons,List.nodup_cons]at hn;rw[List.find?_cons];rcases eB.1 he with rfl|he
  ·simp
  ·have:(a.k==e.k)=false:=by
    cases h:a.k==e.k with
    |false=>rfl
    |true=>exact absurd (fh.2 ⟨e,he,(eq_of_beq h).symm⟩) hn.1
   rw[this];exact ih hn.2 he
theorem qb2{es:List dK}{P:List Pr}(h:Rl es P)(lo hi:By):Pd es lo hi (oO es)=P.filter fun x=>has lo hi x.1:=by
 refine ur ?_ (eY h.XW _) fun x=> ?_
 ·unfold Pd ue;rw[List.pairwise_map];exact(List.Pairwise.filter _ (Ww _ h.nd))
 ·obtain⟨k,d⟩:=x;unfold Pd oO;simp only[fh,List.mem_filter,Hf,aO];constructor
  ·rintro⟨k',⟨⟨e,he,rfl⟩,hh⟩,rfl,rfl⟩;refine⟨(h.mem _ _).2 ⟨e,he,rfl,?_⟩,hh⟩;simp[mV,K8 h.nd he]
  ·rintro⟨hm,hh⟩;obtain⟨e,he,rfl,rfl⟩:=(h.mem k d).1 hm;exact⟨e.k,⟨⟨e,he,rfl⟩,hh⟩,rfl,by simp[mV,K8 h.nd he]⟩
theorem all_eq{es:List dK}{P:List Pr}(h:Rl es P):Pd es [] [] (oO es)=P:=by
 rw[qb2 h,List.filter_eq_self];intro x _;exact NI x.1
theorem Mp:ju [] 0:=⟨by simp,(fun e he=>by cases he),fun e he=>by cases he⟩
theorem ZZ{k d:By}(hd:d.length<small):∀ {es:List dK},(∀ e∈es,e.d.length<small)→∀ e∈th k d es,e.d.length<small:=by
 intro es
 induction es with
 |nil=>intro h e he;cases he
 |cons a r ih=>
  intro h e he;simp only[th]at he;split at he
  ·rcases eB.1 he with rfl|he
   ·exact hd
   ·exact h e (ki _ he)
  ·rcases eB.1 he with rfl|he
   ·exact h e k7
   ·exact ih (fun x hx=>h x (ki _ hx)) e he
theorem YV(k d:By)(es:List dK):(th k d es).length=es.length:=by
 have:=congrArg List.length (tZ k d es);simpa using this
theorem OF{es:List dK}{c:Nat}(h:ju es c)(k d:By)(hdl:d.length<small):ju (B7 k d c es) (JN k c es)∧(B7 k d c es).length≤es.length+1:=by
 unfold B7 JN;split
 ·refine⟨⟨by rw[tZ];exact h.nodup,fun e he=> ?_,ZZ hdl h.dat⟩,by rw[YV];omega⟩;have hb:e.b∈(th k d es).map (·.b):=fh.2 ⟨e,he,rfl⟩;rw[tZ]at hb;obtain⟨e',m,hh⟩:=fh.1 hb;rw[←hh];exact h.lt e' m
 ·refine⟨⟨?_,fun e he=> ?_,fun e he=> ?_⟩,by simp⟩
  ·rw[List.map_append,List.nodup_append];refine⟨h.nodup,by simp,fun a ha b hb hab=> ?_⟩;obtain⟨e,m,rfl⟩:=fh.1 ha;simp at hb;subst hb;have:=h.lt e m;omega
  ·rcases ic.1 he with he|he
   ·have:=h.lt e he;omega
   ·simp at he;subst he;simp
  ·rcases ic.1 he with he|he
   ·exact h.dat e he
   ·simp at he;subst he;exact hdl
theorem MP{es:List dK}{c:Nat}(h:ju es c)(k:By)(gone:Bool)(d:By)(hdl:d.length<small):ju (Cm k gone d c es) (HU k gone c es)∧(Cm k gone d c es).length≤es.length+1:=by
 unfold Cm HU;cases gone with
 |true=>
  simp only[if_true];split
  ·exact⟨⟨((vw k es).map (·.b)).nodup h.nodup,fun e he=>h.lt e ((vw k es).subset he),fun e he=>h.dat e ((vw k es).subset he)⟩,by have:=(vw k es).length_le;omega⟩
  ·exact⟨h,by omega⟩
 |false=>simpa using OF h k d hdl
theorem CW:∀ (l:List Pr) (t:Tb),(∀ p∈l,p.2.length<small)→ju t.1 t.2→ju (l.foldl n9 t).1 (l.foldl n9 t).2∧(l.foldl n9 t).1.length≤t.1.length+l.length:=by
 intro l
 induction l with
 |nil=>intro t _ h;exact⟨h,by simp⟩
 |cons p l ih=>
  intro t hd h;obtain⟨h1,h2⟩:=OF h p.1 p.2 (hd p k7);obtain⟨h3,h4⟩:=ih (n9 t p) (fun x hx=>hd x (ki _ hx)) h1;refine⟨h3,?_⟩;have:(n9 t p).1.length≤t.1.length+1:=h2;simp only[List.foldl_cons,List.length_cons];omega
theorem P6:∀ (l P:List Pr),(l.foldl rq P).length≤P.length+l.length:=by
 intro l
 induction l with
 |nil=>intro P;simp
 |cons p l ih=>intro P;have:=ih (rq P p);have:=GM P p;simp only[List.foldl_cons,List.length_cons];omega
structure qn2 where
 P:List Pr
 K:List ZG
 S:List ZG
def qoc(P:List Pr)(lo hi:By)(L:List Pr):List Pr:=((Bw L).filter fun x=>has lo hi x.1).foldl rq (P.filter fun x=> !has lo hi x.1)
def qnM(x:Les)(a:qn2):qn2:=
 if x.1.1=x.1.2 then⟨qoc a.P x.1.1 (x.1.1++[0]) x.2,a.K++[(x.1.1,x.1.1++[0])],a.S⟩
 else if right x.1.1 x.1.2=true then⟨qoc a.P x.1.1 x.1.2 x.2,a.K,a.S++[x.1]⟩else a
theorem qpw(k:By):inB [] k=false:=rfl
def qnz(S:List ZG)(s:ZG):Bool:=S.any fun x=>qnR x s
end Go.RE
