/- symMerge on a slice that is lent, over rotate told, and itself on shorter stretches. -/
import Derived.Test.YtmpopachilfinaaGreatPart15
set_option linter.unusedVariables false
set_option linter.unusedSimpArgs false
set_option linter.unnecessarySimpa false
namespace Go.RE
theorem Xb(l:List cA)(a m b:Nat)(h1:a<m)(h2:m<b)(h3:b≤l.length):A5 (b - a) m (m - a) (b - m) l=pP l a m b:=by
 have e:=nh l a m b (by omega) (by omega);have l1:((l.drop a).take (m - a)).length=m - a:=by simp;omega
 have l2:((l.drop m).take (b - m)).length=b - m:=by simp;omega
 have l0:(l.take a).length=a:=by simp;omega
 unfold pP;generalize l.take a=A at*;generalize (l.drop a).take (m - a)=X at*;generalize (l.drop m).take (b - m)=Y at*;generalize l.drop b=D at*;subst e;exact EJ (b - a) m (m - a) (b - m) A X Y D (by omega) (by omega) (by omega) l1 l2 (by omega)
theorem QH(l:List cA)(a m b:Nat)(h1:a≤m)(h2:m≤b):(pP l a m b).length=l.length:=(sj l a m b h1 h2).length_eq
def Yh:Nat→Nat→List cA→List cA
 |0,_,l=>l
 |n+1,k,l=>Yh n (k+1) (kM l k (k+1))
def XL:Nat→Nat→List cA→List cA
 |0,_,l=>l
 |n+1,k,l=>XL n (k - 1) (kM l k (k - 1))
theorem MC:∀ (Y A C:List cA) (x:cA),Yh Y.length A.length (A++x::(Y++C))=A++Y++x::C
 |[],A,C,x=>by simp[Yh]
 |y::Y,A,C,x=>by
  rw[List.length_cons,Yh];have e:=Kk A [] (Y++C) x y A.length (A.length+1) rfl (by simp);simp only[List.nil_append,List.cons_append]at e⊢;rw[e];have ih:=MC Y (A++[y]) C x;simp only[lZ,List.length_singleton,kO,List.singleton_append,List.cons_append,List.nil_append]at ih⊢;exact ih
theorem qcl(l:List cA)(a i:Nat)(h1:a<i)(h2:i≤l.length):Yh (i - 1 - a) a l=pP l a (a+1) i:=by
 have e:=nh l a (a+1) i (by omega) (by omega);have l1:((l.drop a).take (a+1 - a)).length=1:=by simp;omega
 have l2:((l.drop (a+1)).take (i - (a+1))).length=i - (a+1):=by simp;omega
 have l0:(l.take a).length=a:=by simp;omega
 unfold pP;generalize l.take a=A at*;generalize (l.drop a).take (a+1 - a)=X at*;generalize (l.drop (a+1)).take (i - (a+1))=Y at*;generalize l.drop i=D at*;subst e
 match X,l1 with
 |[x],_=>
  have:=MC Y A D x;rw[show i - 1 - a=Y.length by omega];subst l0;simpa using this
theorem LP:∀ (n:Nat) (Y A C:List cA) (x:cA),Y.length=n→XL n (A.length+n) (A++(Y++x::C))=A++x::(Y++C)
 |0,Y,A,C,x,h=>by
  have:=jT h;subst this;simp[XL]
 |n+1,Y,A,C,x,h=>by
  have hy:Y≠[]:=by intro hh;rw[hh]at h;cases h
  obtain⟨Z,y,rfl⟩:∃ Z y,Y=Z++[y]:=⟨Y.dropLast,Y.getLast hy,(List.dropLast_concat_getLast hy).symm⟩;have hz:Z.length=n:=by simpa using h
  rw[XL,show A.length+(n+1) - 1=A.length+n by omega];have e:=Kk (A++Z) [] C y x (A.length+n) (A.length+(n+1)) (by simp;omega) (by simp;omega);have sw:∀ (l:List cA) (i j:Nat),i≠j→kM l i j=kM l j i:=by
   intro l i j hij;unfold kM;rw[List.set_comm _ _ hij]
  rw[sw _ _ _ (by omega)];simp only[List.nil_append,kO,List.singleton_append,List.cons_append]at e⊢;rw[e];have ih:=LP n Z A (y::C) x hz;simpa using ih
theorem qaA(l:List cA)(i m:Nat)(h1:i≤m)(h2:m<l.length):XL (m - i) m l=pP l i m (m+1):=by
 have e:=nh l i m (m+1) h1 (by omega);have l1:((l.drop m).take (m+1 - m)).length=1:=by simp;omega
 have l2:((l.drop i).take (m - i)).length=m - i:=by simp;omega
 have l0:(l.take i).length=i:=by simp;omega
 unfold pP;generalize l.take i=A at*;generalize (l.drop m).take (m+1 - m)=X at*;generalize (l.drop i).take (m - i)=Y at*;generalize l.drop (m+1)=D at*;subst e
 match X,l1 with
 |[x],_=>
  have:=LP (m - i) Y A D x l2;rw[show A.length+(m - i)=m by omega]at this;simpa using this
theorem Bj(f:Nat)(l:List cA)(a m b:Nat)(h1:a≤m)(h2:m≤b)(h3:b≤l.length):(lI aX f l a m b).length=l.length:=(oL aX f l a m b h1 h2 h3).length_eq
theorem wP:∀ (f f' :Nat) (l:List cA) (a m b:Nat),a<m→m<b→b - a≤f→b - a≤f'→lI aX f l a m b=lI aX f' l a m b
 |0,f',l,a,m,b,h1,h2,h3,h4=>by omega
 |f+1,0,l,a,m,b,h1,h2,h3,h4=>by omega
 |f+1,f'+1,l,a,m,b,h1,h2,h3,h4=>by
  unfold lI;cases hd:decide (m - a=1)with
  |true=>rfl
  |false=>
   cases hd2:decide (b - m=1)with
   |true=>rfl
   |false=>
    have hs:∃ s0 r0,s0≤r0∧a≤s0∧r0≤m∧r0≤(a+b) / 2∧(bif decide ((a+b) / 2<m)then(a+b) / 2+m - b else a)=s0∧(bif decide ((a+b) / 2<m)then(a+b) / 2 else m)=r0:=by
     cases hm:decide ((a+b) / 2<m)with
     |true=>have:=of_decide_eq_true hm;exact⟨(a+b) / 2+m - b,(a+b) / 2,by omega,by omega,by omega,by omega,rfl,rfl⟩
     |false=>have:=of_decide_eq_false hm;exact⟨a,m,by omega,by omega,by omega,by omega,rfl,rfl⟩
    obtain⟨s0,r0,a1,a2,a3,a4,e1,e2⟩:=hs;simp only[cond_false];rw[e1,e2];obtain⟨b1,b2⟩:=gE (fun c=> !aX (l[(a+b) / 2+m - 1 - c]?.getD default) (l[c]?.getD default)) (r0 - s0) s0 r0 a1;generalize sX (fun c=> !aX (l[(a+b) / 2+m - 1 - c]?.getD default) (l[c]?.getD default)) (r0 - s0) s0 r0=s at b1 b2⊢;generalize (bif decide (s<m)&&decide (m<(a+b) / 2+m - s)then pP l s m ((a+b) / 2+m - s)else l)=l1;have p2:(bif decide (a<s)&&decide (s<(a+b) / 2)then lI aX f l1 a s ((a+b) / 2)else l1)=(bif decide (a<s)&&decide (s<(a+b) / 2)then lI aX f' l1 a s ((a+b) / 2)else l1):=by
     cases h:decide (a<s)&&decide (s<(a+b) / 2)with
     |true=>
      simp only[bC,decide_eq_true_eq]at h;exact wP f f' l1 a s _ h.1 h.2 (by omega) (by omega)
     |false=>rfl
    rw[p2];generalize (bif decide (a<s)&&decide (s<(a+b) / 2)then lI aX f' l1 a s ((a+b) / 2)else l1)=l2;cases h:decide ((a+b) / 2<(a+b) / 2+m - s)&&decide ((a+b) / 2+m - s<b)with
    |true=>
     simp only[bC,decide_eq_true_eq]at h;exact wP f f' l2 _ _ b h.1 h.2 (by omega) (by omega)
    |false=>rfl
theorem Xc(c a m b:Nat)(l:List cA)(hL:l.length<small)(h1:a<m)(h2:m<b)(h3:b≤l.length):Ka (l.map aQ) [.int .i64 (a:Int),.int .i64 (m:Int),.int .i64 (b:Int),.func c [] []]=some ((pP l a m b).map aQ):=by
 have e1:decide ((0:Int)≤(a:Int))=true:=decide_eq_true (by omega);have e2:decide ((a:Int)<(m:Int))=true:=decide_eq_true (by omega);have e3:decide ((m:Int)<(b:Int))=true:=decide_eq_true (by omega);have e4:decide ((b:Int)≤(l.length:Int))=true:=decide_eq_true (by omega);have e5:decide (l.length<small)=true:=decide_eq_true hL;rw[←Xb l a m b h1 h2 h3];simp only[Ka,oM,e1,e2,e3,e4,e5,Bool.and_self,cond_true];rfl
def wQ(n:Nat)(xs:List (List U))(rest:List U):Option (List (List U)):=
 match rest with
 |[.int .i64 a,.int .i64 m,.int .i64 b,.func 192 [] []]=>match yH xs with
  |some l=>bif decide (0≤a)&&decide (a<m)&&decide (m<b)&&decide (b≤l.length)&&decide (l.length<small)&&decide (b.toNat - a.toNat≤n)then some ((lI aX (b.toNat - a.toNat) l a.toNat m.toNat b.toNat).map aQ)else none
  |none=>none
 |_=>none
theorem EU(n a m b:Nat)(l:List cA)(hL:l.length<small)(h1:a<m)(h2:m<b)(h3:b≤l.length)(h4:b - a≤n)(f:Nat)(hf:b - a≤f):wQ n (l.map aQ) [.int .i64 (a:Int),.int .i64 (m:Int),.int .i64 (b:Int),.func 192 [] []]=some ((lI aX f l a m b).map aQ):=by
 have e1:decide ((0:Int)≤(a:Int))=true:=decide_eq_true (by omega);have e2:decide ((a:Int)<(m:Int))=true:=decide_eq_true (by omega);have e3:decide ((m:Int)<(b:Int))=true:=decide_eq_true (by omega);have e4:decide ((b:Int)≤(l.length:Int))=true:=decide_eq_true (by omega);have e5:decide (l.length<small)=true:=decide_eq_true hL;have e6:decide ((b:Int).toNat - (a:Int).toNat≤n)=true:=decide_eq_true (by simpa using h4);rw[wP f (b - a) l a m b h1 h2 hf (aq _)];simp only[wQ,oM,e1,e2,e3,e4,e5,e6,Bool.and_self,cond_true];rfl
def Qs(n:Nat):mA:=⟨fun f=>bif f==237 then some Ka else bif f==234 then some (wQ n)else none,fun _=>none,fun _=>false,fun _=>none⟩
@[simp] theorem qg8(n f:Nat):(Qs n).q f=bif f==237 then some Ka else bif f==234 then some (wQ n)else none:=rfl
@[simp] theorem qg6(n f:Nat):(Qs n).app f=none:=rfl
@[simp] theorem qiB(n f:Nat):(Qs n).ld f=false:=rfl
@[simp] theorem qg7(n f:Nat):(Qs n).Jb f=none:=rfl
theorem r7{i j L:Nat}(hL:L<small)(hj:j≤L)(hlt:i<j):∃ k m:Nat,(i:Int)+(j:Int)=(k:Int)∧aI .i64 (k:Int)=(k:Int)∧aI .u64 (k:Int)=(k:Int)∧aI .i64 ((half k:Nat):Int)=(m:Int)∧aI .i64 ((m:Int)+1)=((m+1:Nat):Int)∧m=(i+j) / 2∧m<j∧i≤m:=by
 refine⟨i+j,(i+j) / 2,by omega,fC (by unfold small at hL;omega),LI (by unfold small at hL;omega),?_,fD (by unfold small at hL;omega),rfl,by omega,by omega⟩;rw[show half (i+j)=(i+j) / 2 by unfold half;rfl];exact fC (by unfold small at hL;omega)
theorem qca(n a L:Nat)(hL:L<small)(l:List cA)(hl:l.length=L)(ha:a<L)(K:Ex→Vs→Prop)(R:Nat)
  (hK:K .normal ⟨[(0,.own .a 2 (l.map aQ)),(10,.int .i64 (R:Int)),(1,.int .i64 (a:Int))],[],0⟩):∀ (f i j:Nat),i≤j→j≤L→j - i≤f→sX (fun h=>aX (l[h]?.getD default) (l[a]?.getD default)) f i j=R→
  gL br mT (Qs n) pT v234 0 zM 0 ⟨[(4,.func 192 [] []),(0,.own .a 2 (l.map aQ)),(1,.int .i64 (a:Int)),(11,.int .i64 (j:Int)),(10,.int .i64 (i:Int))],[],0⟩ K:=by
 obtain⟨⟨u1,u2⟩,gq⟩:∃ r,l[a]? =some r:=⟨_,bP (by omega)⟩;have gq' :(l.map aQ)[a]? =some [.str u1,.str u2]:=by rw[List.getElem?_map,gq];rfl
 have ij:∀ s',qo s' 2 (some (.own .a 2 (l.map aQ))) (some (.int .i64 (a:Int)))=some (.bD .a a 0,s'):=fun s' =>cT (by simp;omega);intro f
 induction f with
 |zero=>
  intro i j h1 h2 h3 hR;have h0:¬((i:Int)<(j:Int)):=by omega
  rw[sX]at hR;subst hR;rw[ak zM.eq_1];simp[BW,h0]at hK⊢;simpa using hK
 |succ f ih=>
  intro i j h1 h2 h3 hR;rw[ak zM.eq_1];rw[sX]at hR;by_cases hlt:i<j
  ·have c1:(i:Int)<(j:Int):=by omega
   obtain⟨k,m,e0,e1,e2,e3,e4,hm,hmj,him⟩:=r7 hL h2 hlt;rw[decide_eq_true hlt,cond_true,←hm]at hR;obtain⟨⟨s1,s2⟩,gp⟩:∃ r,l[m]? =some r:=⟨_,bP (by omega)⟩;have gp' :(l.map aQ)[m]? =some [.str s1,.str s2]:=by rw[List.getElem?_map,gp];rfl
   have ip:∀ s',qo s' 2 (some (.own .a 2 (l.map aQ))) (some (.int .i64 (m:Int)))=some (.bD .a m 0,s'):=fun s' =>cT (by simp;omega);have c:=t192 (Q:=Qs n) rfl rfl rfl rfl (s1,s2) (u1,u2);cases hp:lt s1 u1 with
   |true=>
    have hx:aX (l[m]?.getD default) (l[a]?.getD default)=true:=by rw[gp,gq];exact hp
    rw[hx,cond_true]at hR;have ih' :=ih (m+1) j (by omega) h2 (by omega) hR;clear hK;generalize l.map aQ=X at*;simp[BW,Lb,ay Nl,zL,Un,c1,e0,e1,e2,e3,e4,ip,ij,gp',gq',c,hp,iI,Env.cc,cR];simpa using ih'
   |false=>
    have hx:aX (l[m]?.getD default) (l[a]?.getD default)=false:=by rw[gp,gq];exact hp
    rw[hx,cond_false]at hR;have ih' :=ih i m (by omega) (by omega) (by omega) hR;clear hK;generalize l.map aQ=X at*;simp[BW,Lb,ay Nl,zL,Uq,c1,e0,e1,e2,e3,e4,ip,ij,gp',gq',c,hp,iI,Env.cc,cR];simpa using ih'
  ·have h0:¬((i:Int)<(j:Int)):=by omega
   rw[decide_eq_false hlt,cond_false]at hR;subst hR;simp[BW,h0]at hK⊢;simpa using hK
theorem qcc(n m L:Nat)(hL:L<small)(l:List cA)(hl:l.length=L)(ha:m<L)(K:Ex→Vs→Prop)(R:Nat)
  (hK:K .normal ⟨[(0,.own .a 2 (l.map aQ)),(14,.int .i64 (R:Int)),(2,.int .i64 (m:Int))],[],0⟩):∀ (f i j:Nat),i≤j→j≤L→j - i≤f→sX (fun h=> !aX (l[m]?.getD default) (l[h]?.getD default)) f i j=R→
  gL br mT (Qs n) pT v234 4 vB 0 ⟨[(4,.func 192 [] []),(0,.own .a 2 (l.map aQ)),(2,.int .i64 (m:Int)),(15,.int .i64 (j:Int)),(14,.int .i64 (i:Int))],[],0⟩ K:=by
 obtain⟨⟨u1,u2⟩,gq⟩:∃ r,l[m]? =some r:=⟨_,bP (by omega)⟩;have gq' :(l.map aQ)[m]? =some [.str u1,.str u2]:=by rw[List.getElem?_map,gq];rfl
 have ij:∀ s',qo s' 2 (some (.own .a 2 (l.map aQ))) (some (.int .i64 (m:Int)))=some (.bD .a m 0,s'):=fun s' =>cT (by simp;omega);intro f
 induction f with
 |zero=>
  intro i j h1 h2 h3 hR;have h0:¬((i:Int)<(j:Int)):=by omega
  rw[sX]at hR;subst hR;rw[ak vB.eq_1];simp[vq,h0]at hK⊢;simpa using hK
 |succ f ih=>
  intro i j h1 h2 h3 hR;rw[ak vB.eq_1];rw[sX]at hR;by_cases hlt:i<j
  ·have c1:(i:Int)<(j:Int):=by omega
   obtain⟨k,p,e0,e1,e2,e3,e4,hm,hmj,him⟩:=r7 hL h2 hlt;rw[decide_eq_true hlt,cond_true,←hm]at hR;obtain⟨⟨s1,s2⟩,gp⟩:∃ r,l[p]? =some r:=⟨_,bP (by omega)⟩;have gp' :(l.map aQ)[p]? =some [.str s1,.str s2]:=by rw[List.getElem?_map,gp];rfl
   have ip:∀ s',qo s' 2 (some (.own .a 2 (l.map aQ))) (some (.int .i64 (p:Int)))=some (.bD .a p 0,s'):=fun s' =>cT (by simp;omega);have c:=t192 (Q:=Qs n) rfl rfl rfl rfl (u1,u2) (s1,s2);cases hp:lt u1 s1 with
   |false=>
    have hx:(!aX (l[m]?.getD default) (l[p]?.getD default))=true:=by rw[gp,gq];show(!(lt u1 s1))=true;rw[hp];rfl
    rw[hx,cond_true]at hR;have ih' :=ih (p+1) j (by omega) h2 (by omega) hR;clear hK;generalize l.map aQ=X at*;simp[vq,FK,ay Iz,vu,M8,c1,e0,e1,e2,e3,e4,ip,ij,gp',gq',c,hp,iI,Env.cc,cR];simpa using ih'
   |true=>
    have hx:(!aX (l[m]?.getD default) (l[p]?.getD default))=false:=by rw[gp,gq];show(!(lt u1 s1))=false;rw[hp];rfl
    rw[hx,cond_false]at hR;have ih' :=ih i p (by omega) (by omega) (by omega) hR;clear hK;generalize l.map aQ=X at*;simp[vq,FK,ay Iz,vu,M9,c1,e0,e1,e2,e3,e4,ip,ij,gp',gq',c,hp,iI,Env.cc,cR];simpa using ih'
  ·have h0:¬((i:Int)<(j:Int)):=by omega
   rw[decide_eq_false hlt,cond_false]at hR;subst hR;simp[vq,h0]at hK⊢;simpa using hK
theorem qce(n a m b mid nn q L:Nat)(hL:L<small)(l:List cA)(hl:l.length=L)(hn:nn<2*small)(hq:nn - 1=q)(K:Ex→Vs→Prop)(R:Nat)
  (hK:K .normal ⟨[(4,.func 192 [] []),(3,.int .i64 (b:Int)),(18,.int .i64 (mid:Int)),(0,.own .a 2 (l.map aQ)),(20,.int .i64 (R:Int)),(1,.int .i64 (a:Int)),(2,.int .i64 (m:Int)),(19,.int .i64 (nn:Int))],[],0⟩):
  ∀ (f i j:Nat),i≤j→j≤L→q - i<L→j≤q+1→j - i≤f→sX (fun h=> !aX (l[q - h]?.getD default) (l[h]?.getD default)) f i j=R→
  gL br mT (Qs n) pT v234 8 vE 0 ⟨[(4,.func 192 [] []),(0,.own .a 2 (l.map aQ)),(22,.int .i64 (q:Int)),(21,.int .i64 (j:Int)),(20,.int .i64 (i:Int)),(3,.int .i64 (b:Int)),(18,.int .i64 (mid:Int)),(1,.int .i64 (a:Int)),(2,.int .i64 (m:Int)),(19,.int .i64 (nn:Int))],[],0⟩ K:=by
 intro f
 induction f with
 |zero=>
  intro i j h1 h2 h5 h6 h3 hR;have h0:¬((i:Int)<(j:Int)):=by omega
  rw[sX]at hR;subst hR;rw[ak vE.eq_1];simp[vw,h0]at hK⊢;simpa using hK
 |succ f ih=>
  intro i j h1 h2 h5 h6 h3 hR;rw[ak vE.eq_1];rw[sX]at hR;by_cases hlt:i<j
  ·have c1:(i:Int)<(j:Int):=by omega
   obtain⟨k,p,e0,e1,e2,e3,e4,hm,hmj,him⟩:=r7 hL h2 hlt;rw[decide_eq_true hlt,cond_true,←hm]at hR;obtain⟨r,hr⟩:∃ r,r=q - p:=⟨_,rfl⟩;have e5:aI .i64 ((q:Int) - (p:Int))=(r:Int):=by rw[de (by omega) (by unfold small at hn;omega)];omega
   obtain⟨⟨s1,s2⟩,gp⟩:∃ r,l[p]? =some r:=⟨_,bP (by omega)⟩;obtain⟨⟨u1,u2⟩,gq⟩:∃ x,l[r]? =some x:=⟨_,bP (by omega)⟩;have gp' :(l.map aQ)[p]? =some [.str s1,.str s2]:=by rw[List.getElem?_map,gp];rfl
   have gq' :(l.map aQ)[r]? =some [.str u1,.str u2]:=by rw[List.getElem?_map,gq];rfl
   have ip:∀ s',qo s' 2 (some (.own .a 2 (l.map aQ))) (some (.int .i64 (p:Int)))=some (.bD .a p 0,s'):=fun s' =>cT (by simp;omega);have ij:∀ s',qo s' 2 (some (.own .a 2 (l.map aQ))) (some (.int .i64 (r:Int)))=some (.bD .a r 0,s'):=fun s' =>cT (by simp;omega);have c:=t192 (Q:=Qs n) rfl rfl rfl rfl (u1,u2) (s1,s2);rw[←hr]at hR;cases hp:lt u1 s1 with
   |false=>
    have hx:(!aX (l[r]?.getD default) (l[p]?.getD default))=true:=by rw[gp,gq];show(!(lt u1 s1))=true;rw[hp];rfl
    rw[hx,cond_true]at hR;have ih' :=ih (p+1) j (by omega) h2 (by omega) h6 (by omega) hR;clear hK;generalize l.map aQ=X at*;simp[vw,FR,ay IA,vz,Nj,c1,e0,e1,e2,e3,e4,e5,ip,ij,gp',gq',c,hp,iI,Env.cc,cR];simpa using ih'
   |true=>
    have hx:(!aX (l[r]?.getD default) (l[p]?.getD default))=false:=by rw[gp,gq];show(!(lt u1 s1))=false;rw[hp];rfl
    rw[hx,cond_false]at hR;have ih' :=ih i p (by omega) (by omega) (by omega) (by omega) (by omega) hR;clear hK;generalize l.map aQ=X at*;simp[vw,FR,ay IA,vz,Nk,c1,e0,e1,e2,e3,e4,e5,ip,ij,gp',gq',c,hp,iI,Env.cc,cR];simpa using ih'
  ·have h0:¬((i:Int)<(j:Int)):=by omega
   rw[decide_eq_false hlt,cond_false]at hR;subst hR;simp[vw,h0]at hK⊢;simpa using hK
theorem qcb(n i L:Nat)(hL:L<small)(hi:i≤L)(R:List cA)(K:Ex→Vs→Prop)(hK:K .normal ⟨[(0,.own .a 2 (R.map aQ))],[],0⟩):∀ (k j:Nat) (l:List cA),l.length=L→j+k+1=i→Yh k j l=R→
  gL br mT (Qs n) pT v234 2 vA 0 ⟨[(13,.int .i64 (j:Int)),(0,.own .a 2 (l.map aQ)),(10,.int .i64 (i:Int))],[],0⟩ K:=by
 intro k
 induction k with
 |zero=>
  intro j l hl hk hR;have e1:aI .i64 ((i:Int) - 1)=(j:Int):=by rw[de (by omega) (by unfold small at hL;omega)];omega
  rw[Yh]at hR;subst hR;rw[ak vA.eq_1];simp[FJ,e1];exact hK
 |succ k ih=>
  intro j l hl hk hR;obtain⟨q,hq⟩:∃ q,q=i - 1:=⟨_,rfl⟩;have e1:aI .i64 ((i:Int) - 1)=(q:Int):=by rw[de (by omega) (by unfold small at hL;omega)];omega
  have h1:(j:Int)<(q:Int):=by omega
  obtain⟨p,hp⟩:∃ p,p=j+1:=⟨_,rfl⟩;have e2:aI .i64 ((j:Int)+1)=(p:Int):=by rw[de (by omega) (by unfold small at hL;omega)];omega
  rw[Yh,←hp]at hR;have ih' :=ih p (kM l j p) (by simp[kM,hl]) (by omega) hR;obtain⟨⟨s1,s2⟩,gp⟩:∃ r,l[p]? =some r:=⟨_,bP (by omega)⟩;obtain⟨⟨u1,u2⟩,gq⟩:∃ r,l[j]? =some r:=⟨_,bP (by omega)⟩;have gp' :(l.map aQ)[p]? =some [.str s1,.str s2]:=by rw[List.getElem?_map,gp];rfl
  have gq' :(l.map aQ)[j]? =some [.str u1,.str u2]:=by rw[List.getElem?_map,gq];rfl
  have ip:∀ s',qo s' 2 (some (.own .a 2 (l.map aQ))) (some (.int .i64 (p:Int)))=some (.bD .a p 0,s'):=fun s' =>cT (by simp;omega);have ij:∀ s',qo s' 2 (some (.own .a 2 (l.map aQ))) (some (.int .i64 (j:Int)))=some (.bD .a j 0,s'):=fun s' =>cT (by simp;omega);have ip2:∀ (r:List U) s',qo s' 2 (some (.own .a 2 ((l.map aQ).set j r))) (some (.int .i64 (p:Int)))=some (.bD .a p 0,s'):=fun r s' =>cT (by simp;omega);have g3:((l.map aQ).set j [.str s1,.str s2])[p]? =some [.str s1,.str s2]:=by
   rw[eN,if_neg (by omega),gp']
  clear hK;simp only[kM,gp,gq,Option.getD_some,List.map_set,aQ]at ih';generalize l.map aQ=X at*;rw[ak vA.eq_1];simp[FJ,M4,ay Uj,BU,h1,e1,e2,ip,ij,ip2,gp',gq',g3,iI,Env.cc,tM,Env.fB,U.fB,cR];simpa using ih'
theorem qcd(n i L:Nat)(hL:L<small)(R:List cA)(K:Ex→Vs→Prop)(hK:K .normal ⟨[(0,.own .a 2 (R.map aQ))],[],0⟩):∀ (k j:Nat) (l:List cA),l.length=L→j<L→i+k=j→XL k j l=R→
  gL br mT (Qs n) pT v234 6 vD 0 ⟨[(17,.int .i64 (j:Int)),(0,.own .a 2 (l.map aQ)),(14,.int .i64 (i:Int))],[],0⟩ K:=by
 intro k
 induction k with
 |zero=>
  intro j l hl hj hk hR;have h1:¬((i:Int)<(j:Int)):=by omega
  rw[XL]at hR;subst hR;rw[ak vD.eq_1];simp[FL,h1];exact hK
 |succ k ih=>
  intro j l hl hj hk hR;have h1:(i:Int)<(j:Int):=by omega
  obtain⟨p,hp⟩:∃ p,p=j - 1:=⟨_,rfl⟩;have e2:aI .i64 ((j:Int) - 1)=(p:Int):=by rw[de (by omega) (by unfold small at hL;omega)];omega
  rw[XL,←hp]at hR;have ih' :=ih p (kM l j p) (by simp[kM,hl]) (by omega) (by omega) hR;obtain⟨⟨s1,s2⟩,gp⟩:∃ r,l[p]? =some r:=⟨_,bP (by omega)⟩;obtain⟨⟨u1,u2⟩,gq⟩:∃ r,l[j]? =some r:=⟨_,bP (by omega)⟩;have gp' :(l.map aQ)[p]? =some [.str s1,.str s2]:=by rw[List.getElem?_map,gp];rfl
  have gq' :(l.map aQ)[j]? =some [.str u1,.str u2]:=by rw[List.getElem?_map,gq];rfl
  have ip:∀ s',qo s' 2 (some (.own .a 2 (l.map aQ))) (some (.int .i64 (p:Int)))=some (.bD .a p 0,s'):=fun s' =>cT (by simp;omega);have ij:∀ s',qo s' 2 (some (.own .a 2 (l.map aQ))) (some (.int .i64 (j:Int)))=some (.bD .a j 0,s'):=fun s' =>cT (by simp;omega);have ip2:∀ (r:List U) s',qo s' 2 (some (.own .a 2 ((l.map aQ).set j r))) (some (.int .i64 (p:Int)))=some (.bD .a p 0,s'):=fun r s' =>cT (by simp;omega);have g3:((l.map aQ).set j [.str s1,.str s2])[p]? =some [.str s1,.str s2]:=by
   rw[eN,if_neg (by omega),gp']
  clear hK;simp only[kM,gp,gq,Option.getD_some,List.map_set,aQ]at ih';generalize l.map aQ=X at*;rw[ak vD.eq_1];simp[FL,Nc,ay Ul,BV,h1,e2,ip,ij,ip2,gp',gq',g3,iI,Env.cc,tM,Env.fB,U.fB,cR];simpa using ih'
theorem t234(n a m b:Nat)(l:List cA)(hL:l.length<small)(ham:a<m)(hmb:m<b)(hb:b≤l.length)(hn:b - a≤n+1):
  gC br mT (Qs n) pT v234 v234.body ⟨[(0,.own .a 2 (l.map aQ)),(1,.int .i64 (a:Int)),(2,.int .i64 (m:Int)),(3,.int .i64 (b:Int)),(4,.func 192 [] [])],[],0⟩ (CH 2 ((lI aX (b - a) l a m b).map aQ)):=by
 obtain⟨R,hR⟩:∃ R,lI aX (b - a) l a m b=R:=⟨_,rfl⟩;rw[hR];rw[show b - a=(b - a - 1)+1 by omega]at hR;obtain⟨g,hg⟩:∃ g,g=m - a:=⟨_,rfl⟩;obtain⟨g',hg'⟩:∃ g',g' =b - m:=⟨_,rfl⟩;have e1:aI .i64 ((m:Int) - (a:Int))=(g:Int):=by rw[de (by omega) (by unfold small at hL;omega)];omega
 have e2:aI .i64 ((b:Int) - (m:Int))=(g' :Int):=by rw[de (by omega) (by unfold small at hL;omega)];omega
 unfold lI at hR;by_cases hd:m - a=1
 ·rw[decide_eq_true hd,cond_true]at hR;have hma:m=a+1:=by omega
  have i1:(g:Int)=1:=by omega
  obtain⟨b1,b2⟩:=gE (fun h=>aX (l[h]?.getD default) (l[a]?.getD default)) (b - m) m b (by omega);simp[mz,BT,Ui,Uk,e1,i1];refine qca n a l.length hL l rfl (by omega) _ _ ?_ (b - m) m b (by omega) hb (by omega) rfl;generalize sX (fun h=>aX (l[h]?.getD default) (l[a]?.getD default)) (b - m) m b=i at b1 b2 hR⊢;rw[hma,←qcl l a i (by omega) (by omega)]at hR;simp[Ur];refine qcb n i l.length hL (by omega) R _ ?_ (i - 1 - a) a l rfl (by omega) hR;simp[CH,iI,Env.cc]
 ·rw[decide_eq_false hd,cond_false]at hR;have i1:¬(g:Int)=1:=by omega
  by_cases hd2:b - m=1
  ·rw[decide_eq_true hd2,cond_true]at hR;have i2:(g' :Int)=1:=by omega
   obtain⟨b1,b2⟩:=gE (fun h=> !aX (l[m]?.getD default) (l[h]?.getD default)) (m - a) a m (by omega);simp[mz,BT,zK,M5,M6,e1,i1,e2,i2];refine qcc n m l.length hL l rfl (by omega) _ _ ?_ (m - a) a m (by omega) (by omega) (by omega) rfl;generalize sX (fun h=> !aX (l[m]?.getD default) (l[h]?.getD default)) (m - a) a m=i at b1 b2 hR⊢;rw[show b=m+1 by omega,←qaA l i m (by omega) (by omega)]at hR;simp[Na];refine qcd n i l.length hL R _ ?_ (m - i) m l rfl (by omega) (by omega) hR;simp[CH,iI,Env.cc]
  ·rw[decide_eq_false hd2,cond_false]at hR;have i2:¬(g' :Int)=1:=by omega
   obtain⟨k,mid,f0,f1,f2,f3,f4,hm,hmj,him⟩:=r7 hL hb (show a<b by omega);dsimp only at hR;rw[←hm]at hR;obtain⟨nn,hnn⟩:∃ nn,nn=mid+m:=⟨_,rfl⟩;rw[←hnn]at hR;have f5:aI .i64 ((mid:Int)+(m:Int))=(nn:Int):=by rw[de (by omega) (by unfold small at hL;omega)];omega
   have f6:aI .i64 ((nn:Int) - 1)=((nn - 1:Nat):Int):=by rw[de (by omega) (by unfold small at hL;omega)];omega
   have hs:∃ s0 r0,s0≤r0∧a≤s0∧r0≤m∧r0≤mid∧nn - s0≤b∧m≤nn - r0∧(bif decide (mid<m)then nn - b else a)=s0∧(bif decide (mid<m)then mid else m)=r0:=by
    cases hmm:decide (mid<m)with
    |true=>have:=of_decide_eq_true hmm;exact⟨nn - b,mid,by omega,by omega,by omega,by omega,by omega,by omega,rfl,rfl⟩
    |false=>have:=of_decide_eq_false hmm;exact⟨a,m,by omega,by omega,by omega,by omega,by omega,by omega,rfl,rfl⟩
   obtain⟨s0,r0,a1,a2,a3,a4,a5,a6,x1,x2⟩:=hs;rw[x1,x2]at hR;obtain⟨b1,b2⟩:=gE (fun c=> !aX (l[nn - 1 - c]?.getD default) (l[c]?.getD default)) (r0 - s0) s0 r0 a1;have loop:=fun K hK=>qce n a m b mid nn (nn - 1) l.length hL l rfl (by omega) rfl K _ hK (r0 - s0) s0 r0 a1 (by omega) (by omega) (by omega) (by omega) rfl;generalize sX (fun c=> !aX (l[nn - 1 - c]?.getD default) (l[c]?.getD default)) (r0 - s0) s0 r0=s at b1 b2 hR loop;obtain⟨e,he⟩:∃ e,e=nn - s:=⟨_,rfl⟩;have f7:aI .i64 ((nn:Int) - (s:Int))=(e:Int):=by rw[de (by omega) (by unfold small at hL;omega)];omega
   rw[←he]at hR;have stA:∃ l1:List cA,l1.length=l.length∧(bif decide (s<m)&&decide (m<e)then pP l s m e else l)=l1∧((s<m∧m<e∧True∧Ka (l.map aQ) [.int .i64 (s:Int),.int .i64 (m:Int),.int .i64 (e:Int),.func 192 [] []]=some (l1.map aQ))∨(s<m∧¬m<e∧l1=l∧True)∨(¬s<m∧True∧l1=l∧True)):=by
    by_cases c1:s<m
    ·by_cases c2:m<e
     ·refine⟨pP l s m e,QH l s m e (by omega) (by omega),by rw[decide_eq_true c1,decide_eq_true c2];rfl,.inl ⟨c1,c2,trivial,Xc 192 s m e l hL c1 c2 (by omega)⟩⟩
     ·exact⟨l,rfl,by rw[decide_eq_true c1,decide_eq_false c2];rfl,.inr (.inl ⟨c1,c2,rfl,trivial⟩)⟩
    ·exact⟨l,rfl,by rw[decide_eq_false c1];rfl,.inr (.inr ⟨c1,trivial,rfl,trivial⟩)⟩
   obtain⟨l1,hl1,eA,hA⟩:=stA;rw[eA]at hR;have stB:∃ l2:List cA,l2.length=l1.length∧(bif decide (a<s)&&decide (s<mid)then lI aX (b - a - 1) l1 a s mid else l1)=l2∧((a<s∧s<mid∧True∧wQ n (l1.map aQ) [.int .i64 (a:Int),.int .i64 (s:Int),.int .i64 (mid:Int),.func 192 [] []]=some (l2.map aQ))∨(a<s∧¬s<mid∧l2=l1∧True)∨(¬a<s∧True∧l2=l1∧True)):=by
    by_cases c1:a<s
    ·by_cases c2:s<mid
     ·refine⟨_,Bj (b - a - 1) l1 a s mid (by omega) (by omega) (by omega),by rw[decide_eq_true c1,decide_eq_true c2];rfl,.inl ⟨c1,c2,trivial,EU n a s mid l1 (by omega) c1 c2 (by omega) (by omega) _ (by omega)⟩⟩
     ·exact⟨l1,rfl,by rw[decide_eq_true c1,decide_eq_false c2];rfl,.inr (.inl ⟨c1,c2,rfl,trivial⟩)⟩
    ·exact⟨l1,rfl,by rw[decide_eq_false c1];rfl,.inr (.inr ⟨c1,trivial,rfl,trivial⟩)⟩
   obtain⟨l2,hl2,eB,hB⟩:=stB;rw[eB]at hR;have stC:∃ l3:List cA,(bif decide (mid<e)&&decide (e<b)then lI aX (b - a - 1) l2 mid e b else l2)=l3∧((mid<e∧e<b∧True∧wQ n (l2.map aQ) [.int .i64 (mid:Int),.int .i64 (e:Int),.int .i64 (b:Int),.func 192 [] []]=some (l3.map aQ))∨(mid<e∧¬e<b∧l3=l2∧True)∨(¬mid<e∧True∧l3=l2∧True)):=by
    by_cases c1:mid<e
    ·by_cases c2:e<b
     ·refine⟨_,by rw[decide_eq_true c1,decide_eq_true c2];rfl,.inl ⟨c1,c2,trivial,EU n mid e b l2 (by omega) c1 c2 (by omega) (by omega) _ (by omega)⟩⟩
     ·exact⟨l2,by rw[decide_eq_true c1,decide_eq_false c2];rfl,.inr (.inl ⟨c1,c2,rfl,trivial⟩)⟩
    ·exact⟨l2,by rw[decide_eq_false c1];rfl,.inr (.inr ⟨c1,trivial,rfl,trivial⟩)⟩
   obtain⟨l3,eC,hC⟩:=stC;rw[eC]at hR;have tail:∀ K,K=gI br mT (Qs n) pT v234 (.seq (.region FT) (.seq (.seq (.region FV) (.cond (.t 185) (.region FW) .skip)) (.seq (.seq (.region FX) (.cond (.t 199) (.region FY) .skip)) (.seq (.region FZ) (.cond (.t 213) (.region F0) .skip))))) (CH 2 (R.map aQ))→K .normal ⟨[(4,.func 192 [] []),(3,.int .i64 (b:Int)),(18,.int .i64 (mid:Int)),(0,.own .a 2 (l.map aQ)),(20,.int .i64 (s:Int)),(1,.int .i64 (a:Int)),(2,.int .i64 (m:Int)),(19,.int .i64 (nn:Int))],[],0⟩:=by
    rintro K rfl;subst hR;clear loop eA eB eC;rcases hA with⟨a1,a2,-,a4⟩|⟨a1,a2,rfl,a4⟩|⟨a1,a2,rfl,a4⟩<;>rcases hB with⟨b1,b2,-,b4⟩|⟨b1,b2,rfl,b4⟩|⟨b1,b2,rfl,b4⟩<;>rcases hC with⟨c1,c2,-,c4⟩|⟨c1,c2,rfl,c4⟩|⟨c1,c2,rfl,c4⟩<;>
     simp[FT,FV,FW,FX,FY,FZ,F0,f7,a1,a2,a4,b1,b2,b4,c1,c2,c4,iI,Env.cc,tM,Env.fB,U.fB,CH]
   have loop' :=loop _ (tail _ rfl);clear loop tail hA hB hC eA eB eC hR;cases hmm:decide (mid<m)with
   |true=>
    rw[hmm,cond_true]at x1 x2;have f8:aI .i64 ((nn:Int) - (b:Int))=(s0:Int):=by have:=of_decide_eq_true hmm;rw[de (by omega) (by unfold small at hL;omega)];omega
    subst x2;simp[mz,BT,zK,FM,FN,FO,FP,Nd,Nf,FQ,e1,i1,e2,i2,f0,f1,f2,f3,f5,f6,f8,hmm];simpa using loop'
   |false=>
    rw[hmm,cond_false]at x1 x2;subst x1;subst x2;simp[mz,BT,zK,FM,FN,FO,FP,Ng,Nh,FQ,e1,i1,e2,i2,f0,f1,f2,f3,f5,f6,hmm];simpa using loop'
theorem qbp{C:Nat→Option ck}(n:Nat)(T:lR C mT br (Qs n) pT):vX (dA C mT) 234 (wQ (n+1)):=by
 refine wI T (T.code 234 v234 rfl) rfl ?_;intro xs rest ys w hh hw;unfold wQ at hh;split at hh
 case h_2=>cases hh
 rename_i a m b;split at hh
 case h_2=>cases hh
 rename_i l hl;obtain⟨hb2,hh3⟩:=aK hh;clear hh;have hx:=nu hl;subst hx;simp only[bC,decide_eq_true_eq]at hb2;obtain⟨⟨⟨⟨⟨h1,h2⟩,h3⟩,h4⟩,h5⟩,h6⟩:=hb2;simp only[ai]at hh3;subst hh3;obtain⟨a,rfl⟩:=Int.eq_ofNat_of_zero_le h1;obtain⟨m,rfl⟩:=Int.eq_ofNat_of_zero_le (show 0≤m by omega);obtain⟨b,rfl⟩:=Int.eq_ofNat_of_zero_le (show 0≤b by omega);have hw2:w=2:=by
  cases l with
  |nil=>simp at h4;omega
  |cons s l=>exact(hw (aQ s) (by simp)).symm
 subst hw2;have ht:=t234 n a m b l h5 (by omega) (by omega) (by omega) (by simpa using h6);refine⟨fun u hu=> ?_,(by show 4+1≤220;omega),by simp only[List.length_map];exact Bj _ _ _ _ _ (by simp;omega) (by simp;omega) (by simp;omega),fun r hr=> ?_,?_,?_⟩
 ·simp at hu;rcases hu with rfl|rfl|rfl|rfl<;>exact⟨rfl,rfl⟩
 ·obtain⟨s,hs,rfl⟩:=eS.1 hr;rfl
 ·exact ki _
 ·exact ht
theorem qfN{C:Nat→Option ck}(T:lR C mT br Q0 pT):∀ n,lR C mT br (Qs n) pT∧vX (dA C mT) 234 (wQ n):=by
  have mk:∀ n,vX (dA C mT) 234 (wQ n)→lR C mT br (Qs n) pT:=fun n hq=>
   ⟨T.code,⟨fun f q h=>(by
    rw[qg8]at h;cases hf:f==237 with
    |true=>
     rw[hf]at h;simp only[cond_true,ai]at h;subst h;have:f=237:=by simpa using hf
     subst this;exact qhB T
    |false=>
     rw[hf]at h;simp only[cond_false]at h;cases hf2:f==234 with
     |true=>
      rw[hf2]at h;simp only[cond_true,ai]at h;subst h;have:f=234:=by simpa using hf2
      subst this;exact hq
     |false=>rw[hf2]at h;cases h),fun f q h=>(by cases h),fun f q h=>(by cases h)⟩,T.HQ⟩
  intro n
  induction n with
  |zero=>
   have hq:vX (dA C mT) 234 (wQ 0):=by
    intro xs rest ys hh;exfalso;unfold wQ at hh;split at hh
    case h_2=>cases hh
    split at hh
    case h_2=>cases hh
    obtain⟨hb2,-⟩:=aK hh;simp only[bC,decide_eq_true_eq]at hb2;obtain⟨⟨⟨⟨⟨h1,h2⟩,h3⟩,h4⟩,h5⟩,h6⟩:=hb2;omega
   exact⟨mk 0 hq,hq⟩
  |succ n ih=>
   have hq:=qbp n ih.1;exact⟨mk (n+1) hq,hq⟩
def Xm(xs:List (List U))(rest:List U):Option (List (List U)):=wQ small xs rest
theorem qhA{C:Nat→Option ck}(T:lR C mT br Q0 pT):vX (dA C mT) 234 Xm:=(qfN T small).2
end Go.RE
namespace Go.RE
@[simp] theorem qdX(a b:Int):jF .mul .no (.int .i64 a) (.int .i64 b)=some (.int .i64 (aI .i64 (a*b))):=rfl
def Qt:mA:=⟨fun f=>bif f==233 then some rX else bif f==234 then some Xm else none,fun _=>none,fun _=>false,fun _=>none⟩
@[simp] theorem qhb(f:Nat):Qt.q f=bif f==233 then some rX else bif f==234 then some Xm else none:=rfl
@[simp] theorem qg9(f:Nat):Qt.app f=none:=rfl
@[simp] theorem qiC(f:Nat):Qt.ld f=false:=rfl
@[simp] theorem qha(f:Nat):Qt.Jb f=none:=rfl
theorem qfO{C:Nat→Option ck}(T:lR C mT br Q0 pT):lR C mT br Qt pT:=
 ⟨T.code,⟨fun f q h=>(by
  rw[qhb]at h;cases hf:f==233 with
  |true=>
   rw[hf]at h;simp only[cond_true,ai]at h;subst h;have:f=233:=by simpa using hf
   subst this;exact qhz T
  |false=>
   rw[hf]at h;simp only[cond_false]at h;cases hf2:f==234 with
   |true=>
    rw[hf2]at h;simp only[cond_true,ai]at h;subst h;have:f=234:=by simpa using hf2
    subst this;exact qhA T
   |false=>rw[hf2]at h;cases h),fun f q h=>(by cases h),fun f q h=>(by cases h)⟩,T.HQ⟩
theorem Mz(a m b:Nat)(l:List cA)(hL:l.length<small)(h1:a<m)(h2:m<b)(h3:b≤l.length)(f:Nat)(hf:b - a≤f):Xm (l.map aQ) [.int .i64 (a:Int),.int .i64 (m:Int),.int .i64 (b:Int),.func 192 [] []]=some ((lI aX f l a m b).map aQ):=
 EU small a m b l hL h1 h2 h3 (by omega) f hf
theorem qb5(n:Nat)(hL:n<small)(K:Ex→Vs→Prop)(R:List cA)
  (hK:∀ (a:Nat) (l:List cA),l.length=n→a≤n→iS aX l a n=R→K .normal ⟨[(6,.int .i64 20),(2,.func 192 [] []),(0,.own .a 2 (l.map aQ)),(1,.int .i64 (n:Int)),(7,.int .i64 (a:Int))],[],0⟩):∀ (f a:Nat) (l:List cA),l.length=n→n≤a+f→a≤n→qI aX n f a l=R→
  gL br mT Qt pT p9 0 vj 0 ⟨[(6,.int .i64 20),(8,.int .i64 ((a+20:Nat):Int)),(2,.func 192 [] []),(7,.int .i64 (a:Int)),(0,.own .a 2 (l.map aQ)),(1,.int .i64 (n:Int))],[],0⟩ K:=by
 intro f
 induction f with
 |zero=>
  intro a l hl h1 h2 hR;obtain⟨b,hb⟩:∃ b,b=a+20:=⟨_,rfl⟩;have h0:¬((b:Int)≤(n:Int)):=by omega
  rw[qI]at hR;have:=hK a l hl h2 hR;rw[ak vj.eq_1,←hb];clear hK;simp[BR,h0];simpa using this
 |succ f ih=>
  intro a l hl h1 h2 hR;obtain⟨b,hb⟩:∃ b,b=a+20:=⟨_,rfl⟩;rw[ak vj.eq_1,←hb];rw[qI]at hR;by_cases hd:a+20≤n
  ·rw[decide_eq_true hd,cond_true,←hb]at hR;have h0:(b:Int)≤(n:Int):=by omega
   have c:=tv a b l (by omega) (by omega) (by omega);obtain⟨b',hb'⟩:∃ b',b' =b+20:=⟨_,rfl⟩;have e1:aI .i64 ((b:Int)+20)=(b' :Int):=by rw[de (by omega) (by unfold small at hL;omega)];omega
   have ih' :=ih b _ (by rw[qJ];exact hl) (by omega) (by omega) hR;rw[←hb']at ih';clear hK;simp[BR,T9,Ua,Ub,h0,c,e1,iI,Env.cc,tM,Env.fB,U.fB];simpa using ih'
  ·rw[decide_eq_false hd,cond_false]at hR;have h0:¬((b:Int)≤(n:Int)):=by omega
   have:=hK a l hl h2 hR;clear hK;simp[BR,h0];simpa using this
theorem qb6(n bs:Nat)(hL:n<small)(h0b:0<bs)(hbs:bs<n)(K:Ex→Vs→Prop)(R:List cA)
  (hK:∀ (a:Nat) (l:List cA),l.length=n→a≤n→(bif decide (a+bs<n)then lI aX n l a (a+bs) n else l)=R→K .normal ⟨[(2,.func 192 [] []),(0,.own .a 2 (l.map aQ)),(1,.int .i64 (n:Int)),(6,.int .i64 (bs:Int)),(7,.int .i64 (a:Int))],[],0⟩):∀ (f a:Nat) (l:List cA),l.length=n→n≤a+f→a≤n→s4 aX n bs f a l=R→
  gL br mT Qt pT p9 4 vh 0 ⟨[(6,.int .i64 (bs:Int)),(8,.int .i64 ((a+2*bs:Nat):Int)),(2,.func 192 [] []),(7,.int .i64 (a:Int)),(0,.own .a 2 (l.map aQ)),(1,.int .i64 (n:Int))],[],0⟩ K:=by
 intro f
 induction f with
 |zero=>
  intro a l hl h1 h2 hR;obtain⟨b,hb⟩:∃ b,b=a+2*bs:=⟨_,rfl⟩;have h0:¬((b:Int)≤(n:Int)):=by omega
  rw[s4]at hR;have:=hK a l hl h2 (by rw[decide_eq_false (by omega)];exact hR);rw[ak vh.eq_1,←hb];clear hK;simp[zH,h0];simpa using this
 |succ f ih=>
  intro a l hl h1 h2 hR;obtain⟨b,hb⟩:∃ b,b=a+2*bs:=⟨_,rfl⟩;rw[ak vh.eq_1,←hb];rw[s4]at hR;by_cases hd:a+2*bs≤n
  ·rw[decide_eq_true hd,cond_true,←hb]at hR;have h0:(b:Int)≤(n:Int):=by omega
   obtain⟨m,hm⟩:∃ m,m=a+bs:=⟨_,rfl⟩;rw[←hm]at hR;have c:=Mz a m b l (by omega) (by omega) (by omega) (by omega) (2*bs) (by omega);obtain⟨b',hb'⟩:∃ b',b' =b+2*bs:=⟨_,rfl⟩;obtain⟨b2,hb2⟩:∃ b2,b2=2*bs:=⟨_,rfl⟩;have e0:aI .i64 ((a:Int)+(bs:Int))=(m:Int):=by rw[de (by omega) (by unfold small at hL;omega)];omega
   have e1:aI .i64 (2*(bs:Int))=(b2:Int):=by rw[de (by omega) (by unfold small at hL;omega)];omega
   have e2:aI .i64 ((b:Int)+(b2:Int))=(b' :Int):=by rw[de (by omega) (by unfold small at hL;omega)];omega
   have ih' :=ih b _ (by rw[Bj _ _ _ _ _ (by omega) (by omega) (by omega)];exact hl) (by omega) (by omega) hR;rw[←hb']at ih';clear hK;simp[zH,MZ,M0,M1,h0,c,e0,e1,e2,iI,Env.cc,tM,Env.fB,U.fB];simpa using ih'
  ·rw[decide_eq_false hd,cond_false]at hR;have h0:¬((b:Int)≤(n:Int)):=by omega
   have:=hK a l hl h2 hR;clear hK;simp[zH,h0];simpa using this
theorem qb7(n:Nat)(hL:n<small)(R:List cA):∀ (f bs:Nat) (l:List cA),l.length=n→n≤bs+f→0<bs→bs<4*small→pN aX n f bs l=R→
  gL br mT Qt pT p9 2 ru 0 ⟨[(6,.int .i64 (bs:Int)),(2,.func 192 [] []),(0,.own .a 2 (l.map aQ)),(1,.int .i64 (n:Int))],[],0⟩ (CH 2 (R.map aQ)):=by
 intro f
 induction f with
 |zero=>
  intro bs l hl h1 h2 h3 hR;have h0:¬((bs:Int)<(n:Int)):=by omega
  rw[pN]at hR;subst hR;rw[ak ru.eq_1];simp[BS,h0,CH,iI,Env.cc]
 |succ f ih=>
  intro bs l hl h1 h2 h3 hR;rw[ak ru.eq_1];rw[pN]at hR;by_cases hd:bs<n
  ·rw[decide_eq_true hd,cond_true]at hR;have h0:(bs:Int)<(n:Int):=by omega
   obtain⟨b2,hb2⟩:∃ b2,b2=2*bs:=⟨_,rfl⟩;have e1:aI .i64 (2*(bs:Int))=(b2:Int):=by rw[de (by omega) (by unfold small at hL;omega)];omega
   have e2:aI .i64 ((bs:Int)*2)=(b2:Int):=by rw[de (by omega) (by unfold small at hL;omega)];omega
   rw[show bs*2=b2 by omega]at hR;have lp:=fun K hK=>qb6 n bs hL h2 hd K (s4 aX n bs n 0 l) hK n 0 l hl (by omega) (by omega) rfl;rw[show 0+2*bs=b2 by omega]at lp;have hlen:(s4 aX n bs n 0 l).length=n:=by rw[(tG aX n bs n 0 l (by omega)).length_eq];exact hl
   generalize s4 aX n bs n 0 l=l1 at*;have ih' :=ih b2 l1 hlen (by omega) (by omega) (by omega) hR;simp[BS,Uc,h0,e1];refine lp _ ?_;intro a l2 hl2 ha hx;obtain⟨m,hm⟩:∃ m,m=a+bs:=⟨_,rfl⟩;have e0:aI .i64 ((a:Int)+(bs:Int))=(m:Int):=by rw[de (by omega) (by unfold small at hL;omega)];omega
   rw[←hm]at hx;cases hmn:decide (m<n)with
   |true=>
    rw[hmn,cond_true]at hx;have:=of_decide_eq_true hmn;have c:=Mz a m n l2 (by omega) (by omega) (by omega) (by omega) n (by omega);rw[hx]at c;simp[FD,FE,FF,FG,e0,e2,hmn,c,iI,Env.cc,tM,Env.fB,U.fB];simpa using ih'
   |false=>
    rw[hmn,cond_false]at hx;subst hx;simp[FD,FE,FF,FG,e0,e2,hmn,iI,Env.cc,tM,Env.fB,U.fB];simpa using ih'
  ·rw[decide_eq_false hd,cond_false]at hR;have h0:¬((bs:Int)<(n:Int)):=by omega
   subst hR;simp[BS,h0,CH,iI,Env.cc]
theorem t223(l:List cA)(hL:l.length<small)(w:Nat)(hw:∀ r∈l.map aQ,r.length=w):
  gC br mT Qt pT p9 p9.body ⟨[(0,.own .a w (l.map aQ)),(1,.int .i64 (l.length:Int)),(2,.func 192 [] [])],[],0⟩ (CH w ((qj l).map aQ)):=by
 cases l with
 |nil=>
  have c:=tv 0 0 [] (by decide) (by omega) (by simp);simp at c;simp[sG,K7,K8];rw[ak vj.eq_1];simp[BR,K9,c,iI,Env.cc,tM,Env.fB,U.fB];rw[ak ru.eq_1];simp[BS,CH,iI,Env.cc];rfl
 |cons s l=>
  have h2:w=2:=(hw (aQ s) (by simp)).symm;subst h2;clear hw;generalize hl:s::l=l' at*;clear hl;obtain⟨n,hn⟩:∃ n,n=l'.length:=⟨_,rfl⟩;rw[←hn];have hlen:(qI aX n n 0 l').length=n:=by rw[(tu aX n n 0 l' (by omega)).length_eq];exact hn.symm
  have lp:=fun K hK=>qb5 n (by omega) K (qI aX n n 0 l') hK n 0 l' hn.symm (by omega) (by omega) rfl;have fin:=qb7 n (by omega) (qj l') n 20 (qI aX n n 0 l') hlen (by omega) (by decide) (by decide) (by unfold qj zb;rw[←hn]);generalize qI aX n n 0 l' =l1 at*;simp[sG,K7,K8];simp only[Nat.zero_add]at lp;refine lp _ ?_;intro a l2 hl2 ha hx;have c:=tv a n l2 (by omega) (by omega) (by omega);rw[hx]at c;simp[K9,c,iI,Env.cc,tM,Env.fB,U.fB];simpa using fin
def DH(xs:List (List U))(rest:List U):Option (List (List U)):=
 match rest with
 |[.int .i64 n,.func 192 [] []]=>match yH xs with
  |some l=>bif decide (n=l.length)&&decide (l.length<small)then some ((qj l).map aQ)else none
  |none=>none
 |_=>none
theorem QY(l:List cA)(hL:l.length<small):DH (l.map aQ) [.int .i64 (l.length:Int),.func 192 [] []]=some ((qj l).map aQ):=by
 simp only[DH,oM,decide_eq_true hL,decide_true,Bool.and_self,cond_true]
theorem qhy{C:Nat→Option ck}(T:lR C mT br Q0 pT):vX (dA C mT) 223 DH:=by
 refine wI (qfO T) (T.code 223 p9 rfl) rfl ?_;intro xs rest ys w hh hw;unfold DH at hh;split at hh
 case h_2=>cases hh
 rename_i n;split at hh
 case h_2=>cases hh
 rename_i l hl;obtain⟨hb2,hh3⟩:=aK hh;clear hh;have hx:=nu hl;subst hx;simp only[bC,decide_eq_true_eq]at hb2;obtain⟨h1,h4⟩:=hb2;simp only[ai]at hh3;subst hh3;subst h1;have ht:=t223 l h4 w hw;refine⟨fun u hu=> ?_,(by show 2+1≤63;omega),by simp[mj],fun r hr=> ?_,?_,?_⟩
 ·simp at hu;rcases hu with rfl|rfl<;>exact⟨rfl,rfl⟩
 ·obtain⟨s,hs,rfl⟩:=eS.1 hr;exact hw (aQ s) (List.mem_map_of_mem ((pS aX l).mem_iff.1 hs))
 ·exact ki _
 ·exact ht
def Qu:mA:=⟨fun f=>bif f==223 then some DH else none,fun _=>none,fun _=>false,fun _=>none⟩
@[simp] theorem qhe(f:Nat):Qu.q f=bif f==223 then some DH else none:=rfl
@[simp] theorem qhc(f:Nat):Qu.app f=none:=rfl
@[simp] theorem qiD(f:Nat):Qu.ld f=false:=rfl
@[simp] theorem qhd(f:Nat):Qu.Jb f=none:=rfl
theorem qfP{C:Nat→Option ck}(T:lR C mT br Q0 pT):lR C mT br Qu pT:=
 ⟨T.code,⟨fun f q h=>(by
  rw[qhe]at h;cases hf:f==223 with
  |true=>
   rw[hf]at h;simp only[cond_true,ai]at h;subst h;have:f=223:=by simpa using hf
   subst this;exact qhy T
  |false=>rw[hf]at h;cases h),fun f q h=>(by cases h),fun f q h=>(by cases h)⟩,T.HQ⟩
theorem qhx{C:Nat→Option ck}(T:lR C mT br Q0 pT):vX (dA C mT) 191 sn:=by
 refine wI (qfP T) (T.code 191 TE rfl) rfl ?_;intro xs rest ys w hh hw;unfold sn at hh;split at hh
 case h_2=>cases hh
 obtain⟨hb2,hh3⟩:=aK hh;clear hh;split at hh3
 case h_2=>cases hh3
 rename_i l hl;have hx:=nu hl;subst hx;have h4:l.length<small:=by simpa[small]using hb2
 simp only[ai]at hh3;subst hh3;have c:=QY l h4;refine⟨fun u hu=> ?_,(by show 1+1≤9;omega),by simp[mj],fun r hr=> ?_,?_,?_⟩
 ·simp at hu;rcases hu with rfl;exact⟨rfl,rfl⟩
 ·obtain⟨s,hs,rfl⟩:=eS.1 hr;exact hw (aQ s) (List.mem_map_of_mem ((pS aX l).mem_iff.1 hs))
 ·exact ki _
 ·simp[xF,TF,c,iI,Env.cc,tM,Env.fB,U.fB]
end Go.RE
