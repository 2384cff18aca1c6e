/- A part of a proof. -/
import Derived.Test.YtmpopachilfinaaGreatPart13
import Derived.ChangeArms
import Derived.Carry
import Derived.RowKit
import Derived.Test.YtmpopachilfinaaGreatRows
set_option linter.unusedVariables false
set_option linter.unusedSimpArgs false
set_option linter.unnecessarySimpa false
set_option linter.constructorNameAsVariable false
namespace Go.RE
open Go Go.Proofs Go.Sort Go.Lib Go.RowKit
def Lq:V→Bool
 | .str _=>true
 |_=>false
def LO:List V→St→Option (V×St):=fun vs s=>match vs with
 |[a,.int .i64 n,.slice vb voff 1 vcap 1 vex]=>
  (match(s.xM vb).bind fun cs=>cs[voff]? with
  |some (.str k)=>(match a with
   | .bB=>if n=0 then some (.slice s.next 0 1 1 1 false,s.alloc (.row [.str k]))else none
   | .bQ=>if n=0 then some (.slice s.next 0 1 1 1 false,s.alloc (.row [.str k]))else none
   | .slice b off len cap 1 ex=>if 0≤n∧n.toNat≤len∧len<1000000000∧b≠vb then
     (match s.xM b with
     |some cs=>if off+len≤cs.length∧((cs.drop off).take len).all Lq=true then
       some (.slice s.next 0 (len+1) (len+1) 1 false,(s.put b .dead).alloc (.row (j6 ((cs.drop off).take len) n.toNat (.str k))))else none
     |none=>none)else none
   |_=>none)
  |_=>none)
 |_=>none
theorem aV.qiX{w0:World}{ρ:Ren}{a:List V}{b:List Value}(h:aV w0 ρ a b)(n:Nat):aV w0 ρ (a.take n) (b.take n):=by
 refine⟨by simp[h.1],fun i h1 h2=> ?_⟩;simp only[List.getElem_take];exact h.2 i (by simp at h1;omega) (by simp at h2;omega)
theorem aV.qhh{w0:World}{ρ:Ren}{a:List V}{b:List Value}(h:aV w0 ρ a b)(n:Nat):aV w0 ρ (a.drop n) (b.drop n):=by
 refine⟨by simp[h.1],fun i h1 h2=> ?_⟩;simp only[PR];exact h.2 (n+i) (by simp at h1;omega) (by simp at h2;omega)
theorem I6{w0:World}{ρ:Ren}{a:List V}{b:List Value}(h:aV w0 ρ a b)(n:Nat){v:V}{x:Value}(hv:aF w0 ρ v x):aV w0 ρ (j6 a n v) (j6 b n x):=
 (h.qiX n).append (.cons hv (h.qhh n))
theorem LQ{P:Program}{f:Nat}(hfn:∃ fn b,P.funcs[f]? =some fn∧fn.body=some b∧(fn.name== "runtime.NumGoroutine")=false)(hG:qgH P f)(hRm:qgI P f)(w0:World):FH P w0 f 3 LO:=by
 refine⟨hfn,?_⟩;intro args s v s' ρ w args' hl hp hR hA;unfold LO at hp;split at hp
 case h_2=>cases hp
 rename_i a n vb voff vcap vex;split at hp
 case h_2=>cases hp
 rename_i k hk;obtain⟨ya,xs,rfl,ha,hxs⟩:=hA.bD;obtain⟨yn,xs2,rfl,hn,hxs2⟩:=hxs.bD;obtain⟨yx,xs3,rfl,hx,hxs3⟩:=hxs2.bD;obtain rfl:=hxs3.eF;cases hn
 -- what is put in
 obtain⟨vcs,hvw,hvk⟩:∃ vcs,s.xM vb=some vcs∧vcs[voff]? =some (.str k):=by
  cases hw:s.xM vb with
  |none=>rw[hw]at hk;cases hk
  |some vcs=>rw[hw]at hk;exact⟨vcs,rfl,hk⟩
 have hvg:=sZ hvw;cases hx with
 |slice hvρ hv1 hv2 hv3 hv4 hvcb=>
 rename_i r2 o2 lim2 a2 vcap';have ha2:a2=⟨r2,o2+voff,none⟩:=by
  rcases hv4 with h|h
  ·omega
  ·exact h.1
 subst ha2;obtain⟨vC,vt,vfr,p1,p2,p3,p4,p5⟩:jm w0 ρ o2 lim2 (some (.row vcs)) w.heap[r2]? :=by
  have:=hR.ob vb r2 o2 lim2 hvρ;rw[hvg]at this;exact this
 have hvlt:voff<vcs.length:=by
  rcases uP voff vcs.length with h|h
  ·exact h
  ·rw[z8 h]at hvk;cases hvk
 obtain⟨x,hx1,hx2⟩:=p5 voff hvlt;have hkk:vcs[voff]=.str k:=by
  rw[aQ hvlt]at hvk;exact qh hvk
 rw[hkk]at hx2;have hxone:x.oneCell' =true:=by cases hx2;rfl
 have hxcell:w.cell? ⟨r2,o2+voff,none⟩=some x:=by simp[World.cell?,p1,hx1]
 -- a new row
 have fin:∀ (s0:St) (base:Option Addr) (m cap i:Nat) (old:List V) (olds:List Value),Rel w0 ρ s0 w→kH ρ s w ρ s0 w→aV w0 ρ old olds→i≤m→m≤cap→cap<m+1→m<1000000000→olds.length=m→(base=none→m=0)→
   (i<m→∃ b off,base=some ⟨b,off,none⟩)→(∀ a,base=some a→∀ j v,olds[j]? =some v→w.cell? (a.add j)=some v)→(∀ v∈olds,v.oneCell' =true)→
   Calls P f #[.slice base m cap,.int .i64 i,.slice (some ⟨r2,o2+voff,none⟩) 1 vcap'] w fun e w' =>∃ ρ' y,e=.returned y∧Rel w0 ρ' (s0.alloc (.row (j6 old i (.str k)))) w'∧kH ρ s w ρ' (s0.alloc (.row (j6 old i (.str k)))) w'∧
    aF w0 ρ' (.slice s0.next 0 (m+1) (m+1) 1 false) y:=by
  intro s0 base m cap i old olds hR0 hS0 hold him hmc hcm hbig holds hnil hb hcs h1c;refine(hG base m cap i r2 (o2+voff) vcap' olds x w him hmc hcm (by omega) holds hnil hb hcs hxcell hxone h1c).mono ?_;rintro e w' ⟨c',C,t,rfl,g1,g2,g3,g4,g5,g6,g7⟩;have hrel:=I6 hold i hx2;have hil:(j6 olds i x).length=m+1:=by rw[B0 _ _ _ (by omega),holds]
  have hobr:jm w0 ρ 0 c' (some (.row (j6 old i (.str k)))) (some (.cells C t (0,0))):=by
   refine⟨C,t,(0,0),rfl,g3,by rw[hrel.1];omega,fun j _=>by omega,fun j hj=> ?_⟩;rw[hrel.1]at hj;refine⟨(j6 olds i x)[j],?_,hrel.2 j (by rw[hrel.1];exact hj) hj⟩;rw[kF,g4 j (by omega),aQ hj]
  obtain⟨k1,k2⟩:=hR0.alloc hobr;have hheap:w'.heap=(w.alloc (.cells C t (0,0))).heap:=g5;exact⟨_,_,rfl,k1.same (w' :=w') hheap g6 g7,(hS0.trans k2).trans (kH.same (w' :=w') hheap),.slice (Ren.add_same _ _ _) g1 (fun h=>by simp at h) (ak _) (.inr ⟨rfl,by omega⟩) g2⟩
 split at hp
 ·-- nil
  split at hp
  case isFalse=>cases hp
  rename_i hn0;subst hn0;simp only[ag,ay]at hp;obtain⟨rfl,rfl⟩:=hp;cases ha;exact fin s none 0 0 0 [] [] hR (.refl _ _ _) .nil (ak _) (ak _) (by omega) (by decide) rfl (fun _=>rfl) (fun h=>by omega) (fun a h=>by cases h) (fun v hv=>by cases hv)
 ·split at hp
  case isFalse=>cases hp
  rename_i hn0;subst hn0;simp only[ag,ay]at hp;obtain⟨rfl,rfl⟩:=hp;cases ha;exact fin s (some _) 0 0 0 [] [] hR (.refl _ _ _) .nil (ak _) (ak _) (by omega) (by decide) rfl (fun _=>rfl) (fun h=>by omega) (fun a h j v hj=>by simp at hj) (fun v hv=>by cases hv)
 ·rename_i b off len cap ex;split at hp
  case isFalse=>cases hp
  rename_i hcond;obtain⟨h0n,hnl,hsm,hbv⟩:=hcond;split at hp
  case h_2=>cases hp
  rename_i cs hcs;split at hp
  case isFalse=>cases hp
  rename_i hcond2;obtain⟨hoff,hstr⟩:=hcond2;simp only[ag,ay]at hp;obtain⟨rfl,rfl⟩:=hp;obtain⟨i,rfl⟩:=qm h0n;simp only[s7]at hnl⊢;have hbg:=sZ hcs;cases ha with
  |slice hρ h1 h2 h3 h4 hcb=>
  rename_i r o lim aa cap';obtain⟨C,t,fr,q1,q2,q3,q4,q5⟩:jm w0 ρ o lim (some (.row cs)) w.heap[r]? :=by
   have:=hR.ob b r o lim hρ;rw[hbg]at this;exact this
  have hrow:∃ ys,aV w0 ρ ((cs.drop off).take len) ys∧∀ j,j<len→C[o+off+j]? =ys[j]? :=by
   refine⟨(List.range len).map fun j=>C[o+off+j]!,⟨by simp;omega,fun i h1 h2=> ?_⟩,fun j hj=> ?_⟩
   ·simp at h1;obtain⟨v,e1,e2⟩:=q5 (off+i) (by omega);have e3:C[o+off+i]! =v:=by rw[FD,mu,gI,e1];rfl
    simp[e3];exact e2
   ·obtain⟨v,e1,e2⟩:=q5 (off+j) (by omega);have e3:C[o+off+j]! =v:=by rw[FD,mu,gI,e1];rfl
    rw[gE,Fz hj,kP,e3,gI,e1]
  obtain⟨ys,hy1,hy2⟩:=hrow;have hyl:ys.length=len:=by rw[←hy1.1];simp;omega
  have hyone:∀ v∈ys,v.oneCell' =true:=by
   intro v hv;obtain⟨j,hj,rfl⟩:=s6.1 hv;have hj' :j<((cs.drop off).take len).length:=by rw[hy1.1];exact hj
   have e1:=hy1.2 j hj' hj;have e2:=fF.1 hstr _ (xP hj');generalize ((cs.drop off).take len)[j]=u at e1 e2;generalize ys[j]=y at e1⊢;cases e1<;>first|rfl|cases e2
  have hcell:∀ j v,ys[j]? =some v→C[o+off+j]? =some v:=fun j v hj=>by
   rw[hy2 j (by have:=(aH.1 hj).1;omega)];exact hj
  by_cases hroom:cap' <len+1
  ·-- grown
   obtain⟨k1,k2⟩:=hR.kill hρ;refine fin (s.put b .dead) (some aa) len cap' i _ ys k1 k2 hy1 hnl (by omega) hroom hsm hyl (fun h=>by cases h) (fun hi=> ?_) (fun a ha j v hj=> ?_) hyone
   ·rcases h4 with h4|h4
    ·omega
    ·exact⟨r,o+off,by rw[h4.1]⟩
   ·cases ha;have hjl:j<len:=by have:=(aH.1 hj).1;omega
    rcases h4 with h4|h4
    ·omega
    ·rw[h4.1,Addr.add_lit];simp only[World.cell?,q1,hcell j v hj];rfl
  ·-- in place
   have h4' :aa=⟨r,o+off,none⟩∧o+off+cap'*1≤lim:=by
    rcases h4 with h4|h4
    ·omega
    ·exact h4
   obtain⟨rfl,h4b⟩:=h4';have hne:r2≠r:=fun hh=>by
    subst hh;exact hbv (hR.inj b vb r2 o lim o2 lim2 hρ hvρ (by rw[hbg];trivial) (by rw[hvg];trivial))
   refine(hRm r (o+off) len cap' i r2 (o2+voff) vcap' ys x w C t fr vC vt vfr hnl (by omega) hcb q1 (by omega) (by rw[q2];exact q4) hyl hcell hne p1 hx1 (by rw[p2];exact p4) hxone hyone).mono ?_;rintro e w' ⟨rfl,C',g1,g2,g3,g4,g5⟩;have hrel:=I6 hy1 i hx2;have hil:(j6 ys i x).length=len+1:=by rw[B0 _ _ _ (by omega),hyl]
   have hobr:jm w0 ρ (o+off) lim (some (.row (j6 ((cs.drop off).take len) i (.str k)))) (some (.cells C' t fr)):=by
    refine⟨C',t,fr,rfl,by omega,by rw[hrel.1];omega,q4,fun j hj=> ?_⟩;rw[hrel.1]at hj;refine⟨(j6 ys i x)[j],?_,hrel.2 j (by rw[hrel.1];exact hj) hj⟩;rw[g5,if_pos (by omega),show o+off+j - (o+off)=j by omega,aQ hj]
   obtain⟨k1,k2⟩:=hR.grow hρ (by rw[hbg];trivial) hobr;have hheap:w'.heap=({w with heap:=w.heap.setIfInBounds r (.cells C' t fr)}:World).heap:=g1;exact⟨_,_,rfl,k1.same (w' :=w') hheap g3 g4,k2.trans (kH.same (w' :=w') hheap),.slice (Ren.add_same _ _ _) (by omega) (fun h=>by simp at h) (ak _) (.inr ⟨rfl,by omega⟩) hcb⟩
 ·cases hp
end Go.RE
namespace Go.RE
theorem EO{σ:Sg}{Z:Zs}:∀ {xs:List (List U)} {l:List V},(k9 xs).isSome=true→(∀ r∈xs,r.length=1)→LU σ Z 0 xs.flatten l→l.all Lq=true∧l.length=xs.length
 |[],l,_,_,h=>by obtain rfl:=h.eF;exact⟨rfl,rfl⟩
 |x::xs,l,hk,hw,h=>by
  have h1:=hw x cB
  match x,h1 with
  |[u],_=>
   have hk' :=hk;unfold k9 at hk';cases hu:qH [u]with
   |none=>rw[hu]at hk';cases hk'
   |some k=>
    cases hks:k9 xs with
    |none=>rw[hu,hks]at hk';cases hk'
    |some ks=>
     obtain⟨v,l',rfl,h2,h3⟩:=(show LU σ Z 0 (u::xs.flatten) l from h).bD;obtain⟨i1,i2⟩:=EO (by rw[hks];rfl) (fun r hr=>hw r (eu _ hr)) h3;have hv:Lq v=true:=by
      unfold qH at hu;split at hu
      ·rename_i heq;cases heq;cases h2;rfl
      ·cases hu
     exact⟨by rw[kG,hv,i1];rfl,by simp[i2]⟩
theorem ZE{σ:Sg}{Z:Zs}{xs:List (List U)}{l:List V}{k:By}(n:Nat)(hw:∀ r∈xs,r.length=1)(h:LU σ Z 0 xs.flatten l):LU σ Z 0 (xs.take n++[[U.str k]]++xs.drop n).flatten (j6 l n (V.str k)):=by
 have e1:∀ (m:Nat) (ys:List (List U)),(∀ r∈ys,r.length=1)→(ys.take m).flatten=ys.flatten.take m∧(ys.drop m).flatten=ys.flatten.drop m:=by
  intro m
  induction m with
  |zero=>intro ys _;simp
  |succ m ih=>
   intro ys hy;cases ys with
   |nil=>simp
   |cons y ys=>
    have h1:=hy y cB
    match y,h1 with
    |[u],_=>
     obtain⟨i1,i2⟩:=ih ys (fun r hr=>hy r (eu _ hr));simp[i1,i2]
 obtain⟨a1,a2⟩:=e1 n xs hw;rw[KG,KG,a1,a2];unfold j6;rw[gD];exact(h.take n).append (LU.cons (.str k) (h.drop n))
theorem ZF{C:Nat→Option cq}{M:qn}{f:Nat}(hC:C f=some (rm 3 LO)):qgF (dz C M) f QD:=by
 intro xs rest ys hq E σ Z ω s e st g w v vs d hk hga hrw hnt hor hlen hr;unfold QD at hq;split at hq
 case h_2=>cases hq
 rename_i n t k;obtain⟨hb,hq2⟩:=aO hq;clear hq;simp only[aI,decide_eq_true_eq]at hb;obtain⟨⟨⟨⟨hn0,hnl⟩,hsm⟩,hks⟩,hrows⟩:=hb;simp only[ag]at hq2;subst hq2;obtain⟨n,rfl⟩:=qm hn0;simp only[s7]at hnl⊢hrw;have hnl:=dY hnl;have hsm:xs.length<1000000000:=by simp only[Nat.blt,ez]at hsm;omega
 have hw1:w=1:=by
  have:([U.str k]:List U)∈xs.take n++[[U.str k]]++xs.drop n:=by simp
  have:=fF.1 hrw _ this;simpa using(aU this).symm
 subst hw1;obtain⟨vn,vx,rfl⟩:∃ vn vx,vs=[vn,vx]:=by
  match vs,hlen with
  |[vn,vx],_=>exact⟨vn,vx,rfl⟩
 have hvn:vn=.int .i64 (n:Int):=by
  have h2:UR σ Z s.h.length (.int .i64 (n:Int)) vn:=Oi (hr 0 _ _ rfl rfl) rfl;cases h2;rfl
 subst hvn
 -- what is put in
 have hox:OR σ Z ω (.t t) 1 [[.str k]] vx:=(hr 1 _ _ rfl rfl).1;obtain⟨J,hJ,rfl,jc,jx⟩:∃ J,ω (.t t)=some J∧vx=.slice J.b J.off 1 J.cap 1 J.ex∧1≤J.cap∧J.row[J.off]? =some (.str k):=by
  unfold OR at hox;split at hox
  ·cases hox.1
  ·rename_i J hJ;obtain⟨rfl,⟨_,_⟩,e1,e2,e3,e4⟩:=hox;refine⟨J,hJ,rfl,by simpa using e1,?_⟩;have e5:LU σ Z 0 [.str k] ((J.row.drop J.off).take 1):=by simpa using e4
   obtain⟨v,l,h1,h2,h3⟩:=e5.bD;cases h2;have h6:((J.row.drop J.off).take 1)[0]? =some (.str k):=by rw[h1];rfl
   rw[fU,if_pos (by omega),jX]at h6;simpa using h6
 have hJr:=hk.mq _ J hJ;have hgt:g≠.t t:=by
  intro hh;subst hh;simp[wm]at hnt
 have hbind:((st.xM J.b).bind fun cs=>cs[J.off]?)=some (.str k):=by rw[rV hJr];exact jx
 -- a new row of the call's own,where the slice's block is done with
 have fin:∀ (l:List V) (st0:St),LU σ Z 0 xs.flatten l→(∀ r∈xs,r.length=1)→Ok E σ Z (dW ω g none) (s.kill g) e st0→st0.next=st.next→
   ∃ ω',Ok E σ Z ω' ((s.kill g).kill (.t d)) e (st0.alloc (.row (j6 l n (.str k))))∧OR σ Z ω' (.t d) 1 (xs.take n++[[U.str k]]++xs.drop n) (.slice st0.next 0 (xs.length+1) (xs.length+1) 1 false):=by
  intro l st0 hlu hw ho hnx;have hlu' :=ZE (k:=k) n hw hlu;have hyl:(xs.take n++[[U.str k]]++xs.drop n).length=xs.length+1:=by simp;omega
  have hyw:∀ r∈xs.take n++[[U.str k]]++xs.drop n,r.length=1:=fun r hr=>by
   rcases eH.1 hr with hr|hr
   ·rcases eH.1 hr with hr|hr
    ·exact hw r (ta hr)
    ·simp at hr;subst hr;rfl
   ·exact hw r (iF hr)
  have hfl:(j6 l n (V.str k)).length=xs.length+1:=by
   rw[←hlu'.1,dM hyw,hyl,PA]
  obtain⟨ω',k1,k2⟩:=ho.Gg (d:=d) (w:=1) (cap:=xs.length+1) (ex:=false) (xs:=xs.take n++[[U.str k]]++xs.drop n) (row:=j6 l n (.str k)) (by omega) (by omega) hyw (by
   have e5:(j6 l n (V.str k)).take ((xs.length+1)*1)=j6 l n (V.str k):=gu (by omega);rw[hyl,e5];exact hlu')
  rw[hyl]at k2;exact⟨ω',k1,k2⟩
 have hor0:=hor;unfold OR at hor;split at hor
 ·rename_i hg;obtain⟨h0,hv⟩:=hor;subst h0;have hn00:n=0:=by simpa using hnl
  subst hn00;have hko:Ok E σ Z (dW ω g none) (s.kill g) e st:=by
   have hω:dW ω g none=ω:=by
    funext x;by_cases hxx:x=g
    ·subst hxx;rw[bt,hg]
    ·rw[dy _ _ hxx]
   rw[hω];exact hk.kill g
  obtain⟨ω',k1,k2⟩:=fin [] st LU.nil (fun r hr=>by cases hr) hko rfl;refine kT hC rfl (st' :=st.alloc (.row [.str k])) (v:=.slice st.next 0 1 1 1 false) ?_ ⟨ω',k1,k2⟩;rcases hv with rfl|rfl<;>simp only[LO,hbind]<;>rfl
 ·rename_i I hg;obtain⟨rfl,⟨hIw,hIx⟩,e1,e2,e3,e4⟩:=hor;have hIr:=hk.mq g I hg;have hle:I.off+xs.length≤I.row.length:=by omega
  have e4' :LU σ Z 0 xs.flatten ((I.row.drop I.off).take xs.length):=by simpa using e4
  obtain⟨hst,hsl⟩:=EO hks e3 e4';have hgr:g≠.r:=fun hh=>by subst hh;rw[hk.wr]at hg;cases hg
  have hbne:I.b≠J.b:=fun hh=>hgt (hk.ic g (.t t) I J hg hJ hh);obtain⟨n1,n2,n3,n4,n5⟩:=EJ hk hg;have hk2:=(hk.kill g).Cw (fD g s) hgr (o:=none) (fun J hJ=>by cases hJ) hga;have hfree:∀ g' J,dW ω g none g' =some J→J.b≠I.b:=fun g' J hJ=>by
   by_cases hq:g' =g
   ·subst hq;rw[bt]at hJ;cases hJ
   ·rw[dy _ _ hq]at hJ;exact n4 g' J hq hJ
  have hk3:=hk2.Gn n1 (fun i hi=>n2 i (by rw[dA]at hi;exact hi)) n3 hfree n5 .dead;obtain⟨ω',k1,k2⟩:=fin _ (st.put I.b .dead) e4' e3 hk3 rfl;refine kT hC rfl (st' :=(st.put I.b .dead).alloc (.row (j6 ((I.row.drop I.off).take xs.length) n (.str k)))) (v:=.slice st.next 0 (xs.length+1) (xs.length+1) 1 false) ?_ ⟨ω',k1,k2⟩;have hc1:(0:Int)≤(n:Int)∧(n:Int).toNat≤xs.length∧xs.length<1000000000∧I.b≠J.b:=⟨by omega,by simpa using hnl,hsm,hbne⟩;simp only[LO,hbind,if_pos hc1,rV hIr,if_pos (show I.off+xs.length≤I.row.length∧_ from⟨hle,hst⟩),s7];exact if_pos ⟨by omega,hnl,hsm,hbne⟩
end Go.RE
namespace Go.RE
def sj:Ren:=fun _=>none
structure Kept(W W' :World):Prop where
 os:W'.os=W.os
 output:W'.output=W.output
 block:∀ k,k<W.heap.size→W'.heap[k]? =W.heap[k]?
theorem Kept.frame{W W' :World}(h:Kept W W')(may:MemPlace→Prop):W.keptBut W' may:=by
 refine⟨h.os,h.output,fun i hi=> ?_⟩;rw[h.block i hi];split<;>simp_all
theorem Kept.same{W W' :World}(h:Kept W W'){p:MemPlace}(hp:p.block<W.heap.size):W.sameAt W' p:=by
 cases p with
 |cell b o=>exact World.cell?_of_block (w:=W) (h.block b hp)
 |map b=>exact h.block b hp
theorem Kept.trod{H:Type}{enc:TypeId×Value→H}{P:Program}{t:TypeId}(hl:laidOutB P=true)(hr:P.readableRec t=true)(hrow:t<P.types.size){W W' :World}{v:Value}{d:DataW H}{ps:List MemPlace}
  (h:DataW.Trod enc P W 0 (fun _=>true) true t v d ps) (hb:Kept W W') (hlt:∀ x∈ps,x.block<W.heap.size):
  DataW.Trod enc P W' 0 (fun b=>decide (b<W.heap.size)) true t v d ps:=
 WideElems.Trod_stays hl hr hrow h (fun x hx=>hb.same (hlt x hx)) (fun x hx=>by simpa using hlt x hx)
def Gh:St:={h:=.e,next:=0}
theorem QG{P:Program}{C:Nat→Option cq}{M:qn}{W:World}(hC:KK P W C)(hM:rK P M)(hD:Bp P){f n:Nat}{vs:List V}{args:Array Value}{q:V}
  (hl:aV W sj vs args.toList) (h:bY C M n f vs Gh fun v _=>v=q):
  Calls P f args W fun e W' =>(∃ x ρ',e=.returned x∧aF W ρ' q x)∧Kept W W' :=by
 have hR:Rel W sj Gh W:={
  old:=fun _ _=>rfl
  size:=ak _
  os:=rfl
  output:=rfl
  dom:=fun _ _ _ _ e=>by cases e
  fresh:=fun n _=>by simp[Gh,St.get]
  ob:=fun _ _ _ _ e=>by cases e
  inj:=fun _ _ _ _ _ _ _ e=>by cases e}
 obtain⟨_,hc⟩:=YY (w0:=W) hC hM hD n f vs Gh _ sj W args.toList h hR hl;rw[PB]at hc;refine hc.mono fun e W' h' => ?_;obtain⟨v,s',ρ',x,he,hk,hr,_,hv⟩:=h';subst hk;exact⟨⟨x,ρ',he,hv⟩,hr.os,hr.output,hr.old⟩
section
variable{H:Type}(enc:TypeId×Value→H)(P:Program)(w:World)
variable{enc P w}
def B6(P:Program)(tot:Nat):Nat→List Field→Bool
 |off,[]=>off==tot
 |off,f::fs=>f.offset==off&&B6 P tot (off+P.cellsOf f.type) fs
theorem Is{b o n:Nat}:(⟨b,o,none⟩:Addr).add n=⟨b,o+n,none⟩:=by
 unfold Addr.add;split
 ·rename_i h;subst h;rfl
 ·rfl
end
end Go.RE
namespace Go.RE
section
variable{H:Type}(enc:TypeId×Value→H)(P:Program)(w:World)(bk:DataW H→Nat)(B:Nat)
structure FF:Prop where
 str:∀ b:List UInt8,b.length≤bk (.lit (.string b))
 len:∀ es sp,es.length≤bk (.slice es sp)
 elt:∀ es sp d,d∈es→bk d≤bk (.slice es sp)
 part:∀ ps d,d∈ps→bk d≤bk (.agg ps)
def gQ(us:List U)(vs:List V):Prop:=∀ σ Z,LU σ Z 0 us vs
def KL(t:TypeId)(S:List U→Prop):Prop:=
 ∀ fuel cs x,DataW.trod enc P w 0 (fun _=>true) true fuel t cs=some x→bk x.1≤B→∃ vs us,aV w sj vs cs∧S us∧gQ us vs
variable{enc P w bk B}
theorem gQ.nil:gQ [] []:=fun σ Z=>LU.nil
theorem gQ.one{u:U}{v:V}(h:∀ σ Z,UR σ Z 0 u v):gQ [u] [v]:=fun σ Z=>LU.cons (h σ Z) LU.nil
theorem gQ.append{a c:List U}{b d:List V}(h:gQ a b)(h' :gQ c d):gQ (a++c) (b++d):=fun σ Z=>(h σ Z).append (h' σ Z)
theorem S8{t:TypeId}(ht:P.underlying t=some .bool):KL enc P w bk B t fun us=>∃ b,us=[.bool b]:=by
 intro fuel cs x h hb;obtain⟨b,rfl,_⟩:=DataW.trod_bool ht h;exact⟨[.bool b],[.bool b],aV.cons (.bool b) .nil,⟨b,rfl⟩,gQ.one fun σ Z=> .bool b⟩
theorem lN{t:TypeId}{k:IntKind}(ht:P.underlying t=some (.int k)):KL enc P w bk B t fun us=>∃ n,us=[.int k n]∧(Lit.int k n).wf=true:=by
 intro fuel cs x h hb;obtain⟨n,rfl,_,hw⟩:=DataW.trod_int ht h;exact⟨[.int k n],[.int k n],aV.cons (.int k n) .nil,⟨n,rfl,hw⟩,gQ.one fun σ Z=> .int k n⟩
theorem Ck{t:TypeId}(hk:FF bk)(ht:P.underlying t=some .string):KL enc P w bk B t fun us=>∃ l:List UInt8,us=[.str l]∧l.length≤B:=by
 intro fuel cs x h hb;obtain⟨s,rfl,hx,hs⟩:=DataW.trod_string ht h;subst hx;exact⟨[.str s.data.toList],[.str s.data.toList],aV.cons (.str rfl) .nil,⟨_,rfl,j0 (hk.str _) hb⟩,gQ.one fun σ Z=> .str _⟩
def FS:List (List U→Prop)→List U→Prop
 |[],us=>us=[]
 |S::Ss,us=>∃ a b,us=a++b∧S a∧FS Ss b
def qdb(enc:TypeId×Value→H)(P:Program)(w:World)(bk:DataW H→Nat)(B:Nat):List Field→List (List U→Prop)→Prop
 |[],[]=>True
 |f::fs,S::Ss=>KL enc P w bk B f.type S∧qdb enc P w bk B fs Ss
 |_,_=>False
theorem LK{cs:List Value}:∀ {fs:List Field} {Ss:List (List U→Prop)} {off:Nat},B6 P cs.length off fs=true→qdb enc P w bk B fs Ss→
  (∀ f∈fs,∃ fuel x,DataW.trod enc P w 0 (fun _=>true) true fuel f.type ((cs.drop f.offset).take (P.cellsOf f.type))=some x∧bk x.1≤B)→∃ vs us,aV w sj vs (cs.drop off)∧FS Ss us∧gQ us vs:=by
 intro fs
 induction fs with
 |nil=>
  intro Ss off hl ho _;cases Ss with
  |cons=>exact ho.elim
  |nil=>
   simp only[B6,beq_iff_eq]at hl;subst hl;exact⟨[],[],by rw[List.drop_length];exact .nil,rfl,gQ.nil⟩
 |cons f fs ih=>
  intro Ss off hl ho hr;cases Ss with
  |nil=>exact ho.elim
  |cons S Ss=>
   simp only[B6,aI,beq_iff_eq]at hl;obtain⟨rfl,hl⟩:=hl;obtain⟨fuel,x,hx,hxb⟩:=hr f cB;obtain⟨va,ua,ha,hq,hu⟩:=ho.1 fuel _ x hx hxb;obtain⟨vb,ub,hb,hqs,hus⟩:=ih hl ho.2 (fun g hg=>hr g (eu _ hg));refine⟨va++vb,ua++ub,?_,⟨ua,ub,rfl,hq,hqs⟩,hu.append hus⟩;have:=ha.append hb;rwa[←Ad,s9]at this
theorem vp{t:TypeId}{fs:Array Field}(hk:FF bk)(ht:P.underlying t=some (.struct fs)){Ss:List (List U→Prop)}(hl:B6 P (P.cellsOf t) 0 fs.toList=true)(ho:qdb enc P w bk B fs.toList Ss):
  KL enc P w bk B t (FS Ss):=by
 intro fuel cs x h hb;obtain⟨xs,n,rfl,hxe,hlen,hxs,hf⟩:=DataW.trod_struct ht h;subst hxe;rw[←hlen]at hl;obtain⟨vs,us,h1,h2,h3⟩:=LK (off:=0) hl ho fun f hm=>by
  obtain⟨i,hi,rfl⟩:=List.getElem_of_mem hm;have hi' :i<fs.size:=by simpa using hi
  have:=hf i fs[i] (by rw[mQ hi']);rw[aQ (by omega)]at this;refine⟨n,_,by simpa using this,j0 (hk.part _ _ ?_) hb⟩;exact cD.2 ⟨_,xP _,rfl⟩
 exact⟨vs,us,by simpa using h1,h2,h3⟩
theorem EY{t e:TypeId}{c:Nat}{S:List U→Prop}(hk:FF bk)(ht:P.underlying t=some (.slice e))(hc:P.cellsOf e=c)(hpos:0<c)(he:KL enc P w bk B e S):
  KL enc P w bk B t fun us=>∃ rows:List (List U),us=[.sl c rows]∧(∀ r∈rows,S r∧r.length=c)∧rows.length≤B∧rows.length≤maxLen:=by
 intro fuel cs x h hb;rcases DataW.trod_slice ht h with⟨rfl,_⟩|⟨a,len,cap,elems,rest,n,_,rfl,hxe,_,hlc,hcm,hlen,hel,hsp,_⟩
 ·exact⟨[.bB],[.sl c []],aV.cons .bB .nil,⟨[],rfl,(fun r hr=>by cases hr),bU _,bU _⟩,gQ.one fun σ Z=> .slnil⟩
 subst hxe;have hlenB:len≤B:=by
  have h1:=hk.len (elems.map (·.1)) (rest.map (·.1));simp only[oS]at h1;have h2:=j0 h1 hb;omega
 obtain⟨hrl,hre⟩:=hsp rfl;have each:∀ i,i<len→∃ xs:List Value,xs.length=c∧(∀ j,j<c→w.cell? ((a.add (i*c)).add j)=xs[j]?)∧∃ (r:List V) (u:List U),aV w sj r xs∧S u∧gQ u r:=by
  intro i hi;have h1:=hel i hi;rw[aQ (by omega),Option.bind_eq_some_iff]at h1;obtain⟨xs,hxs,hy⟩:=h1;have hyb:bk (elems[i]'(by omega)).1≤B:=j0 (hk.elt _ _ _ (cD.2 ⟨_,xP _,rfl⟩)) hb;obtain⟨r,u,hr,hq,hu⟩:=he _ _ _ hy hyb;rw[hc]at hxs;unfold World.cells? at hxs;rw[if_pos (bU _)]at hxs;refine⟨xs,by simpa using mapM_some_length hxs,fun j hj=> ?_,r,u,hr,hq,hu⟩;exact mapM_some_get hxs j j (by rw[Fz hj])
 have hspot:cap=0∨a.spot=none:=by
  by_cases h0:cap=0
  ·exact .inl h0
  right;by_cases hl0:len=0
  ·have h1:=hre 0 (by omega);rw[aQ (by omega),Option.bind_eq_some_iff]at h1;obtain⟨xs,hxs,_⟩:=h1;rw[hc]at hxs;unfold World.cells? at hxs;rw[if_pos (bU _)]at hxs;have hl:=mapM_some_length hxs;have:=mapM_some_get hxs 0 0 (by rw[Fz hpos]);rw[aQ (by simp at hl;omega)]at this;simpa[Addr.add,hl0]using World.cell?_spot this
  ·obtain⟨xs,h1,h2,_⟩:=each 0 (by omega);have:=h2 0 hpos;rw[aQ (by omega)]at this;simpa[Addr.add]using World.cell?_spot this
 obtain⟨b,off,spot⟩:=a;have pick:∀ i:Nat,∃ p:List V×List Value×List U,i<len→p.1.length=c∧p.2.1.length=c∧(∀ j,j<c→w.cell? ⟨b,off+i*c+j,none⟩=p.2.1[j]?)∧aV w sj p.1 p.2.1∧S p.2.2∧gQ p.2.2 p.1:=by
  intro i;by_cases hi:i<len
  ·obtain⟨xs,h1,h2,r,u,h3,h4,h5⟩:=each i hi;refine⟨(r,xs,u),fun _=>⟨h3.1.trans h1,h1,fun j hj=> ?_,h3,h4,h5⟩⟩;rcases hspot with h0|h0
   ·omega
   ·simp only at h0;subst h0;have h5:=h2 j hj;rw[Is,Is]at h5;exact h5
  ·exact⟨([],[],[]),fun h=>absurd h hi⟩
 let g:=fun i=>Classical.choose (pick i);have hg:∀ i,i<len→(g i).1.length=c∧(g i).2.1.length=c∧(∀ j,j<c→w.cell? ⟨b,off+i*c+j,none⟩=(g i).2.1[j]?)∧aV w sj (g i).1 (g i).2.1∧S (g i).2.2∧gQ (g i).2.2 (g i).1:=fun i=>Classical.choose_spec (pick i);let rows:=(List.range len).map fun i=>(g i).1;let urows:=(List.range len).map fun i=>(g i).2.2;have hrlen:rows.length=len:=by simp[rows]
 have hulen:urows.length=len:=by simp[urows]
 have hrow:∀ r∈rows,r.length=c:=by
  intro r hr;obtain⟨i,hi,rfl⟩:=cD.1 hr;exact(hg i (Ab.1 hi)).1
 have hul:∀ i,i<len→(g i).2.2.length=c:=fun i hi=>by
  have h1:=(hg i hi).2.2.2.2.2 (fun i=>i) (fun _=>none);rw[h1.1];exact(hg i hi).1
 have hurow:∀ r∈urows,r.length=c:=by
  intro r hr;obtain⟨i,hi,rfl⟩:=cD.1 hr;exact hul i (Ab.1 hi)
 have hget:∀ i (h:i<rows.length),rows[i]=(g i).1:=by intro i h;simp[rows]
 obtain⟨f1,f2⟩:=FY hrow;have flat:∀ i j,i<len→j<c→rows.flatten[i*c+j]? =(g i).1[j]? :=by
  intro i j hi hj;have h2:=f2 i (by omega);rw[hget i (by omega)]at h2;have h3:=congrArg (·[j]?) h2;simp only[fU,jX,if_pos hj]at h3;exact h3
 have flatU:gQ urows.flatten rows.flatten:=by
  have key:∀ l:List Nat,(∀ i∈l,i<len)→gQ ((l.map fun i=>(g i).2.2).flatten) ((l.map fun i=>(g i).1).flatten):=by
   intro l
   induction l with
   |nil=>intro _;exact gQ.nil
   |cons i l ih=>
    intro hl;simp only[ct,iE];exact(hg i (hl i cB)).2.2.2.2.2.append (ih fun j hj=>hl j (eu _ hj))
  exact key _ fun i hi=>Ab.1 hi
 have cell:∀ i (hi:i<rows.flatten.length),∃ y,w.cell? ⟨b,off+i,none⟩=some y∧aF w sj rows.flatten[i] y:=by
  intro i hi;rw[f1,hrlen]at hi;have hd:i / c<len:=Nat.div_lt_of_lt_mul (by rw[Nat.mul_comm];exact hi);have hm:i % c<c:=Kw _ hpos;have he:i / c*c+i % c=i:=by rw[Nat.mul_comm];exact Nat.div_add_mod i c
  obtain⟨g1,g2,g3,g4,_⟩:=hg (i / c) hd;have h1:=g3 (i % c) hm;rw[gI,he,aQ (by omega)]at h1;have h2:=flat (i / c) (i % c) hd hm;rw[he,aQ (by omega),aQ (by omega)]at h2;refine⟨_,h1,?_⟩;rw[qh h2];exact g4.2 _ _ _
 refine⟨[.ah rows.flatten 0 rows.length c],[.sl c urows],aV.cons ?_ .nil,⟨urows,rfl,fun r hr=>⟨?_,hurow r hr⟩,by omega,by omega⟩,gQ.one fun σ Z=> ?_⟩
 ·rw[hrlen];refine aF.ah (r:=b) (o:=off) (fun i=>(w.cell? ⟨b,off+i,none⟩).getD (.bool false)) (fun hne=> ?_) (fun i hi=> ?_) (fun i hi=> ?_) hlc ?_
  ·obtain⟨y,hy,_⟩:=cell 0 (by
    cases hf:rows.flatten with
    |nil=>exact absurd hf hne
    |cons=>simp)
   by_cases hb:b<w.heap.size
   ·exact hb
   ·unfold World.cell? at hy;have hn:w.heap[b]? =none:=uL (Nat.le_of_not_lt hb);simp only[hn]at hy;simp at hy
  ·obtain⟨y,hy,_⟩:=cell i hi;rw[hy];rfl
  ·obtain⟨y,hy,hv⟩:=cell i hi;rw[hy];exact hv
  ·rcases hspot with h0|h0
   ·exact .inl h0
   ·right;simp only at h0;subst h0;rfl
 ·obtain⟨i,hi,rfl⟩:=cD.1 hr;exact(hg i (Ab.1 hi)).2.2.2.2.1
 ·have hfl:rows.flatten.length=rows.length*c:=f1;refine .Eh (by rw[hrlen,hulen]) hurow (by rw[hulen,←hrlen,←hfl];omega) ?_;have:=(flatU σ Z).2;intro j u v h1 h2;refine this j u v h1 ?_;rw[s8,hulen,←hrlen,←hfl,List.take_length]at h2;exact h2
end
end Go.RE
namespace Go.RE
open Go.Proofs
def erF(fn:aC):cq:=⟨fn.ntmps,fn.results,fn.body.er⟩
def zSp:List V:=[.str [],.str []]
def zRc:List V:=[.int .u64 0,.int .u64 0,.int .u64 0,.int .u64 0,.ah [] 0 0 2,.ah [] 0 0 2]
def wD:Nat→Option cq:=fun f=>match f with
 |58=>some (erF (mB 1 1 [.int .u8 0]))
 |61=>some (erF (mB 7 88 Yf))
 |62=>some (erF (mB 2 32 zSp))
 |97=>some (erF (mB 6 80 zRc))
 |135=>some (erF (mB 1 16 [.str []]))
 |194=>some (erF (mB 1 1 [.int .u8 0]))
 |83=>some (rm 2 Ta)
 |81=>some (rm 2 (nY 2 82))
 |115=>some (rm 2 (nY 3 116))
 |145=>some (rm 3 LO)
 |f=>(bu f).map erF
theorem CC:∀ f p,pT f=some p→YX (dz wD mT) f p:=by
 intro f p h;unfold pT at h;cases hc:wg f with
 |true=>
  rw[hc,cond_true,ag]at h;subst h;simp only[wg,uN,beq_iff_eq]at hc;rcases hc with((((rfl|rfl)|rfl)|rfl)|rfl)|rfl
  ·exact nA (w:=1) (bytes:=1) (zero:=[.int .u8 0]) rfl (by decide) (by decide) rfl
  ·exact nA (w:=7) (bytes:=88) (zero:=Yf) rfl (by decide) (by decide) rfl
  ·exact nA (w:=2) (bytes:=32) (zero:=zSp) rfl (by decide) (by decide) rfl
  ·exact nA (w:=6) (bytes:=80) (zero:=zRc) rfl (by decide) (by decide) rfl
  ·exact nA (w:=1) (bytes:=16) (zero:=[.str []]) rfl (by decide) (by decide) rfl
  ·exact nA (w:=1) (bytes:=1) (zero:=[.int .u8 0]) rfl (by decide) (by decide) rfl
 |false=>
  rw[hc,cond_false]at h;cases h83:f==83 with
  |true=>
   rw[h83,cond_true,ag]at h;subst h;have:f=83:=by simpa using h83
   subst this;exact qdr rfl
  |false=>rw[h83]at h;cases h
theorem Fb:∀ f fn,bu f=some fn→wD f=some ⟨fn.ntmps,fn.results,fn.body.er⟩:=by
 intro f fn h;unfold wD;split<;>first|(rw[h];rfl)|exact absurd h (by simp[bu])
theorem TF:lQ wD mT bu Q0 pT:=
 ⟨Fb,⟨fun f q h=>(by cases h),fun f q h=>(by cases h),fun f q h=>(by cases h)⟩,CC⟩
theorem qkZ:lQ wD mT bu qT pT:=by
 refine⟨Fb,⟨fun f q h=> ?_,fun f q h=> ?_,fun f q h=> ?_⟩,CC⟩
 ·rw[qia]at h;cases h1:f==81 with
  |true=>
   rw[h1,cond_true,ag]at h;subst h;have:f=81:=by simpa using h1
   subst this;exact E7 rfl
  |false=>
   rw[h1,cond_false]at h;cases h2:f==115 with
   |true=>
    rw[h2,cond_true,ag]at h;subst h;have:f=115:=by simpa using h2
    subst this;exact E7 rfl
   |false=>
    rw[h2,cond_false]at h;cases h3:f==191 with
    |true=>
     rw[h3,cond_true,ag]at h;subst h;have:f=191:=by simpa using h3
     subst this;exact qkL TF
    |false=>rw[h3]at h;cases h
 ·rw[Te]at h;cases h1:f==145 with
  |true=>
   rw[h1,cond_true,ag]at h;subst h;have:f=145:=by simpa using h1
   subst this;exact ZF rfl
  |false=>rw[h1]at h;cases h
 ·rw[qep]at h;unfold Iu at h;cases h1:f==66 with
  |true=>
   rw[h1,cond_true,ag]at h;subst h;have:f=66:=by simpa using h1
   subst this;exact qg1 TF
  |false=>
   rw[h1,cond_false]at h;cases h2:f==61 with
   |true=>
    rw[h2,cond_true,ag]at h;subst h;have:f=61:=by simpa using h2
    subst this;exact qg0 TF rfl
   |false=>rw[h2]at h;cases h
theorem qd8:rK Go.Proofs.Tryz.prog mT:=by
 intro t name f h;cases h
theorem mixed:Bp Go.Proofs.Tryz.prog:=by unfold Bp;kernel_rfl
end Go.RE
namespace Go.RE
open Go.Proofs
theorem qdv(W:World):KK Go.Proofs.Tryz.prog W wD:=by
 intro f fn h;unfold wD at h;split at h
 ·simp only[ag]at h;subst h;left;kernel_rfl
 ·simp only[ag]at h;subst h;left;kernel_rfl
 ·simp only[ag]at h;subst h;left;kernel_rfl
 ·simp only[ag]at h;subst h;left;kernel_rfl
 ·simp only[ag]at h;subst h;left;kernel_rfl
 ·simp only[ag]at h;subst h;left;kernel_rfl
 ·simp only[ag]at h;subst h;exact .inr ⟨2,Ta,rfl,LP ⟨_,_,Go.Proofs.Tryz.func83,rfl,rfl⟩ (fun a b w=>Any.strings_Compare Go.Proofs.Tryz.Ge a b w) W⟩
 ·simp only[ag]at h;subst h;exact .inr ⟨2,nY 2 82,rfl,wC (.inl rfl) ⟨_,_,Go.Proofs.Tryz.func81,rfl,rfl⟩ qeD JS W⟩
 ·simp only[ag]at h;subst h;exact .inr ⟨2,nY 3 116,rfl,wC (.inr rfl) ⟨_,_,Go.Proofs.Tryz.func115,rfl,rfl⟩ qah Gy W⟩
 ·simp only[ag]at h;subst h;exact .inr ⟨3,LO,rfl,LQ ⟨_,_,Go.Proofs.Tryz.func145,rfl,rfl⟩ ZD ZG W⟩
 ·left;unfold bu at h;split at h<;>first|(simp only[kP,ag]at h;subst h;kernel_rfl)|(simp at h)
theorem ok_none:Ok ⟨([]:List Uo).length,fun i=>i,gd (fun i=>i) (fun _=>none) ([]:List Uo).length,fun _=>none,Gh,fun i=>([]:List Uo)[i]? =some .gone,none,jJ ([]:List Uo)⟩ (fun i=>i) (fun _=>none) (fun _=>none) ⟨[],[],0⟩ .e Gh:=
 ⟨fun t u hu=>by simp[look]at hu,fun i o ho=>by simp at ho,(fun b r hb=>by cases hb),(fun g I hI=>by cases hI),fun n _=>by simp[Gh,St.get],fun i j hi=>by simp at hi,(fun g g' I I' hI=>by cases hI),fun i g I hi=>by simp at hi,fun i hi=>by simp at hi,(fun g I hI=>by cases hI),fun i hi=>by simp at hi,⟨rfl,rfl⟩,(fun i off I hI=>by cases hI),ak _,fun i hi=>rfl,fun b r hb=>hb,ak _,fun b hb _=>⟨rfl,fun i hi=>by simp at hi,(fun g I hI=>by cases hI),fun r hr=>hr⟩,⟨fun i hi=>by simp at hi,fun i off cs h1=>by simp at h1⟩⟩
theorem qdX{W:World}{f:Nat}{us:List U}{vs:List V}{args:Array Value}{h' :List Uo}{fl' :Nat}(hrun:gF bu mT qT pT f us [] 0=some (.bool true,h',fl'))(hu:gQ us vs)(hl:aV W sj vs args.toList):
  Calls Go.Proofs.Tryz.prog f args W fun e W' =>e=.returned (.bool true)∧Kept W W' :=by
 obtain⟨N,hN⟩:=Sr (C:=wD) qkZ f us [] 0 _ h' fl' hrun (fun i=>i) (fun _=>none) (fun _=>none) Gh vs ok_none ⟨ak _,fun i o ho=>by simp at ho⟩ (fun _=>rfl) (hu _ _);have h2:bY wD mT N f vs Gh fun v _=>v=.bool true:=iN (ak _) (fun v st' hh=>by
  obtain⟨_,σ',Z',ω',_,_,hr⟩:=hh;cases hr;rfl) hN
 refine(QG (qdv W) qd8 mixed hl h2).mono fun e W' h=> ?_;obtain⟨⟨x,ρ',rfl,hx⟩,hk⟩:=h;cases hx;exact⟨rfl,hk⟩
end Go.RE
namespace Go.RE
def je(t:Tx)(l:List (By×By)):List (By×By):=l.filter fun p=>(fW pq p.1 t.cO).isNone
def pg(s:cU)(l:List Wt):List (By×By):=(l.filter fun w=> !w.gone&&Sx s w.key).map fun w=>(w.key,w.data)
def Oc(b:Bs)(t:Tx)(s:cU):List (By×By):=eD (fun p:By×By=>p.1) (je t (iA b.db s.1 s.2 t.began)++pg s (rG t))
theorem qiH{h:List Uo}{t p:Nat}{tx:Tx}(fl:Nat)(hf:fl≤h.length)(ht:h[t]? =some (.row (mg tx p)))(hp:kQ pq h[p]? tx.cO)(s:cU)(L:List (By×By))(hL:L.length<small)(K:Ex→Vs→Prop)
  (hK:K .normal ⟨[(12,.ptr h.length 0),(13,.own (.t 13) 2 ((je tx L).map rH)),(10,.ptr t 0)],h++[.row (aS s)],fl⟩):∀ (j i:Nat) (out:List (By×By)),i+j=L.length→out++je tx (L.drop i)=je tx L→out.length≤i→
  gL bu mT qT pT v37 0 Bj (h.length+1) ⟨[(51,.int .i64 (i:Int)),(13,.own (.t 13) 2 (out.map rH)),(10,.ptr t 0),(49,.own (.t 49) 2 (L.map rH)),(12,.ptr h.length 0),(50,.int .i64 (L.length:Int))],h++[.row (aS s)],fl⟩ K:=by
 have hlk:∀ (k:By) (e:Env) (x:List Uo),fQ ⟨e,h++x,fl⟩ .str (.agg [.str [],.bool false,.sl 1 []]) true (.map p) (.str k)=some (match fW pq k tx.cO with|some w=> .aZ [.agg (eY w),.bool true]|none=> .aZ [.agg [.str [],.bool false,.sl 1 []],.bool false]):=fun k e x=>by
  have hm:kQ pq (h++x)[p]? tx.cO:=by rw[bG hp.lt];exact hp
  have:=nS pq (s:=⟨e,h++x,fl⟩) (m:=p) hm (.agg [.str [],.bool false,.sl 1 []]) k true;refine this.trans ?_;cases fW pq k tx.cO<;>rfl
 have hz:V.GG (.agg [.str [],.bool false,.ah [] 0 0 1])=some (.agg [.str [],.bool false,.sl 1 []]):=rfl;have hd:decide (t<h.length+1)=true:=decide_eq_true (by have:=(aH.1 ht).1;omega);simp only[mg]at ht;intro j
 induction j with
 |zero=>
  intro i out hij ho hl;obtain⟨h1,h2⟩:=oq hij;rw[h2]at ho;have:out=je tx L:=by rw[←ho];simp[je]
  subst this;rw[ai Bj.eq_1];simp[HX,h1,hd,lS hf];exact hK
 |succ j ih=>
  intro i out hij ho hl;obtain⟨h1,e3,q,d1,g1⟩:=ry hij hL;have e1:=g1 rH;have hi:i<L.length:=by omega
  have ia:∀ s',rF s' 2 (some (.own (.t 49) 2 (L.map rH))) (some (.int .i64 (i:Int)))=some (.bI (.t 49) i 0,s'):=fun s' =>c9 (by simpa using hi);have e2:∀ hh:i<L.length,L[i]=q:=fun hh=>by
   have:=Pz hh;rw[d1]at this;exact(List.cons.inj this).1.symm
  have hlen:(L.map rH).length=L.length:=by simp
  rw[d1]at ho;simp only[rH]at e1;have hq:=hlk q.1;have b1:(out.length+1)*40≤bl∧out.length+1≤bl:=by unfold small at hL;unfold bl;omega
  have e7:∀ hh:i<(L.map rH).length,(L.map rH)[i]=[.str q.1,.sl 1 (bM q.2)]:=fun hh=>by rw[aQ hh]at e1;exact qh e1
  generalize hX:L.map rH=X at*;rw[ai Bj.eq_1];cases hw:fW pq q.1 tx.cO with
  |none=>
   rw[hw]at hq;simp only at hq;have hk:je tx (q::L.drop (i+1))=q::je tx (L.drop (i+1)):=by simp[je,hw]
   rw[hk]at ho;have ih' :=ih (i+1) (out++[q]) (by omega) (by simpa using ho) (by simp;omega);simp[rH]at ih';simp[HX,M8,az Pg,Bi,M9,Na,Nb,h1,ia,e1,e7,e3,hlen,hi,aX ht,hq,hz,hd,lS hf,BG hf,b1,bF];simpa using ih'
  |some w=>
   rw[hw]at hq;simp only[eY]at hq;have hk:je tx (q::L.drop (i+1))=je tx (L.drop (i+1)):=by simp[je,hw]
   rw[hk]at ho;have ih' :=ih (i+1) out (by omega) ho (by omega);simp[HX,M8,az Pg,Bi,M9,Na,Nb,h1,ia,e1,e7,e3,hlen,hi,aX ht,hq,hz,hd,lS hf,BG hf,b1,bF];simpa using ih'
theorem qiI{h:List Uo}(fl:Nat)(hf:fl≤h.length)(s:cU)(L:List Wt)(hL:L.length<small)(hok:∀ w∈L,pI w)(K:Ex→Vs→Prop)(out0:List (By×By))(ho0:out0.length<small)
  (hK:K .normal ⟨[(13,.own (.t 13) 2 ((out0++pg s L).map rH))],h++[.row (aS s)],fl⟩):∀ (j i:Nat) (out:List (By×By)),i+j=L.length→out++pg s (L.drop i)=out0++pg s L→out.length≤out0.length+i→
  gL bu mT qT pT v37 2 xB (h.length+1) ⟨[(75,.int .i64 (i:Int)),(12,.ptr h.length 0),(73,.own (.t 73) 3 (L.map eY)),(13,.own (.t 13) 2 (out.map rH)),(74,.int .i64 (L.length:Int))],h++[.row (aS s)],fl⟩ K:=by
 intro j
 induction j with
 |zero=>
  intro i out hij ho hl;obtain⟨h1,h2⟩:=oq hij;rw[h2]at ho;have:out=out0++pg s L:=by rw[←ho];simp[pg]
  subst this;rw[ai xB.eq_1];simp[Dl,h1,lS hf]at hK⊢;exact hK
 |succ j ih=>
  intro i out hij ho hl;obtain⟨h1,e3,w,d1,g1⟩:=ry hij hL;have e1:=g1 eY;have hi:i<L.length:=by omega
  have hw:pI w:=hok w (iF (i:=i) (by rw[d1];exact cB));have ia:∀ s',rF s' 3 (some (.own (.t 73) 3 (L.map eY))) (some (.int .i64 (i:Int)))=some (.bI (.t 73) i 0,s'):=fun s' =>c9 (by simpa using hi);have hlen:(L.map eY).length=L.length:=by simp
  rw[d1]at ho;simp only[eY]at e1;have b1:(out.length+1)*40≤bl∧out.length+1≤bl:=by unfold small at hL ho0;unfold bl;omega
  have e7:∀ hh:i<(L.map eY).length,(L.map eY)[i]=[.str w.key,.bool w.gone,.sl 1 (bM w.data)]:=fun hh=>by rw[aQ hh]at e1;exact qh e1
  have c1:=t80 s w.key;have c2:=iw (f:=58) rfl (w:=1) (xs:=bM w.data) [] 0 (by rw[kS];exact hw.2) (by simp);generalize hX:L.map eY=X at*;simp only[aS]at c1;rw[ai xB.eq_1];have skip:(!w.gone&&Sx s w.key)=false→out++pg s (L.drop (i+1))=out0++pg s L:=fun hh=>by
   have:pg s (w::L.drop (i+1))=pg s (L.drop (i+1)):=by simp[pg,mw,hh]
   rw[this]at ho;exact ho
  cases hg:w.gone with
  |true=>
   rw[hg]at e1 e7;have ih' :=ih (i+1) out (by omega) (skip (by rw[hg];rfl)) (by omega);simp only[aS]at ih';simp[Dl,HY,HZ,H7,aS,h1,ia,e1,e7,e3,hlen,hi,lS hf];simpa using ih'
  |false=>
   rw[hg]at e1 e7;cases hh:Sx s w.key with
   |false=>
    rw[hh]at c1;have ih' :=ih (i+1) out (by omega) (skip (by rw[hg,hh];rfl)) (by omega);simp only[aS]at ih';simp[Dl,HY,HZ,H7,aS,h1,ia,e1,e7,e3,hlen,hi,c1,lS hf];simpa using ih'
   |true=>
    rw[hh]at c1;have hk:pg s (w::L.drop (i+1))=(w.key,w.data)::pg s (L.drop (i+1)):=by simp[pg,mw,hg,hh]
    rw[hk]at ho;have ih' :=ih (i+1) (out++[(w.key,w.data)]) (by omega) (by simpa using ho) (by simp;omega);simp[rH,aS]at ih';simp[Dl,HY,HZ,az qaz,H6,H7,aS,h1,ia,e1,e7,e3,hlen,hi,c1,c2,b1,lS hf,BG hf,bF];simpa using ih'
theorem qI(d:Db)(hi:By)(t:Nat):∀ ks:List By,((mO d hi t ks).map (·.1)).Sublist ks
 |[]=> .slnil
 |k::r=>by
  unfold mO;cases !hi.isEmpty&& !lt k hi with
  |true=>exact List.nil_sublist _
  |false=>
   rw[cond_false];cases jI (chain d k) t with
   |none=>exact(qI d hi t r).cons k
   |some b=>exact(qI d hi t r).cons_cons k
theorem Ct(d:Db)(lo hi:By)(t:Nat):((iA d lo hi t).map (·.1)).Sublist d.keys:=(qI d hi t _).trans (List.drop_sublist _ _)
theorem kQ.keys{α κ:Type}[DecidableEq κ]{F:Mk α κ}{o:Option Uo}{l:List α}(h:kQ F o l):(l.map F.key).Nodup:=by
 obtain⟨lc,c,rfl,_,hc⟩:=h;have:=hc.keys;rw[oz];exact this
theorem JN{b:Bs}{t:Tx}{s:cU}(hn:b.db.keys.Nodup)(hp:(t.cO.map Wt.key).Nodup):((je t (iA b.db s.1 s.2 t.began)++pg s (rG t)).map (fun p:By×By=>p.1)).Nodup:=by
 have h1:((je t (iA b.db s.1 s.2 t.began)).map (·.1)).Nodup:=qk ((List.filter_sublist.map _).trans (Ct _ _ _ _)) hn;have hw:((rG t).map Wt.key).Nodup:=((mc Wt.key t.cO).map _).nodup_iff.2 hp;have h2:((pg s (rG t)).map (·.1)).Nodup:=by
  unfold pg;rw[oz];exact qk (List.filter_sublist.map _) hw
 rw[mR];refine DV.2 ⟨h1,h2,fun a ha c hc=> ?_⟩;intro he;subst he;obtain⟨p,hp1,rfl⟩:=cD.1 ha;have hk:=(qg.1 hp1).2;obtain⟨q,hq,he⟩:=cD.1 hc;unfold pg at hq;obtain⟨w,hw1,rfl⟩:=cD.1 hq;have hwm:w∈t.cO:=(mc Wt.key t.cO).subset (qg.1 hw1).1;simp only at he;have:fW pq p.1 t.cO≠none:=by
  intro hh;have:=KC.1 hh w hwm;exact this (by show decide (w.key=p.1)=true;exact decide_eq_true he)
 cases hl:fW pq p.1 t.cO with
 |none=>exact this hl
 |some x=>rw[hl]at hk;cases hk
def l9(b:Bs)(id:Int)(s:cU):(U×Bs):=match mW b id with
 |none=>(.aZ [.sl 2 [],.int .i64 4],b)
 |some t=>bif dX s then(.aZ [.sl 2 ((Oc b t s).map rH),.int .i64 0],aY b (eO b t s))else(.aZ [.sl 2 [],.int .i64 1],b)
theorem Q2(d:Db)(hi:By)(t:Nat)(ks:List By):(mO d hi t ks).length≤ks.length:=by
 have:=(qI d hi t ks).length_le;simpa using this
theorem t37{h:List Uo}{i s m o:Nat}{lv:List Lv}{b:Bs}{rc dn ks:U}(fl:Nat)(hf:fl≤h.length)(hb:dI h i s m o lv b rc dn ks)(hks:oV ks b.db.keys){n:Nat}(hk:qc9 b n)(id:Int)(lo hi:By):
  ∃ h' lv',G 37 [.ptr i 0,.int .i64 id,.str lo,.str hi] h fl=some ((l9 b id (lo,hi)).1,h',fl)∧dI h' i s m o lv' (l9 b id (lo,hi)).2 rc dn ks∧Fr h h' (ck i s m o lv)∧ck i s m o lv' =ck i s m o lv:=by
 have hl:decide (i<h.length)=true:=decide_eq_true (aH.1 hb.row).1;have c1:=t56 fl hf hb id;unfold l9;rw[hb.find];cases hlv:fW lX id lv with
 |none=>
  rw[hlv]at c1;simp only[kW]at c1;refine⟨h,lv,?_,hb,Fr.refl h _,rfl⟩;refine bK (fn:=v37) rfl rfl rfl ?_;simp[sO,Pe,Pf,Ph,qbV,c1,hl,aR hf]
 |some l=>
  rw[hlv]at c1;simp only[kW]at c1;have hlm:=lM lX hlv;obtain⟨x1,x2⟩:=hb.tx l hlm;have hlt:=(aH.1 x1).1;have hlt' :decide (l.t<h.length)=true:=decide_eq_true hlt;have c2:=t78 (lo,hi);simp only[aS]at c2;simp only[kP];cases hr:dX (lo,hi)with
  |false=>
   rw[hr]at c2;refine⟨h,lv,?_,hb,Fr.refl h _,rfl⟩;refine bK (fn:=v37) rfl rfl rfl ?_;simp[sO,Pe,Pf,Ph,Xf,Xg,qbW,c1,c2,hl,hlt',aR hf,uW hf]
  |true=>
   rw[hr]at c2;have hml:=hk.marks l.tx (hb.mem hlm);have hpl:=hk.cO l.tx (hb.mem hlm);have hmarks:l.tx.marks.length<small / 8:=by unfold small at*;omega
   have hnx:∀ X:Uo,Fr h (h.set l.t X) (ck i s m o lv):=fun X=>(Fr.refl h _).set (by unfold ck;simp only[bT,rD];right;right;right;right;exact⟨l,hlm,by simp⟩) X;have htp:=(hb.ne.2.2.2.2.2.2.1 l hlm).tp;have hbu:dI (h.set l.t (.row (mg (eO b l.tx (lo,hi)) l.p))) i s m o (An (eO b l.tx (lo,hi)) lv) (aY b (eO b l.tx (lo,hi))) rc dn ks:=
    hb.fK hlm (eO b l.tx (lo,hi)) rfl _ (fun j hj _=>dP (cc hj)) (eX hlt) (by rw[dP htp];exact x2)
   refine⟨_,_,?_,hbu,hnx _,nH _ _ _ _ _ _⟩;refine bK (fn:=v37) rfl rfl rfl ?_;have hset:∀ X x,(h++x).set l.t X=h.set l.t X++x:=fun X x=>mA _ _ hlt;have c3:=t75 (h:=h++[.row (aS (lo,hi))]) fl (by simp;omega) (aX hb.row) (aX x1) hmarks hk.lim.1 (lo,hi);rw[hset]at c3;have c4:=t64 (h:=h.set l.t (.row (mg (eO b l.tx (lo,hi)) l.p))++[.row (aS (lo,hi))]) fl (by simp;omega) hbu.st.app hks hk.db lo hi l.tx.began;have hx1' :(h.set l.t (.row (mg (eO b l.tx (lo,hi)) l.p)))[l.t]? =some (.row (mg (eO b l.tx (lo,hi)) l.p)):=eX hlt;have hx2' :kQ pq (h.set l.t (.row (mg (eO b l.tx (lo,hi)) l.p)))[l.p]? (eO b l.tx (lo,hi)).cO:=by rw[dP htp];exact x2
   have c5:=t79 (h:=h.set l.t (.row (mg (eO b l.tx (lo,hi)) l.p))++[.row (aS (lo,hi))]) fl (by simp;omega) (aX hx1') (by rw[bG hx2'.lt];exact hx2') (by show l.tx.cO.length<small;unfold small at*;omega);have hr2:∀ x,(h.set l.t (.row (mg (eO b l.tx (lo,hi)) l.p))++x)[i]? =some (.row (dm b s m rc dn)):=fun x=>aX hbu.row;have ht2' :∀ x,(h.set l.t (.row (mg (eO b l.tx (lo,hi)) l.p))++x)[l.t]? =some (.row [.int .i64 l.tx.id,.int .u64 l.tx.began,.int .i64 l.tx.start,.sl 2 ((eO b l.tx (lo,hi)).marks.map aS),.map l.p]):=fun x=>aX hx1';have hl1:decide (i<h.length+1)=true:=decide_eq_true (by have:=of_decide_eq_true hl;omega);have hlt1:decide (l.t<h.length+1)=true:=decide_eq_true (by omega);have hlenX:∀ X:Uo,(h.set l.t X).length=h.length:=fun X=>by simp
   have hcut:∀ (X:Uo) (x:List Uo),cut h.length fl (h.set l.t X++x)=h.set l.t X:=fun X x=>by
    have:=gJ (fl:=fl) (h:=h.set l.t X) (l:=x) (by simpa using hf);simpa using this
   have hcut1:∀ (X a:Uo) (x:List Uo),cut (h.length+1) fl (h.set l.t X++a::x)=h.set l.t X++[a]:=fun X a x=>by
    have:=lS (fl:=fl) (h:=h.set l.t X) (by simpa using hf) a x;simpa using this
   have hkk:=Ct b.db lo hi l.tx.began;have hSL:(iA b.db lo hi l.tx.began).length<small:=by have:=hkk.length_le;have:=hk.db.keys;simp at*;omega
   have hwok:∀ w∈rG l.tx,pI w:=fun w hw=>hk.wt l.tx (hb.mem hlm) w ((mc Wt.key l.tx.cO).subset hw);have hwl:(rG l.tx).length<small:=by unfold rG;rw[lE];unfold small at*;omega
   have hkl:(je l.tx (iA b.db lo hi l.tx.began)).length<small:=by
    have:(je l.tx (iA b.db lo hi l.tx.began)).length≤_:=rC _ _;omega
   have hq:pz 2 82 ((je l.tx (iA b.db lo hi l.tx.began)++pg (lo,hi) (rG l.tx)).map rH) [.func 82 [] []]=some ((Oc b l.tx (lo,hi)).map rH):=
    E6 (fun p:By×By=>p.1) rH (fun _=>rfl) 2 82 (fun _=>rfl) _ (JN (s:=(lo,hi)) hk.Jq x2.keys) (by
     rw[gX];have h1:(pg (lo,hi) (rG l.tx)).length≤(rG l.tx).length:=by unfold pg;rw[oS];exact rC _ _
     have h2:(rG l.tx).length=l.tx.cO.length:=by unfold rG;rw[lE]
     have h3:(je l.tx (iA b.db lo hi l.tx.began)).length≤(iA b.db lo hi l.tx.began).length:=rC _ _;have h4:=hkk.length_le;have h5:=hk.kl;simp at h4;unfold small at*;omega)
   have hkp:je (eO b l.tx (lo,hi)) (iA b.db lo hi l.tx.began)=je l.tx (iA b.db lo hi l.tx.began):=rfl;have hwp:rG (eO b l.tx (lo,hi))=rG l.tx:=rfl;rw[hwp]at c5;simp only[mR]at hq;generalize hY:Uo.row (mg (eO b l.tx (lo,hi)) l.p)=Y at*;have hx1'' :(h.set l.t Y)[l.t]? =some (.row (mg (eO b l.tx (lo,hi)) l.p)):=by rw[hY];exact hx1'
   have hHl:(h.set l.t Y).length=h.length:=by simp
   have aB:=qiI (h:=h.set l.t Y) fl (by simpa using hf) (lo,hi) (rG l.tx) hwl hwok (gV bu mT qT pT v37 (.seq (.region H8) (.seq (.region H9) .ret)) (kE h.length v37 (.aZ [.sl 2 ((Oc b l.tx (lo,hi)).map rH),.int .i64 0],h.set l.t Y,fl))) (je l.tx (iA b.db lo hi l.tx.began)) hkl (by
    simp[H8,H9,hq,hcut]) (rG l.tx).length 0 (je l.tx (iA b.db lo hi l.tx.began)) (by omega) (by simp) (by omega)
   have aA:=qiH (h:=h.set l.t Y) fl (by simpa using hf) hx1'' hx2' (lo,hi) (iA b.db lo hi l.tx.began) hSL (gV bu mT qT pT v37 (.seq (.seq (.region Nc) (.block 2 (.loop xB))) (.seq (.region H8) (.seq (.region H9) .ret))) (kE h.length v37 (.aZ [.sl 2 ((Oc b l.tx (lo,hi)).map rH),.int .i64 0],h.set l.t Y,fl))) (by
    rw[hHl]at aB⊢;rw[hkp];simp at aB;simp[Nc,c5,hlt1,hcut1];exact aB) (iA b.db lo hi l.tx.began).length 0 [] (by omega) (by simp) (by simp)
   rw[hHl]at aA;simp at aA;simp only[aY]at c4;simp only[aS,dm]at c2 c3 c4 hr2;simp[sO,Pe,Pf,Ph,Xf,Xg,qbX,qbY,az qfv,Xh,c1,c2,c3,c4,hl,hl1,hlt',hlt1,hr2,ht2',hcut1,bF];simpa[aS]using aA
end Go.RE
namespace Go.RE
def Tc(t:Tx)(w:Wt):Tx:={t with cO:=mb pq w t.cO}
def fh(b:Bs)(id:Int)(w:Wt):Nat×Bs:=match mW b id with
 |none=>(4,b)
 |some t=>bif gY none w==0 then(0,aY b (Tc t w))else(gY none w,b)
theorem t18{h:List Uo}{i s m o:Nat}{lv:List Lv}{b:Bs}{rc dn ks:U}(fl:Nat)(hf:fl≤h.length)(hb:dI h i s m o lv b rc dn ks)(id:Int)(w:Wt)(hw:pI w):
  ∃ h' lv',G 18 [.ptr i 0,.int .i64 id,.agg (eY w)] h fl=some (.int .i64 ((fh b id w).1:Nat),h',fl)∧dI h' i s m o lv' (fh b id w).2 rc dn ks∧Fr h h' (ck i s m o lv)∧ck i s m o lv' =ck i s m o lv:=by
 have hl:decide (i<h.length)=true:=decide_eq_true (aH.1 hb.row).1;have hl1:decide (i<h.length+1)=true:=decide_eq_true (by have:=of_decide_eq_true hl;omega);have c1:=t56 (h:=h++[.row (eY w)]) fl (by simp;omega) (i:=i) (s:=s) (m:=m) (o:=o) (lv:=lv) (b:=b) (rc:=rc) (dn:=dn) (ks:=ks) ⟨aX hb.row,hb.st.app,by rw[bG hb.map.lt];exact hb.map,hb.Ra,fun l hlm=>⟨aX (hb.tx l hlm).1,by rw[bG (hb.tx l hlm).2.lt];exact(hb.tx l hlm).2⟩,hb.nd⟩ id;unfold fh;rw[hb.find];cases hlv:fW lX id lv with
 |none=>
  rw[hlv]at c1;simp only[kW,eY]at c1;refine⟨h,lv,?_,hb,Fr.refl h _,rfl⟩;refine bK (fn:=v18) rfl rfl rfl ?_;simp[sL,OL,OM,ON,qbm,eY,c1,hl1,uW hf]
 |some l=>
  rw[hlv]at c1;simp only[kW]at c1;have hlm:=lM lX hlv;obtain⟨x1,x2⟩:=hb.tx l hlm;have hlt:=(aH.1 x1).1;have hlt1:decide (l.t<h.length+1)=true:=decide_eq_true (by omega);have c2:=t57 [w] (by simp[small]) (fun x hx=>by simp at hx;subst hx;exact hw);have hck:fH none [w]=gY none w:=by
   simp only[fH];cases hc:gY none w==0 with
   |true=>rw[cond_true];exact(by simpa using hc:gY none w=0).symm
   |false=>rfl
  rw[hck]at c2;simp only[kP];simp only[ct,jY]at c2;cases hc:gY none w==0 with
  |false=>
   have hc' :¬(gY none w=0):=by simpa using hc
   have hci:(((gY none w:Nat):Int) !=0)=true:=by simp;omega
   refine⟨h,lv,?_,hb,Fr.refl h _,rfl⟩;refine bK (fn:=v18) rfl rfl rfl ?_;simp only[eY]at c1 c2;simp[sL,OL,OM,ON,V2,V3,qbn,eY,c1,c2,hl1,hlt1,hci,hc',uW hf]
  |true=>
   have hc' :gY none w=0:=by simpa using hc
   rw[hc']at c2;obtain⟨o',m1,m2⟩:=map_set pq x2 w;have hpl:=x2.lt;have hmu:∀ e x,YO .str l.p (.str w.key) (.agg (eY w)) ⟨e,h++x,fl⟩ (h++x)[l.p]? =some (.aZ [],⟨e,h.set l.p o'++x,fl⟩):=fun e x=>by
    have:=m2 l.p ⟨e,h++x,fl⟩;rw[bG hpl,←mA _ _ hpl];exact this
   have htp:=(hb.ne.2.2.2.2.2.2.1 l hlm).tp;have hbu:dI (h.set l.p o') i s m o (An (Tc l.tx w) lv) (aY b (Tc l.tx w)) rc dn ks:=
    hb.fK hlm (Tc l.tx w) rfl _ (fun j _ hj=>dP (cc hj)) (by rw[dP (cc htp)];exact x1) (by rw[eX hpl];exact m1)
   refine⟨_,_,?_,hbu,(Fr.refl h _).set (by unfold ck;simp only[bT,rD];right;right;right;right;exact⟨l,hlm,by simp⟩) o',nH _ _ _ _ _ _⟩;refine bK (fn:=v18) rfl rfl rfl ?_;have c3:=iw (f:=58) rfl (w:=1) (xs:=bM w.data) [] 0 (by rw[kS];exact hw.2) (by simp);have hcut:∀ (X:Uo) (x:List Uo),cut h.length fl (h.set l.p X++x)=h.set l.p X:=fun X x=>by
    have:=gJ (fl:=fl) (h:=h.set l.p X) (l:=x) (by simpa using hf);simpa using this
   simp only[mg]at x1;simp only[eY]at c1 c2 hmu;simp[sL,OL,OM,ON,V2,V3,qbo,az qfp,MH,qbq,eY,c1,c2,c3,hl1,hlt1,aX x1,hmu,hcut,uW hf,bF]
def dc(b:Bs):Nat×Nat×Bs:=
 bif decide (b.db.lim.live≤b.live.length)then(0,5,b)
 else(b.last+1,0,{b with last:=b.last+1,event:=b.event+1,live:=b.live++[⟨b.last+1,b.db.now,b.event+1,[],[]⟩]})
def Gr(h h' :List Uo)(l l' :List Nat):Prop:=h.length≤h'.length∧(∀ j,j<h.length→j ∉ l→h'[j]? =h[j]?)∧∀ j∈l',j∈l∨h.length≤j
theorem Fr.gr{h h' :List Uo}{l:List Nat}(hf:Fr h h' l):Gr h h' l l:=⟨by rw[hf.1];exact ak _,fun j _ hj=>hf.2 j hj,fun j hj=> .inl hj⟩
theorem t17{h:List Uo}{i s m o:Nat}{lv:List Lv}{b:Bs}{rc dn ks:U}(fl:Nat)(hf:fl≤h.length)(hb:dI h i s m o lv b rc dn ks)(hids:∀ t∈b.live,t.id≤b.last)(hls:b.last<small)(hev:b.event<small)(hli:b.db.lim.live<small):
  ∃ h' lv' fl',G 17 [.ptr i 0] h fl=some (.aZ [.int .i64 ((dc b).1:Nat),.int .i64 ((dc b).2.1:Nat)],h',fl')∧dI h' i s m o lv' (dc b).2.2 rc dn ks∧Gr h h' (ck i s m o lv) (ck i s m o lv')∧fl≤fl'∧fl'≤h'.length∧((fl' =fl∧lv' =lv∧h'.length=h.length)∨fl' =h'.length):=by
 have hlt:=(aH.1 hb.row).1;have hl:decide (i<h.length)=true:=decide_eq_true hlt;have c1:=t54 fl hf hb.row;have hr:=hb.row;obtain⟨n1,n2,n3,n4,n5,n6,n7,n8⟩:=hb.ne;have hml:=hb.map.lt;obtain⟨hsl,hol⟩:=hb.st.lt;have hll:lv.length=b.live.length:=by rw[←hb.Ra];simp
 unfold dc;have hlen:∀ (e:Env),Ea ⟨e,h,fl⟩ 2 (.map m)=some (.int .i64 (b.live.length:Int),⟨e,h,fl⟩):=fun e=>by rw[←hll];unfold Ea;rw[ZO lX (s:=⟨e,h,fl⟩) (m:=m) hb.map];rfl
 cases hfull:decide (b.db.lim.live≤b.live.length)with
 |true=>
  refine⟨h,lv,fl,?_,hb,(Fr.refl h _).gr,ak _,hf,.inl ⟨rfl,rfl,rfl⟩⟩;refine bK (fn:=v17) rfl rfl rfl ?_;simp only[dm]at hr;simp[w8,VK,VL,az VM,Hi,qbh,c1,hl,hr,hlen,hfull,aR hf,bF]
 |false=>
  have hno:∀ l∈lv,l.tx.id≠b.last+1:=fun l hlm hh=>by have:=hids l.tx (hb.mem hlm);omega
  have hlk0:fW lX ((b.last+1:Nat):Int) lv=none:=by
   refine KC.2 fun l hlm=> ?_;have:=hno l hlm;simp only[decide_eq_true_eq];show ¬((l.tx.id:Int)=((b.last+1:Nat):Int));omega
  have hset0:mb lX (⟨⟨b.last+1,b.db.now,b.event+1,[],[]⟩,h.length+1,h.length⟩:Lv) lv=lv++[⟨⟨b.last+1,b.db.now,b.event+1,[],[]⟩,h.length+1,h.length⟩]:=by
   unfold mb;have:fW lX (lX.key (⟨⟨b.last+1,b.db.now,b.event+1,[],[]⟩,h.length+1,h.length⟩:Lv)) lv=none:=hlk0;rw[this];rfl
  obtain⟨o',m1,m2⟩:=map_set lX hb.map (⟨⟨b.last+1,b.db.now,b.event+1,[],[]⟩,h.length+1,h.length⟩:Lv);rw[hset0]at m1;have hmu:∀ e X x,YO .int m (.int .i64 ((b.last:Int)+1)) (.ptr (h.length+1) 0) ⟨e,h.set i X++x,fl⟩ (h.set i X++x)[m]? =some (.aZ [],⟨e,(h.set i X).set m o'++x,(h.set i X++x).length⟩):=fun e X x=>by
   have:=m2 m ⟨e,h.set i X++x,fl⟩;have e2:(h.set i X).set m o'++x=(h.set i X++x).set m o' :=(mA _ _ (by simpa using hml)).symm;have e3:(lX.val (⟨⟨b.last+1,b.db.now,b.event+1,[],[]⟩,h.length+1,h.length⟩:Lv)).low (m+1)=false:=by
    show Nat.blt (h.length+1) (m+1)=false;cases hq:Nat.blt (h.length+1) (m+1)with
    |false=>rfl
    |true=>have:=dY hq;omega
   rw[e3]at this;rw[bG (by simpa using hml),e2,dP n2];exact this
  generalize hB:({b with last:=b.last+1,event:=b.event+1,live:=b.live++[⟨b.last+1,b.db.now,b.event+1,[],[]⟩]}:Bs)=B;have hrow:dm B s m rc dn=[.int .i64 b.db.lim.keys,.int .i64 b.db.lim.gW,.int .i64 b.db.lim.bytes,.int .i64 b.db.lim.marks,.int .i64 b.db.lim.records,.int .i64 b.db.lim.live,.int .u64 b.db.lim.last,.ptr s 0,.map m,rc,dn,.int .i64 ((b.last+1:Nat):Int),.int .i64 ((b.event+1:Nat):Int)]:=by rw[←hB];rfl
  have hH:dI ((h.set i (.row (dm B s m rc dn))).set m o'++[.map [] 0,.row [.int .i64 ((b.last+1:Nat):Int),.int .u64 (b.db.now:Int),.int .i64 ((b.event+1:Nat):Int),.sl 2 [],.map h.length]]) i s m o (lv++[⟨⟨b.last+1,b.db.now,b.event+1,[],[]⟩,h.length+1,h.length⟩]) B rc dn ks:=by
   have hle:((h.set i (.row (dm B s m rc dn))).set m o').length=h.length:=by simp
   have hdb:B.db=b.db:=by rw[←hB]
   have hold:∀ j,j<h.length→j≠i→j≠m→∀ x,((h.set i (.row (dm B s m rc dn))).set m o'++x)[j]? =h[j]? :=fun j hj a1 a2 x=>by
    rw[bG (by omega),dP (cc a2),dP (cc a1)]
   refine⟨?_,?_,?_,?_,fun l hlm=> ?_,?_⟩
   ·rw[bG (by omega),dP (cc n2)];exact eX hlt
   ·rw[hdb];exact hb.st.same (hold s hsl (cc n1) n4 _) (hold o hol (cc n3) (cc n6) _)
   ·rw[bG (by omega),eX (by simpa using hml)];exact m1
   ·rw[←hB,mR,hb.Ra];rfl
   ·rcases eH.1 hlm with hlm|hlm
    ·have f:=n7 l hlm;obtain⟨x1,x2⟩:=hb.tx l hlm;rw[hold l.t (aH.1 x1).1 f.ti f.tm,hold l.p x2.lt f.pi f.pm];exact⟨x1,x2⟩
    ·simp only[bT,fu,or_false]at hlm;subst hlm;refine⟨?_,?_⟩
     ·have:=at1 ((h.set i (.row (dm B s m rc dn))).set m o') [] (.map [] 0) (.row [.int .i64 ((b.last+1:Nat):Int),.int .u64 (b.db.now:Int),.int .i64 ((b.event+1:Nat):Int),.sl 2 [],.map h.length]);rw[hle]at this;exact this
     ·have:=Rz ((h.set i (.row (dm B s m rc dn))).set m o') [.row [.int .i64 ((b.last+1:Nat):Int),.int .u64 (b.db.now:Int),.int .i64 ((b.event+1:Nat):Int),.sl 2 [],.map h.length]] (.map [] 0);rw[hle]at this;show kQ pq (((h.set i (.row (dm B s m rc dn))).set m o')++_)[h.length]? [];rw[this];exact wj pq
   ·have hlv:∀ l∈lv,l.t<h.length∧l.p<h.length:=fun l hlm=>⟨(aH.1 (hb.tx l hlm).1).1,(hb.tx l hlm).2.lt⟩;have hfl:∀ j∈ck i s m o lv,j<h.length:=by
     intro j hj;unfold ck at hj;simp only[bT,rD,fu,or_false]at hj;rcases hj with rfl|rfl|rfl|rfl|⟨l,hlm,rfl|rfl⟩
     ·exact hlt
     ·exact hsl
     ·exact hml
     ·exact hol
     ·exact(hlv l hlm).1
     ·exact(hlv l hlm).2
    have:ck i s m o (lv++[⟨⟨b.last+1,b.db.now,b.event+1,[],[]⟩,h.length+1,h.length⟩])=ck i s m o lv++[h.length+1,h.length]:=by unfold ck;simp
    rw[this];refine DV.2 ⟨hb.nd,by simp,fun a ha c hc=> ?_⟩;have:=hfl a ha;simp at hc;omega
  refine⟨_,_,h.length+2,?_,hH,⟨by simp,fun j hj hn=> ?_,fun j hj=> ?_⟩,by omega,by simp,.inr (by simp)⟩
  ·refine bK (fn:=v17) rfl rfl rfl ?_;have w1:aK .i64 ((b.last:Int)+1)=((b.last+1:Nat):Int):=fC (by unfold small at hls;omega);have w2:aK .i64 ((b.event:Int)+1)=((b.event+1:Nat):Int):=fC (by unfold small at hev;omega);have hss:∀ X:Uo,(h.set i X)[i]? =some X:=fun X=>eX hlt;have hat:∀ X x,(h.set i X++x)[i]? =some X:=fun X x=>aX (hss X);have c2:∀ X x,G 55 [.ptr s 0] (h.set i X++x) fl=some (.int .u64 (b.db.now:Int),h.set i X++x,fl):=fun X x=>t55 (o:=o) (ks:=ks) fl (by simp;omega) (aX (by rw[dP n1];exact hb.st.row));have hHi:∀ X x,((h.set i X).set m o'++x)[i]? =some X:=fun X x=>by
    rw[bG (by simpa using hlt),dP (cc n2)];exact hss X
   simp only[dm]at hr;simp only[Af]at w1 w2;rw[hrow];simp[w8,VK,VL,az VM,Hi,qbi,qbj,az qfo,VN,qbl,c1,c2,hl,hr,hlen,hfull,w1,w2,hss,hat,hmu,hHi,bF];unfold cut;exact gu (by simp)
  ·have hjm:j≠m:=fun hh=>hn (by subst hh;unfold ck;simp);have hji:j≠i:=fun hh=>hn (by subst hh;unfold ck;simp);rw[bG (by simpa using hj),dP (cc hjm),dP (cc hji)]
  ·have:ck i s m o (lv++[⟨⟨b.last+1,b.db.now,b.event+1,[],[]⟩,h.length+1,h.length⟩])=ck i s m o lv++[h.length+1,h.length]:=by unfold ck;simp
   rw[this]at hj;rcases eH.1 hj with hj|hj
   ·exact .inl hj
   ·right;simp at hj;omega
end Go.RE
namespace Go.RE
def nt(w:Nat)(u:U)(xs:List (List U)):Prop:=u=.bJ w xs∨(u=.nl w∧xs=[])
theorem Lg(l:List Rc)(low:Nat)(hl:l.length<100000000)(hok:∀ r∈l,fZ r):qx (l.map recC) [.int .u64 (low:Int)]=some (6,(bP l low).map recC):=BV l low hl hok
@[simp] theorem LY(l:List Don):jl 7 (l.map ji)=true:=oc (fun v=>by simp[ji]) l
theorem Qe(l:List Don)(hl:l.length<small):uU 7 7 (l.map ji) []=some (7,l.map ji):=by
 have h1:Nat.ble ((l.map ji).length*200) bl=true:=jA (by rw[oS];unfold small at hl;unfold bl;omega);simp only[uU,h1,LY,fq,jh,cond_true]
def xW(b:Bs):List (By×By):=iA b.db [] [] b.db.now
theorem t23{h:List Uo}{i s m o:Nat}{lv:List Lv}{b:Bs}{rc dn ks:U}(fl:Nat)(hf:fl≤h.length)(hb:dI h i s m o lv b rc dn ks)(hks:oV ks b.db.keys)(hd:pG b.db):G 23 [.ptr i 0] h fl=some (.own .r 2 ((xW b).map rH),h,fl):=by
 refine bK (fn:=v23) rfl rfl rfl ?_;have hl:decide (i<h.length)=true:=decide_eq_true (aH.1 hb.row).1;have c1:=t54 fl hf hb.row;have c2:=t55 fl hf hb.st.row;have c3:=t64 fl hf hb.st hks hd [] [] b.db.now;have hr:=hb.row;simp only[dm]at hr;simp[Dh,qby,qbz,az qfr,M4,c1,c2,c3,hl,hr,aR hf,xW,bF]
def D5(b:Bs):Int×Bs:=((b.db.sv:Int) - ((cV b.db (dQ b)).sv:Int),{b with db:=cV b.db (dQ b)})
theorem dI.db{h h' :List Uo}{i s m o:Nat}{lv:List Lv}{b:Bs}{rc dn ks ks' :U}(hb:dI h i s m o lv b rc dn ks){d:Db}(hlim:d.lim=b.db.lim)(hs:fA h' s o d ks')(hfr:Fr h h' [s,o]):dI h' i s m o lv {b with db:=d} rc dn ks' :=by
 obtain⟨n1,n2,n3,n4,n5,n6,n7,n8⟩:=hb.ne;have hsame:∀ j,j≠s→j≠o→h'[j]? =h[j]? :=fun j a b=>hfr.2 j (by simp[a,b]);refine⟨?_,hs,by rw[hsame m (cc n4) n6];exact hb.map,hb.Ra,fun l hl=> ?_,hb.nd⟩
 ·rw[hsame i n1 n3,hb.row];simp only[dm,hlim]
 ·have f:=n7 l hl;rw[hsame l.t f.ts f.tO,hsame l.p f.ps f.pO];exact hb.tx l hl
theorem Fr.sub{h h' :List Uo}{l l' :List Nat}(hf:Fr h h' l)(hl:∀ j∈l,j∈l'):Fr h h' l' :=⟨hf.1,fun j hj=>hf.2 j (fun hh=>hj (hl j hh))⟩
theorem t50{h:List Uo}{i s m o:Nat}{lv:List Lv}{b:Bs}{rc dn ks:U}(fl:Nat)(hf:fl≤h.length)(hb:dI h i s m o lv b rc dn ks)(hks:oV ks b.db.keys){n:Nat}(hd:Bo b.db n)(hw:Ir b.db)(hn:5000*n<small)(hz:KO b.db):
  ∃ h' ks',G 50 [.ptr i 0] h fl=some (.int .i64 (D5 b).1,h',fl)∧dI h' i s m o lv (D5 b).2 rc dn ks'∧oV ks' (D5 b).2.db.keys∧Fr h h' (ck i s m o lv):=by
 have hl:decide (i<h.length)=true:=decide_eq_true (aH.1 hb.row).1;have c1:=t54 fl hf hb.row;have c2:=t27 fl hf hb;obtain⟨h',ks',c3,s1,s2,s3⟩:=t98 fl hf hb.st hks hd.ok hz (dQ b);obtain⟨_,_,_,hlim,_,_⟩:=FM hd hw hn (dQ b);have hbb:=hb.db hlim s1 s3;refine⟨h',ks',?_,hbb,s2,s3.sub (by unfold ck;simp)⟩;refine bK (fn:=v50) rfl rfl rfl ?_;have hr:=hb.row;have hcut:cut h.length fl h' =h' :=by rw[←s3.1];exact aR (by rw[s3.1];exact hf)
 simp only[dm]at hr;simp[Dp,qb7,qb8,az qfx,Nf,c1,c2,c3,hl,hr,hcut,D5,bF]
end Go.RE
namespace Go.RE
def lU(id:Int):List Tx→List Tx
 |[]=>[]
 |t::r=>bif decide ((t.id:Int)=id)then r else t::lU id r
theorem EC(id:Int):∀ lv:List Lv,(jE lX id lv).map (·.tx)=lU id (lv.map (·.tx))
 |[]=>rfl
 |l::r=>by
  have e:lX.key l=(l.tx.id:Int):=rfl;simp only[jE,ct,lU,e];cases decide ((l.tx.id:Int)=id)with
  |true=>rfl
  |false=>simp only[cond_false,ct,EC id r]
theorem ki{α κ:Type}[DecidableEq κ](F:Mk α κ)(k:κ):∀ l:List α,(jE F k l).Sublist l
 |[]=> .slnil
 |b::r=>by
  simp only[jE];cases decide (F.key b=k)with
  |true=>exact PL _ _
  |false=>exact(ki F k r).cons_cons b
def ir(b:Bs)(id:Int):Bs:={b with live:=lU id b.live}
def kM(b:Bs)(id:Int):Bs:={ir b id with aj:=pN (pF b.db.lim.records) b.db.lim.marks (bP b.aj (dQ (ir b id)))}
theorem pP{i s m o:Nat}{lv lv' :List Lv}(h:lv'.Sublist lv):(ck i s m o lv').Sublist (ck i s m o lv):=by
 unfold ck;refine List.Sublist.cons_cons i (List.Sublist.cons_cons s (List.Sublist.cons_cons m (List.Sublist.cons_cons o ?_)))
 induction h with
 |slnil=>exact .slnil
 |cons a _ ih=>rw[KF];exact ih.trans (qc5 _ _)
 |cons_cons a _ ih=>rw[KF,KF];exact(List.Sublist.refl _).append ih
theorem dI.drop{h:List Uo}{i s m o:Nat}{lv:List Lv}{b:Bs}{rc dn ks:U}(hb:dI h i s m o lv b rc dn ks)(id:Int){o' :Uo}(ho:kQ lX (some o') (jE lX id lv)):dI (h.set m o') i s m o (jE lX id lv) (ir b id) rc dn ks:=by
 obtain⟨n1,n2,n3,n4,n5,n6,n7,n8⟩:=hb.ne;have hne:∀ j,j≠m→(h.set m o')[j]? =h[j]? :=fun j hj=>dP (cc hj);refine⟨by rw[hne i n2];exact hb.row,hb.st.same (hne s n4) (hne o (cc n6)),by rw[eX hb.map.lt];exact ho,by rw[EC,hb.Ra];rfl,fun l hl=> ?_,qk (pP (ki lX id lv)) hb.nd⟩;have hl' :=(ki lX id lv).subset hl;have f:=n7 l hl';rw[hne l.t f.tm,hne l.p f.pm];exact hb.tx l hl'
theorem dI.cells{h:List Uo}{i s m o:Nat}{lv:List Lv}{b:Bs}{rc dn ks rc' dn' :U}(hb:dI h i s m o lv b rc dn ks){b' :Bs}(hdb:b'.db=b.db)(hlv:b'.live=b.live){h' :List Uo}(hr:h'[i]? =some (.row (dm b' s m rc' dn')))(hfr:∀ j,j≠i→h'[j]? =h[j]?):dI h' i s m o lv b' rc' dn' ks:=by
 obtain⟨n1,n2,n3,n4,n5,n6,n7,n8⟩:=hb.ne;refine⟨hr,by rw[hdb];exact hb.st.same (hfr s (cc n1)) (hfr o (cc n3)),by rw[hfr m (cc n2)];exact hb.map,by rw[hlv];exact hb.Ra,fun l hl=> ?_,hb.nd⟩;have f:=n7 l hl;rw[hfr l.t f.ti,hfr l.p f.pi];exact hb.tx l hl
theorem uu(p:Rc→Bool):∀ l:List Rc,uB (l.filter p)≤uB l
 |[]=>ak _
 |r::l=>by
  have:=uu p l;rw[mw];cases p r with
  |true=>simp only[if_true,uB];omega
  |false=>simp only[jV,if_false,uB];omega
theorem t60{h:List Uo}{i s m o:Nat}{lv:List Lv}{b:Bs}{rc dn ks:U}(fl:Nat)(hf:fl≤h.length)(hb:dI h i s m o lv b rc dn ks)(hrc:nt 6 rc (b.aj.map recC))(hrl:b.aj.length<100000000)(hw:uB b.aj<small / 8)(hlr:b.db.lim.records<small)(hlm:b.db.lim.marks<small)(id:Int):
  ∃ h',G 60 [.ptr i 0,.int .i64 id] h fl=some (.aZ [],h',fl)∧dI h' i s m o (jE lX id lv) (kM b id) (.bJ 6 ((kM b id).aj.map recC)) dn ks∧Fr h h' (ck i s m o lv):=by
 obtain⟨n1,n2,n3,n4,n5,n6,n7,n8⟩:=hb.ne;have hlt:=(aH.1 hb.row).1;have hml:=hb.map.lt;obtain⟨o',m1,m2⟩:=N4 lX hb.map id;have hb1:=hb.drop id m1;have gT:∀ e,K4 .int m (.int .i64 id) ⟨e,h,fl⟩ h[m]? =some (.aZ [],⟨e,h.set m o',fl⟩):=fun e=>m2 m ⟨e,h,fl⟩ rfl;have hfl:(bP b.aj (dQ (ir b id))).length≤b.aj.length:=rC _ _;have c3:=t104 (bP b.aj (dQ (ir b id))) b.db.lim.records b.db.lim.marks (by unfold small;omega) (by have:=uu (fun r=>decide (dQ (ir b id)<r.last)) b.aj;unfold bP;omega) hlr hlm;have hH1:(h.set m o').length=h.length:=by simp
 have hr1:(h.set m o')[i]? =some (.row (dm b s m rc dn)):=hb1.row;have hres:dI ((h.set m o').set i (.row (dm (kM b id) s m (.bJ 6 ((kM b id).aj.map recC)) dn))) i s m o (jE lX id lv) (kM b id) (.bJ 6 ((kM b id).aj.map recC)) dn ks:=
  hb1.cells (b' :=kM b id) (rc' :=.bJ 6 ((kM b id).aj.map recC)) (dn' :=dn) rfl rfl (eX (by simpa using hlt)) (fun j hj=>dP (cc hj))
 refine⟨_,?_,hres,((Fr.refl h _).set (by unfold ck;simp) o').set (by unfold ck;simp) _⟩;refine bK (fn:=v60) rfl rfl rfl ?_;have hr:=hb.row;generalize hH:h.set m o' =H at*;have hss:∀ X:Uo,(H.set i X)[i]? =some X:=fun X=>eX (by omega);have hcut:∀ X:Uo,cut h.length fl (H.set i X)=H.set i X:=fun X=>by
  have:(H.set i X).length=h.length:=by simp[hH1]
  rw[←this];exact aR (by rw[this];exact hf)
 have hself:H.set i (.row (dm b s m rc dn))=H:=Gw hr1;have hbl:∀ u:U,dI (H.set i (.row (dm b s m u dn))) i s m o (jE lX id lv) (ir b id) u dn ks:=fun u=>hb1.cells rfl rfl (hss _) (fun j hj=>dP (cc hj));have c1:=t27 (h:=H.set i (.row (dm b s m .dB dn))) fl (by simp;omega) (hbl .dB);have hrow:∀ X,dm (kM b id) s m X dn=[.int .i64 b.db.lim.keys,.int .i64 b.db.lim.gW,.int .i64 b.db.lim.bytes,.int .i64 b.db.lim.marks,.int .i64 b.db.lim.records,.int .i64 b.db.lim.live,.int .u64 b.db.lim.last,.ptr s 0,.map m,X,dn,.int .i64 b.last,.int .i64 b.event]:=fun X=>rfl;have hrecs:(kM b id).aj=pN (pF b.db.lim.records) b.db.lim.marks (bP b.aj (dQ (ir b id))):=rfl;rcases hrc with rfl|⟨rfl,hn⟩
 ·have c2:=Lg b.aj (dQ (ir b id)) hrl (fun r hr=>DO hw hr);simp only[dm]at hr hr1 c1 hself;rw[hrow,hrecs];generalize hL:dQ (ir b id)=L at*;cases hfl2:U.kY ((pN (pF b.db.lim.records) b.db.lim.marks (bP b.aj L)).map recC)<;>
   simp[xH,XJ,az XK,Nq,hr,hr1,gT,hss,c1,c2,c3,hcut,hself,hfl2,bF]
 ·have hn0:b.aj=[]:=by simpa using hn
  have c2:=t66 [] (dQ (ir b id)) (by decide) (fun r hr=>(fu hr).elim);rw[hn0]at c3 hrecs;have c1n:=t27 (h:=H) fl (by omega) hb1;have hnl:U.same (.nl 6) (.nl 6)=false:=rfl;simp only[jY]at c2;simp only[dm]at hr hr1 c1 hself;rw[hrow,hrecs];generalize hL:dQ (ir b id)=L at*;cases hfl2:U.kY ((pN (pF b.db.lim.records) b.db.lim.marks (bP [] L)).map recC)<;>
   simp[xH,XJ,az XK,Nq,hr,hr1,gT,hss,hnl,c1,c1n,c2,c3,hcut,hself,hfl2,bF]
end Go.RE
namespace Go.RE
structure RcB(b:Bs):Prop where
 len:b.aj.length<100000000
 wt:uB b.aj<small / 8
 lr:b.db.lim.records<small
 lm:b.db.lim.marks<small
def iI(b:Bs)(id:Int):Nat×Bs:=match mW b id with
 |none=>(4,b)
 |some _=>(0,kM b id)
theorem t53{h:List Uo}{i s m o:Nat}{lv:List Lv}{b:Bs}{rc dn ks:U}(fl:Nat)(hf:fl≤h.length)(hb:dI h i s m o lv b rc dn ks)(hrc:nt 6 rc (b.aj.map recC))(hR:RcB b)(id:Int):
  ∃ h' lv' rc',G 53 [.ptr i 0,.int .i64 id] h fl=some (.int .i64 ((iI b id).1:Nat),h',fl)∧dI h' i s m o lv' (iI b id).2 rc' dn ks∧nt 6 rc' ((iI b id).2.aj.map recC)∧Gr h h' (ck i s m o lv) (ck i s m o lv')∧h'.length=h.length:=by
 have hl:decide (i<h.length)=true:=decide_eq_true (aH.1 hb.row).1;have c1:=t56 fl hf hb id;unfold iI;rw[hb.find];cases hlv:fW lX id lv with
 |none=>
  rw[hlv]at c1;simp only[kW]at c1;refine⟨h,lv,rc,?_,hb,hrc,(Fr.refl h _).gr,rfl⟩;refine bK (fn:=v53) rfl rfl rfl ?_;simp[xD,Xq,Xr,Xs,Xt,c1,hl,aR hf]
 |some l=>
  rw[hlv]at c1;simp only[kW]at c1;obtain⟨h',c2,b2,f2⟩:=t60 fl hf hb hrc hR.len hR.wt hR.lr hR.lm id;have hlt:decide (l.t<h.length)=true:=decide_eq_true (aH.1 (hb.tx l (lM lX hlv)).1).1;refine⟨h',_,_,?_,b2,.inl rfl,⟨by rw[f2.1];exact ak _,fun j _ hj=>f2.2 j hj,fun j hj=> .inl ((pP (ki lX id lv)).subset hj)⟩,f2.1⟩;refine bK (fn:=v53) rfl rfl rfl ?_;have hcut:cut h.length fl h' =h' :=by rw[←f2.1];exact aR (by rw[f2.1];exact hf)
  simp[xD,Xq,Xr,Xs,qcl,Xt,c1,c2,hl,hlt,hcut]
def x9(b:Bs)(t:Tx)(w:Wt):Bool:=decide (t.began<gG (chain b.db w.key))
def kU(b:Bs)(t:Tx):Bool:=t.cO.any (x9 b t)
theorem qeP{h:List Uo}{i s m o:Nat}{b:Bs}{rc dn ks:U}(fl:Nat)(hf:fl≤h.length)(hr:h[i]? =some (.row (dm b s m rc dn)))(hs:fA h s o b.db ks)(hd:pG b.db){t p:Nat}{tx:Tx}(ht:h[t]? =some (.row (mg tx p)))
  (lc:List (Wt×Nat)) (c:Nat) (hc:vO pq lc c) (hm:h[p]? =some (.map (lc.map (vg pq)) c)) (hlc:lc.map (·.1)=tx.cO):
  ∀ (j:Nat) (vis left:List (Wt×Nat)),left.length≤j→(vis++left).Perm lc→(∀ x∈vis,x9 b tx x.1=false)→
  gL bu mT qT pT CE 0 AO (h.length+1) ⟨[(0,.ptr i 0),(1,.ptr t 0),(10,.ptr h.length 0)],h++[.iter (some p) c (vis.map (·.2)) c],fl⟩
   (gV bu mT qT pT CE (.seq (.region GJ) .ret) (kE h.length CE (.bool (kU b tx),h,fl))):=by
 have hi1:decide (i<h.length+1)=true:=decide_eq_true (by have:=(aH.1 hr).1;omega);have ht1:decide (t<h.length+1)=true:=decide_eq_true (by have:=(aH.1 ht).1;omega);have hnone:∀ vis:List (Wt×Nat),vis.Perm lc→(∀ x∈vis,x9 b tx x.1=false)→kU b tx=false:=by
  intro vis hv ha;unfold kU;rw[←hlc,List.any_eq_false];intro w hw;obtain⟨x,hx,rfl⟩:=cD.1 hw;have:=ha x (hv.symm.subset hx);rw[this];simp
 simp only[dm]at hr;simp only[mg]at ht;intro j
 induction j with
 |zero=>
  intro vis left hj hp ha;obtain rfl:left=[]:=fT (by omega);rw[DU]at hp;rw[ai AO.eq_1];simp[Mc];refine pR rfl hm (yb hc) (fun _=> ?_) (fun a ha' hn=> ?_)
  ·rw[hnone vis hp ha];simp[GJ,uW hf,lS hf]
  ·obtain⟨x,hx,rfl,_,h3⟩:=pX (left:=[]) hc (by simpa using hp) ha' hn;simp at h3
 |succ j ih=>
  intro vis left hj hp ha;rw[ai AO.eq_1];simp[Mc];refine pR rfl hm (yb hc) (fun hall=> ?_) (fun a ha' hn=> ?_)
  ·have:=Gt hc hp hall;subst this;rw[DU]at hp;rw[hnone vis hp ha];simp[GJ,uW hf,lS hf]
  ·obtain⟨x,hx,rfl,h2,h3⟩:=pX hc hp ha' hn;have hent:∀ ev:Env,nC ⟨ev,h++[.iter (some p) c (vis.map (·.2)++[x.2]) c],fl⟩ h.length=some (.aZ [.str x.1.key,.agg (eY x.1)]):=fun ev=>ye hm (FL hc) ha';have c1:=t138 (h:=h++[.iter (some p) c (vis.map (·.2)++[x.2]) c]) fl (by simp;omega) hs.app hd x.1.key;cases hcl:x9 b tx x.1 with
   |true=>
    have hcp:kU b tx=true:=by
     unfold kU;rw[←hlc,List.any_eq_true];exact⟨x.1,cD.2 ⟨x,hx,rfl⟩,hcl⟩
    rw[hcp];unfold x9 at hcl;simp[vg,pq,Md,az Oo,GI,TK,hent,aX hr,aX ht,c1,hcl,uW hf,bF]
   |false=>
    have ih' :=ih (vis++[x]) (left.erase x) (by omega) h2 (fun y hy=>by
     rcases eH.1 hy with hy|hy
     ·exact ha y hy
     ·simp at hy;subst hy;exact hcl)
    unfold x9 at hcl;simp[mR]at ih';simp[vg,pq,Md,az Oo,GI,hent,aX hr,aX ht,c1,hcl,hi1,ht1,uW hf,lS hf,bF];exact ih'
theorem t100{h:List Uo}{i s m o:Nat}{b:Bs}{rc dn ks:U}(fl:Nat)(hf:fl≤h.length)(hr:h[i]? =some (.row (dm b s m rc dn)))(hs:fA h s o b.db ks)(hd:pG b.db){t p:Nat}{tx:Tx}(ht:h[t]? =some (.row (mg tx p)))(hp:kQ pq h[p]? tx.cO):
  G 100 [.ptr i 0,.ptr t 0] h fl=some (.bool (kU b tx),h,fl):=by
 refine bK (fn:=CE) rfl rfl rfl ?_;obtain⟨lc,c,e1,e2,e3⟩:=hp;have a:=qeP fl hf hr hs hd ht lc c e3 e2 e1 lc.length [] lc (ak _) (by simp) (by simp);have hi1:decide (i<h.length+1)=true:=decide_eq_true (by have:=(aH.1 hr).1;omega);have ht1:decide (t<h.length+1)=true:=decide_eq_true (by have:=(aH.1 ht).1;omega);simp only[mg]at ht;simp at a;simp[yE,TH,TI,ht,e2,hi1,ht1,lS hf];exact a
end Go.RE
namespace Go.RE
abbrev LcS:=Tx×List Wt×List cU
def gj(b:Bs)(z:LcS)(w:Wt):LcS:=
 bif w.gone&&(jI (chain b.db w.key) z.1.began).isNone then(eO b z.1 (yu w.key),z.2.1,z.2.2)else(z.1,z.2.1++[w],z.2.2++[yu w.key])
theorem SR(b:Bs)(z:LcS)(w:Wt):(gj b z w).1.began=z.1.began∧(gj b z w).1.cO=z.1.cO∧(gj b z w).1.id=z.1.id∧(gj b z w).1.start=z.1.start:=by
 unfold gj;cases w.gone&&(jI (chain b.db w.key) z.1.began).isNone<;>exact⟨rfl,rfl,rfl,rfl⟩
theorem tH(b:Bs)(t:Tx)(sp:cU):(eO b t sp).marks.length≤t.marks.length+1:=by
 have h1:=jT t.marks [sp];have h2:=rT (FI t.marks sp) b.db.lim.marks;unfold FI at h2;simp at h1;show(uY (FI t.marks sp) b.db.lim.marks).length≤_;unfold FI;omega
theorem qiK{i s m o:Nat}{b:Bs}{rc dn ks:U}(fl n:Nat)(hf:fl≤n)(hd:pG b.db)(hlm:b.db.lim.marks<small){l:Lv}(L:List Wt)(hL:L.length<small / 32)(hok:∀ w∈L,pI w)(R:LcS)(K:Ex→Vs→Prop)(H0:List Uo)(hn0:H0.length=n)(hlt:l.t<n)(hlti:l.t≠i)(hlts:l.t≠s)(hlto:l.t≠o)
  (hr0:H0[i]? =some (.row (dm b s m rc dn))) (hs0:fA H0 s o b.db ks) (hil:i<n)
  (hK:K .normal ⟨[(4,.ptr n 0),(0,.ptr i 0),(7,.own (.t 7) 3 (R.2.1.map eY)),(1,.ptr l.t 0),(8,.own (.t 8) 2 (R.2.2.map aS))],H0.set l.t (.row (mg R.1 l.p))++[.row [.int .u64 0,.int .u64 0,.int .u64 0,.int .u64 0,.sl 2 [],.sl 2 []]],fl⟩):
  ∀ (j q:Nat) (z:LcS),q+j=L.length→(L.drop q).foldl (gj b) z=R→z.2.1.length≤q→z.2.2.length≤q→z.1.marks.length<small / 16+q→
  gL bu mT qT pT v59 0 Bm (n+1) ⟨[(24,.int .i64 (q:Int)),(1,.ptr l.t 0),(0,.ptr i 0),(8,.own (.t 8) 2 (z.2.2.map aS)),(7,.own (.t 7) 3 (z.2.1.map eY)),(22,.own (.t 22) 3 (L.map eY)),(4,.ptr n 0),(23,.int .i64 (L.length:Int))],H0.set l.t (.row (mg z.1 l.p))++[.row [.int .u64 0,.int .u64 0,.int .u64 0,.int .u64 0,.sl 2 [],.sl 2 []]],fl⟩ K:=by
 have hi1:decide (i<n+1)=true:=decide_eq_true (by omega);have ht1:decide (l.t<n+1)=true:=decide_eq_true (by omega);intro j
 induction j with
 |zero=>
  intro q z hij hR a1 a2 a3;obtain⟨h1,h2⟩:=oq hij;rw[h2]at hR;simp only[KB]at hR;subst hR;have hcut1:∀ (X a:Uo) (x:List Uo),cut (n+1) fl (H0.set l.t X++a::x)=H0.set l.t X++[a]:=fun X a x=>by
   have:=lS (fl:=fl) (h:=H0.set l.t X) (by simp;omega) a x;simpa[hn0]using this
  rw[ai Bm.eq_1];simp[Kg,h1,hi1,ht1,hcut1];exact hK
 |succ j ih=>
  intro q z hij hR a1 a2 a3;obtain⟨h1,e3,w,d1,g1⟩:=ry hij (by unfold small at*;omega);have e1:=g1 eY;have hq:q<L.length:=by omega
  have hw:pI w:=hok w (iF (i:=q) (by rw[d1];exact cB));rw[d1,mz]at hR;have ia:∀ s',rF s' 3 (some (.own (.t 22) 3 (L.map eY))) (some (.int .i64 (q:Int)))=some (.bI (.t 22) q 0,s'):=fun s' =>c9 (by simpa using hq);have hlen:(L.map eY).length=L.length:=by simp
  simp only[eY]at e1;have e7:∀ hh:q<(L.map eY).length,(L.map eY)[q]=[.str w.key,.bool w.gone,.sl 1 (bM w.data)]:=fun hh=>by rw[aQ hh]at e1;exact qh e1
  have e8:∀ x:List Uo,∀ X,(H0.set l.t X++x)[l.t]? =some X:=fun x X=>aX (eX (by omega));have e9:∀ X x,(H0.set l.t X++x)[i]? =some (.row (dm b s m rc dn)):=fun X x=>aX (by rw[dP hlti];exact hr0);have hcut1:∀ (X a:Uo) (x:List Uo),cut (n+1) fl (H0.set l.t X++a::x)=H0.set l.t X++[a]:=fun X a x=>by
   have:=lS (fl:=fl) (h:=H0.set l.t X) (by simp;omega) a x;simpa[hn0]using this
  have hset2:∀ Y X x,(H0.set l.t Y++x).set l.t X=H0.set l.t X++x:=fun Y X x=>by
   rw[mA _ _ (by simp;omega),KD]
  have hat1:∀ (X a c:Uo) (x:List Uo),(H0.set l.t X++a::c::x)[n+1]? =some c:=fun X a c x=>by
   have:=at1 (H0.set l.t X) x a c;simpa[hn0]using this
  have hst1:∀ (X a c y:Uo) (x:List Uo),(H0.set l.t X++a::c::x).set (n+1) y=H0.set l.t X++a::y::x:=fun X a c y x=>by
   have:=qaf (H0.set l.t X) x a c y;simpa[hn0]using this
  have hss:∀ X,fA (H0.set l.t X) s o b.db ks:=fun X=>hs0.same (dP hlts) (dP hlto);have c1:∀ X x,G 77 [.ptr s 0,.str w.key,.int .u64 (z.1.began:Int)] (H0.set l.t X++x) fl=some (uA (jI (chain b.db w.key) z.1.began),H0.set l.t X++x,fl):=fun X x=>t77 fl (by simp;omega) (hss X).app hd w.key z.1.began;have c2:=t76 w.key hw.1;have b1:(z.2.1.length+1)*48≤bl∧z.2.1.length+1≤bl:=by unfold small at hL;unfold bl;omega
  have b2:(z.2.2.length+1)*32≤bl∧z.2.2.length+1≤bl:=by unfold small at hL;unfold bl;omega
  have hrow:∀ t:Tx,Uo.row (mg t l.p)=.row [.int .i64 t.id,.int .u64 t.began,.int .i64 t.start,.sl 2 (t.marks.map aS),.map l.p]:=fun _=>rfl;simp only[aS]at c2;generalize hXX:L.map eY=XX at*;simp only[dm]at e9;rw[ai Bm.eq_1];simp only[hrow]at ih⊢;cases hgn:w.gone&&(jI (chain b.db w.key) z.1.began).isNone with
  |true=>
   simp only[aI]at hgn;obtain⟨hg,hno⟩:=hgn;have hgv:jI (chain b.db w.key) z.1.began=none:=by
    cases hx:jI (chain b.db w.key) z.1.began with
    |none=>rfl
    |some y=>rw[hx]at hno;cases hno
   have hlc:gj b z w=(eO b z.1 (yu w.key),z.2.1,z.2.2):=by unfold gj;rw[hg,hgv];rfl
   rw[hlc]at hR;have hml:=tH b z.1 (yu w.key);have ih' :=ih (q+1) _ (by omega) hR (by simp;omega) (by simp;omega) (by simp;omega);have c3:∀ x,G 75 [.ptr i 0,.ptr l.t 0,.agg (aS (yu w.key))] (H0.set l.t (.row (mg z.1 l.p))++x) fl=some (.aZ [],H0.set l.t (.row (mg (eO b z.1 (yu w.key)) l.p))++x,fl):=fun x=>by
    have:=t75 (h:=H0.set l.t (.row (mg z.1 l.p))++x) (i:=i) (s:=s) (m:=m) (t:=l.t) (p:=l.p) (b:=b) (tx:=z.1) (rc:=rc) (dn:=dn) fl (by simp;omega) (aX (by rw[dP hlti];exact hr0)) (e8 x _) (by unfold small at*;omega) hlm (yu w.key);rw[hset2]at this;exact this
   rw[hg]at e1 e7;rw[hgv]at c1;simp only[uA]at c1;simp only[hrow,aS,yu]at c3;simp only[yu]at ih';simp[Kg,Pp,az No,Dv,Pq,XB,Ia,h1,ia,e1,e7,e3,hlen,hq,e8,e9,hat1,hst1,c1,c2,c3,hi1,ht1,hcut1,hn0,eY,bF];simpa using ih'
  |false=>
   have hlc:gj b z w=(z.1,z.2.1++[w],z.2.2++[yu w.key]):=by unfold gj;rw[hgn];rfl
   rw[hlc]at hR;have ih' :=ih (q+1) _ (by omega) hR (by simp;omega) (by simp;omega) (by simp;omega);simp[aS,eY,yu]at ih';cases hg:w.gone with
   |false=>
    rw[hg]at e1 e7 ih';simp only[uA]at c1;simp[Kg,Pp,az No,Dv,Pq,Ni,Nj,Ia,h1,ia,e1,e7,e3,hlen,hq,e8,e9,hat1,hst1,c1,c2,hi1,ht1,hcut1,hn0,b1,b2,eY,bF];simpa using ih'
   |true=>
    rw[hg]at e1 e7 ih' hgn;have hgs:(jI (chain b.db w.key) z.1.began).isSome=true:=by
     cases hx:jI (chain b.db w.key) z.1.began with
     |none=>rw[hx]at hgn;cases hgn
     |some y=>rfl
    simp only[uA,hgs]at c1;simp[Kg,Pp,az No,Dv,Pq,Ni,Nj,Ia,h1,ia,e1,e7,e3,hlen,hq,e8,e9,hat1,hst1,c1,c2,hi1,ht1,hcut1,hn0,b1,b2,eY,bF];simpa using ih'
theorem IS(low:Nat):∀ (ks:List By) (st:Db×List By),(ks.foldl (gZ low) st).1.lim=st.1.lim∧(ks.foldl (gZ low) st).1.now=st.1.now
 |[],_=>⟨rfl,rfl⟩
 |k::r,st=>by
  have h:=IS low r (gZ low st k);have h1:=EA low st k;exact⟨h.1.trans h1.2.1,h.2.trans h1.2.2⟩
theorem nB(d:Db)(low:Nat):(cV d low).lim=d.lim∧(cV d low).now=d.now:=IS low d.keys ({d with sk:=0,sv:=0,sb:=0},[])
theorem IT:∀ (l:List Wt) (d:Db),(l.foldl jk d).lim=d.lim∧(l.foldl jk d).now=d.now
 |[],_=>⟨rfl,rfl⟩
 |w::r,d=>by
  have h:=IT r (jk d w);exact⟨h.1,h.2⟩
theorem pM(d:Db)(c:List Wt×Sz):(kL d c).lim=d.lim∧(kL d c).now=d.now+1:=by
 have h:=IT c.1 {d with now:=d.now+1};exact h
theorem rP(d:Db)(l:List Wt)(low:Nat):(bH d l low).2.2.lim=d.lim:=by
 unfold bH;cases !(fH none l==0)with
 |true=>rfl
 |false=>
  cases l.isEmpty with
  |true=>rfl
  |false=>
   cases decide (d.lim.last≤d.now)with
   |true=>rfl
   |false=>
    cases ri d (bw d l).2 with
    |true=>exact(pM _ _).1
    |false=>
     cases ri (cV d low) (bw (cV d low) l).2 with
     |true=>exact(pM _ _).1.trans (nB d low).1
     |false=>exact(nB d low).1
def qf:Rc:=⟨0,0,0,0,[],[]⟩
def aP(b:Bs)(t:Tx):LcS:=(rG t).foldl (gj b) (t,[],[])
def vu(b:Bs)(t:Tx):Rc:=⟨0,0,t.began,0,(aP b t).1.marks,uY (aP b t).2.2 b.db.lim.marks⟩
def aM(b:Bs)(t:Tx):Rc×Nat×Nat×Bs:=
 bif kU b t then(qf,0,100,b)else
 match o9 b.aj (vu b t)with
 |none=>(qf,0,101,aY b (aP b t).1)
 |some out=>bif(bH b.db (aP b t).2.1 (dQ (aY b (aP b t).1))).2.1==0
  then({vu b t with first:=pF (bH b.db (aP b t).2.1 (dQ (aY b (aP b t).1))).1,last:=pF (bH b.db (aP b t).2.1 (dQ (aY b (aP b t).1))).1,out:=out},(bH b.db (aP b t).2.1 (dQ (aY b (aP b t).1))).1,0,{aY b (aP b t).1 with db:=(bH b.db (aP b t).2.1 (dQ (aY b (aP b t).1))).2.2})
  else(qf,0,(bH b.db (aP b t).2.1 (dQ (aY b (aP b t).1))).2.1,{aY b (aP b t).1 with db:=(bH b.db (aP b t).2.1 (dQ (aY b (aP b t).1))).2.2})
def YL(r:Rc×Nat×Nat×Bs):U:=.aZ [.agg (recC r.1),.int .u64 (r.2.1:Int),.int .i64 (r.2.2.1:Int)]
theorem tF(b:Bs):∀ (L:List Wt) (z:LcS),(L.foldl (gj b) z).2.1.length≤z.2.1.length+L.length∧(L.foldl (gj b) z).2.2.length≤z.2.2.length+L.length∧(L.foldl (gj b) z).1.marks.length≤z.1.marks.length+L.length∧
  (L.foldl (gj b) z).1.began=z.1.began∧(L.foldl (gj b) z).1.cO=z.1.cO∧(L.foldl (gj b) z).1.id=z.1.id∧(L.foldl (gj b) z).1.start=z.1.start∧(∀ w∈(L.foldl (gj b) z).2.1,w∈z.2.1∨w∈L)
 |[],z=>⟨ak _,ak _,ak _,rfl,rfl,rfl,rfl,fun w hw=> .inl hw⟩
 |w::L,z=>by
  have h:=tF b L (gj b z w);have h1:=SR b z w;have h2:(gj b z w).2.1.length≤z.2.1.length+1∧(gj b z w).2.2.length≤z.2.2.length+1∧(gj b z w).1.marks.length≤z.1.marks.length+1∧∀ x∈(gj b z w).2.1,x∈z.2.1∨x=w:=by
   unfold gj;cases w.gone&&(jI (chain b.db w.key) z.1.began).isNone with
   |true=>exact⟨by simp,by simp,tH b z.1 _,fun x hx=> .inl hx⟩
   |false=>exact⟨by simp,by simp,by simp,fun x hx=>by simpa using hx⟩
  obtain⟨a1,a2,a3,a4,a5,a6,a7,a8⟩:=h;rw[mz];refine⟨by simp only[fV];omega,by simp only[fV];omega,by simp only[fV];omega,a4.trans h1.1,a5.trans h1.2.1,a6.trans h1.2.2.1,a7.trans h1.2.2.2,fun x hx=> ?_⟩;rcases a8 x hx with h3|h3
  ·rcases h2.2.2.2 x h3 with h4|rfl
   ·exact .inl h4
   ·exact .inr cB
  ·exact .inr (eu _ h3)
theorem dI.app{h x:List Uo}{i s m o:Nat}{lv:List Lv}{b:Bs}{rc dn ks:U}(hb:dI h i s m o lv b rc dn ks):dI (h++x) i s m o lv b rc dn ks:=
 ⟨aX hb.row,hb.st.app,by rw[bG hb.map.lt];exact hb.map,hb.Ra,fun l hl=>⟨aX (hb.tx l hl).1,by rw[bG (hb.tx l hl).2.lt];exact(hb.tx l hl).2⟩,hb.nd⟩
structure qda(b:Bs)(m:Nat):Prop where
 r:Bo b.db m
 w:Ir b.db
 z:KO b.db
 m5:5000*m<small
 now:b.db.now<small
 cO:∀ t∈b.live,t.cO.length≤m
 ok:qc9 b m
 rc:RcB b
 wt2:∀ t∈b.live,uB b.aj+t.marks.length+2*m<small / 8
 qhM:b.aj.length+1<100000000
 dl:b.done.length+1<small
 ev:b.event+1<small
theorem t59{h:List Uo}{i s m o:Nat}{lv:List Lv}{b:Bs}{rc dn ks:U}(fl:Nat)(hf:fl≤h.length)(hb:dI h i s m o lv b rc dn ks)(hks:oV ks b.db.keys)(hrc:nt 6 rc (b.aj.map recC)){k:Nat}(hC:qda b k){l:Lv}(hlm:l∈lv):
  ∃ h' lv' ks',G 59 [.ptr i 0,.ptr l.t 0] h fl=some (YL (aM b l.tx),h',fl)∧dI h' i s m o lv' (aM b l.tx).2.2.2 rc dn ks'∧oV ks' (aM b l.tx).2.2.2.db.keys∧Fr h h' (ck i s m o lv)∧ck i s m o lv' =ck i s m o lv∧∃ l'∈lv',l'.t=l.t∧l'.tx.id=l.tx.id∧l'.tx.began=l.tx.began∧l'.tx.start=l.tx.start:=by
 have hi:=(aH.1 hb.row).1;have hl:decide (i<h.length)=true:=decide_eq_true hi;have hl1:decide (i<h.length+1)=true:=decide_eq_true (by omega);obtain⟨x1,x2⟩:=hb.tx l hlm;have hlt:=(aH.1 x1).1;have hlt0:decide (l.t<h.length)=true:=decide_eq_true hlt;have hlt1:decide (l.t<h.length+1)=true:=decide_eq_true (by omega);have hft:=hb.ne.2.2.2.2.2.2.1 l hlm;have hdb:pG b.db:=hC.r.ok;have c1:=t100 (h:=h++[.row (recC qf)]) fl (by simp;omega) (aX hb.row) hb.st.app hdb (aX x1) (by rw[bG x2.lt];exact x2);unfold aM;cases hcl:kU b l.tx with
 |true=>
  rw[hcl]at c1;refine⟨h,lv,ks,?_,hb,hks,Fr.refl h _,rfl,l,hlm,rfl,rfl,rfl,rfl⟩;refine bK (fn:=v59) rfl rfl rfl ?_;simp only[recC,qf]at c1;simp at c1;simp[xG,Xz,XA,qcw,c1,hl1,hlt1,YL,recC,qf,uW hf]
 |false=>
  rw[hcl]at c1;simp only[cond_false];have htm:=hb.mem hlm;have hpk:=hC.cO l.tx htm;have hmk:=hC.ok.marks l.tx htm;have hk5:=hC.m5;have hwl:(rG l.tx).length=l.tx.cO.length:=by unfold rG;rw[lE]
  have hwok:∀ w∈rG l.tx,pI w:=fun w hw=>hC.ok.wt l.tx htm w ((mc Wt.key l.tx.cO).subset hw);have c2:=t79 (h:=h++[.row (recC qf)]) fl (by simp;omega) (aX x1) (by rw[bG x2.lt];exact x2) (by unfold small at*;omega);obtain⟨q1,q2,q3,q4,q5,q6,q7,q8⟩:=tF b (rG l.tx) (l.tx,[],[]);have hRdef:(rG l.tx).foldl (gj b) (l.tx,[],[])=aP b l.tx:=rfl;rw[hRdef]at q1 q2 q3 q4 q5 q6 q7 q8;dsimp only at q1 q2 q3 q4 q5 q6 q7 q8;have hself:h.set l.t (.row (mg l.tx l.p))=h:=Gw x1;have hwk:∀ w∈(aP b l.tx).2.1,pI w:=fun w hw=>by
   rcases q8 w hw with h1|h1
   ·exact(fu h1).elim
   ·exact hwok w h1
  have hrT:recC (vu b l.tx)=[.int .u64 0,.int .u64 0,.int .u64 (l.tx.began:Int),.int .u64 0,.sl 2 ((aP b l.tx).1.marks.map aS),.sl 2 ((uY (aP b l.tx).2.2 b.db.lim.marks).map aS)]:=rfl;have hbu:dI (h.set l.t (.row (mg (aP b l.tx).1 l.p))) i s m o (An (aP b l.tx).1 lv) (aY b (aP b l.tx).1) rc dn ks:=
   hb.fK hlm (aP b l.tx).1 q6 _ (fun j hj _=>dP (cc hj)) (eX hlt) (by rw[dP hft.tp,q5];exact x2)
  have hFr:Fr h (h.set l.t (.row (mg (aP b l.tx).1 l.p))) (ck i s m o lv):=(Fr.refl h _).set (by unfold ck;simp only[bT,rD];right;right;right;right;exact⟨l,hlm,by simp⟩) _;simp only[ox,kF]at q1 q2;have c5:=t101 (aP b l.tx).2.2 b.db.lim.marks (by unfold small at*;omega) hC.rc.lm;have hfl:=rT (aP b l.tx).2.2 b.db.lim.marks;have c6:=t102 b.aj (vu b l.tx) (by have:=hC.rc.len;unfold small;omega) (fun r hr=>DO hC.rc.wt hr) ⟨by show(aP b l.tx).1.marks.length<small / 8;unfold small at*;omega,by show(uY (aP b l.tx).2.2 b.db.lim.marks).length<small / 8;unfold small at*;omega⟩;have hload:∀ x:List Uo,(h.set l.t (.row (mg (aP b l.tx).1 l.p))++x)[i]? =some (.row (dm b s m rc dn)):=fun x=>aX hbu.row;have htl:∀ x:List Uo,(h.set l.t (.row (mg (aP b l.tx).1 l.p))++x)[l.t]? =some (.row [.int .i64 l.tx.id,.int .u64 l.tx.began,.int .i64 l.tx.start,.sl 2 ((aP b l.tx).1.marks.map aS),.map l.p]):=fun x=>by
   refine aX ?_;rw[eX hlt];simp only[mg,q4,q6,q7]
  have hHl:(h.set l.t (.row (mg (aP b l.tx).1 l.p))).length=h.length:=by simp
  have hmem:∃ l'∈An (aP b l.tx).1 lv,l'.t=l.t∧l'.tx.id=l.tx.id∧l'.tx.began=l.tx.began∧l'.tx.start=l.tx.start:=
   ⟨{l with tx:=(aP b l.tx).1},by unfold An;exact cD.2 ⟨l,hlm,by rw[if_pos q6.symm]⟩,rfl,q6,q4,q7⟩
  have main:∀ (R:U) (h' :List Uo),(gV bu mT qT pT v59 (.seq (.draw Nk) (.seq (.draw Nl) (.seq (.seq (.region sU) (.cond (.t 91) (.seq (.region Ib) .ret) .skip)) (.seq (.draw Nn) (.seq (.seq (.region zq) (.cond (.t 106) (.seq (.region Ic) .ret) .skip)) (.seq (.region Ie) (.seq (.region Ig) .ret))))))) (kE h.length v59 (R,h',fl))) .normal
    ⟨[(4,.ptr h.length 0),(0,.ptr i 0),(7,.own (.t 7) 3 ((aP b l.tx).2.1.map eY)),(1,.ptr l.t 0),(8,.own (.t 8) 2 ((aP b l.tx).2.2.map aS))],h.set l.t (.row (mg (aP b l.tx).1 l.p))++[.row [.int .u64 0,.int .u64 0,.int .u64 0,.int .u64 0,.sl 2 [],.sl 2 []]],fl⟩→G 59 [.ptr i 0,.ptr l.t 0] h fl=some (R,h',fl):=by
   intro R h' hK;refine bK (fn:=v59) rfl rfl rfl ?_;have a:=qiK fl h.length hf hdb hC.rc.lm (l:=l) (m:=m) (rc:=rc) (dn:=dn) (ks:=ks) (rG l.tx) (by unfold small at*;omega) hwok (aP b l.tx) _ h rfl hlt hft.ti hft.ts hft.tO hb.row hb.st hi hK (rG l.tx).length 0 (l.tx,[],[]) (by omega) rfl (by simp) (by simp) (by simp;omega);simp only[hself]at a;simp only[recC,qf]at c1 c2;simp at a c1 c2;simp[xG,Xz,XA,qcx,qcy,qcz,c1,c2,hl1,hlt1,lS hf];exact a
  generalize hY:h.set l.t (.row (mg (aP b l.tx).1 l.p))=H at*;rw[hrT]at c6;have hn0:∀ (a:Uo) x,(H++a::x)[h.length]? =some a:=fun a x=>by rw[←hHl];exact Rz H x a
  have hn1:∀ (a c:Uo) x,(H++a::c::x)[h.length+1]? =some c:=fun a c x=>by rw[←hHl];exact at1 H x a c
  have hs0:∀ (a y:Uo) x,(H++a::x).set h.length y=H++y::x:=fun a y x=>by rw[←hHl];exact To H x a y
  have hs1:∀ (a c y:Uo) x,(H++a::c::x).set (h.length+1) y=H++a::y::x:=fun a c y x=>by rw[←hHl];exact qaf H x a c y
  have hcut:∀ x:List Uo,cut h.length fl (H++x)=H:=fun x=>by rw[←hHl];exact gJ (by omega)
  simp only[dm]at hload;cases hj:o9 b.aj (vu b l.tx)with
  |none=>
   rw[hj]at c6;simp only[yj]at c6;refine⟨H,_,ks,?_,hbu,hks,hFr,nH _ _ _ _ _ _,hmem⟩;refine main _ _ ?_;rcases hrc with rfl|⟨rfl,hn⟩
   ·simp[az uj,qY,az uk,oR,sU,Ib,hload,htl,c5,c6,hHl,hn0,hn1,hs0,hs1,hcut,YL,recC,qf,bF]
   ·have hz0:b.aj.map recC=[]:=hn;rw[hz0]at c6;simp[az uj,qY,az uk,oR,sU,Ib,hload,htl,c5,c6,hHl,hn0,hn1,hs0,hs1,hcut,YL,recC,qf,bF]
  |some out=>
   rw[hj]at c6;simp only[yj]at c6;obtain⟨hsl,hol⟩:=hbu.st.lt;have c7:=t27 (h:=H++[.row [.int .u64 0,.int .u64 0,.int .u64 0,.int .u64 0,.sl 2 [],.sl 2 []],.row (recC (vu b l.tx))]) fl (by simp;omega) hbu.app;have hiH:i<H.length:=by omega
   have hset:∀ X x,(H++x).set i X=H.set i X++x:=fun X x=>mA _ _ hiH;have hset2:∀ Y X x,(H.set i Y++x).set i X=H.set i X++x:=fun Y X x=>by
    rw[mA _ _ (by simpa using hiH),KD]
   have hat:∀ X x,(H.set i X++x)[i]? =some X:=fun X x=>aX (eX hiH);have hselfi:H.set i (.row (dm (aY b (aP b l.tx).1) s m rc dn))=H:=Gw hbu.row;have hbl:dI (H.set i (.row (dm (aY b (aP b l.tx).1) s m .dB dn))) i s m o (An (aP b l.tx).1 lv) (aY b (aP b l.tx).1) .dB dn ks:=hbu.cells rfl rfl (eX hiH) (fun j hj=>dP (cc hj));have c7l:=t27 (h:=H.set i (.row (dm (aY b (aP b l.tx).1) s m .dB dn))++[.row [.int .u64 0,.int .u64 0,.int .u64 0,.int .u64 0,.sl 2 [],.sl 2 []],.row (recC (vu b l.tx))]) fl (by simp;omega) hbl.app;have hbc:∀ X,dm (aY b (aP b l.tx).1) s m X dn=[.int .i64 b.db.lim.keys,.int .i64 b.db.lim.gW,.int .i64 b.db.lim.bytes,.int .i64 b.db.lim.marks,.int .i64 b.db.lim.records,.int .i64 b.db.lim.live,.int .u64 b.db.lim.last,.ptr s 0,.map m,X,dn,.int .i64 b.last,.int .i64 b.event]:=fun X=>rfl;rw[hbc]at c7l hselfi;obtain⟨h',ks',c8,d2,d3,d4⟩:=t103 (h:=H++[.row [.int .u64 0,.int .u64 0,.int .u64 0,.int .u64 0,.sl 2 [],.sl 2 []],.row (recC (vu b l.tx))]) fl (by simp;omega) hbu.st.app hks hC.r hC.w hC.z hC.now (aP b l.tx).2.1 (by omega) hC.m5 hwk (dQ (aY b (aP b l.tx).1));obtain⟨h2,rfl,d5⟩:=d4.split (fun j hj=>by simp at hj;rcases hj with rfl|rfl<;>omega);have hlim:(bH b.db (aP b l.tx).2.1 (dQ (aY b (aP b l.tx).1))).2.2.lim=b.db.lim:=rP _ _ _;have hb2:=hbu.db (d:=(bH b.db (aP b l.tx).2.1 (dQ (aY b (aP b l.tx).1))).2.2) hlim (d2.Ff (by rw[d5.1];exact hsl) (by rw[d5.1];exact hol)) d5;have hFr2:Fr h h2 (ck i s m o lv):=hFr.trans (d5.sub (by unfold ck;simp));have hdbe:(aY b (aP b l.tx).1).db=b.db:=rfl;rw[hdbe]at c8 d2 d3;rw[hrT]at c7 c7l c8;have hH2:h2.length=h.length:=by rw[d5.1,hHl]
   have hm0:∀ (a:Uo) x,(h2++a::x)[h.length]? =some a:=fun a x=>by rw[←hH2];exact Rz h2 x a
   have hm1:∀ (a c:Uo) x,(h2++a::c::x)[h.length+1]? =some c:=fun a c x=>by rw[←hH2];exact at1 h2 x a c
   have ht0:∀ (a y:Uo) x,(h2++a::x).set h.length y=h2++y::x:=fun a y x=>by rw[←hH2];exact To h2 x a y
   have ht1:∀ (a c y:Uo) x,(h2++a::c::x).set (h.length+1) y=h2++a::y::x:=fun a c y x=>by rw[←hH2];exact qaf h2 x a c y
   have hcut2:∀ x:List Uo,cut h.length fl (h2++x)=h2:=fun x=>by rw[←hH2];exact gJ (by omega)
   dsimp only;generalize hCC:bH b.db (aP b l.tx).2.1 (dQ (aY b (aP b l.tx).1))=C at*;cases he:C.2.1==0 with
   |true=>
    have he' :C.2.1=0:=by simpa using he
    rw[he']at c8;simp only[cond_true];refine⟨h2,_,ks',?_,hb2,d3,hFr2,nH _ _ _ _ _ _,hmem⟩;refine main _ _ ?_;rcases hrc with rfl|⟨rfl,hn⟩
    ·simp[az uj,qY,az uk,oR,sU,az Bl,um,zq,Ie,Ig,hload,htl,c5,c6,c7,c7l,hset,hset2,hat,hselfi,c8,hHl,hn0,hn1,hs0,hs1,hm0,hm1,ht0,ht1,hcut2,YL,recC,vu,bF]
    ·have hz0:b.aj.map recC=[]:=hn;rw[hz0]at c6;simp[az uj,qY,az uk,oR,sU,az Bl,um,zq,Ie,Ig,hload,htl,c5,c6,c7,c7l,hset,hset2,hat,hselfi,c8,hHl,hn0,hn1,hs0,hs1,hm0,hm1,ht0,ht1,hcut2,YL,recC,vu,bF]
   |false=>
    have he' :¬(C.2.1=0):=by simpa using he
    have hei:(((C.2.1:Nat):Int) !=0)=true:=by simp;omega
    simp only[cond_false];refine⟨h2,_,ks',?_,hb2,d3,hFr2,nH _ _ _ _ _ _,hmem⟩;refine main _ _ ?_;rcases hrc with rfl|⟨rfl,hn⟩
    ·simp[az uj,qY,az uk,oR,sU,az Bl,um,zq,Ic,hei,he',hload,htl,c5,c6,c7,c7l,hset,hset2,hat,hselfi,c8,hHl,hn0,hn1,hs0,hs1,hm0,hm1,ht0,ht1,hcut2,YL,recC,qf,bF]
    ·have hz0:b.aj.map recC=[]:=hn;rw[hz0]at c6;simp[az uj,qY,az uk,oR,sU,az Bl,um,zq,Ic,hei,he',hload,htl,c5,c6,c7,c7l,hset,hset2,hat,hselfi,c8,hHl,hn0,hn1,hs0,hs1,hm0,hm1,ht0,ht1,hcut2,YL,recC,qf,bF]
end Go.RE
namespace Go.RE
theorem tw{h:List Uo}{i s m o:Nat}{lv:List Lv}{b:Bs}{rc dn ks:U}(hb:dI h i s m o lv b rc dn ks):∀ j∈ck i s m o lv,j<h.length:=by
 intro j hj;unfold ck at hj;simp only[bT,rD,fu,or_false]at hj;rcases hj with rfl|rfl|rfl|rfl|⟨l,hlm,rfl|rfl⟩
 ·exact(aH.1 hb.row).1
 ·exact hb.st.lt.1
 ·exact hb.map.lt
 ·exact hb.st.lt.2
 ·exact(aH.1 (hb.tx l hlm).1).1
 ·exact(hb.tx l hlm).2.lt
theorem dI.Ff{h x:List Uo}{i s m o:Nat}{lv:List Lv}{b:Bs}{rc dn ks:U}(hb:dI (h++x) i s m o lv b rc dn ks)(hl:∀ j∈ck i s m o lv,j<h.length):dI h i s m o lv b rc dn ks:=by
 have hi:i<h.length:=hl i (by unfold ck;simp);have hs:s<h.length:=hl s (by unfold ck;simp);have hm:m<h.length:=hl m (by unfold ck;simp);have ho:o<h.length:=hl o (by unfold ck;simp);refine⟨by have:=hb.row;rwa[bG hi]at this,hb.st.Ff hs ho,by have:=hb.map;rwa[bG hm]at this,hb.Ra,fun l hlm=> ?_,hb.nd⟩;have ht:l.t<h.length:=hl _ (by unfold ck;simp only[bT,rD];right;right;right;right;exact⟨l,hlm,by simp⟩);have hp:l.p<h.length:=hl _ (by unfold ck;simp only[bT,rD];right;right;right;right;exact⟨l,hlm,by simp⟩);have:=hb.tx l hlm;rwa[bG ht,bG hp]at this
def o7(t:Tx)(r:Rc)(n e:Nat):Don:=⟨t.id,t.began,n,t.start,e,r.reads,r.writes⟩
def ig(b:Bs)(t:Tx)(r:Rc)(n:Nat):Bs:=
 {b with event:=b.event+1,done:=b.done++[o7 t r n (b.event+1)],aj:=b.aj++[r]}
def bA(b:Bs)(id:Int):Nat×Nat×Bs:=match mW b id with
 |none=>(0,4,b)
 |some t=>bif(aM b t).2.2.1==0 then((aM b t).2.1,0,kM (ig (aM b t).2.2.2 t (aM b t).1 (aM b t).2.1) id)else((aM b t).2.1,(aM b t).2.2.1,kM (aM b t).2.2.2 id)
theorem qs(b:Bs)(t:Tx):(aM b t).2.2.2.aj=b.aj∧(aM b t).2.2.2.done=b.done∧(aM b t).2.2.2.last=b.last∧(aM b t).2.2.2.event=b.event∧(aM b t).2.2.2.db.lim=b.db.lim:=by
 unfold aM;cases kU b t with
 |true=>exact⟨rfl,rfl,rfl,rfl,rfl⟩
 |false=>
  simp only[cond_false];cases o9 b.aj (vu b t)with
  |none=>exact⟨rfl,rfl,rfl,rfl,rfl⟩
  |some out=>
   dsimp only;cases(bH b.db (aP b t).2.1 (dQ (aY b (aP b t).1))).2.1==0 with
   |true=>exact⟨rfl,rfl,rfl,rfl,rP _ _ _⟩
   |false=>exact⟨rfl,rfl,rfl,rfl,rP _ _ _⟩
theorem BD(b:Bs)(t:Tx):Ye (aM b t).1≤t.marks.length+2*t.cO.length:=by
 have h:=tF b (rG t) (t,[],[]);have hRdef:(rG t).foldl (gj b) (t,[],[])=aP b t:=rfl;rw[hRdef]at h;dsimp only at h;have hw:(rG t).length=t.cO.length:=by unfold rG;rw[lE]
 have h2:=rT (aP b t).2.2 b.db.lim.marks;simp only[ox,kF]at h;have hz:Ye qf=0:=rfl;unfold aM;cases kU b t with
 |true=>simp only[cond_true,hz];omega
 |false=>
  simp only[cond_false];cases o9 b.aj (vu b t)with
  |none=>simp only[hz];omega
  |some out=>
   dsimp only;cases(bH b.db (aP b t).2.1 (dQ (aY b (aP b t).1))).2.1==0 with
   |true=>
    show(aP b t).1.marks.length+(uY (aP b t).2.2 b.db.lim.marks).length≤_;omega
   |false=>simp only[cond_false,hz];omega
theorem Px(l:List Rc)(r:Rc):uB (l++[r])=uB l+Ye r:=by
 induction l with
 |nil=>simp[uB]
 |cons a l ih=>simp only[DS,uB,ih];omega
theorem t19{h:List Uo}{i s m o:Nat}{lv:List Lv}{b:Bs}{rc dn ks:U}(fl:Nat)(hf:fl≤h.length)(hb:dI h i s m o lv b rc dn ks)(hks:oV ks b.db.keys)(hrc:nt 6 rc (b.aj.map recC))(hdn:nt 7 dn (b.done.map ji)){k:Nat}(hC:qda b k)(id:Int):
  ∃ h' lv' rc' dn' ks',G 19 [.ptr i 0,.int .i64 id] h fl=some (.aZ [.int .u64 ((bA b id).1:Nat),.int .i64 ((bA b id).2.1:Nat)],h',fl)∧dI h' i s m o lv' (bA b id).2.2 rc' dn' ks'∧oV ks' (bA b id).2.2.db.keys∧
   nt 6 rc' ((bA b id).2.2.aj.map recC)∧nt 7 dn' ((bA b id).2.2.done.map ji)∧Gr h h' (ck i s m o lv) (ck i s m o lv')∧h'.length=h.length:=by
 have hi:=(aH.1 hb.row).1;have hl:decide (i<h.length)=true:=decide_eq_true hi;have c1:=t56 fl hf hb id;unfold bA;rw[hb.find];cases hlv:fW lX id lv with
 |none=>
  rw[hlv]at c1;simp only[kW]at c1;refine⟨h,lv,rc,dn,ks,?_,hb,hks,hrc,hdn,(Fr.refl h _).gr,rfl⟩;refine bK (fn:=v19) rfl rfl rfl ?_;simp[mj,C5,C6,C7,qbr,c1,hl,aR hf]
 |some l=>
  rw[hlv]at c1;simp only[kW]at c1;have hlm:=lM lX hlv;have hid:((l.tx.id:Nat):Int)=id:=NU lX hlv;have hlt0:decide (l.t<h.length)=true:=decide_eq_true (aH.1 (hb.tx l hlm).1).1;obtain⟨H,lv1,ks1,c2,B1,k1,f1,ft1,l1,m1,e1,e2,e3,e4⟩:=t59 fl hf hb hks hrc hC hlm;have hkp:=qs b l.tx;have hwt:=BD b l.tx;simp only[kP];have hHl:=f1.1;have hiH:i<H.length:=by omega
  have x1:=(B1.tx l1 m1).1;rw[e1]at x1;generalize hct:aM b l.tx=C at*;obtain⟨r,n,e,b1⟩:=C;dsimp only at*;obtain⟨p1,p2,p3,p4,p5⟩:=hkp;cases he:e==0 with
  |false=>
   have he' :¬(e=0):=by simpa using he
   have hei:((e:Int)==0)=false:=by simp;omega
   obtain⟨h3,c3,B3,f3⟩:=t60 (h:=H++[.row (recC r)]) fl (by simp;omega) B1.app (by rw[p1];exact hrc) (by rw[p1];exact hC.rc.len) (by rw[p1];exact hC.rc.wt) (by rw[p5];exact hC.rc.lr) (by rw[p5];exact hC.rc.lm) id;have hfl1:=tw B1;obtain⟨h4,rfl,f4⟩:=f3.split hfl1;have hft4:∀ j∈ck i s m o (jE lX id lv1),j<h4.length:=fun j hj=>by rw[f4.1];exact hfl1 j ((pP (ki lX id lv1)).subset hj)
   simp only[cond_false];refine⟨h4,_,_,dn,ks1,?_,B3.Ff hft4,k1,.inl rfl,by show nt 7 dn (b1.done.map ji);rw[p2];exact hdn,?_,by rw[f4.1,hHl]⟩
   ·refine bK (fn:=v19) rfl rfl rfl ?_;have hcut:∀ x:List Uo,cut h.length fl (h4++x)=h4:=fun x=>by
     have:h4.length=h.length:=by rw[f4.1,hHl]
     rw[←this];exact gJ (by omega)
    simp only[YL,recC]at c2;simp only[recC]at c3;simp[mj,C5,C6,C7,Fj,Fk,Fm,zk,c1,c2,c3,hl,hlt0,hei,he',hHl,hcut]
   ·refine⟨by rw[f4.1,hHl];exact ak _,fun j _ hj=> ?_,fun j hj=> .inl ?_⟩
    ·rw[f4.2 j (by rw[ft1];exact hj)];exact f1.2 j hj
    ·rw[←ft1];exact(pP (ki lX id lv1)).subset hj
  |true=>
   have he' :e=0:=by simpa using he
   subst he';subst hid;simp only[cond_true];have hput:=hC.cO l.tx (hb.mem hlm);have hwt2:=hC.wt2 l.tx (hb.mem hlm);have hlim2:(ig b1 l.tx r n).db=b1.db:=rfl;have hre:(ig b1 l.tx r n).aj=b.aj++[r]:=by show b1.aj++[r]=_;rw[p1]
   have hde:(ig b1 l.tx r n).done=b.done++[o7 l.tx r n (b.event+1)]:=by show b1.done++_=_;rw[p2,p4]
   have hrow:dm (ig b1 l.tx r n) s m (.bJ 6 ((b.aj++[r]).map recC)) (.bJ 7 ((b.done++[o7 l.tx r n (b.event+1)]).map ji))=
     [.int .i64 b.db.lim.keys,.int .i64 b.db.lim.gW,.int .i64 b.db.lim.bytes,.int .i64 b.db.lim.marks,.int .i64 b.db.lim.records,.int .i64 b.db.lim.live,.int .u64 b.db.lim.last,.ptr s 0,.map m,.bJ 6 ((b.aj++[r]).map recC),.bJ 7 ((b.done++[o7 l.tx r n (b.event+1)]).map ji),.int .i64 b1.last,.int .i64 ((b.event+1:Nat):Int)]:=by
    simp only[dm,ig,p4,p5]
   have B2:dI (H.set i (.row (dm (ig b1 l.tx r n) s m (.bJ 6 ((b.aj++[r]).map recC)) (.bJ 7 ((b.done++[o7 l.tx r n (b.event+1)]).map ji))))) i s m o lv1 (ig b1 l.tx r n) (.bJ 6 ((b.aj++[r]).map recC)) (.bJ 7 ((b.done++[o7 l.tx r n (b.event+1)]).map ji)) ks1:=
    B1.cells (b' :=ig b1 l.tx r n) (rc' :=.bJ 6 ((b.aj++[r]).map recC)) (dn' :=.bJ 7 ((b.done++[o7 l.tx r n (b.event+1)]).map ji)) rfl rfl (eX hiH) (fun j hj=>dP (cc hj))
   obtain⟨h3,c3,B3,f3⟩:=t60 (h:=H.set i (.row (dm (ig b1 l.tx r n) s m (.bJ 6 ((b.aj++[r]).map recC)) (.bJ 7 ((b.done++[o7 l.tx r n (b.event+1)]).map ji))))++[.row (recC r)]) fl (by simp;omega) B2.app (by rw[hre];exact .inl rfl) (by rw[hre];simp;exact hC.qhM) (by rw[hre,Px];omega) (by rw[hlim2,p5];exact hC.rc.lr) (by rw[hlim2,p5];exact hC.rc.lm) ((l.tx.id:Nat):Int);have hfl1:=tw B2;obtain⟨h4,rfl,f4⟩:=f3.split hfl1;have hft4:∀ j∈ck i s m o (jE lX ((l.tx.id:Nat):Int) lv1),j<h4.length:=fun j hj=>by rw[f4.1];exact hfl1 j ((pP (ki lX _ lv1)).subset hj)
   have hL4:h4.length=h.length:=by rw[f4.1];simp;exact hHl
   refine⟨h4,_,_,_,ks1,?_,B3.Ff hft4,k1,.inl rfl,by
    show nt 7 _ ((ig b1 l.tx r n).done.map ji);rw[hde];exact .inl rfl,?_,hL4⟩
   ·refine bK (fn:=v19) rfl rfl rfl ?_;have hcut:∀ x:List Uo,cut h.length fl (h4++x)=h4:=fun x=>by
     rw[←hL4];exact gJ (by omega)
    have hset:∀ X x,(H++x).set i X=H.set i X++x:=fun X x=>mA _ _ hiH;have hset2:∀ Y X x,(H.set i Y++x).set i X=H.set i X++x:=fun Y X x=>by
     rw[mA _ _ (by simpa using hiH),KD]
    have hat:∀ X x,(H.set i X++x)[i]? =some X:=fun X x=>aX (eX hiH);have hlti:l.t≠i:=(hb.ne.2.2.2.2.2.2.1 l hlm).ti;have hxt:∀ x,(H++x)[l.t]? =some (.row [.int .i64 l.tx.id,.int .u64 l.tx.began,.int .i64 l.tx.start,.sl 2 (l1.tx.marks.map aS),.map l1.p]):=fun x=>by
     refine aX ?_;rw[x1];simp only[mg,e2,e3,e4]
    have hxs:∀ X x,(H.set i X++x)[l.t]? =some (.row [.int .i64 l.tx.id,.int .u64 l.tx.began,.int .i64 l.tx.start,.sl 2 (l1.tx.marks.map aS),.map l1.p]):=fun X x=>by
     refine aX ?_;rw[dP (cc hlti),x1];simp only[mg,e2,e3,e4]
    have hrr:∀ x,(H++x)[i]? =some (.row [.int .i64 b.db.lim.keys,.int .i64 b.db.lim.gW,.int .i64 b.db.lim.bytes,.int .i64 b.db.lim.marks,.int .i64 b.db.lim.records,.int .i64 b.db.lim.live,.int .u64 b.db.lim.last,.ptr s 0,.map m,rc,dn,.int .i64 b1.last,.int .i64 (b.event:Int)]):=fun x=>by
     refine aX ?_;rw[B1.row];simp only[dm,p4,p5]
    have hat0:∀ (a:Uo) x,(H++a::x)[h.length]? =some a:=fun a x=>by rw[←hHl];exact Rz H x a
    have hat1:∀ (X a:Uo) x,(H.set i X++a::x)[h.length]? =some a:=fun X a x=>by
     have:=Rz (H.set i X) x a;simpa[hHl]using this
    have hst0:∀ (a y:Uo) x,(H++a::x).set h.length y=H++y::x:=fun a y x=>by rw[←hHl];exact To H x a y
    have w1:aK .i64 ((b.event:Int)+1)=((b.event+1:Nat):Int):=fC (by have:=hC.ev;unfold small at this;omega);rw[hrow]at c3;simp only[YL,recC]at c2;simp only[recC]at c3;simp only[Af]at w1;simp only[mR,ct,jY,ji,o7,recC,Af,Int.natCast_one]at c3;have b7:(b.done.length+1)*88≤bl∧b.done.length+1≤bl:=by have:=hC.dl;unfold small at this;unfold bl;omega
    have b6:(b.aj.length+1)*80≤bl∧b.aj.length+1≤bl:=by have:=hC.qhM;unfold bl;omega
    have bz:88≤bl∧80≤bl∧1≤bl:=by unfold bl;omega
    rcases hrc with rfl|⟨rfl,hn1⟩
    ·rcases hdn with rfl|⟨rfl,hn2⟩
     ·simp[mj,C5,C6,C7,Fj,Fk,Kc,az Hp,zl,az Hq,zm,Fm,zk,c1,c2,c3,hl,hlt0,hHl,hset,hset2,hat,hat0,hat1,hst0,hxt,hxs,hrr,hcut,w1,b6,b7,bz,bF]
     ·rw[hn2]at c3;simp only[jZ]at c3;simp[mj,C5,C6,C7,Fj,Fk,Kc,az Hp,zl,az Hq,zm,Fm,zk,c1,c2,c3,hl,hlt0,hHl,hset,hset2,hat,hat0,hat1,hst0,hxt,hxs,hrr,hcut,w1,b6,b7,bz,bF]
    ·rw[hn1]at c3;simp only[jZ]at c3;rcases hdn with rfl|⟨rfl,hn2⟩
     ·simp[mj,C5,C6,C7,Fj,Fk,Kc,az Hp,zl,az Hq,zm,Fm,zk,c1,c2,c3,hl,hlt0,hHl,hset,hset2,hat,hat0,hat1,hst0,hxt,hxs,hrr,hcut,w1,b6,b7,bz,bF]
     ·rw[hn2]at c3;simp only[jZ]at c3;simp[mj,C5,C6,C7,Fj,Fk,Kc,az Hp,zl,az Hq,zm,Fm,zk,c1,c2,c3,hl,hlt0,hHl,hset,hset2,hat,hat0,hat1,hst0,hxt,hxs,hrr,hcut,w1,b6,b7,bz,bF]
   ·refine⟨by rw[hL4];exact ak _,fun j _ hj=> ?_,fun j hj=> .inl ?_⟩
    ·have hji:i≠j:=fun hh=>hj (by rw[←hh];unfold ck;simp);rw[f4.2 j (by rw[ft1];exact hj),dP hji];exact f1.2 j hj
    ·rw[←ft1];exact(pP (ki lX _ lv1)).subset hj
end Go.RE
namespace Go.RE
def Eo(d:Don):Prop:=d.reads.length<small∧d.writes.length<small
theorem qiE(L:List Don)(hL:L.length<small)(hok:∀ d∈L,Eo d)(h:List Uo)(fl n:Nat)(hn:h.length=n)(hf:fl≤n)(K:Ex→Vs→Prop)(hK:K .normal ⟨[(3,.own (.t 3) 7 (L.map ji))],h,fl⟩):∀ (j i:Nat),i+j=L.length→
  gL bu mT qT pT v20 0 Hr n ⟨[(15,.int .i64 (i:Int)),(3,.own (.t 3) 7 (L.map ji)),(14,.int .i64 (L.length:Int))],h,fl⟩ K:=by
 subst hn;intro j
 induction j with
 |zero=>
  intro i hij;obtain⟨h1,h2⟩:=oq hij;rw[ai Hr.eq_1];simp[Ww,h1,aR hf];exact hK
 |succ j ih=>
  intro i hij;obtain⟨h1,e3,d,d1,g1⟩:=ry hij hL;have e1:=g1 ji;have hi:i<L.length:=by omega
  have hd:Eo d:=hok d (iF (i:=i) (by rw[d1];exact cB));have ia:∀ s',rF s' 7 (some (.own (.t 3) 7 (L.map ji))) (some (.int .i64 (i:Int)))=some (.bI (.t 3) i 0,s'):=fun s' =>c9 (by simpa using hi);have hlen:(L.map ji).length=L.length:=by simp
  simp only[ji]at e1;have e7:∀ hh:i<(L.map ji).length,(L.map ji)[i]=[.int .i64 d.id,.int .u64 d.began,.int .u64 d.at_,.int .i64 d.start,.int .i64 d.stop,.sl 2 (d.reads.map aS),.sl 2 (d.writes.map aS)]:=fun hh=>by rw[aQ hh]at e1;exact qh e1
  have hset:(L.map ji).set i [.int .i64 d.id,.int .u64 d.began,.int .u64 d.at_,.int .i64 d.start,.int .i64 d.stop,.sl 2 (d.reads.map aS),.sl 2 (d.writes.map aS)]=L.map ji:=by
   rw[←e7 (by simpa using hi)];exact PX _
  have c1:=iw (f:=62) rfl (w:=2) (xs:=d.reads.map aS) [] 0 (by simpa using hd.1) (lC _);have c2:=iw (f:=62) rfl (w:=2) (xs:=d.writes.map aS) [] 0 (by simpa using hd.2) (lC _);have ih' :=ih (i+1) (by omega);generalize hX:L.map ji=X at*;rw[ai Hr.eq_1];simp[Ww,qbu,az qfq,Wx,qbx,h1,ia,e1,e7,e3,hlen,hi,c1,c2,hset,aR hf,bF];simpa using ih'
theorem t20{h:List Uo}{i s m o:Nat}{lv:List Lv}{b:Bs}{rc dn ks:U}(fl:Nat)(hf:fl≤h.length)(hb:dI h i s m o lv b rc dn ks)(hdn:nt 7 dn (b.done.map ji))(gT:b.done.length<small)(hok:∀ d∈b.done,Eo d):G 20 [.ptr i 0] h fl=some (.own .r 7 (b.done.map ji),h,fl):=by
 refine bK (fn:=v20) rfl rfl rfl ?_;have hl:decide (i<h.length)=true:=decide_eq_true (aH.1 hb.row).1;have c1:=t54 fl hf hb.row;have hr:=hb.row;have a:=qiE b.done gT hok h fl h.length rfl hf (gV bu mT qT pT v20 (.seq (.region MR) .ret) (kE h.length v20 (.own .r 7 (b.done.map ji),h,fl))) (by simp[MR,aR hf]) b.done.length 0 (by omega);simp only[dm]at hr;rcases hdn with rfl|⟨rfl,hn⟩
 ·have c2:=Qe b.done gT;simp at a;simp[xb,Wr,Ws,Wu,Wv,c1,c2,hl,hr,aR hf];exact a
 ·have hn0:b.done=[]:=by simpa using hn
  have c2:=iw (f:=61) rfl (w:=7) (xs:=[]) [] 0 (by decide) rfl;rw[hn0]at a⊢;simp at a;simp[xb,Wr,Ws,Wu,Wv,c1,c2,hl,hr,aR hf];exact a
def gf(l:Lm):List U:=[.int .i64 l.keys,.int .i64 l.gW,.int .i64 l.bytes,.int .i64 l.marks,.int .i64 l.records,.int .i64 l.live,.int .u64 l.last]
structure DX(l:Lm):Prop where
 k:1≤l.keys∧l.keys≤1048576
 v:1≤l.gW∧l.gW≤1048576
 b:1≤l.bytes∧l.bytes≤1048576
 m:1≤l.marks∧l.marks≤1048576
 r:1≤l.records∧l.records≤1048576
 n:1≤l.live∧l.live≤64
 z:l.last≠0
def Rn(l:Lm):Db:=⟨l,0,[],[],0,0,0⟩
def D1(l:Lm):Bs:=⟨Rn l,[],[],[],0,0⟩
theorem B9{a:Nat}(h:1≤a∧a≤1048576):¬((a:Int)<1)∧¬((1048576:Int)<(a:Int)):=⟨by omega,by omega⟩
theorem t86(l:Lm)(hl:DX l):G 86 [.agg (gf l)] [] 0=some (.aZ [.ptr 2 0,.int .i64 0],[.row (gf l),.map [] 0,.row (dD (Rn l) 1 (.nl 1))],0):=by
 refine bK (fn:=YW) rfl rfl rfl ?_;have a1:=B9 hl.k;have a2:=B9 hl.v;have a3:=B9 hl.b;have hz:((l.last:Int)==0)=false:=by rw[beq_eq_false_iff_ne];have:=hl.z;omega
 have hz' :¬l.last=0:=hl.z;have e1:aK .i64 1=1:=rfl;have e2:aK .i64 2=2:=rfl;have e3:aK .i64 3=3:=rfl;simp[sV,Pt,Pu,gf];rw[ai lI.eq_1];simp[mP,qd,qe,uK,a1,a2,a3,e1];rw[ai lI.eq_1];simp[mP,qd,qe,uK,a1,a2,a3,e2];rw[ai lI.eq_1];simp[mP,qd,qe,uK,a1,a2,a3,e3];rw[ai lI.eq_1];simp[mP,Pw,Nt,hz,hz',dD,Rn]
theorem t41(l:Lm)(hl:DX l):G 41 [.agg (gf l)] [] 0=some (.aZ [.ptr 5 0,.int .i64 0],[.row (gf l),.row (gf l),.map [] 0,.row (dD (Rn l) 2 (.nl 1)),.map [] 0,.row (dm (D1 l) 3 4 (.nl 6) (.nl 7))],0):=by
 refine bK (fn:=v41) rfl rfl rfl ?_;have a1:=B9 hl.m;have a2:=B9 hl.r;have a3:¬((l.live:Int)<1)∧¬((64:Int)<(l.live:Int)):=by have:=hl.n;omega
 have e1:aK .i64 1=1:=rfl;have e2:aK .i64 2=2:=rfl;have c:=t86 l hl;simp only[gf,dD]at c;simp[sP,Pj,Pk,Pn,Xk,gf,c,iS];rw[ai qU.eq_1];simp[xC,Dm,Dn,Kf,a1,a2,a3,e1];rw[ai qU.eq_1];simp[xC,Dm,Dn,Kf,a1,a2,a3,e2];rw[ai qU.eq_1];simp[xC,Nd,Xj,a3,dD,Rn,dm,D1]
theorem t14(l:Lm)(hl:DX l):G 14 [.agg (gf l)] [] 0=some (.ptr 6 0,[.row (gf l),.row (gf l),.row (gf l),.map [] 0,.row (dD (Rn l) 3 (.nl 1)),.map [] 0,.row (dm (D1 l) 4 5 (.nl 6) (.nl 7))],0):=by
 refine bK (fn:=v14) rfl rfl rfl ?_;have c:=t41 l hl;simp only[gf,dD,dm]at c;simp[sK,OI,OJ,OK,qa8,gf,c,dD,dm,iS]
def uw:Lm:=⟨1000,100000,1048576,1000,1000,16,1099511627776⟩
theorem Ar:DX uw:=⟨by decide,by decide,by decide,by decide,by decide,by decide,by decide⟩
theorem t15:G 15 [] [] 0=some (.agg (gf uw),[],0):=by
 refine bK (fn:=v15) rfl rfl rfl ?_;simp[CW,qa9,qba,gf,uw]
theorem t51(k d:By)(hd:d.length≤bl:=by decide):G 51 [.str k,.str d] [] 0=some (.agg (eY ⟨k,false,d⟩),[],0):=by
 refine bK (fn:=v51) rfl rfl rfl ?_;simp[Dq,qca,qcb,eY,hd]
theorem qgK(l:Lm):dI [.row (gf l),.row (gf l),.row (gf l),.map [] 0,.row (dD (Rn l) 3 (.nl 1)),.map [] 0,.row (dm (D1 l) 4 5 (.nl 6) (.nl 7))] 6 4 5 3 [] (D1 l) (.nl 6) (.nl 7) (.nl 1):=
 ⟨rfl,⟨rfl,wj lJ⟩,wj lX,rfl,fun l hl=>(fu hl).elim,by decide⟩
end Go.RE
namespace Go.RE
structure DZ where
 dO:Int
 id:Int
 w:Wt
 hi:By
def eL(o:DZ):List U:=[.int .i64 o.dO,.int .i64 o.id,.str o.w.key,.bool o.w.gone,.sl 1 (bM o.w.data),.str o.hi]
structure Ap(h:List Uo)(fl:Nat)(i s m o:Nat)(F:List Nat)(b:Bs):Prop where
 at_:∃ lv rc dn ks,dI h i s m o lv b rc dn ks∧oV ks b.db.keys∧nt 6 rc (b.aj.map recC)∧nt 7 dn (b.done.map ji)∧F=ck i s m o lv
 fle:fl≤h.length
theorem dI.same{h h' :List Uo}{i s m o:Nat}{lv:List Lv}{b:Bs}{rc dn ks:U}(hb:dI h i s m o lv b rc dn ks)(hs:∀ j∈ck i s m o lv,h'[j]? =h[j]?):dI h' i s m o lv b rc dn ks:=by
 have e1:=hs i (by unfold ck;simp);have e2:=hs s (by unfold ck;simp);have e3:=hs m (by unfold ck;simp);have e4:=hs o (by unfold ck;simp);refine⟨by rw[e1];exact hb.row,hb.st.same e2 e4,by rw[e3];exact hb.map,hb.Ra,fun l hl=> ?_,hb.nd⟩;have e5:=hs l.t (by unfold ck;simp only[bT,rD];right;right;right;right;exact⟨l,hl,by simp⟩);have e6:=hs l.p (by unfold ck;simp only[bT,rD];right;right;right;right;exact⟨l,hl,by simp⟩);rw[e5,e6];exact hb.tx l hl
structure Left(h h' :List Uo)(fl fl' :Nat)(i s m o:Nat)(F F' :List Nat)(b' :Bs):Prop where
 at_:Ap h' fl' i s m o F' b'
 gr:Gr h h' F F'
 fll:fl≤fl'
 or:(fl' =fl∧h'.length=h.length∧∀ j∈F',j∈F)∨fl' =h'.length
theorem Left.fin{h x h' :List Uo}{fl fl' :Nat}{i s m o:Nat}{F F' :List Nat}{b' :Bs}(hf:fl≤h.length)(hF:∀ j∈F,j<h.length)(hl:Left (h++x) h' fl fl' i s m o F F' b'){k:Nat}(hk:h.length≤k)(hk2:k<h.length+x.length)(y:Uo):
  Left h (cut h.length fl' (h'.set k y)) fl fl' i s m o F F' b' :=by
 obtain⟨⟨⟨lv,rc,dn,ks,hb,r1,r2,r3,rfl⟩,hfl⟩,⟨g1,g2,g3⟩,h1,h2⟩:=hl;have hkF:∀ j∈ck i s m o lv,j≠k:=fun j hj hh=>by
  subst hh;rcases g3 j hj with h|h
  ·have:=hF j h;omega
  ·simp at h;omega
 have hlt:=tw hb;simp only[gX]at g1;have hmx:∀ j∈ck i s m o lv,j<max h.length fl' :=by
  intro j hj;rcases h2 with⟨e,_,h3⟩|e
  ·have:=hF j (h3 j hj);omega
  ·have:=hlt j hj;omega
 have hget:∀ j,j<max h.length fl'→j≠k→(cut h.length fl' (h'.set k y))[j]? =h'[j]? :=fun j hj hn=>by
  unfold cut;rw[fU,if_pos hj,dP (cc hn)]
 refine⟨⟨⟨lv,rc,dn,ks,hb.same (fun j hj=>hget j (hmx j hj) (hkF j hj)),r1,r2,r3,rfl⟩,?_⟩,⟨?_,fun j hj hn=> ?_,fun j hj=> ?_⟩,h1,?_⟩
 ·unfold cut;rw[iD,oU];omega
 ·unfold cut;rw[iD,oU];omega
 ·rw[hget j (by omega) (by omega),g2 j (by simp;omega) hn,bG hj]
 ·rcases g3 j hj with h|h
  ·exact .inl h
  ·right;simp at h;omega
 ·rcases h2 with⟨e,h3,h4⟩|e
  ·left;refine⟨e,?_,h4⟩;unfold cut;rw[iD,oU];simp at h3;omega
  ·right;unfold cut;rw[iD,oU,Nat.max_eq_right (by omega)];omega
structure Pre(b:Bs)(k:Nat):Prop where
 cm:qda b k
 ids:∀ t∈b.live,t.id≤b.last
 last:b.last<small
 li:b.db.lim.live<small
theorem Ap.app{h x:List Uo}{fl:Nat}{i s m o:Nat}{F:List Nat}{b:Bs}(hb:Ap h fl i s m o F b):Ap (h++x) fl i s m o F b:=by
 obtain⟨⟨lv,rc,dn,ks,hb,r1,r2,r3,r4⟩,h2⟩:=hb;exact⟨⟨lv,rc,dn,ks,hb.app,r1,r2,r3,r4⟩,by simp;omega⟩
theorem Ap.lt{h:List Uo}{fl:Nat}{i s m o:Nat}{F:List Nat}{b:Bs}(hb:Ap h fl i s m o F b):∀ j∈F,j<h.length:=by
 obtain⟨⟨lv,rc,dn,ks,hb,r1,r2,r3,rfl⟩,h2⟩:=hb;exact tw hb
theorem Left.ZT{h h' :List Uo}{fl:Nat}{i s m o:Nat}{lv lv' :List Lv}{b' :Bs}{rc dn ks:U}(hf:fl≤h.length)(hb:dI h' i s m o lv' b' rc dn ks)(r1:oV ks b'.db.keys)(r2:nt 6 rc (b'.aj.map recC))(r3:nt 7 dn (b'.done.map ji))(hfr:Fr h h' (ck i s m o lv))(hft:ck i s m o lv' =ck i s m o lv):
  Left h h' fl fl i s m o (ck i s m o lv) (ck i s m o lv') b' :=
 ⟨⟨⟨lv',rc,dn,ks,hb,r1,r2,r3,rfl⟩,by rw[hfr.1];exact hf⟩,by rw[hft];exact hfr.gr,ak _,.inl ⟨rfl,hfr.1,fun j hj=>by rw[←hft];exact hj⟩⟩
theorem w17{h:List Uo}{fl:Nat}{i s m o:Nat}{F:List Nat}{b:Bs}{k:Nat}(hb:Ap h fl i s m o F b)(hp:Pre b k):
  ∃ h' fl' F',G 17 [.ptr i 0] h fl=some (.aZ [.int .i64 ((dc b).1:Nat),.int .i64 ((dc b).2.1:Nat)],h',fl')∧Left h h' fl fl' i s m o F F' (dc b).2.2:=by
 obtain⟨⟨lv,rc,dn,ks,hb,r1,r2,r3,rfl⟩,h2⟩:=hb;obtain⟨h',lv',fl',c,hb',g,f1,f2,f3⟩:=t17 fl h2 hb hp.ids hp.last (by have:=hp.cm.ev;omega) hp.li;have hk:(dc b).2.2.db=b.db∧(dc b).2.2.aj=b.aj∧(dc b).2.2.done=b.done:=by
  unfold dc;cases decide (b.db.lim.live≤b.live.length)<;>exact⟨rfl,rfl,rfl⟩
 refine⟨h',fl',_,c,⟨⟨lv',rc,dn,ks,hb',by rw[hk.1];exact r1,by rw[hk.2.1];exact r2,by rw[hk.2.2];exact r3,rfl⟩,f2⟩,g,f1,?_⟩;rcases f3 with⟨e1,e2,e3⟩|e
 ·exact .inl ⟨e1,e3,fun j hj=>by rw[←e2];exact hj⟩
 ·exact .inr e
theorem w36{h:List Uo}{fl:Nat}{i s m o:Nat}{F:List Nat}{b:Bs}{k:Nat}(hb:Ap h fl i s m o F b)(hp:Pre b k)(id:Int)(key:By)(hkl:key.length<small):
  ∃ h' F',G 36 [.ptr i 0,.int .i64 id,.str key] h fl=some ((jt b id key).1,h',fl)∧Left h h' fl fl i s m o F F' (jt b id key).2:=by
 obtain⟨⟨lv,rc,dn,ks,hb,r1,r2,r3,rfl⟩,h2⟩:=hb;obtain⟨h',lv',c,hb',g,ft⟩:=t36 fl h2 hb hp.cm.ok id key hkl;have hk:(jt b id key).2.db=b.db∧(jt b id key).2.aj=b.aj∧(jt b id key).2.done=b.done:=by
  unfold jt;cases mW b id with
  |none=>exact⟨rfl,rfl,rfl⟩
  |some t=>dsimp only;cases fW pq key t.cO<;>exact⟨rfl,rfl,rfl⟩
 exact⟨h',_,c,Left.ZT h2 hb' (by rw[hk.1];exact r1) (by rw[hk.2.1];exact r2) (by rw[hk.2.2];exact r3) g ft⟩
theorem w37{h:List Uo}{fl:Nat}{i s m o:Nat}{F:List Nat}{b:Bs}{k:Nat}(hb:Ap h fl i s m o F b)(hp:Pre b k)(id:Int)(lo hi:By):
  ∃ h' F',G 37 [.ptr i 0,.int .i64 id,.str lo,.str hi] h fl=some ((l9 b id (lo,hi)).1,h',fl)∧Left h h' fl fl i s m o F F' (l9 b id (lo,hi)).2:=by
 obtain⟨⟨lv,rc,dn,ks,hb,r1,r2,r3,rfl⟩,h2⟩:=hb;obtain⟨h',lv',c,hb',g,ft⟩:=t37 fl h2 hb r1 hp.cm.ok id lo hi;have hk:(l9 b id (lo,hi)).2.db=b.db∧(l9 b id (lo,hi)).2.aj=b.aj∧(l9 b id (lo,hi)).2.done=b.done:=by
  unfold l9;cases mW b id with
  |none=>exact⟨rfl,rfl,rfl⟩
  |some t=>dsimp only;cases dX (lo,hi)<;>exact⟨rfl,rfl,rfl⟩
 exact⟨h',_,c,Left.ZT h2 hb' (by rw[hk.1];exact r1) (by rw[hk.2.1];exact r2) (by rw[hk.2.2];exact r3) g ft⟩
theorem w18{h:List Uo}{fl:Nat}{i s m o:Nat}{F:List Nat}{b:Bs}(hb:Ap h fl i s m o F b)(id:Int)(w:Wt)(hw:pI w):
  ∃ h' F',G 18 [.ptr i 0,.int .i64 id,.agg (eY w)] h fl=some (.int .i64 ((fh b id w).1:Nat),h',fl)∧Left h h' fl fl i s m o F F' (fh b id w).2:=by
 obtain⟨⟨lv,rc,dn,ks,hb,r1,r2,r3,rfl⟩,h2⟩:=hb;obtain⟨h',lv',c,hb',g,ft⟩:=t18 fl h2 hb id w hw;have hk:(fh b id w).2.db=b.db∧(fh b id w).2.aj=b.aj∧(fh b id w).2.done=b.done:=by
  unfold fh;cases mW b id with
  |none=>exact⟨rfl,rfl,rfl⟩
  |some t=>dsimp only;cases gY none w==0<;>exact⟨rfl,rfl,rfl⟩
 exact⟨h',_,c,Left.ZT h2 hb' (by rw[hk.1];exact r1) (by rw[hk.2.1];exact r2) (by rw[hk.2.2];exact r3) g ft⟩
theorem Gr.sub{h h' :List Uo}{l l' :List Nat}(hg:Gr h h' l l')(hlen:h'.length=h.length)(hl:∀ j∈l',j<h'.length):∀ j∈l',j∈l:=fun j hj=>by
 rcases hg.2.2 j hj with h1|h1
 ·exact h1
 ·have:=hl j hj;omega
theorem w53{h:List Uo}{fl:Nat}{i s m o:Nat}{F:List Nat}{b:Bs}{k:Nat}(hb:Ap h fl i s m o F b)(hp:Pre b k)(id:Int):
  ∃ h' F',G 53 [.ptr i 0,.int .i64 id] h fl=some (.int .i64 ((iI b id).1:Nat),h',fl)∧Left h h' fl fl i s m o F F' (iI b id).2:=by
 obtain⟨⟨lv,rc,dn,ks,hb,r1,r2,r3,rfl⟩,h2⟩:=hb;obtain⟨h',lv',rc',c,hb',r4,g,gl⟩:=t53 fl h2 hb r2 hp.cm.rc id;have hk:(iI b id).2.db=b.db∧(iI b id).2.done=b.done:=by
  unfold iI;cases mW b id<;>exact⟨rfl,rfl⟩
 exact⟨h',_,c,⟨⟨⟨lv',rc',dn,ks,hb',by rw[hk.1];exact r1,r4,by rw[hk.2];exact r3,rfl⟩,by omega⟩,g,ak _,.inl ⟨rfl,gl,g.sub gl (tw hb')⟩⟩⟩
theorem w19{h:List Uo}{fl:Nat}{i s m o:Nat}{F:List Nat}{b:Bs}{k:Nat}(hb:Ap h fl i s m o F b)(hp:Pre b k)(id:Int):
  ∃ h' F',G 19 [.ptr i 0,.int .i64 id] h fl=some (.aZ [.int .u64 ((bA b id).1:Nat),.int .i64 ((bA b id).2.1:Nat)],h',fl)∧Left h h' fl fl i s m o F F' (bA b id).2.2:=by
 obtain⟨⟨lv,rc,dn,ks,hb,r1,r2,r3,rfl⟩,h2⟩:=hb;obtain⟨h',lv',rc',dn',ks',c,hb',r4,r5,r6,g,gl⟩:=t19 fl h2 hb r1 r2 r3 hp.cm id;exact⟨h',_,c,⟨⟨⟨lv',rc',dn',ks',hb',r4,r5,r6,rfl⟩,by omega⟩,g,ak _,.inl ⟨rfl,gl,g.sub gl (tw hb')⟩⟩⟩
theorem w50{h:List Uo}{fl:Nat}{i s m o:Nat}{F:List Nat}{b:Bs}{k:Nat}(hb:Ap h fl i s m o F b)(hp:Pre b k):
  ∃ h' F',G 50 [.ptr i 0] h fl=some (.int .i64 (D5 b).1,h',fl)∧Left h h' fl fl i s m o F F' (D5 b).2:=by
 obtain⟨⟨lv,rc,dn,ks,hb,r1,r2,r3,rfl⟩,h2⟩:=hb;obtain⟨h',ks',c,hb',r4,g⟩:=t50 fl h2 hb r1 hp.cm.r hp.cm.w hp.cm.m5 hp.cm.z;exact⟨h',_,c,Left.ZT h2 hb' r4 r2 r3 g rfl⟩
end Go.RE
namespace Go.RE
open Go.Proofs
theorem qgZ{H:Type}:FF (Go.Proofs.YtmpopachilfinaaGreat.Rows.uptoBulk (H:=H)):=by
 have part:∀ (l:List (DataW H)) d,d∈l→Go.Proofs.YtmpopachilfinaaGreat.Rows.uptoBulk d≤Go.Proofs.YtmpopachilfinaaGreat.Rows.uptoBulkAll l:=by
  intro l
  induction l with
  |nil=>intro d h;cases h
  |cons x r ih=>
   intro d h;simp only[Go.Proofs.YtmpopachilfinaaGreat.Rows.uptoBulkAll];rcases bT.1 h with rfl|h
   ·omega
   ·have:=ih d h;omega
 have one:∀ d:DataW H,1≤Go.Proofs.YtmpopachilfinaaGreat.Rows.uptoBulk d:=by
  intro d;cases d with
  |lit l=>cases l<;>simp[Go.Proofs.YtmpopachilfinaaGreat.Rows.uptoBulk]
  |_=>simp[Go.Proofs.YtmpopachilfinaaGreat.Rows.uptoBulk]
 have len:∀ l:List (DataW H),l.length≤Go.Proofs.YtmpopachilfinaaGreat.Rows.uptoBulkAll l:=by
  intro l
  induction l with
  |nil=>simp
  |cons x r ih=>have:=one x;simp only[Go.Proofs.YtmpopachilfinaaGreat.Rows.uptoBulkAll,fV];omega
 refine⟨fun b=>by simp[Go.Proofs.YtmpopachilfinaaGreat.Rows.uptoBulk],fun es sp=> ?_,fun es sp d hd=> ?_,fun ps d hd=> ?_⟩
 ·have:=len es;simp only[Go.Proofs.YtmpopachilfinaaGreat.Rows.uptoBulk];omega
 ·have:=part es d hd;simp only[Go.Proofs.YtmpopachilfinaaGreat.Rows.uptoBulk];omega
 ·have:=part ps d hd;simp only[Go.Proofs.YtmpopachilfinaaGreat.Rows.uptoBulk];omega
section
variable{H:Type}{enc:TypeId×Value→H}{w:World}{bk:DataW H→Nat}{B:Nat}
theorem KL.imp{P:Program}{t:TypeId}{S S' :List U→Prop}(h:KL enc P w bk B t S)(hs:∀ us,S us→S' us):KL enc P w bk B t S' :=fun fuel cs x hx hb=>by
 obtain⟨vs,us,h1,h2,h3⟩:=h fuel cs x hx hb;exact⟨vs,us,h1,hs us h2,h3⟩
theorem JK{α:Type}{f:α→List U}{S:List U→Prop}(h:∀ r,S r→∃ a,r=f a):∀ {rows:List (List U)},(∀ r∈rows,S r)→∃ l:List α,rows=l.map f:=by
 intro rows
 induction rows with
 |nil=>intro _;exact⟨[],rfl⟩
 |cons r rows ih=>
  intro hr;obtain⟨a,rfl⟩:=h r (hr r cB);obtain⟨l,rfl⟩:=ih fun x hx=>hr x (eu _ hx);exact⟨a::l,rfl⟩
theorem ZV(hk:FF bk):KL enc Tryz.prog w bk B 23 fun us=>∃ d:By,us=[.sl 1 (bM d)]∧d.length≤B:=by
 refine(EY hk Tryz.underlying23 (c:=1) (by kernel_rfl) (by omega) (lN Tryz.underlying5)).imp fun us h=> ?_;obtain⟨rows,rfl,h1,h2,h3⟩:=h;obtain⟨d,rfl⟩:=JK (f:=Es) (S:=fun r=>∃ n,r=[U.int .u8 n]∧(Lit.int IntKind.u8 n).wf=true) (fun r hr=>by
  obtain⟨n,rfl,hn⟩:=hr;have hb:0≤n∧n<256:=by
   simp[Lit.wf,IntKind.min,IntKind.max,IntKind.bits,IntKind.signed]at hn;omega
  refine⟨UInt8.ofNat n.toNat,?_⟩;have:((UInt8.ofNat n.toNat).toNat:Int)=n:=by
   have e1:(UInt8.ofNat n.toNat).toNat=n.toNat % 256:=UInt8.toNat_ofNat';rw[e1];omega
  simp only[Es,this]) fun r hr=>(h1 r hr).1
 exact⟨d,rfl,by simpa[bM]using h2⟩
theorem ZX(hk:FF bk):KL enc Tryz.prog w bk B 25 fun us=>∃ p:Wt,us=eY p:=by
 refine(vp hk Tryz.underlying25 (Ss:=[_,_,_]) (by kernel_rfl) ⟨Ck hk Tryz.underlying9,S8 Tryz.underlying4,ZV hk,trivial⟩).imp fun us h=> ?_;obtain⟨a,b,rfl,⟨k,rfl,hk'⟩,a2,b2,rfl,⟨g,rfl⟩,a3,b3,rfl,⟨d,rfl,hd⟩,rfl⟩:=h;exact⟨⟨k,g,d⟩,rfl⟩
theorem qkH(hk:FF bk):KL enc Tryz.prog w bk B 35 fun us=>∃ o:DZ,us=eL o:=by
 refine(vp hk Tryz.underlying35 (Ss:=[_,_,_,_]) (by kernel_rfl) ⟨lN Tryz.underlying3,lN Tryz.underlying3,ZX hk,Ck hk Tryz.underlying9,trivial⟩).imp fun us h=> ?_;obtain⟨_,_,rfl,⟨d,rfl,_⟩,_,_,rfl,⟨i,rfl,_⟩,_,_,rfl,⟨p,rfl⟩,_,_,rfl,⟨s,rfl,_⟩,rfl⟩:=h;exact⟨⟨d,i,p,s⟩,rfl⟩
theorem qh5(hk:FF bk):KL enc Tryz.prog w bk B 22 fun us=>∃ l:List DZ,us=[.sl 6 (l.map eL)]∧l.length≤B:=by
 refine(EY hk Tryz.underlying22 (c:=6) (by kernel_rfl) (by omega) (qkH hk)).imp fun us h=> ?_;obtain⟨rows,rfl,h1,h2,h3⟩:=h;obtain⟨l,rfl⟩:=JK (f:=eL) (S:=fun us=>∃ o:DZ,us=eL o) (fun r hr=>hr) fun r hr=>(h1 r hr).1;exact⟨l,rfl,by simpa using h2⟩
end
end Go.RE
