/- A part of a proof. -/
import Derived.Test.YtmpopachilfinaaGreatPart13
import Derived.ChangeArms
import Derived.Carry
import Derived.RowKit
import Derived.Test.YtmpopachilfinaaGreatRows
set_option linter.unusedVariables false
set_option linter.unusedSimpArgs false
set_option linter.unnecessarySimpa false
set_option linter.constructorNameAsVariable false
namespace Go.RE
open Go Go.Proofs Go.Sort Go.Lib Go.RowKit
def Jl:V→Bool
 | .str _=>true
 |_=>false
def JG:List V→St→Option (V×St):=fun vs s=>match vs with
 |[a,.int .i64 n,.slice vb voff 1 vcap 1 vex]=>
  (match(s.vW vb).bind fun cs=>cs[voff]? with
  |some (.str k)=>(match a with
   | .bu=>if n=0 then some (.slice s.next 0 1 1 1 false,s.alloc (.row [.str k]))else none
   | .bK=>if n=0 then some (.slice s.next 0 1 1 1 false,s.alloc (.row [.str k]))else none
   | .slice b off len cap 1 ex=>if 0≤n∧n.toNat≤len∧len<1000000000∧b≠vb then
     (match s.vW b with
     |some cs=>if off+len≤cs.length∧((cs.drop off).take len).all Jl=true then
       some (.slice s.next 0 (len+1) (len+1) 1 false,(s.put b .dead).alloc (.row (jE ((cs.drop off).take len) n.toNat (.str k))))else none
     |none=>none)else none
   |_=>none)
  |_=>none)
 |_=>none
theorem aU.qfZ{w0:World}{ρ:Ren}{a:List V}{b:List Value}(h:aU w0 ρ a b)(n:Nat):aU w0 ρ (a.take n) (b.take n):=by
 refine⟨by simp[h.1],fun i h1 h2=> ?_⟩;simp only[List.getElem_take];exact h.2 i (by simp at h1;omega) (by simp at h2;omega)
theorem aU.qel{w0:World}{ρ:Ren}{a:List V}{b:List Value}(h:aU w0 ρ a b)(n:Nat):aU w0 ρ (a.drop n) (b.drop n):=by
 refine⟨by simp[h.1],fun i h1 h2=> ?_⟩;simp only[List.getElem_drop];exact h.2 (n+i) (by simp at h1;omega) (by simp at h2;omega)
theorem G9{w0:World}{ρ:Ren}{a:List V}{b:List Value}(h:aU w0 ρ a b)(n:Nat){v:V}{x:Value}(hv:aC w0 ρ v x):aU w0 ρ (jE a n v) (jE b n x):=
 (h.qfZ n).append (.cons hv (h.qel n))
theorem JI{P:Program}{f:Nat}(hfn:∃ fn b,P.funcs[f]? =some fn∧fn.body=some b∧(fn.name== "runtime.NumGoroutine")=false)(hG:qdM P f)(hRm:qdN P f)(w0:World):DV P w0 f 3 JG:=by
 refine⟨hfn,?_⟩;intro args s v s' ρ w args' hl hp hR hA;unfold JG at hp;split at hp
 case h_2=>cases hp
 rename_i a n vb voff vcap vex;split at hp
 case h_2=>cases hp
 rename_i k hk;obtain⟨ya,xs,rfl,ha,hxs⟩:=hA.bx;obtain⟨yn,xs2,rfl,hn,hxs2⟩:=hxs.bx;obtain⟨yx,xs3,rfl,hx,hxs3⟩:=hxs2.bx;obtain rfl:=hxs3.dV;cases hn
 -- what is put in
 obtain⟨vcs,hvw,hvk⟩:∃ vcs,s.vW vb=some vcs∧vcs[voff]? =some (.str k):=by
  cases hw:s.vW vb with
  |none=>rw[hw]at hk;cases hk
  |some vcs=>rw[hw]at hk;exact⟨vcs,rfl,hk⟩
 have hvg:=rD hvw;cases hx with
 |slice hvρ hv1 hv2 hv3 hv4 hvcb=>
 rename_i r2 o2 lim2 a2 vcap';have ha2:a2=⟨r2,o2+voff,none⟩:=by
  rcases hv4 with h|h
  ·omega
  ·exact h.1
 subst ha2;obtain⟨vC,vt,vfr,p1,p2,p3,p4,p5⟩:iQ w0 ρ o2 lim2 (some (.row vcs)) w.heap[r2]? :=by
  have:=hR.ob vb r2 o2 lim2 hvρ;rw[hvg]at this;exact this
 have hvlt:voff<vcs.length:=by
  rcases Nat.lt_or_ge voff vcs.length with h|h
  ·exact h
  ·rw[List.getElem?_eq_none h]at hvk;cases hvk
 obtain⟨x,hx1,hx2⟩:=p5 voff hvlt;have hkk:vcs[voff]=.str k:=by
  rw[bL hvlt]at hvk;exact Option.some.inj hvk
 rw[hkk]at hx2;have hxone:x.oneCell' =true:=by cases hx2;rfl
 have hxcell:w.cell? ⟨r2,o2+voff,none⟩=some x:=by simp[World.cell?,p1,hx1]
 -- a new row
 have fin:∀ (s0:St) (base:Option Addr) (m cap i:Nat) (old:List V) (olds:List Value),Rel w0 ρ s0 w→jQ ρ s w ρ s0 w→aU w0 ρ old olds→i≤m→m≤cap→cap<m+1→m<1000000000→olds.length=m→(base=none→m=0)→
   (i<m→∃ b off,base=some ⟨b,off,none⟩)→(∀ a,base=some a→∀ j v,olds[j]? =some v→w.cell? (a.add j)=some v)→(∀ v∈olds,v.oneCell' =true)→
   Calls P f #[.slice base m cap,.int .i64 i,.slice (some ⟨r2,o2+voff,none⟩) 1 vcap'] w fun e w' =>∃ ρ' y,e=.returned y∧Rel w0 ρ' (s0.alloc (.row (jE old i (.str k)))) w'∧jQ ρ s w ρ' (s0.alloc (.row (jE old i (.str k)))) w'∧
    aC w0 ρ' (.slice s0.next 0 (m+1) (m+1) 1 false) y:=by
  intro s0 base m cap i old olds hR0 hS0 hold him hmc hcm hbig holds hnil hb hcs h1c;refine(hG base m cap i r2 (o2+voff) vcap' olds x w him hmc hcm (by omega) holds hnil hb hcs hxcell hxone h1c).mono ?_;rintro e w' ⟨c',C,t,rfl,g1,g2,g3,g4,g5,g6,g7⟩;have hrel:=G9 hold i hx2;have hil:(jE olds i x).length=m+1:=by rw[AL _ _ _ (by omega),holds]
  have hobr:iQ w0 ρ 0 c' (some (.row (jE old i (.str k)))) (some (.cells C t (0,0))):=by
   refine⟨C,t,(0,0),rfl,g3,by rw[hrel.1];omega,fun j _=>by omega,fun j hj=> ?_⟩;rw[hrel.1]at hj;refine⟨(jE olds i x)[j],?_,hrel.2 j (by rw[hrel.1];exact hj) hj⟩;rw[Nat.zero_add,g4 j (by omega),bL hj]
  obtain⟨k1,k2⟩:=hR0.alloc hobr;have hheap:w'.heap=(w.alloc (.cells C t (0,0))).heap:=g5;exact⟨_,_,rfl,k1.same (w' :=w') hheap g6 g7,(hS0.trans k2).trans (jQ.same (w' :=w') hheap),.slice (Ren.add_same _ _ _) g1 (fun h=>by simp at h) (aq _) (.inr ⟨rfl,by omega⟩) g2⟩
 split at hp
 ·-- nil
  split at hp
  case isFalse=>cases hp
  rename_i hn0;subst hn0;simp only[ai,aL]at hp;obtain⟨rfl,rfl⟩:=hp;cases ha;exact fin s none 0 0 0 [] [] hR (.refl _ _ _) .nil (aq _) (aq _) (by omega) (by decide) rfl (fun _=>rfl) (fun h=>by omega) (fun a h=>by cases h) (fun v hv=>by cases hv)
 ·split at hp
  case isFalse=>cases hp
  rename_i hn0;subst hn0;simp only[ai,aL]at hp;obtain⟨rfl,rfl⟩:=hp;cases ha;exact fin s (some _) 0 0 0 [] [] hR (.refl _ _ _) .nil (aq _) (aq _) (by omega) (by decide) rfl (fun _=>rfl) (fun h=>by omega) (fun a h j v hj=>by simp at hj) (fun v hv=>by cases hv)
 ·rename_i b off len cap ex;split at hp
  case isFalse=>cases hp
  rename_i hcond;obtain⟨h0n,hnl,hsm,hbv⟩:=hcond;split at hp
  case h_2=>cases hp
  rename_i cs hcs;split at hp
  case isFalse=>cases hp
  rename_i hcond2;obtain⟨hoff,hstr⟩:=hcond2;simp only[ai,aL]at hp;obtain⟨rfl,rfl⟩:=hp;obtain⟨i,rfl⟩:=Int.eq_ofNat_of_zero_le h0n;simp only[Int.toNat_natCast]at hnl⊢;have hbg:=rD hcs;cases ha with
  |slice hρ h1 h2 h3 h4 hcb=>
  rename_i r o lim aa cap';obtain⟨C,t,fr,q1,q2,q3,q4,q5⟩:iQ w0 ρ o lim (some (.row cs)) w.heap[r]? :=by
   have:=hR.ob b r o lim hρ;rw[hbg]at this;exact this
  have hrow:∃ ys,aU w0 ρ ((cs.drop off).take len) ys∧∀ j,j<len→C[o+off+j]? =ys[j]? :=by
   refine⟨(List.range len).map fun j=>C[o+off+j]!,⟨by simp;omega,fun i h1 h2=> ?_⟩,fun j hj=> ?_⟩
   ·simp at h1;obtain⟨v,e1,e2⟩:=q5 (off+i) (by omega);have e3:C[o+off+i]! =v:=by rw[Array.getElem!_eq_getD,rE,Nat.add_assoc,e1];rfl
    simp[e3];exact e2
   ·obtain⟨v,e1,e2⟩:=q5 (off+j) (by omega);have e3:C[o+off+j]! =v:=by rw[Array.getElem!_eq_getD,rE,Nat.add_assoc,e1];rfl
    rw[List.getElem?_map,List.getElem?_range hj,Option.map_some,e3,Nat.add_assoc,e1]
  obtain⟨ys,hy1,hy2⟩:=hrow;have hyl:ys.length=len:=by rw[←hy1.1];simp;omega
  have hyone:∀ v∈ys,v.oneCell' =true:=by
   intro v hv;obtain⟨j,hj,rfl⟩:=List.mem_iff_getElem.1 hv;have hj' :j<((cs.drop off).take len).length:=by rw[hy1.1];exact hj
   have e1:=hy1.2 j hj' hj;have e2:=jr.1 hstr _ (List.getElem_mem hj');generalize ((cs.drop off).take len)[j]=u at e1 e2;generalize ys[j]=y at e1⊢;cases e1<;>first|rfl|cases e2
  have hcell:∀ j v,ys[j]? =some v→C[o+off+j]? =some v:=fun j v hj=>by
   rw[hy2 j (by have:=(bn.1 hj).1;omega)];exact hj
  by_cases hroom:cap' <len+1
  ·-- grown
   obtain⟨k1,k2⟩:=hR.kill hρ;refine fin (s.put b .dead) (some aa) len cap' i _ ys k1 k2 hy1 hnl (by omega) hroom hsm hyl (fun h=>by cases h) (fun hi=> ?_) (fun a ha j v hj=> ?_) hyone
   ·rcases h4 with h4|h4
    ·omega
    ·exact⟨r,o+off,by rw[h4.1]⟩
   ·cases ha;have hjl:j<len:=by have:=(bn.1 hj).1;omega
    rcases h4 with h4|h4
    ·omega
    ·rw[h4.1,Addr.add_lit];simp only[World.cell?,q1,hcell j v hj];rfl
  ·-- in place
   have h4' :aa=⟨r,o+off,none⟩∧o+off+cap'*1≤lim:=by
    rcases h4 with h4|h4
    ·omega
    ·exact h4
   obtain⟨rfl,h4b⟩:=h4';have hne:r2≠r:=fun hh=>by
    subst hh;exact hbv (hR.inj b vb r2 o lim o2 lim2 hρ hvρ (by rw[hbg];trivial) (by rw[hvg];trivial))
   refine(hRm r (o+off) len cap' i r2 (o2+voff) vcap' ys x w C t fr vC vt vfr hnl (by omega) hcb q1 (by omega) (by rw[q2];exact q4) hyl hcell hne p1 hx1 (by rw[p2];exact p4) hxone hyone).mono ?_;rintro e w' ⟨rfl,C',g1,g2,g3,g4,g5⟩;have hrel:=G9 hy1 i hx2;have hil:(jE ys i x).length=len+1:=by rw[AL _ _ _ (by omega),hyl]
   have hobr:iQ w0 ρ (o+off) lim (some (.row (jE ((cs.drop off).take len) i (.str k)))) (some (.cells C' t fr)):=by
    refine⟨C',t,fr,rfl,by omega,by rw[hrel.1];omega,q4,fun j hj=> ?_⟩;rw[hrel.1]at hj;refine⟨(jE ys i x)[j],?_,hrel.2 j (by rw[hrel.1];exact hj) hj⟩;rw[g5,if_pos (by omega),show o+off+j - (o+off)=j by omega,bL hj]
   obtain⟨k1,k2⟩:=hR.grow hρ (by rw[hbg];trivial) hobr;have hheap:w'.heap=({w with heap:=w.heap.setIfInBounds r (.cells C' t fr)}:World).heap:=g1;exact⟨_,_,rfl,k1.same (w' :=w') hheap g3 g4,k2.trans (jQ.same (w' :=w') hheap),.slice (Ren.add_same _ _ _) (by omega) (fun h=>by simp at h) (aq _) (.inr ⟨rfl,by omega⟩) hcb⟩
 ·cases hp
end Go.RE
namespace Go.RE
theorem Dn{σ:Sg}{Z:Zs}:∀ {xs:List (List U)} {l:List V},(kj xs).isSome=true→(∀ r∈xs,r.length=1)→LU σ Z 0 xs.flatten l→l.all Jl=true∧l.length=xs.length
 |[],l,_,_,h=>by obtain rfl:=h.dV;exact⟨rfl,rfl⟩
 |x::xs,l,hk,hw,h=>by
  have h1:=hw x eU
  match x,h1 with
  |[u],_=>
   have hk' :=hk;unfold kj at hk';cases hu:pP [u]with
   |none=>rw[hu]at hk';cases hk'
   |some k=>
    cases hks:kj xs with
    |none=>rw[hu,hks]at hk';cases hk'
    |some ks=>
     obtain⟨v,l',rfl,h2,h3⟩:=(show LU σ Z 0 (u::xs.flatten) l from h).bx;obtain⟨i1,i2⟩:=Dn (by rw[hks];rfl) (fun r hr=>hw r (gB _ hr)) h3;have hv:Jl v=true:=by
      unfold pP at hu;split at hu
      ·rename_i heq;cases heq;cases h2;rfl
      ·cases hu
     exact⟨by rw[List.all_cons,hv,i1];rfl,by simp[i2]⟩
theorem WK{σ:Sg}{Z:Zs}{xs:List (List U)}{l:List V}{k:By}(n:Nat)(hw:∀ r∈xs,r.length=1)(h:LU σ Z 0 xs.flatten l):LU σ Z 0 (xs.take n++[[U.str k]]++xs.drop n).flatten (jE l n (V.str k)):=by
 have e1:∀ (m:Nat) (ys:List (List U)),(∀ r∈ys,r.length=1)→(ys.take m).flatten=ys.flatten.take m∧(ys.drop m).flatten=ys.flatten.drop m:=by
  intro m
  induction m with
  |zero=>intro ys _;simp
  |succ m ih=>
   intro ys hy;cases ys with
   |nil=>simp
   |cons y ys=>
    have h1:=hy y eU
    match y,h1 with
    |[u],_=>
     obtain⟨i1,i2⟩:=ih ys (fun r hr=>hy r (gB _ hr));simp[i1,i2]
 obtain⟨a1,a2⟩:=e1 n xs hw;rw[List.flatten_append,List.flatten_append,a1,a2];unfold jE;rw[kN];exact(h.take n).append (LU.cons (.str k) (h.drop n))
theorem WL{C:Nat→Option b8}{M:oV}{f:Nat}(hC:C f=some (qi 3 JG)):qdK (cZ C M) f NO:=by
 intro xs rest ys hq E σ Z ω s e st g w v vs d hk hga hrw hnt hor hlen hr;unfold NO at hq;split at hq
 case h_2=>cases hq
 rename_i n t k;obtain⟨hb,hq2⟩:=aM hq;clear hq;simp only[bC,decide_eq_true_eq]at hb;obtain⟨⟨⟨⟨hn0,hnl⟩,hsm⟩,hks⟩,hrows⟩:=hb;simp only[ai]at hq2;subst hq2;obtain⟨n,rfl⟩:=Int.eq_ofNat_of_zero_le hn0;simp only[Int.toNat_natCast]at hnl⊢hrw;have hnl:=gb hnl;have hsm:xs.length<1000000000:=by simp only[Nat.blt,gv]at hsm;omega
 have hw1:w=1:=by
  have:([U.str k]:List U)∈xs.take n++[[U.str k]]++xs.drop n:=by simp
  have:=jr.1 hrw _ this;simpa using(bR this).symm
 subst hw1;obtain⟨vn,vx,rfl⟩:∃ vn vx,vs=[vn,vx]:=by
  match vs,hlen with
  |[vn,vx],_=>exact⟨vn,vx,rfl⟩
 have hvn:vn=.int .i64 (n:Int):=by
  have h2:UR σ Z s.h.length (.int .i64 (n:Int)) vn:=Ma (hr 0 _ _ rfl rfl) rfl;cases h2;rfl
 subst hvn
 -- what is put in
 have hox:OR σ Z ω (.t t) 1 [[.str k]] vx:=(hr 1 _ _ rfl rfl).1;obtain⟨J,hJ,rfl,jc,jx⟩:∃ J,ω (.t t)=some J∧vx=.slice J.b J.off 1 J.cap 1 J.ex∧1≤J.cap∧J.row[J.off]? =some (.str k):=by
  unfold OR at hox;split at hox
  ·cases hox.1
  ·rename_i J hJ;obtain⟨rfl,⟨_,_⟩,e1,e2,e3,e4⟩:=hox;refine⟨J,hJ,rfl,by simpa using e1,?_⟩;have e5:LU σ Z 0 [.str k] ((J.row.drop J.off).take 1):=by simpa using e4
   obtain⟨v,l,h1,h2,h3⟩:=e5.bx;cases h2;have h6:((J.row.drop J.off).take 1)[0]? =some (.str k):=by rw[h1];rfl
   rw[jP,if_pos (by omega),qd]at h6;simpa using h6
 have hJr:=hk.lF _ J hJ;have hgt:g≠.t t:=by
  intro hh;subst hh;simp[uv]at hnt
 have hbind:((st.vW J.b).bind fun cs=>cs[J.off]?)=some (.str k):=by rw[qC hJr];exact jx
 -- a new row of the call's own,where the slice's block is done with
 have fin:∀ (l:List V) (st0:St),LU σ Z 0 xs.flatten l→(∀ r∈xs,r.length=1)→Ok E σ Z (dL ω g none) (s.kill g) e st0→st0.next=st.next→
   ∃ ω',Ok E σ Z ω' ((s.kill g).kill (.t d)) e (st0.alloc (.row (jE l n (.str k))))∧OR σ Z ω' (.t d) 1 (xs.take n++[[U.str k]]++xs.drop n) (.slice st0.next 0 (xs.length+1) (xs.length+1) 1 false):=by
  intro l st0 hlu hw ho hnx;have hlu' :=WK (k:=k) n hw hlu;have hyl:(xs.take n++[[U.str k]]++xs.drop n).length=xs.length+1:=by simp;omega
  have hyw:∀ r∈xs.take n++[[U.str k]]++xs.drop n,r.length=1:=fun r hr=>by
   rcases gd.1 hr with hr|hr
   ·rcases gd.1 hr with hr|hr
    ·exact hw r (List.mem_of_mem_take hr)
    ·simp at hr;subst hr;rfl
   ·exact hw r (List.mem_of_mem_drop hr)
  have hfl:(jE l n (V.str k)).length=xs.length+1:=by
   rw[←hlu'.1,dD hyw,hyl,Nat.mul_one]
  obtain⟨ω',k1,k2⟩:=ho.El (d:=d) (w:=1) (cap:=xs.length+1) (ex:=false) (xs:=xs.take n++[[U.str k]]++xs.drop n) (row:=jE l n (.str k)) (by omega) (by omega) hyw (by
   have e5:(jE l n (V.str k)).take ((xs.length+1)*1)=jE l n (V.str k):=jU (by omega);rw[hyl,e5];exact hlu')
  rw[hyl]at k2;exact⟨ω',k1,k2⟩
 have hor0:=hor;unfold OR at hor;split at hor
 ·rename_i hg;obtain⟨h0,hv⟩:=hor;subst h0;have hn00:n=0:=by simpa using hnl
  subst hn00;have hko:Ok E σ Z (dL ω g none) (s.kill g) e st:=by
   have hω:dL ω g none=ω:=by
    funext x;by_cases hxx:x=g
    ·subst hxx;rw[bp,hg]
    ·rw[cW _ _ hxx]
   rw[hω];exact hk.kill g
  obtain⟨ω',k1,k2⟩:=fin [] st LU.nil (fun r hr=>by cases hr) hko rfl;refine j4 hC rfl (st' :=st.alloc (.row [.str k])) (v:=.slice st.next 0 1 1 1 false) ?_ ⟨ω',k1,k2⟩;rcases hv with rfl|rfl<;>simp only[JG,hbind]<;>rfl
 ·rename_i I hg;obtain⟨rfl,⟨hIw,hIx⟩,e1,e2,e3,e4⟩:=hor;have hIr:=hk.lF g I hg;have hle:I.off+xs.length≤I.row.length:=by omega
  have e4' :LU σ Z 0 xs.flatten ((I.row.drop I.off).take xs.length):=by simpa using e4
  obtain⟨hst,hsl⟩:=Dn hks e3 e4';have hgr:g≠.r:=fun hh=>by subst hh;rw[hk.wr]at hg;cases hg
  have hbne:I.b≠J.b:=fun hh=>hgt (hk.gJ g (.t t) I J hg hJ hh);obtain⟨n1,n2,n3,n4,n5⟩:=Dj hk hg;have hk2:=(hk.kill g).Bf (fh g s) hgr (o:=none) (fun J hJ=>by cases hJ) hga;have hfree:∀ g' J,dL ω g none g' =some J→J.b≠I.b:=fun g' J hJ=>by
   by_cases hq:g' =g
   ·subst hq;rw[bp]at hJ;cases hJ
   ·rw[cW _ _ hq]at hJ;exact n4 g' J hq hJ
  have hk3:=hk2.Eu n1 (fun i hi=>n2 i (by rw[c9]at hi;exact hi)) n3 hfree n5 .dead;obtain⟨ω',k1,k2⟩:=fin _ (st.put I.b .dead) e4' e3 hk3 rfl;refine j4 hC rfl (st' :=(st.put I.b .dead).alloc (.row (jE ((I.row.drop I.off).take xs.length) n (.str k)))) (v:=.slice st.next 0 (xs.length+1) (xs.length+1) 1 false) ?_ ⟨ω',k1,k2⟩;have hc1:(0:Int)≤(n:Int)∧(n:Int).toNat≤xs.length∧xs.length<1000000000∧I.b≠J.b:=⟨by omega,by simpa using hnl,hsm,hbne⟩;simp only[JG,hbind,if_pos hc1,qC hIr,if_pos (show I.off+xs.length≤I.row.length∧_ from⟨hle,hst⟩),Int.toNat_natCast];exact if_pos ⟨by omega,hnl,hsm,hbne⟩
end Go.RE
namespace Go.RE
def s4:Ren:=fun _=>none
structure Kept(W W' :World):Prop where
 os:W'.os=W.os
 output:W'.output=W.output
 block:∀ k,k<W.heap.size→W'.heap[k]? =W.heap[k]?
theorem Kept.frame{W W' :World}(h:Kept W W')(may:MemPlace→Prop):W.keptBut W' may:=by
 refine⟨h.os,h.output,fun i hi=> ?_⟩;rw[h.block i hi];split<;>simp_all
theorem Kept.same{W W' :World}(h:Kept W W'){p:MemPlace}(hp:p.block<W.heap.size):W.sameAt W' p:=by
 cases p with
 |cell b o=>exact World.cell?_of_block (w:=W) (h.block b hp)
 |map b=>exact h.block b hp
theorem Kept.trod{H:Type}{enc:TypeId×Value→H}{P:Program}{t:TypeId}(hl:laidOutB P=true)(hr:P.readableRec t=true)(hrow:t<P.types.size){W W' :World}{v:Value}{d:DataW H}{ps:List MemPlace}
  (h:DataW.Trod enc P W 0 (fun _=>true) true t v d ps) (hb:Kept W W') (hlt:∀ x∈ps,x.block<W.heap.size):
  DataW.Trod enc P W' 0 (fun b=>decide (b<W.heap.size)) true t v d ps:=
 WideElems.Trod_stays hl hr hrow h (fun x hx=>hb.same (hlt x hx)) (fun x hx=>by simpa using hlt x hx)
def Em:St:={h:=.e,next:=0}
theorem NR{P:Program}{C:Nat→Option b8}{M:oV}{W:World}(hC:IE P W C)(hM:qs P M)(hD:zZ P){f n:Nat}{vs:List V}{args:Array Value}{q:V}
  (hl:aU W s4 vs args.toList) (h:bV C M n f vs Em fun v _=>v=q):
  Calls P f args W fun e W' =>(∃ x ρ',e=.returned x∧aC W ρ' q x)∧Kept W W' :=by
 have hR:Rel W s4 Em W:={
  old:=fun _ _=>rfl
  size:=aq _
  os:=rfl
  output:=rfl
  dom:=fun _ _ _ _ e=>by cases e
  fresh:=fun n _=>by simp[Em,St.get]
  ob:=fun _ _ _ _ e=>by cases e
  inj:=fun _ _ _ _ _ _ _ e=>by cases e}
 obtain⟨_,hc⟩:=V5 (w0:=W) hC hM hD n f vs Em _ s4 W args.toList h hR hl;rw[Array.toArray_toList]at hc;refine hc.mono fun e W' h' => ?_;obtain⟨v,s',ρ',x,he,hk,hr,_,hv⟩:=h';subst hk;exact⟨⟨x,ρ',he,hv⟩,hr.os,hr.output,hr.old⟩
section
variable{H:Type}(enc:TypeId×Value→H)(P:Program)(w:World)
variable{enc P w}
def AO(P:Program)(tot:Nat):Nat→List Field→Bool
 |off,[]=>off==tot
 |off,f::fs=>f.offset==off&&AO P tot (off+P.cellsOf f.type) fs
theorem GA{b o n:Nat}:(⟨b,o,none⟩:Addr).add n=⟨b,o+n,none⟩:=by
 unfold Addr.add;split
 ·rename_i h;subst h;rfl
 ·rfl
end
end Go.RE
namespace Go.RE
section
variable{H:Type}(enc:TypeId×Value→H)(P:Program)(w:World)(bk:DataW H→Nat)(B:Nat)
structure Gy:Prop where
 str:∀ b:List UInt8,b.length≤bk (.lit (.string b))
 len:∀ es sp,es.length≤bk (.slice es sp)
 elt:∀ es sp d,d∈es→bk d≤bk (.slice es sp)
 part:∀ ps d,d∈ps→bk d≤bk (.agg ps)
def gW(us:List U)(vs:List V):Prop:=∀ σ Z,LU σ Z 0 us vs
def Ln(t:TypeId)(S:List U→Prop):Prop:=
 ∀ fuel cs x,DataW.trod enc P w 0 (fun _=>true) true fuel t cs=some x→bk x.1≤B→∃ vs us,aU w s4 vs cs∧S us∧gW us vs
variable{enc P w bk B}
theorem gW.nil:gW [] []:=fun σ Z=>LU.nil
theorem gW.one{u:U}{v:V}(h:∀ σ Z,UR σ Z 0 u v):gW [u] [v]:=fun σ Z=>LU.cons (h σ Z) LU.nil
theorem gW.append{a c:List U}{b d:List V}(h:gW a b)(h' :gW c d):gW (a++c) (b++d):=fun σ Z=>(h σ Z).append (h' σ Z)
theorem Qc{t:TypeId}(ht:P.underlying t=some .bool):Ln enc P w bk B t fun us=>∃ b,us=[.bool b]:=by
 intro fuel cs x h hb;obtain⟨b,rfl,_⟩:=DataW.trod_bool ht h;exact⟨[.bool b],[.bool b],aU.cons (.bool b) .nil,⟨b,rfl⟩,gW.one fun σ Z=> .bool b⟩
theorem Ep{t:TypeId}{k:IntKind}(ht:P.underlying t=some (.int k)):Ln enc P w bk B t fun us=>∃ n,us=[.int k n]∧(Lit.int k n).wf=true:=by
 intro fuel cs x h hb;obtain⟨n,rfl,_,hw⟩:=DataW.trod_int ht h;exact⟨[.int k n],[.int k n],aU.cons (.int k n) .nil,⟨n,rfl,hw⟩,gW.one fun σ Z=> .int k n⟩
theorem A3{t:TypeId}(hk:Gy bk)(ht:P.underlying t=some .string):Ln enc P w bk B t fun us=>∃ l:List UInt8,us=[.str l]∧l.length≤B:=by
 intro fuel cs x h hb;obtain⟨s,rfl,hx,hs⟩:=DataW.trod_string ht h;subst hx;exact⟨[.str s.data.toList],[.str s.data.toList],aU.cons (.str rfl) .nil,⟨_,rfl,Nat.le_trans (hk.str _) hb⟩,gW.one fun σ Z=> .str _⟩
def FS:List (List U→Prop)→List U→Prop
 |[],us=>us=[]
 |S::Ss,us=>∃ a b,us=a++b∧S a∧FS Ss b
def qag(enc:TypeId×Value→H)(P:Program)(w:World)(bk:DataW H→Nat)(B:Nat):List Field→List (List U→Prop)→Prop
 |[],[]=>True
 |f::fs,S::Ss=>Ln enc P w bk B f.type S∧qag enc P w bk B fs Ss
 |_,_=>False
theorem JD{cs:List Value}:∀ {fs:List Field} {Ss:List (List U→Prop)} {off:Nat},AO P cs.length off fs=true→qag enc P w bk B fs Ss→
  (∀ f∈fs,∃ fuel x,DataW.trod enc P w 0 (fun _=>true) true fuel f.type ((cs.drop f.offset).take (P.cellsOf f.type))=some x∧bk x.1≤B)→∃ vs us,aU w s4 vs (cs.drop off)∧FS Ss us∧gW us vs:=by
 intro fs
 induction fs with
 |nil=>
  intro Ss off hl ho _;cases Ss with
  |cons=>exact ho.elim
  |nil=>
   simp only[AO,beq_iff_eq]at hl;subst hl;exact⟨[],[],by rw[List.drop_length];exact .nil,rfl,gW.nil⟩
 |cons f fs ih=>
  intro Ss off hl ho hr;cases Ss with
  |nil=>exact ho.elim
  |cons S Ss=>
   simp only[AO,bC,beq_iff_eq]at hl;obtain⟨rfl,hl⟩:=hl;obtain⟨fuel,x,hx,hxb⟩:=hr f eU;obtain⟨va,ua,ha,hq,hu⟩:=ho.1 fuel _ x hx hxb;obtain⟨vb,ub,hb,hqs,hus⟩:=ih hl ho.2 (fun g hg=>hr g (gB _ hg));refine⟨va++vb,ua++ub,?_,⟨ua,ub,rfl,hq,hqs⟩,hu.append hus⟩;have:=ha.append hb;rwa[←List.drop_drop,List.take_append_drop]at this
theorem A4{t:TypeId}{fs:Array Field}(hk:Gy bk)(ht:P.underlying t=some (.struct fs)){Ss:List (List U→Prop)}(hl:AO P (P.cellsOf t) 0 fs.toList=true)(ho:qag enc P w bk B fs.toList Ss):
  Ln enc P w bk B t (FS Ss):=by
 intro fuel cs x h hb;obtain⟨xs,n,rfl,hxe,hlen,hxs,hf⟩:=DataW.trod_struct ht h;subst hxe;rw[←hlen]at hl;obtain⟨vs,us,h1,h2,h3⟩:=JD (off:=0) hl ho fun f hm=>by
  obtain⟨i,hi,rfl⟩:=List.getElem_of_mem hm;have hi' :i<fs.size:=by simpa using hi
  have:=hf i fs[i] (by rw[sR hi']);rw[bL (by omega)]at this;refine⟨n,_,by simpa using this,Nat.le_trans (hk.part _ _ ?_) hb⟩;exact eR.2 ⟨_,List.getElem_mem _,rfl⟩
 exact⟨vs,us,by simpa using h1,h2,h3⟩
theorem Dv{t e:TypeId}{c:Nat}{S:List U→Prop}(hk:Gy bk)(ht:P.underlying t=some (.slice e))(hc:P.cellsOf e=c)(hpos:0<c)(he:Ln enc P w bk B e S):
  Ln enc P w bk B t fun us=>∃ rows:List (List U),us=[.sl c rows]∧(∀ r∈rows,S r∧r.length=c)∧rows.length≤B∧rows.length≤maxLen:=by
 intro fuel cs x h hb;rcases DataW.trod_slice ht h with⟨rfl,_⟩|⟨a,len,cap,elems,rest,n,_,rfl,hxe,_,hlc,hcm,hlen,hel,hsp,_⟩
 ·exact⟨[.bu],[.sl c []],aU.cons .bu .nil,⟨[],rfl,(fun r hr=>by cases hr),dS _,dS _⟩,gW.one fun σ Z=> .slnil⟩
 subst hxe;have hlenB:len≤B:=by
  have h1:=hk.len (elems.map (·.1)) (rest.map (·.1));simp only[List.length_map]at h1;have h2:=Nat.le_trans h1 hb;omega
 obtain⟨hrl,hre⟩:=hsp rfl;have each:∀ i,i<len→∃ xs:List Value,xs.length=c∧(∀ j,j<c→w.cell? ((a.add (i*c)).add j)=xs[j]?)∧∃ (r:List V) (u:List U),aU w s4 r xs∧S u∧gW u r:=by
  intro i hi;have h1:=hel i hi;rw[bL (by omega),Option.bind_eq_some_iff]at h1;obtain⟨xs,hxs,hy⟩:=h1;have hyb:bk (elems[i]'(by omega)).1≤B:=Nat.le_trans (hk.elt _ _ _ (eR.2 ⟨_,List.getElem_mem _,rfl⟩)) hb;obtain⟨r,u,hr,hq,hu⟩:=he _ _ _ hy hyb;rw[hc]at hxs;unfold World.cells? at hxs;rw[if_pos (dS _)]at hxs;refine⟨xs,by simpa using mapM_some_length hxs,fun j hj=> ?_,r,u,hr,hq,hu⟩;exact mapM_some_get hxs j j (by rw[List.getElem?_range hj])
 have hspot:cap=0∨a.spot=none:=by
  by_cases h0:cap=0
  ·exact .inl h0
  right;by_cases hl0:len=0
  ·have h1:=hre 0 (by omega);rw[bL (by omega),Option.bind_eq_some_iff]at h1;obtain⟨xs,hxs,_⟩:=h1;rw[hc]at hxs;unfold World.cells? at hxs;rw[if_pos (dS _)]at hxs;have hl:=mapM_some_length hxs;have:=mapM_some_get hxs 0 0 (by rw[List.getElem?_range hpos]);rw[bL (by simp at hl;omega)]at this;simpa[Addr.add,hl0]using World.cell?_spot this
  ·obtain⟨xs,h1,h2,_⟩:=each 0 (by omega);have:=h2 0 hpos;rw[bL (by omega)]at this;simpa[Addr.add]using World.cell?_spot this
 obtain⟨b,off,spot⟩:=a;have pick:∀ i:Nat,∃ p:List V×List Value×List U,i<len→p.1.length=c∧p.2.1.length=c∧(∀ j,j<c→w.cell? ⟨b,off+i*c+j,none⟩=p.2.1[j]?)∧aU w s4 p.1 p.2.1∧S p.2.2∧gW p.2.2 p.1:=by
  intro i;by_cases hi:i<len
  ·obtain⟨xs,h1,h2,r,u,h3,h4,h5⟩:=each i hi;refine⟨(r,xs,u),fun _=>⟨h3.1.trans h1,h1,fun j hj=> ?_,h3,h4,h5⟩⟩;rcases hspot with h0|h0
   ·omega
   ·simp only at h0;subst h0;have h5:=h2 j hj;rw[GA,GA]at h5;exact h5
  ·exact⟨([],[],[]),fun h=>absurd h hi⟩
 let g:=fun i=>Classical.choose (pick i);have hg:∀ i,i<len→(g i).1.length=c∧(g i).2.1.length=c∧(∀ j,j<c→w.cell? ⟨b,off+i*c+j,none⟩=(g i).2.1[j]?)∧aU w s4 (g i).1 (g i).2.1∧S (g i).2.2∧gW (g i).2.2 (g i).1:=fun i=>Classical.choose_spec (pick i);let rows:=(List.range len).map fun i=>(g i).1;let urows:=(List.range len).map fun i=>(g i).2.2;have hrlen:rows.length=len:=by simp[rows]
 have hulen:urows.length=len:=by simp[urows]
 have hrow:∀ r∈rows,r.length=c:=by
  intro r hr;obtain⟨i,hi,rfl⟩:=eR.1 hr;exact(hg i (List.mem_range.1 hi)).1
 have hul:∀ i,i<len→(g i).2.2.length=c:=fun i hi=>by
  have h1:=(hg i hi).2.2.2.2.2 (fun i=>i) (fun _=>none);rw[h1.1];exact(hg i hi).1
 have hurow:∀ r∈urows,r.length=c:=by
  intro r hr;obtain⟨i,hi,rfl⟩:=eR.1 hr;exact hul i (List.mem_range.1 hi)
 have hget:∀ i (h:i<rows.length),rows[i]=(g i).1:=by intro i h;simp[rows]
 obtain⟨f1,f2⟩:=Eb hrow;have flat:∀ i j,i<len→j<c→rows.flatten[i*c+j]? =(g i).1[j]? :=by
  intro i j hi hj;have h2:=f2 i (by omega);rw[hget i (by omega)]at h2;have h3:=congrArg (·[j]?) h2;simp only[jP,qd,if_pos hj]at h3;exact h3
 have flatU:gW urows.flatten rows.flatten:=by
  have key:∀ l:List Nat,(∀ i∈l,i<len)→gW ((l.map fun i=>(g i).2.2).flatten) ((l.map fun i=>(g i).1).flatten):=by
   intro l
   induction l with
   |nil=>intro _;exact gW.nil
   |cons i l ih=>
    intro hl;simp only[List.map_cons,List.flatten_cons];exact(hg i (hl i eU)).2.2.2.2.2.append (ih fun j hj=>hl j (gB _ hj))
  exact key _ fun i hi=>List.mem_range.1 hi
 have cell:∀ i (hi:i<rows.flatten.length),∃ y,w.cell? ⟨b,off+i,none⟩=some y∧aC w s4 rows.flatten[i] y:=by
  intro i hi;rw[f1,hrlen]at hi;have hd:i / c<len:=Nat.div_lt_of_lt_mul (by rw[Nat.mul_comm];exact hi);have hm:i % c<c:=Nat.mod_lt _ hpos;have he:i / c*c+i % c=i:=by rw[Nat.mul_comm];exact Nat.div_add_mod i c
  obtain⟨g1,g2,g3,g4,_⟩:=hg (i / c) hd;have h1:=g3 (i % c) hm;rw[Nat.add_assoc,he,bL (by omega)]at h1;have h2:=flat (i / c) (i % c) hd hm;rw[he,bL (by omega),bL (by omega)]at h2;refine⟨_,h1,?_⟩;rw[Option.some.inj h2];exact g4.2 _ _ _
 refine⟨[.ag rows.flatten 0 rows.length c],[.sl c urows],aU.cons ?_ .nil,⟨urows,rfl,fun r hr=>⟨?_,hurow r hr⟩,by omega,by omega⟩,gW.one fun σ Z=> ?_⟩
 ·rw[hrlen];refine aC.ag (r:=b) (o:=off) (fun i=>(w.cell? ⟨b,off+i,none⟩).getD (.bool false)) (fun hne=> ?_) (fun i hi=> ?_) (fun i hi=> ?_) hlc ?_
  ·obtain⟨y,hy,_⟩:=cell 0 (by
    cases hf:rows.flatten with
    |nil=>exact absurd hf hne
    |cons=>simp)
   by_cases hb:b<w.heap.size
   ·exact hb
   ·unfold World.cell? at hy;have hn:w.heap[b]? =none:=CW (Nat.le_of_not_lt hb);simp only[hn]at hy;simp at hy
  ·obtain⟨y,hy,_⟩:=cell i hi;rw[hy];rfl
  ·obtain⟨y,hy,hv⟩:=cell i hi;rw[hy];exact hv
  ·rcases hspot with h0|h0
   ·exact .inl h0
   ·right;simp only at h0;subst h0;rfl
 ·obtain⟨i,hi,rfl⟩:=eR.1 hr;exact(hg i (List.mem_range.1 hi)).2.2.2.2.1
 ·have hfl:rows.flatten.length=rows.length*c:=f1;refine .CN (by rw[hrlen,hulen]) hurow (by rw[hulen,←hrlen,←hfl];omega) ?_;have:=(flatU σ Z).2;intro j u v h1 h2;refine this j u v h1 ?_;rw[List.drop_zero,hulen,←hrlen,←hfl,List.take_length]at h2;exact h2
end
end Go.RE
namespace Go.RE
open Go.Proofs
def erF(fn:az):b8:=⟨fn.ntmps,fn.results,fn.body.er⟩
def zSp:List V:=[.str [],.str []]
def zRc:List V:=[.int .u64 0,.int .u64 0,.int .u64 0,.int .u64 0,.ag [] 0 0 2,.ag [] 0 0 2]
def uF:Nat→Option b8:=fun f=>match f with
 |58=>some (erF (lI 1 1 [.int .u8 0]))
 |61=>some (erF (lI 7 88 Vx))
 |62=>some (erF (lI 2 32 zSp))
 |97=>some (erF (lI 6 80 zRc))
 |135=>some (erF (lI 1 16 [.str []]))
 |194=>some (erF (lI 1 1 [.int .u8 0]))
 |83=>some (qi 2 Qe)
 |81=>some (qi 2 (nq 2 82))
 |115=>some (qi 2 (nq 3 116))
 |145=>some (qi 3 JG)
 |f=>(bq f).map erF
theorem Bk:∀ f p,pT f=some p→V4 (cZ uF mT) f p:=by
 intro f p h;unfold pT at h;cases hc:ur f with
 |true=>
  rw[hc,cond_true,ai]at h;subst h;simp only[ur,Bool.or_eq_true,beq_iff_eq]at hc;rcases hc with((((rfl|rfl)|rfl)|rfl)|rfl)|rfl
  ·exact mI (w:=1) (bytes:=1) (zero:=[.int .u8 0]) rfl (by decide) (by decide) rfl
  ·exact mI (w:=7) (bytes:=88) (zero:=Vx) rfl (by decide) (by decide) rfl
  ·exact mI (w:=2) (bytes:=32) (zero:=zSp) rfl (by decide) (by decide) rfl
  ·exact mI (w:=6) (bytes:=80) (zero:=zRc) rfl (by decide) (by decide) rfl
  ·exact mI (w:=1) (bytes:=16) (zero:=[.str []]) rfl (by decide) (by decide) rfl
  ·exact mI (w:=1) (bytes:=1) (zero:=[.int .u8 0]) rfl (by decide) (by decide) rfl
 |false=>
  rw[hc,cond_false]at h;cases h83:f==83 with
  |true=>
   rw[h83,cond_true,ai]at h;subst h;have:f=83:=by simpa using h83
   subst this;exact qax rfl
  |false=>rw[h83]at h;cases h
theorem DG:∀ f fn,bq f=some fn→uF f=some ⟨fn.ntmps,fn.results,fn.body.er⟩:=by
 intro f fn h;unfold uF;split<;>first|(rw[h];rfl)|exact absurd h (by simp[bq])
theorem QI:kS uF mT bq Q0 pT:=
 ⟨DG,⟨fun f q h=>(by cases h),fun f q h=>(by cases h),fun f q h=>(by cases h)⟩,Bk⟩
theorem qhW:kS uF mT bq qT pT:=by
 refine⟨DG,⟨fun f q h=> ?_,fun f q h=> ?_,fun f q h=> ?_⟩,Bk⟩
 ·rw[qfc]at h;cases h1:f==81 with
  |true=>
   rw[h1,cond_true,ai]at h;subst h;have:f=81:=by simpa using h1
   subst this;exact DC rfl
  |false=>
   rw[h1,cond_false]at h;cases h2:f==115 with
   |true=>
    rw[h2,cond_true,ai]at h;subst h;have:f=115:=by simpa using h2
    subst this;exact DC rfl
   |false=>
    rw[h2,cond_false]at h;cases h3:f==191 with
    |true=>
     rw[h3,cond_true,ai]at h;subst h;have:f=191:=by simpa using h3
     subst this;exact qhI QI
    |false=>rw[h3]at h;cases h
 ·rw[Qi]at h;cases h1:f==145 with
  |true=>
   rw[h1,cond_true,ai]at h;subst h;have:f=145:=by simpa using h1
   subst this;exact WL rfl
  |false=>rw[h1]at h;cases h
 ·rw[qbs]at h;unfold GC at h;cases h1:f==66 with
  |true=>
   rw[h1,cond_true,ai]at h;subst h;have:f=66:=by simpa using h1
   subst this;exact qd5 QI
  |false=>
   rw[h1,cond_false]at h;cases h2:f==61 with
   |true=>
    rw[h2,cond_true,ai]at h;subst h;have:f=61:=by simpa using h2
    subst this;exact qd4 QI rfl
   |false=>rw[h2]at h;cases h
theorem qbc:qs Go.Proofs.Tryz.prog mT:=by
 intro t name f h;cases h
theorem mixed:zZ Go.Proofs.Tryz.prog:=by unfold zZ;kernel_rfl
end Go.RE
namespace Go.RE
open Go.Proofs
theorem qaA(W:World):IE Go.Proofs.Tryz.prog W uF:=by
 intro f fn h;unfold uF at h;split at h
 ·simp only[ai]at h;subst h;left;kernel_rfl
 ·simp only[ai]at h;subst h;left;kernel_rfl
 ·simp only[ai]at h;subst h;left;kernel_rfl
 ·simp only[ai]at h;subst h;left;kernel_rfl
 ·simp only[ai]at h;subst h;left;kernel_rfl
 ·simp only[ai]at h;subst h;left;kernel_rfl
 ·simp only[ai]at h;subst h;exact .inr ⟨2,Qe,rfl,JH ⟨_,_,Go.Proofs.Tryz.func83,rfl,rfl⟩ (fun a b w=>Any.strings_Compare Go.Proofs.Tryz.Ej a b w) W⟩
 ·simp only[ai]at h;subst h;exact .inr ⟨2,nq 2 82,rfl,uE (.inl rfl) ⟨_,_,Go.Proofs.Tryz.func81,rfl,rfl⟩ qbG H7 W⟩
 ·simp only[ai]at h;subst h;exact .inr ⟨2,nq 3 116,rfl,uE (.inr rfl) ⟨_,_,Go.Proofs.Tryz.func115,rfl,rfl⟩ Xj EE W⟩
 ·simp only[ai]at h;subst h;exact .inr ⟨3,JG,rfl,JI ⟨_,_,Go.Proofs.Tryz.func145,rfl,rfl⟩ WJ WM W⟩
 ·left;unfold bq at h;split at h<;>first|(simp only[Option.map_some,ai]at h;subst h;kernel_rfl)|(simp at h)
theorem ok_none:Ok ⟨([]:List Uo).length,fun i=>i,fN (fun i=>i) (fun _=>none) ([]:List Uo).length,fun _=>none,Em,fun i=>([]:List Uo)[i]? =some .gone,none,jh ([]:List Uo)⟩ (fun i=>i) (fun _=>none) (fun _=>none) ⟨[],[],0⟩ .e Em:=
 ⟨fun t u hu=>by simp[look]at hu,fun i o ho=>by simp at ho,(fun b r hb=>by cases hb),(fun g I hI=>by cases hI),fun n _=>by simp[Em,St.get],fun i j hi=>by simp at hi,(fun g g' I I' hI=>by cases hI),fun i g I hi=>by simp at hi,fun i hi=>by simp at hi,(fun g I hI=>by cases hI),fun i hi=>by simp at hi,⟨rfl,rfl⟩,(fun i off I hI=>by cases hI),aq _,fun i hi=>rfl,fun b r hb=>hb,aq _,fun b hb _=>⟨rfl,fun i hi=>by simp at hi,(fun g I hI=>by cases hI),fun r hr=>hr⟩,⟨fun i hi=>by simp at hi,fun i off cs h1=>by simp at h1⟩⟩
theorem qa2{W:World}{f:Nat}{us:List U}{vs:List V}{args:Array Value}{h' :List Uo}{fl' :Nat}(hrun:gF bq mT qT pT f us [] 0=some (.bool true,h',fl'))(hu:gW us vs)(hl:aU W s4 vs args.toList):
  Calls Go.Proofs.Tryz.prog f args W fun e W' =>e=.returned (.bool true)∧Kept W W' :=by
 obtain⟨N,hN⟩:=Pw (C:=uF) qhW f us [] 0 _ h' fl' hrun (fun i=>i) (fun _=>none) (fun _=>none) Em vs ok_none ⟨aq _,fun i o ho=>by simp at ho⟩ (fun _=>rfl) (hu _ _);have h2:bV uF mT N f vs Em fun v _=>v=.bool true:=ig (aq _) (fun v st' hh=>by
  obtain⟨_,σ',Z',ω',_,_,hr⟩:=hh;cases hr;rfl) hN
 refine(NR (qaA W) qbc mixed hl h2).mono fun e W' h=> ?_;obtain⟨⟨x,ρ',rfl,hx⟩,hk⟩:=h;cases hx;exact⟨rfl,hk⟩
end Go.RE
namespace Go.RE
def iJ(t:Tx)(l:List (By×By)):List (By×By):=l.filter fun p=>(fF nU p.1 t.ct).isNone
def om(s:cD)(l:List Wt):List (By×By):=(l.filter fun w=> !w.gone&&Pz s w.key).map fun w=>(w.key,w.data)
def L4(b:Bs)(t:Tx)(s:cD):List (By×By):=dR (fun p:By×By=>p.1) (iJ t (iU b.db s.1 s.2 t.began)++om s (qb t))
theorem qfJ{h:List Uo}{t p:Nat}{tx:Tx}(fl:Nat)(hf:fl≤h.length)(ht:h[t]? =some (.row (lC tx p)))(hp:jY nU h[p]? tx.ct)(s:cD)(L:List (By×By))(hL:L.length<small)(K:Ex→Vs→Prop)
  (hK:K .normal ⟨[(12,.ptr h.length 0),(13,.own (.t 13) 2 ((iJ tx L).map uB)),(10,.ptr t 0)],h++[.row (aP s)],fl⟩):∀ (j i:Nat) (out:List (By×By)),i+j=L.length→out++iJ tx (L.drop i)=iJ tx L→out.length≤i→
  gL bq mT qT pT v37 0 zR (h.length+1) ⟨[(51,.int .i64 (i:Int)),(13,.own (.t 13) 2 (out.map uB)),(10,.ptr t 0),(49,.own (.t 49) 2 (L.map uB)),(12,.ptr h.length 0),(50,.int .i64 (L.length:Int))],h++[.row (aP s)],fl⟩ K:=by
 have hlk:∀ (k:By) (e:Env) (x:List Uo),fG ⟨e,h++x,fl⟩ .str (.agg [.str [],.bool false,.sl 1 []]) true (.map p) (.str k)=some (match fF nU k tx.ct with|some w=> .aX [.agg (eO w),.bool true]|none=> .aX [.agg [.str [],.bool false,.sl 1 []],.bool false]):=fun k e x=>by
  have hm:jY nU (h++x)[p]? tx.ct:=by rw[cw hp.lt];exact hp
  have:=nc nU (s:=⟨e,h++x,fl⟩) (m:=p) hm (.agg [.str [],.bool false,.sl 1 []]) k true;refine this.trans ?_;cases fF nU k tx.ct<;>rfl
 have hz:V.EL (.agg [.str [],.bool false,.ag [] 0 0 1])=some (.agg [.str [],.bool false,.sl 1 []]):=rfl;have hd:decide (t<h.length+1)=true:=decide_eq_true (by have:=(bn.1 ht).1;omega);simp only[lC]at ht;intro j
 induction j with
 |zero=>
  intro i out hij ho hl;obtain⟨h1,h2⟩:=nB hij;rw[h2]at ho;have:out=iJ tx L:=by rw[←ho];simp[iJ]
  subst this;rw[ak zR.eq_1];simp[FZ,h1,hd,kV hf];exact hK
 |succ j ih=>
  intro i out hij ho hl;obtain⟨h1,e3,q,d1,g1⟩:=ql hij hL;have e1:=g1 uB;have hi:i<L.length:=by omega
  have ia:∀ s',qf s' 2 (some (.own (.t 49) 2 (L.map uB))) (some (.int .i64 (i:Int)))=some (.bD (.t 49) i 0,s'):=fun s' =>cz (by simpa using hi);have e2:∀ hh:i<L.length,L[i]=q:=fun hh=>by
   have:=XF hh;rw[d1]at this;exact(List.cons.inj this).1.symm
  have hlen:(L.map uB).length=L.length:=by simp
  rw[d1]at ho;simp only[uB]at e1;have hq:=hlk q.1;have b1:(out.length+1)*40≤aZ∧out.length+1≤aZ:=by unfold small at hL;unfold aZ;omega
  have e7:∀ hh:i<(L.map uB).length,(L.map uB)[i]=[.str q.1,.sl 1 (bQ q.2)]:=fun hh=>by rw[bL hh]at e1;exact Option.some.inj e1
  generalize hX:L.map uB=X at*;rw[ak zR.eq_1];cases hw:fF nU q.1 tx.ct with
  |none=>
   rw[hw]at hq;simp only at hq;have hk:iJ tx (q::L.drop (i+1))=q::iJ tx (L.drop (i+1)):=by simp[iJ,hw]
   rw[hk]at ho;have ih' :=ih (i+1) (out++[q]) (by omega) (by simpa using ho) (by simp;omega);simp[uB]at ih';simp[FZ,KX,au M1,zQ,KY,KZ,K0,h1,ia,e1,e7,e3,hlen,hi,aT ht,hq,hz,hd,kV hf,Aq hf,b1,cT];simpa using ih'
  |some w=>
   rw[hw]at hq;simp only[eO]at hq;have hk:iJ tx (q::L.drop (i+1))=iJ tx (L.drop (i+1)):=by simp[iJ,hw]
   rw[hk]at ho;have ih' :=ih (i+1) out (by omega) ho (by omega);simp[FZ,KX,au M1,zQ,KY,KZ,K0,h1,ia,e1,e7,e3,hlen,hi,aT ht,hq,hz,hd,kV hf,Aq hf,b1,cT];simpa using ih'
theorem qfK{h:List Uo}(fl:Nat)(hf:fl≤h.length)(s:cD)(L:List Wt)(hL:L.length<small)(hok:∀ w∈L,ow w)(K:Ex→Vs→Prop)(out0:List (By×By))(ho0:out0.length<small)
  (hK:K .normal ⟨[(13,.own (.t 13) 2 ((out0++om s L).map uB))],h++[.row (aP s)],fl⟩):∀ (j i:Nat) (out:List (By×By)),i+j=L.length→out++om s (L.drop i)=out0++om s L→out.length≤out0.length+i→
  gL bq mT qT pT v37 2 vE (h.length+1) ⟨[(75,.int .i64 (i:Int)),(12,.ptr h.length 0),(73,.own (.t 73) 3 (L.map eO)),(13,.own (.t 13) 2 (out.map uB)),(74,.int .i64 (L.length:Int))],h++[.row (aP s)],fl⟩ K:=by
 intro j
 induction j with
 |zero=>
  intro i out hij ho hl;obtain⟨h1,h2⟩:=nB hij;rw[h2]at ho;have:out=out0++om s L:=by rw[←ho];simp[om]
  subst this;rw[ak vE.eq_1];simp[B4,h1,kV hf]at hK⊢;exact hK
 |succ j ih=>
  intro i out hij ho hl;obtain⟨h1,e3,w,d1,g1⟩:=ql hij hL;have e1:=g1 eO;have hi:i<L.length:=by omega
  have hw:ow w:=hok w (List.mem_of_mem_drop (i:=i) (by rw[d1];exact eU));have ia:∀ s',qf s' 3 (some (.own (.t 73) 3 (L.map eO))) (some (.int .i64 (i:Int)))=some (.bD (.t 73) i 0,s'):=fun s' =>cz (by simpa using hi);have hlen:(L.map eO).length=L.length:=by simp
  rw[d1]at ho;simp only[eO]at e1;have b1:(out.length+1)*40≤aZ∧out.length+1≤aZ:=by unfold small at hL ho0;unfold aZ;omega
  have e7:∀ hh:i<(L.map eO).length,(L.map eO)[i]=[.str w.key,.bool w.gone,.sl 1 (bQ w.data)]:=fun hh=>by rw[bL hh]at e1;exact Option.some.inj e1
  have c1:=t80 s w.key;have c2:=gQ (f:=58) rfl (w:=1) (xs:=bQ w.data) [] 0 (by rw[j0];exact hw.2) (by simp);generalize hX:L.map eO=X at*;simp only[aP]at c1;rw[ak vE.eq_1];have skip:(!w.gone&&Pz s w.key)=false→out++om s (L.drop (i+1))=out0++om s L:=fun hh=>by
   have:om s (w::L.drop (i+1))=om s (L.drop (i+1)):=by simp[om,List.filter_cons,hh]
   rw[this]at ho;exact ho
  cases hg:w.gone with
  |true=>
   rw[hg]at e1 e7;have ih' :=ih (i+1) out (by omega) (skip (by rw[hg];rfl)) (by omega);simp only[aP]at ih';simp[B4,F0,F9,Gb,aP,h1,ia,e1,e7,e3,hlen,hi,kV hf];simpa using ih'
  |false=>
   rw[hg]at e1 e7;cases hh:Pz s w.key with
   |false=>
    rw[hh]at c1;have ih' :=ih (i+1) out (by omega) (skip (by rw[hg,hh];rfl)) (by omega);simp only[aP]at ih';simp[B4,F0,F9,Gb,aP,h1,ia,e1,e7,e3,hlen,hi,c1,kV hf];simpa using ih'
   |true=>
    rw[hh]at c1;have hk:om s (w::L.drop (i+1))=(w.key,w.data)::om s (L.drop (i+1)):=by simp[om,List.filter_cons,hg,hh]
    rw[hk]at ho;have ih' :=ih (i+1) (out++[(w.key,w.data)]) (by omega) (by simpa using ho) (by simp;omega);simp[uB,aP]at ih';simp[B4,F0,F9,au Xz,Ga,Gb,aP,h1,ia,e1,e7,e3,hlen,hi,c1,c2,b1,kV hf,Aq hf,cT];simpa using ih'
theorem tI(d:Db)(hi:By)(t:Nat):∀ ks:List By,((yq d hi t ks).map (·.1)).Sublist ks
 |[]=> .slnil
 |k::r=>by
  unfold yq;cases !hi.isEmpty&& !lt k hi with
  |true=>exact List.nil_sublist _
  |false=>
   rw[cond_false];cases pF (chain d k) t with
   |none=>exact(tI d hi t r).cons k
   |some b=>exact(tI d hi t r).cons_cons k
theorem Bd(d:Db)(lo hi:By)(t:Nat):((iU d lo hi t).map (·.1)).Sublist d.keys:=(tI d hi t _).trans (List.drop_sublist _ _)
theorem jY.keys{α κ:Type}[DecidableEq κ]{F:Mk α κ}{o:Option Uo}{l:List α}(h:jY F o l):(l.map F.key).Nodup:=by
 obtain⟨lc,c,rfl,_,hc⟩:=h;have:=hc.keys;rw[List.map_map];exact this
theorem HW{b:Bs}{t:Tx}{s:cD}(hn:b.db.keys.Nodup)(hp:(t.ct.map Wt.key).Nodup):((iJ t (iU b.db s.1 s.2 t.began)++om s (qb t)).map (fun p:By×By=>p.1)).Nodup:=by
 have h1:((iJ t (iU b.db s.1 s.2 t.began)).map (·.1)).Nodup:=List.Nodup.sublist ((List.filter_sublist.map _).trans (Bd _ _ _ _)) hn;have hw:((qb t).map Wt.key).Nodup:=((lz Wt.key t.ct).map _).nodup_iff.2 hp;have h2:((om s (qb t)).map (·.1)).Nodup:=by
  unfold om;rw[List.map_map];exact List.Nodup.sublist (List.filter_sublist.map _) hw
 rw[List.map_append];refine List.nodup_append.2 ⟨h1,h2,fun a ha c hc=> ?_⟩;intro he;subst he;obtain⟨p,hp1,rfl⟩:=eR.1 ha;have hk:=(List.mem_filter.1 hp1).2;obtain⟨q,hq,he⟩:=eR.1 hc;unfold om at hq;obtain⟨w,hw1,rfl⟩:=eR.1 hq;have hwm:w∈t.ct:=(lz Wt.key t.ct).subset (List.mem_filter.1 hw1).1;simp only at he;have:fF nU p.1 t.ct≠none:=by
  intro hh;have:=List.find?_eq_none.1 hh w hwm;exact this (by show decide (w.key=p.1)=true;exact decide_eq_true he)
 cases hl:fF nU p.1 t.ct with
 |none=>exact this hl
 |some x=>rw[hl]at hk;cases hk
def jO(b:Bs)(id:Int)(s:cD):(U×Bs):=match gz b id with
 |none=>(.aX [.sl 2 [],.int .i64 4],b)
 |some t=>bif dG s then(.aX [.sl 2 ((L4 b t s).map uB),.int .i64 0],aK b (eo b t s))else(.aX [.sl 2 [],.int .i64 1],b)
theorem t37{h:List Uo}{i s m o:Nat}{lv:List Lv}{b:Bs}{rc dn ks:U}(fl:Nat)(hf:fl≤h.length)(hb:dw h i s m o lv b rc dn ks)(hks:n9 ks b.db.keys){n:Nat}(hk:qae b n)(id:Int)(lo hi:By):
  ∃ h' lv',G 37 [.ptr i 0,.int .i64 id,.str lo,.str hi] h fl=some ((jO b id (lo,hi)).1,h',fl)∧dw h' i s m o lv' (jO b id (lo,hi)).2 rc dn ks∧Fr h h' (bZ i s m o lv)∧bZ i s m o lv' =bZ i s m o lv:=by
 have hl:decide (i<h.length)=true:=decide_eq_true (bn.1 hb.row).1;have c1:=t56 fl hf hb id;unfold jO;rw[hb.find];cases hlv:fF k8 id lv with
 |none=>
  rw[hlv]at c1;simp only[j7]at c1;refine⟨h,lv,?_,hb,Fr.refl h _,rfl⟩;refine bJ (fn:=v37) rfl rfl rfl ?_;simp[rm,MZ,M0,M3,Y5,c1,hl,aR hf]
 |some l=>
  rw[hlv]at c1;simp only[j7]at c1;have hlm:=kQ k8 hlv;obtain⟨x1,x2⟩:=hb.tx l hlm;have hlt:=(bn.1 x1).1;have hlt' :decide (l.t<h.length)=true:=decide_eq_true hlt;have c2:=t78 (lo,hi);simp only[aP]at c2;simp only[Option.map_some];cases hr:dG (lo,hi)with
  |false=>
   rw[hr]at c2;refine⟨h,lv,?_,hb,Fr.refl h _,rfl⟩;refine bJ (fn:=v37) rfl rfl rfl ?_;simp[rm,MZ,M0,M3,UB,UC,Y6,c1,c2,hl,hlt',aR hf,th hf]
  |true=>
   rw[hr]at c2;have hml:=hk.marks l.tx (hb.mem hlm);have hpl:=hk.ct l.tx (hb.mem hlm);have hmarks:l.tx.marks.length<small / 8:=by unfold small at*;omega
   have hnx:∀ X:Uo,Fr h (h.set l.t X) (bZ i s m o lv):=fun X=>(Fr.refl h _).set (by unfold bZ;simp only[dM,List.mem_flatMap];right;right;right;right;exact⟨l,hlm,by simp⟩) X;have htp:=(hb.ne.2.2.2.2.2.2.1 l hlm).tp;have hbu:dw (h.set l.t (.row (lC (eo b l.tx (lo,hi)) l.p))) i s m o (yL (eo b l.tx (lo,hi)) lv) (aK b (eo b l.tx (lo,hi))) rc dn ks:=
    hb.fB hlm (eo b l.tx (lo,hi)) rfl _ (fun j hj _=>List.getElem?_set_ne (Ne.symm hj)) (List.getElem?_set_self hlt) (by rw[List.getElem?_set_ne htp];exact x2)
   refine⟨_,_,?_,hbu,hnx _,mQ _ _ _ _ _ _⟩;refine bJ (fn:=v37) rfl rfl rfl ?_;have hset:∀ X x,(h++x).set l.t X=h.set l.t X++x:=fun X x=>List.set_append_left _ _ hlt;have c3:=t75 (h:=h++[.row (aP (lo,hi))]) fl (by simp;omega) (aT hb.row) (aT x1) hmarks hk.lim.1 (lo,hi);rw[hset]at c3;have c4:=t64 (h:=h.set l.t (.row (lC (eo b l.tx (lo,hi)) l.p))++[.row (aP (lo,hi))]) fl (by simp;omega) hbu.st.app hks hk.db lo hi l.tx.began;have hx1' :(h.set l.t (.row (lC (eo b l.tx (lo,hi)) l.p)))[l.t]? =some (.row (lC (eo b l.tx (lo,hi)) l.p)):=List.getElem?_set_self hlt;have hx2' :jY nU (h.set l.t (.row (lC (eo b l.tx (lo,hi)) l.p)))[l.p]? (eo b l.tx (lo,hi)).ct:=by rw[List.getElem?_set_ne htp];exact x2
   have c5:=t79 (h:=h.set l.t (.row (lC (eo b l.tx (lo,hi)) l.p))++[.row (aP (lo,hi))]) fl (by simp;omega) (aT hx1') (by rw[cw hx2'.lt];exact hx2') (by show l.tx.ct.length<small;unfold small at*;omega);have hr2:∀ x,(h.set l.t (.row (lC (eo b l.tx (lo,hi)) l.p))++x)[i]? =some (.row (dc b s m rc dn)):=fun x=>aT hbu.row;have ht2' :∀ x,(h.set l.t (.row (lC (eo b l.tx (lo,hi)) l.p))++x)[l.t]? =some (.row [.int .i64 l.tx.id,.int .u64 l.tx.began,.int .i64 l.tx.start,.sl 2 ((eo b l.tx (lo,hi)).marks.map aP),.map l.p]):=fun x=>aT hx1';have hl1:decide (i<h.length+1)=true:=decide_eq_true (by have:=of_decide_eq_true hl;omega);have hlt1:decide (l.t<h.length+1)=true:=decide_eq_true (by omega);have hlenX:∀ X:Uo,(h.set l.t X).length=h.length:=fun X=>by simp
   have hcut:∀ (X:Uo) (x:List Uo),cut h.length fl (h.set l.t X++x)=h.set l.t X:=fun X x=>by
    have:=gh (fl:=fl) (h:=h.set l.t X) (l:=x) (by simpa using hf);simpa using this
   have hcut1:∀ (X a:Uo) (x:List Uo),cut (h.length+1) fl (h.set l.t X++a::x)=h.set l.t X++[a]:=fun X a x=>by
    have:=kV (fl:=fl) (h:=h.set l.t X) (by simpa using hf) a x;simpa using this
   have hkk:=Bd b.db lo hi l.tx.began;have hSL:(iU b.db lo hi l.tx.began).length<small:=by have:=hkk.length_le;have:=hk.db.keys;simp at*;omega
   have hwok:∀ w∈qb l.tx,ow w:=fun w hw=>hk.wt l.tx (hb.mem hlm) w ((lz Wt.key l.tx.ct).subset hw);have hwl:(qb l.tx).length<small:=by unfold qb;rw[kJ];unfold small at*;omega
   have hkl:(iJ l.tx (iU b.db lo hi l.tx.began)).length<small:=by
    have:(iJ l.tx (iU b.db lo hi l.tx.began)).length≤_:=List.length_filter_le _ _;omega
   have hq:oq 2 82 ((iJ l.tx (iU b.db lo hi l.tx.began)++om (lo,hi) (qb l.tx)).map uB) [.func 82 [] []]=some ((L4 b l.tx (lo,hi)).map uB):=
    DB (fun p:By×By=>p.1) uB (fun _=>rfl) 2 82 (fun _=>rfl) _ (HW (s:=(lo,hi)) hk.ID x2.keys) (by
     rw[lG];have h1:(om (lo,hi) (qb l.tx)).length≤(qb l.tx).length:=by unfold om;rw[List.length_map];exact List.length_filter_le _ _
     have h2:(qb l.tx).length=l.tx.ct.length:=by unfold qb;rw[kJ]
     have h3:(iJ l.tx (iU b.db lo hi l.tx.began)).length≤(iU b.db lo hi l.tx.began).length:=List.length_filter_le _ _;have h4:=hkk.length_le;have h5:=hk.kl;simp at h4;unfold small at*;omega)
   have hkp:iJ (eo b l.tx (lo,hi)) (iU b.db lo hi l.tx.began)=iJ l.tx (iU b.db lo hi l.tx.began):=rfl;have hwp:qb (eo b l.tx (lo,hi))=qb l.tx:=rfl;rw[hwp]at c5;simp only[List.map_append]at hq;generalize hY:Uo.row (lC (eo b l.tx (lo,hi)) l.p)=Y at*;have hx1'' :(h.set l.t Y)[l.t]? =some (.row (lC (eo b l.tx (lo,hi)) l.p)):=by rw[hY];exact hx1'
   have hHl:(h.set l.t Y).length=h.length:=by simp
   have aB:=qfK (h:=h.set l.t Y) fl (by simpa using hf) (lo,hi) (qb l.tx) hwl hwok (gy bq mT qT pT v37 (.seq (.region Gc) (.seq (.region Gd) .ret)) (kE h.length v37 (.aX [.sl 2 ((L4 b l.tx (lo,hi)).map uB),.int .i64 0],h.set l.t Y,fl))) (iJ l.tx (iU b.db lo hi l.tx.began)) hkl (by
    simp[Gc,Gd,hq,hcut]) (qb l.tx).length 0 (iJ l.tx (iU b.db lo hi l.tx.began)) (by omega) (by simp) (by omega)
   have aA:=qfJ (h:=h.set l.t Y) fl (by simpa using hf) hx1'' hx2' (lo,hi) (iU b.db lo hi l.tx.began) hSL (gy bq mT qT pT v37 (.seq (.seq (.region K2) (.block 2 (.loop vE))) (.seq (.region Gc) (.seq (.region Gd) .ret))) (kE h.length v37 (.aX [.sl 2 ((L4 b l.tx (lo,hi)).map uB),.int .i64 0],h.set l.t Y,fl))) (by
    rw[hHl]at aB⊢;rw[hkp];simp at aB;simp[K2,c5,hlt1,hcut1];exact aB) (iU b.db lo hi l.tx.began).length 0 [] (by omega) (by simp) (by simp)
   rw[hHl]at aA;simp at aA;simp only[aK]at c4;simp only[aP,dc]at c2 c3 c4 hr2;simp[rm,MZ,M0,M3,UB,UC,Y7,Y8,au qcx,UD,c1,c2,c3,c4,hl,hl1,hlt',hlt1,hr2,ht2',hcut1,cT];simpa[aP]using aA
end Go.RE
namespace Go.RE
def Qg(t:Tx)(w:Wt):Tx:={t with ct:=lu nU w t.ct}
def dY(b:Bs)(id:Int)(w:Wt):Nat×Bs:=match gz b id with
 |none=>(4,b)
 |some t=>bif fL none w==0 then(0,aK b (Qg t w))else(fL none w,b)
theorem t18{h:List Uo}{i s m o:Nat}{lv:List Lv}{b:Bs}{rc dn ks:U}(fl:Nat)(hf:fl≤h.length)(hb:dw h i s m o lv b rc dn ks)(id:Int)(w:Wt)(hw:ow w):
  ∃ h' lv',G 18 [.ptr i 0,.int .i64 id,.agg (eO w)] h fl=some (.int .i64 ((dY b id w).1:Nat),h',fl)∧dw h' i s m o lv' (dY b id w).2 rc dn ks∧Fr h h' (bZ i s m o lv)∧bZ i s m o lv' =bZ i s m o lv:=by
 have hl:decide (i<h.length)=true:=decide_eq_true (bn.1 hb.row).1;have hl1:decide (i<h.length+1)=true:=decide_eq_true (by have:=of_decide_eq_true hl;omega);have c1:=t56 (h:=h++[.row (eO w)]) fl (by simp;omega) (i:=i) (s:=s) (m:=m) (o:=o) (lv:=lv) (b:=b) (rc:=rc) (dn:=dn) (ks:=ks) ⟨aT hb.row,hb.st.app,by rw[cw hb.map.lt];exact hb.map,hb.Oi,fun l hlm=>⟨aT (hb.tx l hlm).1,by rw[cw (hb.tx l hlm).2.lt];exact(hb.tx l hlm).2⟩,hb.nd⟩ id;unfold dY;rw[hb.find];cases hlv:fF k8 id lv with
 |none=>
  rw[hlv]at c1;simp only[j7,eO]at c1;refine⟨h,lv,?_,hb,Fr.refl h _,rfl⟩;refine bJ (fn:=v18) rfl rfl rfl ?_;simp[qZ,Mw,Mx,My,YA,eO,c1,hl1,th hf]
 |some l=>
  rw[hlv]at c1;simp only[j7]at c1;have hlm:=kQ k8 hlv;obtain⟨x1,x2⟩:=hb.tx l hlm;have hlt:=(bn.1 x1).1;have hlt1:decide (l.t<h.length+1)=true:=decide_eq_true (by omega);have c2:=t57 [w] (by simp[small]) (fun x hx=>by simp at hx;subst hx;exact hw);have hck:eF none [w]=fL none w:=by
   simp only[eF];cases hc:fL none w==0 with
   |true=>rw[cond_true];exact(by simpa using hc:fL none w=0).symm
   |false=>rfl
  rw[hck]at c2;simp only[Option.map_some];simp only[List.map_cons,List.map_nil]at c2;cases hc:fL none w==0 with
  |false=>
   have hc' :¬(fL none w=0):=by simpa using hc
   have hci:(((fL none w:Nat):Int) !=0)=true:=by simp;omega
   refine⟨h,lv,?_,hb,Fr.refl h _,rfl⟩;refine bJ (fn:=v18) rfl rfl rfl ?_;simp only[eO]at c1 c2;simp[qZ,Mw,Mx,My,Ti,Tj,YB,eO,c1,c2,hl1,hlt1,hci,hc',th hf]
  |true=>
   have hc' :fL none w=0:=by simpa using hc
   rw[hc']at c2;obtain⟨o',m1,m2⟩:=map_set nU x2 w;have hpl:=x2.lt;have hmu:∀ e x,VV .str l.p (.str w.key) (.agg (eO w)) ⟨e,h++x,fl⟩ (h++x)[l.p]? =some (.aX [],⟨e,h.set l.p o'++x,fl⟩):=fun e x=>by
    have:=m2 l.p ⟨e,h++x,fl⟩;rw[cw hpl,←List.set_append_left _ _ hpl];exact this
   have htp:=(hb.ne.2.2.2.2.2.2.1 l hlm).tp;have hbu:dw (h.set l.p o') i s m o (yL (Qg l.tx w) lv) (aK b (Qg l.tx w)) rc dn ks:=
    hb.fB hlm (Qg l.tx w) rfl _ (fun j _ hj=>List.getElem?_set_ne (Ne.symm hj)) (by rw[List.getElem?_set_ne (Ne.symm htp)];exact x1) (by rw[List.getElem?_set_self hpl];exact m1)
   refine⟨_,_,?_,hbu,(Fr.refl h _).set (by unfold bZ;simp only[dM,List.mem_flatMap];right;right;right;right;exact⟨l,hlm,by simp⟩) o',mQ _ _ _ _ _ _⟩;refine bJ (fn:=v18) rfl rfl rfl ?_;have c3:=gQ (f:=58) rfl (w:=1) (xs:=bQ w.data) [] 0 (by rw[j0];exact hw.2) (by simp);have hcut:∀ (X:Uo) (x:List Uo),cut h.length fl (h.set l.p X++x)=h.set l.p X:=fun X x=>by
    have:=gh (fl:=fl) (h:=h.set l.p X) (l:=x) (by simpa using hf);simpa using this
   simp only[lC]at x1;simp only[eO]at c1 c2 hmu;simp[qZ,Mw,Mx,My,Ti,Tj,YC,au qcs,Ky,YE,eO,c1,c2,c3,hl1,hlt1,aT x1,hmu,hcut,th hf,cT]
def bN(b:Bs):Nat×Nat×Bs:=
 bif decide (b.db.lim.live≤b.live.length)then(0,5,b)
 else(b.last+1,0,{b with last:=b.last+1,event:=b.event+1,live:=b.live++[⟨b.last+1,b.db.now,b.event+1,[],[]⟩]})
def Gr(h h' :List Uo)(l l' :List Nat):Prop:=h.length≤h'.length∧(∀ j,j<h.length→j ∉ l→h'[j]? =h[j]?)∧∀ j∈l',j∈l∨h.length≤j
theorem Fr.gr{h h' :List Uo}{l:List Nat}(hf:Fr h h' l):Gr h h' l l:=⟨by rw[hf.1];exact aq _,fun j _ hj=>hf.2 j hj,fun j hj=> .inl hj⟩
theorem t17{h:List Uo}{i s m o:Nat}{lv:List Lv}{b:Bs}{rc dn ks:U}(fl:Nat)(hf:fl≤h.length)(hb:dw h i s m o lv b rc dn ks)(hids:∀ t∈b.live,t.id≤b.last)(hls:b.last<small)(hev:b.event<small)(hli:b.db.lim.live<small):
  ∃ h' lv' fl',G 17 [.ptr i 0] h fl=some (.aX [.int .i64 ((bN b).1:Nat),.int .i64 ((bN b).2.1:Nat)],h',fl')∧dw h' i s m o lv' (bN b).2.2 rc dn ks∧Gr h h' (bZ i s m o lv) (bZ i s m o lv')∧fl≤fl'∧fl'≤h'.length∧((fl' =fl∧lv' =lv∧h'.length=h.length)∨fl' =h'.length):=by
 have hlt:=(bn.1 hb.row).1;have hl:decide (i<h.length)=true:=decide_eq_true hlt;have c1:=t54 fl hf hb.row;have hr:=hb.row;obtain⟨n1,n2,n3,n4,n5,n6,n7,n8⟩:=hb.ne;have hml:=hb.map.lt;obtain⟨hsl,hol⟩:=hb.st.lt;have hll:lv.length=b.live.length:=by rw[←hb.Oi];simp
 unfold bN;have hlen:∀ (e:Env),CI ⟨e,h,fl⟩ 2 (.map m)=some (.int .i64 (b.live.length:Int),⟨e,h,fl⟩):=fun e=>by rw[←hll];unfold CI;rw[WU k8 (s:=⟨e,h,fl⟩) (m:=m) hb.map];rfl
 cases hfull:decide (b.db.lim.live≤b.live.length)with
 |true=>
  refine⟨h,lv,fl,?_,hb,(Fr.refl h _).gr,aq _,hf,.inl ⟨rfl,rfl,rfl⟩⟩;refine bJ (fn:=v17) rfl rfl rfl ?_;simp only[dc]at hr;simp[u6,S0,S1,au S2,Fj,Yv,c1,hl,hr,hlen,hfull,aR hf,cT]
 |false=>
  have hno:∀ l∈lv,l.tx.id≠b.last+1:=fun l hlm hh=>by have:=hids l.tx (hb.mem hlm);omega
  have hlk0:fF k8 ((b.last+1:Nat):Int) lv=none:=by
   refine List.find?_eq_none.2 fun l hlm=> ?_;have:=hno l hlm;simp only[decide_eq_true_eq];show ¬((l.tx.id:Int)=((b.last+1:Nat):Int));omega
  have hset0:lu k8 (⟨⟨b.last+1,b.db.now,b.event+1,[],[]⟩,h.length+1,h.length⟩:Lv) lv=lv++[⟨⟨b.last+1,b.db.now,b.event+1,[],[]⟩,h.length+1,h.length⟩]:=by
   unfold lu;have:fF k8 (k8.key (⟨⟨b.last+1,b.db.now,b.event+1,[],[]⟩,h.length+1,h.length⟩:Lv)) lv=none:=hlk0;rw[this];rfl
  obtain⟨o',m1,m2⟩:=map_set k8 hb.map (⟨⟨b.last+1,b.db.now,b.event+1,[],[]⟩,h.length+1,h.length⟩:Lv);rw[hset0]at m1;have hmu:∀ e X x,VV .int m (.int .i64 ((b.last:Int)+1)) (.ptr (h.length+1) 0) ⟨e,h.set i X++x,fl⟩ (h.set i X++x)[m]? =some (.aX [],⟨e,(h.set i X).set m o'++x,(h.set i X++x).length⟩):=fun e X x=>by
   have:=m2 m ⟨e,h.set i X++x,fl⟩;have e2:(h.set i X).set m o'++x=(h.set i X++x).set m o' :=(List.set_append_left _ _ (by simpa using hml)).symm;have e3:(k8.val (⟨⟨b.last+1,b.db.now,b.event+1,[],[]⟩,h.length+1,h.length⟩:Lv)).low (m+1)=false:=by
    show Nat.blt (h.length+1) (m+1)=false;cases hq:Nat.blt (h.length+1) (m+1)with
    |false=>rfl
    |true=>have:=gb hq;omega
   rw[e3]at this;rw[cw (by simpa using hml),e2,List.getElem?_set_ne n2];exact this
  generalize hB:({b with last:=b.last+1,event:=b.event+1,live:=b.live++[⟨b.last+1,b.db.now,b.event+1,[],[]⟩]}:Bs)=B;have hrow:dc B s m rc dn=[.int .i64 b.db.lim.keys,.int .i64 b.db.lim.gA,.int .i64 b.db.lim.bytes,.int .i64 b.db.lim.marks,.int .i64 b.db.lim.records,.int .i64 b.db.lim.live,.int .u64 b.db.lim.last,.ptr s 0,.map m,rc,dn,.int .i64 ((b.last+1:Nat):Int),.int .i64 ((b.event+1:Nat):Int)]:=by rw[←hB];rfl
  have hH:dw ((h.set i (.row (dc B s m rc dn))).set m o'++[.map [] 0,.row [.int .i64 ((b.last+1:Nat):Int),.int .u64 (b.db.now:Int),.int .i64 ((b.event+1:Nat):Int),.sl 2 [],.map h.length]]) i s m o (lv++[⟨⟨b.last+1,b.db.now,b.event+1,[],[]⟩,h.length+1,h.length⟩]) B rc dn ks:=by
   have hle:((h.set i (.row (dc B s m rc dn))).set m o').length=h.length:=by simp
   have hdb:B.db=b.db:=by rw[←hB]
   have hold:∀ j,j<h.length→j≠i→j≠m→∀ x,((h.set i (.row (dc B s m rc dn))).set m o'++x)[j]? =h[j]? :=fun j hj a1 a2 x=>by
    rw[cw (by omega),List.getElem?_set_ne (Ne.symm a2),List.getElem?_set_ne (Ne.symm a1)]
   refine⟨?_,?_,?_,?_,fun l hlm=> ?_,?_⟩
   ·rw[cw (by omega),List.getElem?_set_ne (Ne.symm n2)];exact List.getElem?_set_self hlt
   ·rw[hdb];exact hb.st.same (hold s hsl (Ne.symm n1) n4 _) (hold o hol (Ne.symm n3) (Ne.symm n6) _)
   ·rw[cw (by omega),List.getElem?_set_self (by simpa using hml)];exact m1
   ·rw[←hB,List.map_append,hb.Oi];rfl
   ·rcases gd.1 hlm with hlm|hlm
    ·have f:=n7 l hlm;obtain⟨x1,x2⟩:=hb.tx l hlm;rw[hold l.t (bn.1 x1).1 f.ti f.tm,hold l.p x2.lt f.pi f.pm];exact⟨x1,x2⟩
    ·simp only[dM,List.not_mem_nil,or_false]at hlm;subst hlm;refine⟨?_,?_⟩
     ·have:=at1 ((h.set i (.row (dc B s m rc dn))).set m o') [] (.map [] 0) (.row [.int .i64 ((b.last+1:Nat):Int),.int .u64 (b.db.now:Int),.int .i64 ((b.event+1:Nat):Int),.sl 2 [],.map h.length]);rw[hle]at this;exact this
     ·have:=OG ((h.set i (.row (dc B s m rc dn))).set m o') [.row [.int .i64 ((b.last+1:Nat):Int),.int .u64 (b.db.now:Int),.int .i64 ((b.event+1:Nat):Int),.sl 2 [],.map h.length]] (.map [] 0);rw[hle]at this;show jY nU (((h.set i (.row (dc B s m rc dn))).set m o')++_)[h.length]? [];rw[this];exact uu nU
   ·have hlv:∀ l∈lv,l.t<h.length∧l.p<h.length:=fun l hlm=>⟨(bn.1 (hb.tx l hlm).1).1,(hb.tx l hlm).2.lt⟩;have hfl:∀ j∈bZ i s m o lv,j<h.length:=by
     intro j hj;unfold bZ at hj;simp only[dM,List.mem_flatMap,List.not_mem_nil,or_false]at hj;rcases hj with rfl|rfl|rfl|rfl|⟨l,hlm,rfl|rfl⟩
     ·exact hlt
     ·exact hsl
     ·exact hml
     ·exact hol
     ·exact(hlv l hlm).1
     ·exact(hlv l hlm).2
    have:bZ i s m o (lv++[⟨⟨b.last+1,b.db.now,b.event+1,[],[]⟩,h.length+1,h.length⟩])=bZ i s m o lv++[h.length+1,h.length]:=by unfold bZ;simp
    rw[this];refine List.nodup_append.2 ⟨hb.nd,by simp,fun a ha c hc=> ?_⟩;have:=hfl a ha;simp at hc;omega
  refine⟨_,_,h.length+2,?_,hH,⟨by simp,fun j hj hn=> ?_,fun j hj=> ?_⟩,by omega,by simp,.inr (by simp)⟩
  ·refine bJ (fn:=v17) rfl rfl rfl ?_;have w1:aI .i64 ((b.last:Int)+1)=((b.last+1:Nat):Int):=eY (by unfold small at hls;omega);have w2:aI .i64 ((b.event:Int)+1)=((b.event+1:Nat):Int):=eY (by unfold small at hev;omega);have hss:∀ X:Uo,(h.set i X)[i]? =some X:=fun X=>List.getElem?_set_self hlt;have hat:∀ X x,(h.set i X++x)[i]? =some X:=fun X x=>aT (hss X);have c2:∀ X x,G 55 [.ptr s 0] (h.set i X++x) fl=some (.int .u64 (b.db.now:Int),h.set i X++x,fl):=fun X x=>t55 (o:=o) (ks:=ks) fl (by simp;omega) (aT (by rw[List.getElem?_set_ne n1];exact hb.st.row));have hHi:∀ X x,((h.set i X).set m o'++x)[i]? =some X:=fun X x=>by
    rw[cw (by simpa using hlt),List.getElem?_set_ne (Ne.symm n2)];exact hss X
   simp only[dc]at hr;simp only[Int.natCast_add]at w1 w2;rw[hrow];simp[u6,S0,S1,au S2,Fj,Yw,Yx,au qcr,S3,Yz,c1,c2,hl,hr,hlen,hfull,w1,w2,hss,hat,hmu,hHi,cT];unfold cut;exact jU (by simp)
  ·have hjm:j≠m:=fun hh=>hn (by subst hh;unfold bZ;simp);have hji:j≠i:=fun hh=>hn (by subst hh;unfold bZ;simp);rw[cw (by simpa using hj),List.getElem?_set_ne (Ne.symm hjm),List.getElem?_set_ne (Ne.symm hji)]
  ·have:bZ i s m o (lv++[⟨⟨b.last+1,b.db.now,b.event+1,[],[]⟩,h.length+1,h.length⟩])=bZ i s m o lv++[h.length+1,h.length]:=by unfold bZ;simp
   rw[this]at hj;rcases gd.1 hj with hj|hj
   ·exact .inl hj
   ·right;simp at hj;omega
end Go.RE
namespace Go.RE
def mD(w:Nat)(u:U)(xs:List (List U)):Prop:=u=.bE w xs∨(u=.nl w∧xs=[])
theorem Jd(l:List Rc)(low:Nat)(hl:l.length<100000000)(hok:∀ r∈l,fJ r):pz (l.map recC) [.int .u64 (low:Int)]=some (6,(bI l low).map recC):=AF l low hl hok
@[simp] theorem JO(l:List Vy):iP 7 (l.map gG)=true:=nv (fun v=>by simp[gG]) l
theorem Nr(l:List Vy)(hl:l.length<small):tf 7 7 (l.map gG) []=some (7,l.map gG):=by
 have h1:Nat.ble ((l.map gG).length*200) aZ=true:=ou (by rw[List.length_map];unfold small at hl;unfold aZ;omega);simp only[tf,h1,JO,iY,Bool.and_self,cond_true]
def qai(b:Bs):List (By×By):=iU b.db [] [] b.db.now
theorem t23{h:List Uo}{i s m o:Nat}{lv:List Lv}{b:Bs}{rc dn ks:U}(fl:Nat)(hf:fl≤h.length)(hb:dw h i s m o lv b rc dn ks)(hks:n9 ks b.db.keys)(hd:oU b.db):G 23 [.ptr i 0] h fl=some (.own .r 2 ((qai b).map uB),h,fl):=by
 refine bJ (fn:=v23) rfl rfl rfl ?_;have hl:decide (i<h.length)=true:=decide_eq_true (bn.1 hb.row).1;have c1:=t54 fl hf hb.row;have c2:=t55 fl hf hb.st.row;have c3:=t64 fl hf hb.st hks hd [] [] b.db.now;have hr:=hb.row;simp only[dc]at hr;simp[BZ,YP,YQ,au qcu,KV,c1,c2,c3,hl,hr,aR hf,qai,cT]
def Aj(b:Bs):Int×Bs:=((b.db.sv:Int) - ((b9 b.db (cR b)).sv:Int),{b with db:=b9 b.db (cR b)})
theorem dw.db{h h' :List Uo}{i s m o:Nat}{lv:List Lv}{b:Bs}{rc dn ks ks' :U}(hb:dw h i s m o lv b rc dn ks){d:Db}(hlim:d.lim=b.db.lim)(hs:eX h' s o d ks')(hfr:Fr h h' [s,o]):dw h' i s m o lv {b with db:=d} rc dn ks' :=by
 obtain⟨n1,n2,n3,n4,n5,n6,n7,n8⟩:=hb.ne;have hsame:∀ j,j≠s→j≠o→h'[j]? =h[j]? :=fun j a b=>hfr.2 j (by simp[a,b]);refine⟨?_,hs,by rw[hsame m (Ne.symm n4) n6];exact hb.map,hb.Oi,fun l hl=> ?_,hb.nd⟩
 ·rw[hsame i n1 n3,hb.row];simp only[dc,hlim]
 ·have f:=n7 l hl;rw[hsame l.t f.ts f.tO,hsame l.p f.ps f.pO];exact hb.tx l hl
theorem Fr.sub{h h' :List Uo}{l l' :List Nat}(hf:Fr h h' l)(hl:∀ j∈l,j∈l'):Fr h h' l' :=⟨hf.1,fun j hj=>hf.2 j (fun hh=>hj (hl j hh))⟩
theorem t50{h:List Uo}{i s m o:Nat}{lv:List Lv}{b:Bs}{rc dn ks:U}(fl:Nat)(hf:fl≤h.length)(hb:dw h i s m o lv b rc dn ks)(hks:n9 ks b.db.keys){n:Nat}(hd:zX b.db n)(hw:IF b.db)(hn:5000*n<small)(hz:IJ b.db):
  ∃ h' ks',G 50 [.ptr i 0] h fl=some (.int .i64 (Aj b).1,h',fl)∧dw h' i s m o lv (Aj b).2 rc dn ks'∧n9 ks' (Aj b).2.db.keys∧Fr h h' (bZ i s m o lv):=by
 have hl:decide (i<h.length)=true:=decide_eq_true (bn.1 hb.row).1;have c1:=t54 fl hf hb.row;have c2:=t27 fl hf hb;obtain⟨h',ks',c3,s1,s2,s3⟩:=t98 fl hf hb.st hks hd.ok hz (cR b);obtain⟨_,_,_,hlim,_,_⟩:=D1 hd hw hn (cR b);have hbb:=hb.db hlim s1 s3;refine⟨h',ks',?_,hbb,s2,s3.sub (by unfold bZ;simp)⟩;refine bJ (fn:=v50) rfl rfl rfl ?_;have hr:=hb.row;have hcut:cut h.length fl h' =h' :=by rw[←s3.1];exact aR (by rw[s3.1];exact hf)
 simp only[dc]at hr;simp[B6,Zh,Zi,au qcD,K3,c1,c2,c3,hl,hr,hcut,Aj,cT]
end Go.RE
namespace Go.RE
def jK(id:Int):List Tx→List Tx
 |[]=>[]
 |t::r=>bif decide ((t.id:Int)=id)then r else t::jK id r
theorem Da(id:Int):∀ lv:List Lv,(jd k8 id lv).map (·.tx)=jK id (lv.map (·.tx))
 |[]=>rfl
 |l::r=>by
  have e:k8.key l=(l.tx.id:Int):=rfl;simp only[jd,List.map_cons,jK,e];cases decide ((l.tx.id:Int)=id)with
  |true=>rfl
  |false=>simp only[cond_false,List.map_cons,Da id r]
theorem jJ{α κ:Type}[DecidableEq κ](F:Mk α κ)(k:κ):∀ l:List α,(jd F k l).Sublist l
 |[]=> .slnil
 |b::r=>by
  simp only[jd];cases decide (F.key b=k)with
  |true=>exact List.sublist_cons_self _ _
  |false=>exact(jJ F k r).cons_cons b
def gN(b:Bs)(id:Int):Bs:={b with live:=jK id b.live}
def jW(b:Bs)(id:Int):Bs:={gN b id with ah:=oe (lV b.db.lim.records) b.db.lim.marks (bI b.ah (cR (gN b id)))}
theorem oB{i s m o:Nat}{lv lv' :List Lv}(h:lv'.Sublist lv):(bZ i s m o lv').Sublist (bZ i s m o lv):=by
 unfold bZ;refine List.Sublist.cons_cons i (List.Sublist.cons_cons s (List.Sublist.cons_cons m (List.Sublist.cons_cons o ?_)))
 induction h with
 |slnil=>exact .slnil
 |cons a _ ih=>rw[List.flatMap_cons];exact ih.trans (List.sublist_append_right _ _)
 |cons_cons a _ ih=>rw[List.flatMap_cons,List.flatMap_cons];exact(List.Sublist.refl _).append ih
theorem dw.drop{h:List Uo}{i s m o:Nat}{lv:List Lv}{b:Bs}{rc dn ks:U}(hb:dw h i s m o lv b rc dn ks)(id:Int){o' :Uo}(ho:jY k8 (some o') (jd k8 id lv)):dw (h.set m o') i s m o (jd k8 id lv) (gN b id) rc dn ks:=by
 obtain⟨n1,n2,n3,n4,n5,n6,n7,n8⟩:=hb.ne;have hne:∀ j,j≠m→(h.set m o')[j]? =h[j]? :=fun j hj=>List.getElem?_set_ne (Ne.symm hj);refine⟨by rw[hne i n2];exact hb.row,hb.st.same (hne s n4) (hne o (Ne.symm n6)),by rw[List.getElem?_set_self hb.map.lt];exact ho,by rw[Da,hb.Oi];rfl,fun l hl=> ?_,List.Nodup.sublist (oB (jJ k8 id lv)) hb.nd⟩;have hl' :=(jJ k8 id lv).subset hl;have f:=n7 l hl';rw[hne l.t f.tm,hne l.p f.pm];exact hb.tx l hl'
theorem dw.cells{h:List Uo}{i s m o:Nat}{lv:List Lv}{b:Bs}{rc dn ks rc' dn' :U}(hb:dw h i s m o lv b rc dn ks){b' :Bs}(hdb:b'.db=b.db)(hlv:b'.live=b.live){h' :List Uo}(hr:h'[i]? =some (.row (dc b' s m rc' dn')))(hfr:∀ j,j≠i→h'[j]? =h[j]?):dw h' i s m o lv b' rc' dn' ks:=by
 obtain⟨n1,n2,n3,n4,n5,n6,n7,n8⟩:=hb.ne;refine⟨hr,by rw[hdb];exact hb.st.same (hfr s (Ne.symm n1)) (hfr o (Ne.symm n3)),by rw[hfr m (Ne.symm n2)];exact hb.map,by rw[hlv];exact hb.Oi,fun l hl=> ?_,hb.nd⟩;have f:=n7 l hl;rw[hfr l.t f.ti,hfr l.p f.pi];exact hb.tx l hl
theorem sL(p:Rc→Bool):∀ l:List Rc,sQ (l.filter p)≤sQ l
 |[]=>aq _
 |r::l=>by
  have:=sL p l;rw[List.filter_cons];cases p r with
  |true=>simp only[if_true,sQ];omega
  |false=>simp only[oS,if_false,sQ];omega
theorem t60{h:List Uo}{i s m o:Nat}{lv:List Lv}{b:Bs}{rc dn ks:U}(fl:Nat)(hf:fl≤h.length)(hb:dw h i s m o lv b rc dn ks)(hrc:mD 6 rc (b.ah.map recC))(hrl:b.ah.length<100000000)(hw:sQ b.ah<small / 8)(hlr:b.db.lim.records<small)(hlm:b.db.lim.marks<small)(id:Int):
  ∃ h',G 60 [.ptr i 0,.int .i64 id] h fl=some (.aX [],h',fl)∧dw h' i s m o (jd k8 id lv) (jW b id) (.bE 6 ((jW b id).ah.map recC)) dn ks∧Fr h h' (bZ i s m o lv):=by
 obtain⟨n1,n2,n3,n4,n5,n6,n7,n8⟩:=hb.ne;have hlt:=(bn.1 hb.row).1;have hml:=hb.map.lt;obtain⟨o',m1,m2⟩:=LX k8 hb.map id;have hb1:=hb.drop id m1;have hdl:∀ e,IZ .int m (.int .i64 id) ⟨e,h,fl⟩ h[m]? =some (.aX [],⟨e,h.set m o',fl⟩):=fun e=>m2 m ⟨e,h,fl⟩ rfl;have hfl:(bI b.ah (cR (gN b id))).length≤b.ah.length:=List.length_filter_le _ _;have c3:=t104 (bI b.ah (cR (gN b id))) b.db.lim.records b.db.lim.marks (by unfold small;omega) (by have:=sL (fun r=>decide (cR (gN b id)<r.last)) b.ah;unfold bI;omega) hlr hlm;have hH1:(h.set m o').length=h.length:=by simp
 have hr1:(h.set m o')[i]? =some (.row (dc b s m rc dn)):=hb1.row;have hres:dw ((h.set m o').set i (.row (dc (jW b id) s m (.bE 6 ((jW b id).ah.map recC)) dn))) i s m o (jd k8 id lv) (jW b id) (.bE 6 ((jW b id).ah.map recC)) dn ks:=
  hb1.cells (b' :=jW b id) (rc' :=.bE 6 ((jW b id).ah.map recC)) (dn' :=dn) rfl rfl (List.getElem?_set_self (by simpa using hlt)) (fun j hj=>List.getElem?_set_ne (Ne.symm hj))
 refine⟨_,?_,hres,((Fr.refl h _).set (by unfold bZ;simp) o').set (by unfold bZ;simp) _⟩;refine bJ (fn:=v60) rfl rfl rfl ?_;have hr:=hb.row;generalize hH:h.set m o' =H at*;have hss:∀ X:Uo,(H.set i X)[i]? =some X:=fun X=>List.getElem?_set_self (by omega);have hcut:∀ X:Uo,cut h.length fl (H.set i X)=H.set i X:=fun X=>by
  have:(H.set i X).length=h.length:=by simp[hH1]
  rw[←this];exact aR (by rw[this];exact hf)
 have hself:H.set i (.row (dc b s m rc dn))=H:=EC hr1;have hbl:∀ u:U,dw (H.set i (.row (dc b s m u dn))) i s m o (jd k8 id lv) (gN b id) u dn ks:=fun u=>hb1.cells rfl rfl (hss _) (fun j hj=>List.getElem?_set_ne (Ne.symm hj));have c1:=t27 (h:=H.set i (.row (dc b s m .de dn))) fl (by simp;omega) (hbl .de);have hrow:∀ X,dc (jW b id) s m X dn=[.int .i64 b.db.lim.keys,.int .i64 b.db.lim.gA,.int .i64 b.db.lim.bytes,.int .i64 b.db.lim.marks,.int .i64 b.db.lim.records,.int .i64 b.db.lim.live,.int .u64 b.db.lim.last,.ptr s 0,.map m,X,dn,.int .i64 b.last,.int .i64 b.event]:=fun X=>rfl;have hrecs:(jW b id).ah=oe (lV b.db.lim.records) b.db.lim.marks (bI b.ah (cR (gN b id))):=rfl;rcases hrc with rfl|⟨rfl,hn⟩
 ·have c2:=Jd b.ah (cR (gN b id)) hrl (fun r hr=>Cw hw hr);simp only[dc]at hr hr1 c1 hself;rw[hrow,hrecs];generalize hL:cR (gN b id)=L at*;cases hfl2:U.j8 ((oe (lV b.db.lim.records) b.db.lim.marks (bI b.ah L)).map recC)<;>
   simp[vR,U2,au U3,Ld,hr,hr1,hdl,hss,c1,c2,c3,hcut,hself,hfl2,cT]
 ·have hn0:b.ah=[]:=by simpa using hn
  have c2:=t66 [] (cR (gN b id)) (by decide) (fun r hr=>(List.not_mem_nil hr).elim);rw[hn0]at c3 hrecs;have c1n:=t27 (h:=H) fl (by omega) hb1;have hnl:U.same (.nl 6) (.nl 6)=false:=rfl;simp only[List.map_nil]at c2;simp only[dc]at hr hr1 c1 hself;rw[hrow,hrecs];generalize hL:cR (gN b id)=L at*;cases hfl2:U.j8 ((oe (lV b.db.lim.records) b.db.lim.marks (bI [] L)).map recC)<;>
   simp[vR,U2,au U3,Ld,hr,hr1,hdl,hss,hnl,c1,c1n,c2,c3,hcut,hself,hfl2,cT]
end Go.RE
namespace Go.RE
structure RcB(b:Bs):Prop where
 len:b.ah.length<100000000
 wt:sQ b.ah<small / 8
 lr:b.db.lim.records<small
 lm:b.db.lim.marks<small
def gE(b:Bs)(id:Int):Nat×Bs:=match gz b id with
 |none=>(4,b)
 |some _=>(0,jW b id)
theorem t53{h:List Uo}{i s m o:Nat}{lv:List Lv}{b:Bs}{rc dn ks:U}(fl:Nat)(hf:fl≤h.length)(hb:dw h i s m o lv b rc dn ks)(hrc:mD 6 rc (b.ah.map recC))(hR:RcB b)(id:Int):
  ∃ h' lv' rc',G 53 [.ptr i 0,.int .i64 id] h fl=some (.int .i64 ((gE b id).1:Nat),h',fl)∧dw h' i s m o lv' (gE b id).2 rc' dn ks∧mD 6 rc' ((gE b id).2.ah.map recC)∧Gr h h' (bZ i s m o lv) (bZ i s m o lv')∧h'.length=h.length:=by
 have hl:decide (i<h.length)=true:=decide_eq_true (bn.1 hb.row).1;have c1:=t56 fl hf hb id;unfold gE;rw[hb.find];cases hlv:fF k8 id lv with
 |none=>
  rw[hlv]at c1;simp only[j7]at c1;refine⟨h,lv,rc,?_,hb,hrc,(Fr.refl h _).gr,rfl⟩;refine bJ (fn:=v53) rfl rfl rfl ?_;simp[vN,UO,UP,UQ,US,c1,hl,aR hf]
 |some l=>
  rw[hlv]at c1;simp only[j7]at c1;obtain⟨h',c2,b2,f2⟩:=t60 fl hf hb hrc hR.len hR.wt hR.lr hR.lm id;have hlt:decide (l.t<h.length)=true:=decide_eq_true (bn.1 (hb.tx l (kQ k8 hlv)).1).1;refine⟨h',_,_,?_,b2,.inl rfl,⟨by rw[f2.1];exact aq _,fun j _ hj=>f2.2 j hj,fun j hj=> .inl ((oB (jJ k8 id lv)).subset hj)⟩,f2.1⟩;refine bJ (fn:=v53) rfl rfl rfl ?_;have hcut:cut h.length fl h' =h' :=by rw[←f2.1];exact aR (by rw[f2.1];exact hf)
  simp[vN,UO,UP,UQ,Zw,US,c1,c2,hl,hlt,hcut]
def wq(b:Bs)(t:Tx)(w:Wt):Bool:=decide (t.began<fW (chain b.db w.key))
def iM(b:Bs)(t:Tx):Bool:=t.ct.any (wq b t)
theorem qbS{h:List Uo}{i s m o:Nat}{b:Bs}{rc dn ks:U}(fl:Nat)(hf:fl≤h.length)(hr:h[i]? =some (.row (dc b s m rc dn)))(hs:eX h s o b.db ks)(hd:oU b.db){t p:Nat}{tx:Tx}(ht:h[t]? =some (.row (lC tx p)))
  (lc:List (Wt×Nat)) (c:Nat) (hc:tY nU lc c) (hm:h[p]? =some (.map (lc.map (tD nU)) c)) (hlc:lc.map (·.1)=tx.ct):
  ∀ (j:Nat) (vis left:List (Wt×Nat)),left.length≤j→(vis++left).Perm lc→(∀ x∈vis,wq b tx x.1=false)→
  gL bq mT qT pT Bm 0 zg (h.length+1) ⟨[(0,.ptr i 0),(1,.ptr t 0),(10,.ptr h.length 0)],h++[.iter (some p) c (vis.map (·.2)) c],fl⟩
   (gy bq mT qT pT Bm (.seq (.region EP) .ret) (kE h.length Bm (.bool (iM b tx),h,fl))):=by
 have hi1:decide (i<h.length+1)=true:=decide_eq_true (by have:=(bn.1 hr).1;omega);have ht1:decide (t<h.length+1)=true:=decide_eq_true (by have:=(bn.1 ht).1;omega);have hnone:∀ vis:List (Wt×Nat),vis.Perm lc→(∀ x∈vis,wq b tx x.1=false)→iM b tx=false:=by
  intro vis hv ha;unfold iM;rw[←hlc,List.any_eq_false];intro w hw;obtain⟨x,hx,rfl⟩:=eR.1 hw;have:=ha x (hv.symm.subset hx);rw[this];simp
 simp only[dc]at hr;simp only[lC]at ht;intro j
 induction j with
 |zero=>
  intro vis left hj hp ha;obtain rfl:left=[]:=jq (by omega);rw[List.append_nil]at hp;rw[ak zg.eq_1];simp[J5];refine oE rfl hm (wu hc) (fun _=> ?_) (fun a ha' hn=> ?_)
  ·rw[hnone vis hp ha];simp[EP,th hf,kV hf]
  ·obtain⟨x,hx,rfl,_,h3⟩:=oJ (left:=[]) hc (by simpa using hp) ha' hn;simp at h3
 |succ j ih=>
  intro vis left hj hp ha;rw[ak zg.eq_1];simp[J5];refine oE rfl hm (wu hc) (fun hall=> ?_) (fun a ha' hn=> ?_)
  ·have:=Ez hc hp hall;subst this;rw[List.append_nil]at hp;rw[hnone vis hp ha];simp[EP,th hf,kV hf]
  ·obtain⟨x,hx,rfl,h2,h3⟩:=oJ hc hp ha' hn;have hent:∀ ev:Env,mL ⟨ev,h++[.iter (some p) c (vis.map (·.2)++[x.2]) c],fl⟩ h.length=some (.aX [.str x.1.key,.agg (eO x.1)]):=fun ev=>wD hm (D0 hc) ha';have c1:=t138 (h:=h++[.iter (some p) c (vis.map (·.2)++[x.2]) c]) fl (by simp;omega) hs.app hd x.1.key;cases hcl:wq b tx x.1 with
   |true=>
    have hcp:iM b tx=true:=by
     unfold iM;rw[←hlc,List.any_eq_true];exact⟨x.1,eR.2 ⟨x,hx,rfl⟩,hcl⟩
    rw[hcp];unfold wq at hcl;simp[tD,nU,J6,au Mf,EO,QN,hent,aT hr,aT ht,c1,hcl,th hf,cT]
   |false=>
    have ih' :=ih (vis++[x]) (left.erase x) (by omega) h2 (fun y hy=>by
     rcases gd.1 hy with hy|hy
     ·exact ha y hy
     ·simp at hy;subst hy;exact hcl)
    unfold wq at hcl;simp[List.map_append]at ih';simp[tD,nU,J6,au Mf,EO,hent,aT hr,aT ht,c1,hcl,hi1,ht1,th hf,kV hf,cT];exact ih'
theorem t100{h:List Uo}{i s m o:Nat}{b:Bs}{rc dn ks:U}(fl:Nat)(hf:fl≤h.length)(hr:h[i]? =some (.row (dc b s m rc dn)))(hs:eX h s o b.db ks)(hd:oU b.db){t p:Nat}{tx:Tx}(ht:h[t]? =some (.row (lC tx p)))(hp:jY nU h[p]? tx.ct):
  G 100 [.ptr i 0,.ptr t 0] h fl=some (.bool (iM b tx),h,fl):=by
 refine bJ (fn:=Bm) rfl rfl rfl ?_;obtain⟨lc,c,e1,e2,e3⟩:=hp;have a:=qbS fl hf hr hs hd ht lc c e3 e2 e1 lc.length [] lc (aq _) (by simp) (by simp);have hi1:decide (i<h.length+1)=true:=decide_eq_true (by have:=(bn.1 hr).1;omega);have ht1:decide (t<h.length+1)=true:=decide_eq_true (by have:=(bn.1 ht).1;omega);simp only[lC]at ht;simp at a;simp[wV,QK,QL,ht,e2,hi1,ht1,kV hf];exact a
end Go.RE
namespace Go.RE
abbrev XG:=Tx×List Wt×List cD
def eW(b:Bs)(z:XG)(w:Wt):XG:=
 bif w.gone&&(pF (chain b.db w.key) z.1.began).isNone then(eo b z.1 (wM w.key),z.2.1,z.2.2)else(z.1,z.2.1++[w],z.2.2++[wM w.key])
theorem PW(b:Bs)(z:XG)(w:Wt):(eW b z w).1.began=z.1.began∧(eW b z w).1.ct=z.1.ct∧(eW b z w).1.id=z.1.id∧(eW b z w).1.start=z.1.start:=by
 unfold eW;cases w.gone&&(pF (chain b.db w.key) z.1.began).isNone<;>exact⟨rfl,rfl,rfl,rfl⟩
theorem rW(b:Bs)(t:Tx)(sp:cD):(eo b t sp).marks.length≤t.marks.length+1:=by
 have h1:=iD t.marks [sp];have h2:=oA (DW t.marks sp) b.db.lim.marks;unfold DW at h2;simp at h1;show(qo (DW t.marks sp) b.db.lim.marks).length≤_;unfold DW;omega
theorem qfN{i s m o:Nat}{b:Bs}{rc dn ks:U}(fl n:Nat)(hf:fl≤n)(hd:oU b.db)(hlm:b.db.lim.marks<small){l:Lv}(L:List Wt)(hL:L.length<small / 32)(hok:∀ w∈L,ow w)(R:XG)(K:Ex→Vs→Prop)(H0:List Uo)(hn0:H0.length=n)(hlt:l.t<n)(hlti:l.t≠i)(hlts:l.t≠s)(hlto:l.t≠o)
  (hr0:H0[i]? =some (.row (dc b s m rc dn))) (hs0:eX H0 s o b.db ks) (hil:i<n)
  (hK:K .normal ⟨[(4,.ptr n 0),(0,.ptr i 0),(7,.own (.t 7) 3 (R.2.1.map eO)),(1,.ptr l.t 0),(8,.own (.t 8) 2 (R.2.2.map aP))],H0.set l.t (.row (lC R.1 l.p))++[.row [.int .u64 0,.int .u64 0,.int .u64 0,.int .u64 0,.sl 2 [],.sl 2 []]],fl⟩):
  ∀ (j q:Nat) (z:XG),q+j=L.length→(L.drop q).foldl (eW b) z=R→z.2.1.length≤q→z.2.2.length≤q→z.1.marks.length<small / 16+q→
  gL bq mT qT pT v59 0 zV (n+1) ⟨[(24,.int .i64 (q:Int)),(1,.ptr l.t 0),(0,.ptr i 0),(8,.own (.t 8) 2 (z.2.2.map aP)),(7,.own (.t 7) 3 (z.2.1.map eO)),(22,.own (.t 22) 3 (L.map eO)),(4,.ptr n 0),(23,.int .i64 (L.length:Int))],H0.set l.t (.row (lC z.1 l.p))++[.row [.int .u64 0,.int .u64 0,.int .u64 0,.int .u64 0,.sl 2 [],.sl 2 []]],fl⟩ K:=by
 have hi1:decide (i<n+1)=true:=decide_eq_true (by omega);have ht1:decide (l.t<n+1)=true:=decide_eq_true (by omega);intro j
 induction j with
 |zero=>
  intro q z hij hR a1 a2 a3;obtain⟨h1,h2⟩:=nB hij;rw[h2]at hR;simp only[List.foldl_nil]at hR;subst hR;have hcut1:∀ (X a:Uo) (x:List Uo),cut (n+1) fl (H0.set l.t X++a::x)=H0.set l.t X++[a]:=fun X a x=>by
   have:=kV (fl:=fl) (h:=H0.set l.t X) (by simp;omega) a x;simpa[hn0]using this
  rw[ak zV.eq_1];simp[Is,h1,hi1,ht1,hcut1];exact hK
 |succ j ih=>
  intro q z hij hR a1 a2 a3;obtain⟨h1,e3,w,d1,g1⟩:=ql hij (by unfold small at*;omega);have e1:=g1 eO;have hq:q<L.length:=by omega
  have hw:ow w:=hok w (List.mem_of_mem_drop (i:=q) (by rw[d1];exact eU));rw[d1,List.foldl_cons]at hR;have ia:∀ s',qf s' 3 (some (.own (.t 22) 3 (L.map eO))) (some (.int .i64 (q:Int)))=some (.bD (.t 22) q 0,s'):=fun s' =>cz (by simpa using hq);have hlen:(L.map eO).length=L.length:=by simp
  simp only[eO]at e1;have e7:∀ hh:q<(L.map eO).length,(L.map eO)[q]=[.str w.key,.bool w.gone,.sl 1 (bQ w.data)]:=fun hh=>by rw[bL hh]at e1;exact Option.some.inj e1
  have e8:∀ x:List Uo,∀ X,(H0.set l.t X++x)[l.t]? =some X:=fun x X=>aT (List.getElem?_set_self (by omega));have e9:∀ X x,(H0.set l.t X++x)[i]? =some (.row (dc b s m rc dn)):=fun X x=>aT (by rw[List.getElem?_set_ne hlti];exact hr0);have hcut1:∀ (X a:Uo) (x:List Uo),cut (n+1) fl (H0.set l.t X++a::x)=H0.set l.t X++[a]:=fun X a x=>by
   have:=kV (fl:=fl) (h:=H0.set l.t X) (by simp;omega) a x;simpa[hn0]using this
  have hset2:∀ Y X x,(H0.set l.t Y++x).set l.t X=H0.set l.t X++x:=fun Y X x=>by
   rw[List.set_append_left _ _ (by simp;omega),List.set_set]
  have hat1:∀ (X a c:Uo) (x:List Uo),(H0.set l.t X++a::c::x)[n+1]? =some c:=fun X a c x=>by
   have:=at1 (H0.set l.t X) x a c;simpa[hn0]using this
  have hst1:∀ (X a c y:Uo) (x:List Uo),(H0.set l.t X++a::c::x).set (n+1) y=H0.set l.t X++a::y::x:=fun X a c y x=>by
   have:=Xh (H0.set l.t X) x a c y;simpa[hn0]using this
  have hss:∀ X,eX (H0.set l.t X) s o b.db ks:=fun X=>hs0.same (List.getElem?_set_ne hlts) (List.getElem?_set_ne hlto);have c1:∀ X x,G 77 [.ptr s 0,.str w.key,.int .u64 (z.1.began:Int)] (H0.set l.t X++x) fl=some (sP (pF (chain b.db w.key) z.1.began),H0.set l.t X++x,fl):=fun X x=>t77 fl (by simp;omega) (hss X).app hd w.key z.1.began;have c2:=t76 w.key hw.1;have b1:(z.2.1.length+1)*48≤aZ∧z.2.1.length+1≤aZ:=by unfold small at hL;unfold aZ;omega
  have b2:(z.2.2.length+1)*32≤aZ∧z.2.2.length+1≤aZ:=by unfold small at hL;unfold aZ;omega
  have hrow:∀ t:Tx,Uo.row (lC t l.p)=.row [.int .i64 t.id,.int .u64 t.began,.int .i64 t.start,.sl 2 (t.marks.map aP),.map l.p]:=fun _=>rfl;simp only[aP]at c2;generalize hXX:L.map eO=XX at*;simp only[dc]at e9;rw[ak zV.eq_1];simp only[hrow]at ih⊢;cases hgn:w.gone&&(pF (chain b.db w.key) z.1.began).isNone with
  |true=>
   simp only[bC]at hgn;obtain⟨hg,hno⟩:=hgn;have hgv:pF (chain b.db w.key) z.1.began=none:=by
    cases hx:pF (chain b.db w.key) z.1.began with
    |none=>rfl
    |some y=>rw[hx]at hno;cases hno
   have hlc:eW b z w=(eo b z.1 (wM w.key),z.2.1,z.2.2):=by unfold eW;rw[hg,hgv];rfl
   rw[hlc]at hR;have hml:=rW b z.1 (wM w.key);have ih' :=ih (q+1) _ (by omega) hR (by simp;omega) (by simp;omega) (by simp;omega);have c3:∀ x,G 75 [.ptr i 0,.ptr l.t 0,.agg (aP (wM w.key))] (H0.set l.t (.row (lC z.1 l.p))++x) fl=some (.aX [],H0.set l.t (.row (lC (eo b z.1 (wM w.key)) l.p))++x,fl):=fun x=>by
    have:=t75 (h:=H0.set l.t (.row (lC z.1 l.p))++x) (i:=i) (s:=s) (m:=m) (t:=l.t) (p:=l.p) (b:=b) (tx:=z.1) (rc:=rc) (dn:=dn) fl (by simp;omega) (aT (by rw[List.getElem?_set_ne hlti];exact hr0)) (e8 x _) (by unfold small at*;omega) hlm (wM w.key);rw[hset2]at this;exact this
   rw[hg]at e1 e7;rw[hgv]at c1;simp only[sP]at c1;simp only[hrow,aP,wM]at c3;simp only[wM]at ih';simp[Is,M6,au Lb,Cc,M7,U1,Gg,h1,ia,e1,e7,e3,hlen,hq,e8,e9,hat1,hst1,c1,c2,c3,hi1,ht1,hcut1,hn0,eO,cT];simpa using ih'
  |false=>
   have hlc:eW b z w=(z.1,z.2.1++[w],z.2.2++[wM w.key]):=by unfold eW;rw[hgn];rfl
   rw[hlc]at hR;have ih' :=ih (q+1) _ (by omega) hR (by simp;omega) (by simp;omega) (by simp;omega);simp[aP,eO,wM]at ih';cases hg:w.gone with
   |false=>
    rw[hg]at e1 e7 ih';simp only[sP]at c1;simp[Is,M6,au Lb,Cc,M7,K6,K7,Gg,h1,ia,e1,e7,e3,hlen,hq,e8,e9,hat1,hst1,c1,c2,hi1,ht1,hcut1,hn0,b1,b2,eO,cT];simpa using ih'
   |true=>
    rw[hg]at e1 e7 ih' hgn;have hgs:(pF (chain b.db w.key) z.1.began).isSome=true:=by
     cases hx:pF (chain b.db w.key) z.1.began with
     |none=>rw[hx]at hgn;cases hgn
     |some y=>rfl
    simp only[sP,hgs]at c1;simp[Is,M6,au Lb,Cc,M7,K6,K7,Gg,h1,ia,e1,e7,e3,hlen,hq,e8,e9,hat1,hst1,c1,c2,hi1,ht1,hcut1,hn0,b1,b2,eO,cT];simpa using ih'
theorem GY(low:Nat):∀ (ks:List By) (st:Db×List By),(ks.foldl (gV low) st).1.lim=st.1.lim∧(ks.foldl (gV low) st).1.now=st.1.now
 |[],_=>⟨rfl,rfl⟩
 |k::r,st=>by
  have h:=GY low r (gV low st k);have h1:=C8 low st k;exact⟨h.1.trans h1.2.1,h.2.trans h1.2.2⟩
theorem kU(d:Db)(low:Nat):(b9 d low).lim=d.lim∧(b9 d low).now=d.now:=GY low d.keys ({d with sk:=0,sv:=0,sb:=0},[])
theorem GZ:∀ (l:List Wt) (d:Db),(l.foldl iO d).lim=d.lim∧(l.foldl iO d).now=d.now
 |[],_=>⟨rfl,rfl⟩
 |w::r,d=>by
  have h:=GZ r (iO d w);exact⟨h.1,h.2⟩
theorem j5(d:Db)(c:List Wt×Sz):(ic d c).lim=d.lim∧(ic d c).now=d.now+1:=by
 have h:=GZ c.1 {d with now:=d.now+1};exact h
theorem qx(d:Db)(l:List Wt)(low:Nat):(aV d l low).2.2.lim=d.lim:=by
 unfold aV;cases !(eF none l==0)with
 |true=>rfl
 |false=>
  cases l.isEmpty with
  |true=>rfl
  |false=>
   cases decide (d.lim.last≤d.now)with
   |true=>rfl
   |false=>
    cases lS d (aO d l).2 with
    |true=>exact(j5 _ _).1
    |false=>
     cases lS (b9 d low) (aO (b9 d low) l).2 with
     |true=>exact(j5 _ _).1.trans (kU d low).1
     |false=>exact(kU d low).1
def oR:Rc:=⟨0,0,0,0,[],[]⟩
def aG(b:Bs)(t:Tx):XG:=(qb t).foldl (eW b) (t,[],[])
def lq(b:Bs)(t:Tx):Rc:=⟨0,0,t.began,0,(aG b t).1.marks,qo (aG b t).2.2 b.db.lim.marks⟩
def aD(b:Bs)(t:Tx):Rc×Nat×Nat×Bs:=
 bif iM b t then(oR,0,100,b)else
 match jM b.ah (lq b t)with
 |none=>(oR,0,101,aK b (aG b t).1)
 |some out=>bif(aV b.db (aG b t).2.1 (cR (aK b (aG b t).1))).2.1==0
  then({lq b t with first:=lV (aV b.db (aG b t).2.1 (cR (aK b (aG b t).1))).1,last:=lV (aV b.db (aG b t).2.1 (cR (aK b (aG b t).1))).1,out:=out},(aV b.db (aG b t).2.1 (cR (aK b (aG b t).1))).1,0,{aK b (aG b t).1 with db:=(aV b.db (aG b t).2.1 (cR (aK b (aG b t).1))).2.2})
  else(oR,0,(aV b.db (aG b t).2.1 (cR (aK b (aG b t).1))).2.1,{aK b (aG b t).1 with db:=(aV b.db (aG b t).2.1 (cR (aK b (aG b t).1))).2.2})
def VS(r:Rc×Nat×Nat×Bs):U:=.aX [.agg (recC r.1),.int .u64 (r.2.1:Int),.int .i64 (r.2.2.1:Int)]
theorem oC(b:Bs):∀ (L:List Wt) (z:XG),(L.foldl (eW b) z).2.1.length≤z.2.1.length+L.length∧(L.foldl (eW b) z).2.2.length≤z.2.2.length+L.length∧(L.foldl (eW b) z).1.marks.length≤z.1.marks.length+L.length∧
  (L.foldl (eW b) z).1.began=z.1.began∧(L.foldl (eW b) z).1.ct=z.1.ct∧(L.foldl (eW b) z).1.id=z.1.id∧(L.foldl (eW b) z).1.start=z.1.start∧(∀ w∈(L.foldl (eW b) z).2.1,w∈z.2.1∨w∈L)
 |[],z=>⟨aq _,aq _,aq _,rfl,rfl,rfl,rfl,fun w hw=> .inl hw⟩
 |w::L,z=>by
  have h:=oC b L (eW b z w);have h1:=PW b z w;have h2:(eW b z w).2.1.length≤z.2.1.length+1∧(eW b z w).2.2.length≤z.2.2.length+1∧(eW b z w).1.marks.length≤z.1.marks.length+1∧∀ x∈(eW b z w).2.1,x∈z.2.1∨x=w:=by
   unfold eW;cases w.gone&&(pF (chain b.db w.key) z.1.began).isNone with
   |true=>exact⟨by simp,by simp,rW b z.1 _,fun x hx=> .inl hx⟩
   |false=>exact⟨by simp,by simp,by simp,fun x hx=>by simpa using hx⟩
  obtain⟨a1,a2,a3,a4,a5,a6,a7,a8⟩:=h;rw[List.foldl_cons];refine⟨by simp only[List.length_cons];omega,by simp only[List.length_cons];omega,by simp only[List.length_cons];omega,a4.trans h1.1,a5.trans h1.2.1,a6.trans h1.2.2.1,a7.trans h1.2.2.2,fun x hx=> ?_⟩;rcases a8 x hx with h3|h3
  ·rcases h2.2.2.2 x h3 with h4|rfl
   ·exact .inl h4
   ·exact .inr eU
  ·exact .inr (gB _ h3)
theorem dw.app{h x:List Uo}{i s m o:Nat}{lv:List Lv}{b:Bs}{rc dn ks:U}(hb:dw h i s m o lv b rc dn ks):dw (h++x) i s m o lv b rc dn ks:=
 ⟨aT hb.row,hb.st.app,by rw[cw hb.map.lt];exact hb.map,hb.Oi,fun l hl=>⟨aT (hb.tx l hl).1,by rw[cw (hb.tx l hl).2.lt];exact(hb.tx l hl).2⟩,hb.nd⟩
structure qaf(b:Bs)(m:Nat):Prop where
 r:zX b.db m
 w:IF b.db
 z:IJ b.db
 m5:5000*m<small
 now:b.db.now<small
 ct:∀ t∈b.live,t.ct.length≤m
 ok:qae b m
 rc:RcB b
 wt2:∀ t∈b.live,sQ b.ah+t.marks.length+2*m<small / 8
 qeO:b.ah.length+1<100000000
 dl:b.done.length+1<small
 ev:b.event+1<small
theorem t59{h:List Uo}{i s m o:Nat}{lv:List Lv}{b:Bs}{rc dn ks:U}(fl:Nat)(hf:fl≤h.length)(hb:dw h i s m o lv b rc dn ks)(hks:n9 ks b.db.keys)(hrc:mD 6 rc (b.ah.map recC)){k:Nat}(hC:qaf b k){l:Lv}(hlm:l∈lv):
  ∃ h' lv' ks',G 59 [.ptr i 0,.ptr l.t 0] h fl=some (VS (aD b l.tx),h',fl)∧dw h' i s m o lv' (aD b l.tx).2.2.2 rc dn ks'∧n9 ks' (aD b l.tx).2.2.2.db.keys∧Fr h h' (bZ i s m o lv)∧bZ i s m o lv' =bZ i s m o lv∧∃ l'∈lv',l'.t=l.t∧l'.tx.id=l.tx.id∧l'.tx.began=l.tx.began∧l'.tx.start=l.tx.start:=by
 have hi:=(bn.1 hb.row).1;have hl:decide (i<h.length)=true:=decide_eq_true hi;have hl1:decide (i<h.length+1)=true:=decide_eq_true (by omega);obtain⟨x1,x2⟩:=hb.tx l hlm;have hlt:=(bn.1 x1).1;have hlt0:decide (l.t<h.length)=true:=decide_eq_true hlt;have hlt1:decide (l.t<h.length+1)=true:=decide_eq_true (by omega);have hft:=hb.ne.2.2.2.2.2.2.1 l hlm;have hdb:oU b.db:=hC.r.ok;have c1:=t100 (h:=h++[.row (recC oR)]) fl (by simp;omega) (aT hb.row) hb.st.app hdb (aT x1) (by rw[cw x2.lt];exact x2);unfold aD;cases hcl:iM b l.tx with
 |true=>
  rw[hcl]at c1;refine⟨h,lv,ks,?_,hb,hks,Fr.refl h _,rfl,l,hlm,rfl,rfl,rfl,rfl⟩;refine bJ (fn:=v59) rfl rfl rfl ?_;simp only[recC,oR]at c1;simp at c1;simp[vQ,UZ,U0,ZH,c1,hl1,hlt1,VS,recC,oR,th hf]
 |false=>
  rw[hcl]at c1;simp only[cond_false];have htm:=hb.mem hlm;have hpk:=hC.ct l.tx htm;have hmk:=hC.ok.marks l.tx htm;have hk5:=hC.m5;have hwl:(qb l.tx).length=l.tx.ct.length:=by unfold qb;rw[kJ]
  have hwok:∀ w∈qb l.tx,ow w:=fun w hw=>hC.ok.wt l.tx htm w ((lz Wt.key l.tx.ct).subset hw);have c2:=t79 (h:=h++[.row (recC oR)]) fl (by simp;omega) (aT x1) (by rw[cw x2.lt];exact x2) (by unfold small at*;omega);obtain⟨q1,q2,q3,q4,q5,q6,q7,q8⟩:=oC b (qb l.tx) (l.tx,[],[]);have hRdef:(qb l.tx).foldl (eW b) (l.tx,[],[])=aG b l.tx:=rfl;rw[hRdef]at q1 q2 q3 q4 q5 q6 q7 q8;dsimp only at q1 q2 q3 q4 q5 q6 q7 q8;have hself:h.set l.t (.row (lC l.tx l.p))=h:=EC x1;have hwk:∀ w∈(aG b l.tx).2.1,ow w:=fun w hw=>by
   rcases q8 w hw with h1|h1
   ·exact(List.not_mem_nil h1).elim
   ·exact hwok w h1
  have hrT:recC (lq b l.tx)=[.int .u64 0,.int .u64 0,.int .u64 (l.tx.began:Int),.int .u64 0,.sl 2 ((aG b l.tx).1.marks.map aP),.sl 2 ((qo (aG b l.tx).2.2 b.db.lim.marks).map aP)]:=rfl;have hbu:dw (h.set l.t (.row (lC (aG b l.tx).1 l.p))) i s m o (yL (aG b l.tx).1 lv) (aK b (aG b l.tx).1) rc dn ks:=
   hb.fB hlm (aG b l.tx).1 q6 _ (fun j hj _=>List.getElem?_set_ne (Ne.symm hj)) (List.getElem?_set_self hlt) (by rw[List.getElem?_set_ne hft.tp,q5];exact x2)
  have hFr:Fr h (h.set l.t (.row (lC (aG b l.tx).1 l.p))) (bZ i s m o lv):=(Fr.refl h _).set (by unfold bZ;simp only[dM,List.mem_flatMap];right;right;right;right;exact⟨l,hlm,by simp⟩) _;simp only[List.length_nil,Nat.zero_add]at q1 q2;have c5:=t101 (aG b l.tx).2.2 b.db.lim.marks (by unfold small at*;omega) hC.rc.lm;have hfl:=oA (aG b l.tx).2.2 b.db.lim.marks;have c6:=t102 b.ah (lq b l.tx) (by have:=hC.rc.len;unfold small;omega) (fun r hr=>Cw hC.rc.wt hr) ⟨by show(aG b l.tx).1.marks.length<small / 8;unfold small at*;omega,by show(qo (aG b l.tx).2.2 b.db.lim.marks).length<small / 8;unfold small at*;omega⟩;have hload:∀ x:List Uo,(h.set l.t (.row (lC (aG b l.tx).1 l.p))++x)[i]? =some (.row (dc b s m rc dn)):=fun x=>aT hbu.row;have htl:∀ x:List Uo,(h.set l.t (.row (lC (aG b l.tx).1 l.p))++x)[l.t]? =some (.row [.int .i64 l.tx.id,.int .u64 l.tx.began,.int .i64 l.tx.start,.sl 2 ((aG b l.tx).1.marks.map aP),.map l.p]):=fun x=>by
   refine aT ?_;rw[List.getElem?_set_self hlt];simp only[lC,q4,q6,q7]
  have hHl:(h.set l.t (.row (lC (aG b l.tx).1 l.p))).length=h.length:=by simp
  have hmem:∃ l'∈yL (aG b l.tx).1 lv,l'.t=l.t∧l'.tx.id=l.tx.id∧l'.tx.began=l.tx.began∧l'.tx.start=l.tx.start:=
   ⟨{l with tx:=(aG b l.tx).1},by unfold yL;exact eR.2 ⟨l,hlm,by rw[if_pos q6.symm]⟩,rfl,q6,q4,q7⟩
  have main:∀ (R:U) (h' :List Uo),(gy bq mT qT pT v59 (.seq (.draw K8) (.seq (.draw K9) (.seq (.seq (.region rz) (.cond (.t 91) (.seq (.region Gh) .ret) .skip)) (.seq (.draw La) (.seq (.seq (.region xU) (.cond (.t 106) (.seq (.region Gi) .ret) .skip)) (.seq (.region Gj) (.seq (.region Gk) .ret))))))) (kE h.length v59 (R,h',fl))) .normal
    ⟨[(4,.ptr h.length 0),(0,.ptr i 0),(7,.own (.t 7) 3 ((aG b l.tx).2.1.map eO)),(1,.ptr l.t 0),(8,.own (.t 8) 2 ((aG b l.tx).2.2.map aP))],h.set l.t (.row (lC (aG b l.tx).1 l.p))++[.row [.int .u64 0,.int .u64 0,.int .u64 0,.int .u64 0,.sl 2 [],.sl 2 []]],fl⟩→G 59 [.ptr i 0,.ptr l.t 0] h fl=some (R,h',fl):=by
   intro R h' hK;refine bJ (fn:=v59) rfl rfl rfl ?_;have a:=qfN fl h.length hf hdb hC.rc.lm (l:=l) (m:=m) (rc:=rc) (dn:=dn) (ks:=ks) (qb l.tx) (by unfold small at*;omega) hwok (aG b l.tx) _ h rfl hlt hft.ti hft.ts hft.tO hb.row hb.st hi hK (qb l.tx).length 0 (l.tx,[],[]) (by omega) rfl (by simp) (by simp) (by simp;omega);simp only[hself]at a;simp only[recC,oR]at c1 c2;simp at a c1 c2;simp[vQ,UZ,U0,ZI,ZJ,ZK,c1,c2,hl1,hlt1,kV hf];exact a
  generalize hY:h.set l.t (.row (lC (aG b l.tx).1 l.p))=H at*;rw[hrT]at c6;have hn0:∀ (a:Uo) x,(H++a::x)[h.length]? =some a:=fun a x=>by rw[←hHl];exact OG H x a
  have hn1:∀ (a c:Uo) x,(H++a::c::x)[h.length+1]? =some c:=fun a c x=>by rw[←hHl];exact at1 H x a c
  have hs0:∀ (a y:Uo) x,(H++a::x).set h.length y=H++y::x:=fun a y x=>by rw[←hHl];exact Qr H x a y
  have hs1:∀ (a c y:Uo) x,(H++a::c::x).set (h.length+1) y=H++a::y::x:=fun a c y x=>by rw[←hHl];exact Xh H x a c y
  have hcut:∀ x:List Uo,cut h.length fl (H++x)=H:=fun x=>by rw[←hHl];exact gh (by omega)
  simp only[dc]at hload;cases hj:jM b.ah (lq b l.tx)with
  |none=>
   rw[hj]at c6;simp only[wG]at c6;refine⟨H,_,ks,?_,hbu,hks,hFr,mQ _ _ _ _ _ _,hmem⟩;refine main _ _ ?_;rcases hrc with rfl|⟨rfl,hn⟩
   ·simp[au sH,qa,au sI,nZ,rz,Gh,hload,htl,c5,c6,hHl,hn0,hn1,hs0,hs1,hcut,VS,recC,oR,cT]
   ·have hz0:b.ah.map recC=[]:=hn;rw[hz0]at c6;simp[au sH,qa,au sI,nZ,rz,Gh,hload,htl,c5,c6,hHl,hn0,hn1,hs0,hs1,hcut,VS,recC,oR,cT]
  |some out=>
   rw[hj]at c6;simp only[wG]at c6;obtain⟨hsl,hol⟩:=hbu.st.lt;have c7:=t27 (h:=H++[.row [.int .u64 0,.int .u64 0,.int .u64 0,.int .u64 0,.sl 2 [],.sl 2 []],.row (recC (lq b l.tx))]) fl (by simp;omega) hbu.app;have hiH:i<H.length:=by omega
   have hset:∀ X x,(H++x).set i X=H.set i X++x:=fun X x=>List.set_append_left _ _ hiH;have hset2:∀ Y X x,(H.set i Y++x).set i X=H.set i X++x:=fun Y X x=>by
    rw[List.set_append_left _ _ (by simpa using hiH),List.set_set]
   have hat:∀ X x,(H.set i X++x)[i]? =some X:=fun X x=>aT (List.getElem?_set_self hiH);have hselfi:H.set i (.row (dc (aK b (aG b l.tx).1) s m rc dn))=H:=EC hbu.row;have hbl:dw (H.set i (.row (dc (aK b (aG b l.tx).1) s m .de dn))) i s m o (yL (aG b l.tx).1 lv) (aK b (aG b l.tx).1) .de dn ks:=hbu.cells rfl rfl (List.getElem?_set_self hiH) (fun j hj=>List.getElem?_set_ne (Ne.symm hj));have c7l:=t27 (h:=H.set i (.row (dc (aK b (aG b l.tx).1) s m .de dn))++[.row [.int .u64 0,.int .u64 0,.int .u64 0,.int .u64 0,.sl 2 [],.sl 2 []],.row (recC (lq b l.tx))]) fl (by simp;omega) hbl.app;have hbc:∀ X,dc (aK b (aG b l.tx).1) s m X dn=[.int .i64 b.db.lim.keys,.int .i64 b.db.lim.gA,.int .i64 b.db.lim.bytes,.int .i64 b.db.lim.marks,.int .i64 b.db.lim.records,.int .i64 b.db.lim.live,.int .u64 b.db.lim.last,.ptr s 0,.map m,X,dn,.int .i64 b.last,.int .i64 b.event]:=fun X=>rfl;rw[hbc]at c7l hselfi;obtain⟨h',ks',c8,d2,d3,d4⟩:=t103 (h:=H++[.row [.int .u64 0,.int .u64 0,.int .u64 0,.int .u64 0,.sl 2 [],.sl 2 []],.row (recC (lq b l.tx))]) fl (by simp;omega) hbu.st.app hks hC.r hC.w hC.z hC.now (aG b l.tx).2.1 (by omega) hC.m5 hwk (cR (aK b (aG b l.tx).1));obtain⟨h2,rfl,d5⟩:=d4.split (fun j hj=>by simp at hj;rcases hj with rfl|rfl<;>omega);have hlim:(aV b.db (aG b l.tx).2.1 (cR (aK b (aG b l.tx).1))).2.2.lim=b.db.lim:=qx _ _ _;have hb2:=hbu.db (d:=(aV b.db (aG b l.tx).2.1 (cR (aK b (aG b l.tx).1))).2.2) hlim (d2.DJ (by rw[d5.1];exact hsl) (by rw[d5.1];exact hol)) d5;have hFr2:Fr h h2 (bZ i s m o lv):=hFr.trans (d5.sub (by unfold bZ;simp));have hdbe:(aK b (aG b l.tx).1).db=b.db:=rfl;rw[hdbe]at c8 d2 d3;rw[hrT]at c7 c7l c8;have hH2:h2.length=h.length:=by rw[d5.1,hHl]
   have hm0:∀ (a:Uo) x,(h2++a::x)[h.length]? =some a:=fun a x=>by rw[←hH2];exact OG h2 x a
   have hm1:∀ (a c:Uo) x,(h2++a::c::x)[h.length+1]? =some c:=fun a c x=>by rw[←hH2];exact at1 h2 x a c
   have ht0:∀ (a y:Uo) x,(h2++a::x).set h.length y=h2++y::x:=fun a y x=>by rw[←hH2];exact Qr h2 x a y
   have ht1:∀ (a c y:Uo) x,(h2++a::c::x).set (h.length+1) y=h2++a::y::x:=fun a c y x=>by rw[←hH2];exact Xh h2 x a c y
   have hcut2:∀ x:List Uo,cut h.length fl (h2++x)=h2:=fun x=>by rw[←hH2];exact gh (by omega)
   dsimp only;generalize hCC:aV b.db (aG b l.tx).2.1 (cR (aK b (aG b l.tx).1))=C at*;cases he:C.2.1==0 with
   |true=>
    have he' :C.2.1=0:=by simpa using he
    rw[he']at c8;simp only[cond_true];refine⟨h2,_,ks',?_,hb2,d3,hFr2,mQ _ _ _ _ _ _,hmem⟩;refine main _ _ ?_;rcases hrc with rfl|⟨rfl,hn⟩
    ·simp[au sH,qa,au sI,nZ,rz,au zU,sJ,xU,Gj,Gk,hload,htl,c5,c6,c7,c7l,hset,hset2,hat,hselfi,c8,hHl,hn0,hn1,hs0,hs1,hm0,hm1,ht0,ht1,hcut2,VS,recC,lq,cT]
    ·have hz0:b.ah.map recC=[]:=hn;rw[hz0]at c6;simp[au sH,qa,au sI,nZ,rz,au zU,sJ,xU,Gj,Gk,hload,htl,c5,c6,c7,c7l,hset,hset2,hat,hselfi,c8,hHl,hn0,hn1,hs0,hs1,hm0,hm1,ht0,ht1,hcut2,VS,recC,lq,cT]
   |false=>
    have he' :¬(C.2.1=0):=by simpa using he
    have hei:(((C.2.1:Nat):Int) !=0)=true:=by simp;omega
    simp only[cond_false];refine⟨h2,_,ks',?_,hb2,d3,hFr2,mQ _ _ _ _ _ _,hmem⟩;refine main _ _ ?_;rcases hrc with rfl|⟨rfl,hn⟩
    ·simp[au sH,qa,au sI,nZ,rz,au zU,sJ,xU,Gi,hei,he',hload,htl,c5,c6,c7,c7l,hset,hset2,hat,hselfi,c8,hHl,hn0,hn1,hs0,hs1,hm0,hm1,ht0,ht1,hcut2,VS,recC,oR,cT]
    ·have hz0:b.ah.map recC=[]:=hn;rw[hz0]at c6;simp[au sH,qa,au sI,nZ,rz,au zU,sJ,xU,Gi,hei,he',hload,htl,c5,c6,c7,c7l,hset,hset2,hat,hselfi,c8,hHl,hn0,hn1,hs0,hs1,hm0,hm1,ht0,ht1,hcut2,VS,recC,oR,cT]
end Go.RE
namespace Go.RE
theorem rR{h:List Uo}{i s m o:Nat}{lv:List Lv}{b:Bs}{rc dn ks:U}(hb:dw h i s m o lv b rc dn ks):∀ j∈bZ i s m o lv,j<h.length:=by
 intro j hj;unfold bZ at hj;simp only[dM,List.mem_flatMap,List.not_mem_nil,or_false]at hj;rcases hj with rfl|rfl|rfl|rfl|⟨l,hlm,rfl|rfl⟩
 ·exact(bn.1 hb.row).1
 ·exact hb.st.lt.1
 ·exact hb.map.lt
 ·exact hb.st.lt.2
 ·exact(bn.1 (hb.tx l hlm).1).1
 ·exact(hb.tx l hlm).2.lt
theorem dw.DJ{h x:List Uo}{i s m o:Nat}{lv:List Lv}{b:Bs}{rc dn ks:U}(hb:dw (h++x) i s m o lv b rc dn ks)(hl:∀ j∈bZ i s m o lv,j<h.length):dw h i s m o lv b rc dn ks:=by
 have hi:i<h.length:=hl i (by unfold bZ;simp);have hs:s<h.length:=hl s (by unfold bZ;simp);have hm:m<h.length:=hl m (by unfold bZ;simp);have ho:o<h.length:=hl o (by unfold bZ;simp);refine⟨by have:=hb.row;rwa[cw hi]at this,hb.st.DJ hs ho,by have:=hb.map;rwa[cw hm]at this,hb.Oi,fun l hlm=> ?_,hb.nd⟩;have ht:l.t<h.length:=hl _ (by unfold bZ;simp only[dM,List.mem_flatMap];right;right;right;right;exact⟨l,hlm,by simp⟩);have hp:l.p<h.length:=hl _ (by unfold bZ;simp only[dM,List.mem_flatMap];right;right;right;right;exact⟨l,hlm,by simp⟩);have:=hb.tx l hlm;rwa[cw ht,cw hp]at this
def mJ(t:Tx)(r:Rc)(n e:Nat):Vy:=⟨t.id,t.began,n,t.start,e,r.reads,r.writes⟩
def gK(b:Bs)(t:Tx)(r:Rc)(n:Nat):Bs:=
 {b with event:=b.event+1,done:=b.done++[mJ t r n (b.event+1)],ah:=b.ah++[r]}
def bP(b:Bs)(id:Int):Nat×Nat×Bs:=match gz b id with
 |none=>(0,4,b)
 |some t=>bif(aD b t).2.2.1==0 then((aD b t).2.1,0,jW (gK (aD b t).2.2.2 t (aD b t).1 (aD b t).2.1) id)else((aD b t).2.1,(aD b t).2.2.1,jW (aD b t).2.2.2 id)
theorem o8(b:Bs)(t:Tx):(aD b t).2.2.2.ah=b.ah∧(aD b t).2.2.2.done=b.done∧(aD b t).2.2.2.last=b.last∧(aD b t).2.2.2.event=b.event∧(aD b t).2.2.2.db.lim=b.db.lim:=by
 unfold aD;cases iM b t with
 |true=>exact⟨rfl,rfl,rfl,rfl,rfl⟩
 |false=>
  simp only[cond_false];cases jM b.ah (lq b t)with
  |none=>exact⟨rfl,rfl,rfl,rfl,rfl⟩
  |some out=>
   dsimp only;cases(aV b.db (aG b t).2.1 (cR (aK b (aG b t).1))).2.1==0 with
   |true=>exact⟨rfl,rfl,rfl,rfl,qx _ _ _⟩
   |false=>exact⟨rfl,rfl,rfl,rfl,qx _ _ _⟩
theorem An(b:Bs)(t:Tx):Vw (aD b t).1≤t.marks.length+2*t.ct.length:=by
 have h:=oC b (qb t) (t,[],[]);have hRdef:(qb t).foldl (eW b) (t,[],[])=aG b t:=rfl;rw[hRdef]at h;dsimp only at h;have hw:(qb t).length=t.ct.length:=by unfold qb;rw[kJ]
 have h2:=oA (aG b t).2.2 b.db.lim.marks;simp only[List.length_nil,Nat.zero_add]at h;have hz:Vw oR=0:=rfl;unfold aD;cases iM b t with
 |true=>simp only[cond_true,hz];omega
 |false=>
  simp only[cond_false];cases jM b.ah (lq b t)with
  |none=>simp only[hz];omega
  |some out=>
   dsimp only;cases(aV b.db (aG b t).2.1 (cR (aK b (aG b t).1))).2.1==0 with
   |true=>
    show(aG b t).1.marks.length+(qo (aG b t).2.2 b.db.lim.marks).length≤_;omega
   |false=>simp only[cond_false,hz];omega
theorem Nc(l:List Rc)(r:Rc):sQ (l++[r])=sQ l+Vw r:=by
 induction l with
 |nil=>simp[sQ]
 |cons a l ih=>simp only[List.cons_append,sQ,ih];omega
theorem t19{h:List Uo}{i s m o:Nat}{lv:List Lv}{b:Bs}{rc dn ks:U}(fl:Nat)(hf:fl≤h.length)(hb:dw h i s m o lv b rc dn ks)(hks:n9 ks b.db.keys)(hrc:mD 6 rc (b.ah.map recC))(hdn:mD 7 dn (b.done.map gG)){k:Nat}(hC:qaf b k)(id:Int):
  ∃ h' lv' rc' dn' ks',G 19 [.ptr i 0,.int .i64 id] h fl=some (.aX [.int .u64 ((bP b id).1:Nat),.int .i64 ((bP b id).2.1:Nat)],h',fl)∧dw h' i s m o lv' (bP b id).2.2 rc' dn' ks'∧n9 ks' (bP b id).2.2.db.keys∧
   mD 6 rc' ((bP b id).2.2.ah.map recC)∧mD 7 dn' ((bP b id).2.2.done.map gG)∧Gr h h' (bZ i s m o lv) (bZ i s m o lv')∧h'.length=h.length:=by
 have hi:=(bn.1 hb.row).1;have hl:decide (i<h.length)=true:=decide_eq_true hi;have c1:=t56 fl hf hb id;unfold bP;rw[hb.find];cases hlv:fF k8 id lv with
 |none=>
  rw[hlv]at c1;simp only[j7]at c1;refine⟨h,lv,rc,dn,ks,?_,hb,hks,hrc,hdn,(Fr.refl h _).gr,rfl⟩;refine bJ (fn:=v19) rfl rfl rfl ?_;simp[lE,BN,BO,BP,YF,c1,hl,aR hf]
 |some l=>
  rw[hlv]at c1;simp only[j7]at c1;have hlm:=kQ k8 hlv;have hid:((l.tx.id:Nat):Int)=id:=LO k8 hlv;have hlt0:decide (l.t<h.length)=true:=decide_eq_true (bn.1 (hb.tx l hlm).1).1;obtain⟨H,lv1,ks1,c2,B1,k1,f1,ft1,l1,m1,e1,e2,e3,e4⟩:=t59 fl hf hb hks hrc hC hlm;have hkp:=o8 b l.tx;have hwt:=An b l.tx;simp only[Option.map_some];have hHl:=f1.1;have hiH:i<H.length:=by omega
  have x1:=(B1.tx l1 m1).1;rw[e1]at x1;generalize hct:aD b l.tx=C at*;obtain⟨r,n,e,b1⟩:=C;dsimp only at*;obtain⟨p1,p2,p3,p4,p5⟩:=hkp;cases he:e==0 with
  |false=>
   have he' :¬(e=0):=by simpa using he
   have hei:((e:Int)==0)=false:=by simp;omega
   obtain⟨h3,c3,B3,f3⟩:=t60 (h:=H++[.row (recC r)]) fl (by simp;omega) B1.app (by rw[p1];exact hrc) (by rw[p1];exact hC.rc.len) (by rw[p1];exact hC.rc.wt) (by rw[p5];exact hC.rc.lr) (by rw[p5];exact hC.rc.lm) id;have hfl1:=rR B1;obtain⟨h4,rfl,f4⟩:=f3.split hfl1;have hft4:∀ j∈bZ i s m o (jd k8 id lv1),j<h4.length:=fun j hj=>by rw[f4.1];exact hfl1 j ((oB (jJ k8 id lv1)).subset hj)
   simp only[cond_false];refine⟨h4,_,_,dn,ks1,?_,B3.DJ hft4,k1,.inl rfl,by show mD 7 dn (b1.done.map gG);rw[p2];exact hdn,?_,by rw[f4.1,hHl]⟩
   ·refine bJ (fn:=v19) rfl rfl rfl ?_;have hcut:∀ x:List Uo,cut h.length fl (h4++x)=h4:=fun x=>by
     have:h4.length=h.length:=by rw[f4.1,hHl]
     rw[←this];exact gh (by omega)
    simp only[VS,recC]at c2;simp only[recC]at c3;simp[lE,BN,BO,BP,DL,DM,DN,xO,c1,c2,c3,hl,hlt0,hei,he',hHl,hcut]
   ·refine⟨by rw[f4.1,hHl];exact aq _,fun j _ hj=> ?_,fun j hj=> .inl ?_⟩
    ·rw[f4.2 j (by rw[ft1];exact hj)];exact f1.2 j hj
    ·rw[←ft1];exact(oB (jJ k8 id lv1)).subset hj
  |true=>
   have he' :e=0:=by simpa using he
   subst he';subst hid;simp only[cond_true];have hput:=hC.ct l.tx (hb.mem hlm);have hwt2:=hC.wt2 l.tx (hb.mem hlm);have hlim2:(gK b1 l.tx r n).db=b1.db:=rfl;have hre:(gK b1 l.tx r n).ah=b.ah++[r]:=by show b1.ah++[r]=_;rw[p1]
   have hde:(gK b1 l.tx r n).done=b.done++[mJ l.tx r n (b.event+1)]:=by show b1.done++_=_;rw[p2,p4]
   have hrow:dc (gK b1 l.tx r n) s m (.bE 6 ((b.ah++[r]).map recC)) (.bE 7 ((b.done++[mJ l.tx r n (b.event+1)]).map gG))=
     [.int .i64 b.db.lim.keys,.int .i64 b.db.lim.gA,.int .i64 b.db.lim.bytes,.int .i64 b.db.lim.marks,.int .i64 b.db.lim.records,.int .i64 b.db.lim.live,.int .u64 b.db.lim.last,.ptr s 0,.map m,.bE 6 ((b.ah++[r]).map recC),.bE 7 ((b.done++[mJ l.tx r n (b.event+1)]).map gG),.int .i64 b1.last,.int .i64 ((b.event+1:Nat):Int)]:=by
    simp only[dc,gK,p4,p5]
   have B2:dw (H.set i (.row (dc (gK b1 l.tx r n) s m (.bE 6 ((b.ah++[r]).map recC)) (.bE 7 ((b.done++[mJ l.tx r n (b.event+1)]).map gG))))) i s m o lv1 (gK b1 l.tx r n) (.bE 6 ((b.ah++[r]).map recC)) (.bE 7 ((b.done++[mJ l.tx r n (b.event+1)]).map gG)) ks1:=
    B1.cells (b' :=gK b1 l.tx r n) (rc' :=.bE 6 ((b.ah++[r]).map recC)) (dn' :=.bE 7 ((b.done++[mJ l.tx r n (b.event+1)]).map gG)) rfl rfl (List.getElem?_set_self hiH) (fun j hj=>List.getElem?_set_ne (Ne.symm hj))
   obtain⟨h3,c3,B3,f3⟩:=t60 (h:=H.set i (.row (dc (gK b1 l.tx r n) s m (.bE 6 ((b.ah++[r]).map recC)) (.bE 7 ((b.done++[mJ l.tx r n (b.event+1)]).map gG))))++[.row (recC r)]) fl (by simp;omega) B2.app (by rw[hre];exact .inl rfl) (by rw[hre];simp;exact hC.qeO) (by rw[hre,Nc];omega) (by rw[hlim2,p5];exact hC.rc.lr) (by rw[hlim2,p5];exact hC.rc.lm) ((l.tx.id:Nat):Int);have hfl1:=rR B2;obtain⟨h4,rfl,f4⟩:=f3.split hfl1;have hft4:∀ j∈bZ i s m o (jd k8 ((l.tx.id:Nat):Int) lv1),j<h4.length:=fun j hj=>by rw[f4.1];exact hfl1 j ((oB (jJ k8 _ lv1)).subset hj)
   have hL4:h4.length=h.length:=by rw[f4.1];simp;exact hHl
   refine⟨h4,_,_,_,ks1,?_,B3.DJ hft4,k1,.inl rfl,by
    show mD 7 _ ((gK b1 l.tx r n).done.map gG);rw[hde];exact .inl rfl,?_,hL4⟩
   ·refine bJ (fn:=v19) rfl rfl rfl ?_;have hcut:∀ x:List Uo,cut h.length fl (h4++x)=h4:=fun x=>by
     rw[←hL4];exact gh (by omega)
    have hset:∀ X x,(H++x).set i X=H.set i X++x:=fun X x=>List.set_append_left _ _ hiH;have hset2:∀ Y X x,(H.set i Y++x).set i X=H.set i X++x:=fun Y X x=>by
     rw[List.set_append_left _ _ (by simpa using hiH),List.set_set]
    have hat:∀ X x,(H.set i X++x)[i]? =some X:=fun X x=>aT (List.getElem?_set_self hiH);have hlti:l.t≠i:=(hb.ne.2.2.2.2.2.2.1 l hlm).ti;have hxt:∀ x,(H++x)[l.t]? =some (.row [.int .i64 l.tx.id,.int .u64 l.tx.began,.int .i64 l.tx.start,.sl 2 (l1.tx.marks.map aP),.map l1.p]):=fun x=>by
     refine aT ?_;rw[x1];simp only[lC,e2,e3,e4]
    have hxs:∀ X x,(H.set i X++x)[l.t]? =some (.row [.int .i64 l.tx.id,.int .u64 l.tx.began,.int .i64 l.tx.start,.sl 2 (l1.tx.marks.map aP),.map l1.p]):=fun X x=>by
     refine aT ?_;rw[List.getElem?_set_ne (Ne.symm hlti),x1];simp only[lC,e2,e3,e4]
    have hrr:∀ x,(H++x)[i]? =some (.row [.int .i64 b.db.lim.keys,.int .i64 b.db.lim.gA,.int .i64 b.db.lim.bytes,.int .i64 b.db.lim.marks,.int .i64 b.db.lim.records,.int .i64 b.db.lim.live,.int .u64 b.db.lim.last,.ptr s 0,.map m,rc,dn,.int .i64 b1.last,.int .i64 (b.event:Int)]):=fun x=>by
     refine aT ?_;rw[B1.row];simp only[dc,p4,p5]
    have hat0:∀ (a:Uo) x,(H++a::x)[h.length]? =some a:=fun a x=>by rw[←hHl];exact OG H x a
    have hat1:∀ (X a:Uo) x,(H.set i X++a::x)[h.length]? =some a:=fun X a x=>by
     have:=OG (H.set i X) x a;simpa[hHl]using this
    have hst0:∀ (a y:Uo) x,(H++a::x).set h.length y=H++y::x:=fun a y x=>by rw[←hHl];exact Qr H x a y
    have w1:aI .i64 ((b.event:Int)+1)=((b.event+1:Nat):Int):=eY (by have:=hC.ev;unfold small at this;omega);rw[hrow]at c3;simp only[VS,recC]at c2;simp only[recC]at c3;simp only[Int.natCast_add]at w1;simp only[List.map_append,List.map_cons,List.map_nil,gG,mJ,recC,Int.natCast_add,Int.natCast_one]at c3;have b7:(b.done.length+1)*88≤aZ∧b.done.length+1≤aZ:=by have:=hC.dl;unfold small at this;unfold aZ;omega
    have b6:(b.ah.length+1)*80≤aZ∧b.ah.length+1≤aZ:=by have:=hC.qeO;unfold aZ;omega
    have bz:88≤aZ∧80≤aZ∧1≤aZ:=by unfold aZ;omega
    rcases hrc with rfl|⟨rfl,hn1⟩
    ·rcases hdn with rfl|⟨rfl,hn2⟩
     ·simp[lE,BN,BO,BP,DL,DM,Ip,au Fp,xP,au Fq,xQ,DN,xO,c1,c2,c3,hl,hlt0,hHl,hset,hset2,hat,hat0,hat1,hst0,hxt,hxs,hrr,hcut,w1,b6,b7,bz,cT]
     ·rw[hn2]at c3;simp only[List.nil_append]at c3;simp[lE,BN,BO,BP,DL,DM,Ip,au Fp,xP,au Fq,xQ,DN,xO,c1,c2,c3,hl,hlt0,hHl,hset,hset2,hat,hat0,hat1,hst0,hxt,hxs,hrr,hcut,w1,b6,b7,bz,cT]
    ·rw[hn1]at c3;simp only[List.nil_append]at c3;rcases hdn with rfl|⟨rfl,hn2⟩
     ·simp[lE,BN,BO,BP,DL,DM,Ip,au Fp,xP,au Fq,xQ,DN,xO,c1,c2,c3,hl,hlt0,hHl,hset,hset2,hat,hat0,hat1,hst0,hxt,hxs,hrr,hcut,w1,b6,b7,bz,cT]
     ·rw[hn2]at c3;simp only[List.nil_append]at c3;simp[lE,BN,BO,BP,DL,DM,Ip,au Fp,xP,au Fq,xQ,DN,xO,c1,c2,c3,hl,hlt0,hHl,hset,hset2,hat,hat0,hat1,hst0,hxt,hxs,hrr,hcut,w1,b6,b7,bz,cT]
   ·refine⟨by rw[hL4];exact aq _,fun j _ hj=> ?_,fun j hj=> .inl ?_⟩
    ·have hji:i≠j:=fun hh=>hj (by rw[←hh];unfold bZ;simp);rw[f4.2 j (by rw[ft1];exact hj),List.getElem?_set_ne hji];exact f1.2 j hj
    ·rw[←ft1];exact(oB (jJ k8 _ lv1)).subset hj
end Go.RE
namespace Go.RE
def zY(d:Vy):Prop:=d.reads.length<small∧d.writes.length<small
theorem qfG(L:List Vy)(hL:L.length<small)(hok:∀ d∈L,zY d)(h:List Uo)(fl n:Nat)(hn:h.length=n)(hf:fl≤n)(K:Ex→Vs→Prop)(hK:K .normal ⟨[(3,.own (.t 3) 7 (L.map gG))],h,fl⟩):∀ (j i:Nat),i+j=L.length→
  gL bq mT qT pT v20 0 Fs n ⟨[(15,.int .i64 (i:Int)),(3,.own (.t 3) 7 (L.map gG)),(14,.int .i64 (L.length:Int))],h,fl⟩ K:=by
 subst hn;intro j
 induction j with
 |zero=>
  intro i hij;obtain⟨h1,h2⟩:=nB hij;rw[ak Fs.eq_1];simp[TM,h1,aR hf];exact hK
 |succ j ih=>
  intro i hij;obtain⟨h1,e3,d,d1,g1⟩:=ql hij hL;have e1:=g1 gG;have hi:i<L.length:=by omega
  have hd:zY d:=hok d (List.mem_of_mem_drop (i:=i) (by rw[d1];exact eU));have ia:∀ s',qf s' 7 (some (.own (.t 3) 7 (L.map gG))) (some (.int .i64 (i:Int)))=some (.bD (.t 3) i 0,s'):=fun s' =>cz (by simpa using hi);have hlen:(L.map gG).length=L.length:=by simp
  simp only[gG]at e1;have e7:∀ hh:i<(L.map gG).length,(L.map gG)[i]=[.int .i64 d.id,.int .u64 d.began,.int .u64 d.at_,.int .i64 d.start,.int .i64 d.stop,.sl 2 (d.reads.map aP),.sl 2 (d.writes.map aP)]:=fun hh=>by rw[bL hh]at e1;exact Option.some.inj e1
  have hset:(L.map gG).set i [.int .i64 d.id,.int .u64 d.began,.int .u64 d.at_,.int .i64 d.start,.int .i64 d.stop,.sl 2 (d.reads.map aP),.sl 2 (d.writes.map aP)]=L.map gG:=by
   rw[←e7 (by simpa using hi)];exact List.set_getElem_self _
  have c1:=gQ (f:=62) rfl (w:=2) (xs:=d.reads.map aP) [] 0 (by simpa using hd.1) (kH _);have c2:=gQ (f:=62) rfl (w:=2) (xs:=d.writes.map aP) [] 0 (by simpa using hd.2) (kH _);have ih' :=ih (i+1) (by omega);generalize hX:L.map gG=X at*;rw[ak Fs.eq_1];simp[TM,YI,au qct,TN,YK,h1,ia,e1,e7,e3,hlen,hi,c1,c2,hset,aR hf,cT];simpa using ih'
theorem t20{h:List Uo}{i s m o:Nat}{lv:List Lv}{b:Bs}{rc dn ks:U}(fl:Nat)(hf:fl≤h.length)(hb:dw h i s m o lv b rc dn ks)(hdn:mD 7 dn (b.done.map gG))(hdl:b.done.length<small)(hok:∀ d∈b.done,zY d):G 20 [.ptr i 0] h fl=some (.own .r 7 (b.done.map gG),h,fl):=by
 refine bJ (fn:=v20) rfl rfl rfl ?_;have hl:decide (i<h.length)=true:=decide_eq_true (bn.1 hb.row).1;have c1:=t54 fl hf hb.row;have hr:=hb.row;have a:=qfG b.done hdl hok h fl h.length rfl hf (gy bq mT qT pT v20 (.seq (.region KI) .ret) (kE h.length v20 (.own .r 7 (b.done.map gG),h,fl))) (by simp[KI,aR hf]) b.done.length 0 (by omega);simp only[dc]at hr;rcases hdn with rfl|⟨rfl,hn⟩
 ·have c2:=Nr b.done hdl;simp at a;simp[u9,TI,TJ,TK,TL,c1,c2,hl,hr,aR hf];exact a
 ·have hn0:b.done=[]:=by simpa using hn
  have c2:=gQ (f:=61) rfl (w:=7) (xs:=[]) [] 0 (by decide) rfl;rw[hn0]at a⊢;simp at a;simp[u9,TI,TJ,TK,TL,c1,c2,hl,hr,aR hf];exact a
def iE(l:Lm):List U:=[.int .i64 l.keys,.int .i64 l.gA,.int .i64 l.bytes,.int .i64 l.marks,.int .i64 l.records,.int .i64 l.live,.int .u64 l.last]
structure Gz(l:Lm):Prop where
 k:1≤l.keys∧l.keys≤1048576
 v:1≤l.gA∧l.gA≤1048576
 b:1≤l.bytes∧l.bytes≤1048576
 m:1≤l.marks∧l.marks≤1048576
 r:1≤l.records∧l.records≤1048576
 n:1≤l.live∧l.live≤64
 z:l.last≠0
def Ov(l:Lm):Db:=⟨l,0,[],[],0,0,0⟩
def Cy(l:Lm):Bs:=⟨Ov l,[],[],[],0,0⟩
theorem AR{a:Nat}(h:1≤a∧a≤1048576):¬((a:Int)<1)∧¬((1048576:Int)<(a:Int)):=⟨by omega,by omega⟩
theorem t86(l:Lm)(hl:Gz l):G 86 [.agg (iE l)] [] 0=some (.aX [.ptr 2 0,.int .i64 0],[.row (iE l),.map [] 0,.row (dz (Ov l) 1 (.nl 1))],0):=by
 refine bJ (fn:=Z6) rfl rfl rfl ?_;have a1:=AR hl.k;have a2:=AR hl.v;have a3:=AR hl.b;have hz:((l.last:Int)==0)=false:=by rw[beq_eq_false_iff_ne];have:=hl.z;omega
 have hz' :¬l.last=0:=hl.z;have e1:aI .i64 1=1:=rfl;have e2:aI .i64 2=2:=rfl;have e3:aI .i64 3=3:=rfl;simp[Cp,Z7,Z8,iE];rw[ak Co.eq_1];simp[Iv,M9,Na,Nb,a1,a2,a3,e1];rw[ak Co.eq_1];simp[Iv,M9,Na,Nb,a1,a2,a3,e2];rw[ak Co.eq_1];simp[Iv,M9,Na,Nb,a1,a2,a3,e3];rw[ak Co.eq_1];simp[Iv,Z9,Vc,hz,hz',dz,Ov]
theorem t41(l:Lm)(hl:Gz l):G 41 [.agg (iE l)] [] 0=some (.aX [.ptr 5 0,.int .i64 0],[.row (iE l),.row (iE l),.map [] 0,.row (dz (Ov l) 2 (.nl 1)),.map [] 0,.row (dc (Cy l) 3 4 (.nl 6) (.nl 7))],0):=by
 refine bJ (fn:=v41) rfl rfl rfl ?_;have a1:=AR hl.m;have a2:=AR hl.r;have a3:¬((l.live:Int)<1)∧¬((64:Int)<(l.live:Int)):=by have:=hl.n;omega
 have e1:aI .i64 1=1:=rfl;have e2:aI .i64 2=2:=rfl;have c:=t86 l hl;simp only[iE,dz]at c;simp[B5,Za,Zb,Zc,Zd,iE,c,jl];rw[ak zS.eq_1];simp[M4,UG,UH,UI,a1,a2,a3,e1];rw[ak zS.eq_1];simp[M4,UG,UH,UI,a1,a2,a3,e2];rw[ak zS.eq_1];simp[M4,UE,UF,a3,dz,Ov,dc,Cy]
theorem t14(l:Lm)(hl:Gz l):G 14 [.agg (iE l)] [] 0=some (.ptr 6 0,[.row (iE l),.row (iE l),.row (iE l),.map [] 0,.row (dz (Ov l) 3 (.nl 1)),.map [] 0,.row (dc (Cy l) 4 5 (.nl 6) (.nl 7))],0):=by
 refine bJ (fn:=v14) rfl rfl rfl ?_;have c:=t41 l hl;simp only[iE,dz,dc]at c;simp[BF,Yj,Yk,Yl,Ym,iE,c,dz,dc,jl]
def lH:Lm:=⟨1000,100000,1048576,1000,1000,16,1099511627776⟩
theorem rG:Gz lH:=⟨by decide,by decide,by decide,by decide,by decide,by decide,by decide⟩
theorem t15:G 15 [] [] 0=some (.agg (iE lH),[],0):=by
 refine bJ (fn:=v15) rfl rfl rfl ?_;simp[BG,Yn,Yo,iE,lH]
theorem t51(k d:By)(hd:d.length≤aZ:=by decide):G 51 [.str k,.str d] [] 0=some (.agg (eO ⟨k,false,d⟩),[],0):=by
 refine bJ (fn:=v51) rfl rfl rfl ?_;simp[B7,Zk,Zl,eO,hd]
theorem qdP(l:Lm):dw [.row (iE l),.row (iE l),.row (iE l),.map [] 0,.row (dz (Ov l) 3 (.nl 1)),.map [] 0,.row (dc (Cy l) 4 5 (.nl 6) (.nl 7))] 6 4 5 3 [] (Cy l) (.nl 6) (.nl 7) (.nl 1):=
 ⟨rfl,⟨rfl,uu kO⟩,uu k8,rfl,fun l hl=>(List.not_mem_nil hl).elim,by decide⟩
end Go.RE
namespace Go.RE
structure DU where
 dO:Int
 id:Int
 w:Wt
 hi:By
def eN(o:DU):List U:=[.int .i64 o.dO,.int .i64 o.id,.str o.w.key,.bool o.w.gone,.sl 1 (bQ o.w.data),.str o.hi]
structure Cx(h:List Uo)(fl:Nat)(i s m o:Nat)(F:List Nat)(b:Bs):Prop where
 at_:∃ lv rc dn ks,dw h i s m o lv b rc dn ks∧n9 ks b.db.keys∧mD 6 rc (b.ah.map recC)∧mD 7 dn (b.done.map gG)∧F=bZ i s m o lv
 fle:fl≤h.length
theorem dw.same{h h' :List Uo}{i s m o:Nat}{lv:List Lv}{b:Bs}{rc dn ks:U}(hb:dw h i s m o lv b rc dn ks)(hs:∀ j∈bZ i s m o lv,h'[j]? =h[j]?):dw h' i s m o lv b rc dn ks:=by
 have e1:=hs i (by unfold bZ;simp);have e2:=hs s (by unfold bZ;simp);have e3:=hs m (by unfold bZ;simp);have e4:=hs o (by unfold bZ;simp);refine⟨by rw[e1];exact hb.row,hb.st.same e2 e4,by rw[e3];exact hb.map,hb.Oi,fun l hl=> ?_,hb.nd⟩;have e5:=hs l.t (by unfold bZ;simp only[dM,List.mem_flatMap];right;right;right;right;exact⟨l,hl,by simp⟩);have e6:=hs l.p (by unfold bZ;simp only[dM,List.mem_flatMap];right;right;right;right;exact⟨l,hl,by simp⟩);rw[e5,e6];exact hb.tx l hl
structure Left(h h' :List Uo)(fl fl' :Nat)(i s m o:Nat)(F F' :List Nat)(b' :Bs):Prop where
 at_:Cx h' fl' i s m o F' b'
 gr:Gr h h' F F'
 fll:fl≤fl'
 or:(fl' =fl∧h'.length=h.length∧∀ j∈F',j∈F)∨fl' =h'.length
theorem Left.fin{h x h' :List Uo}{fl fl' :Nat}{i s m o:Nat}{F F' :List Nat}{b' :Bs}(hf:fl≤h.length)(hF:∀ j∈F,j<h.length)(hl:Left (h++x) h' fl fl' i s m o F F' b'){k:Nat}(hk:h.length≤k)(hk2:k<h.length+x.length)(y:Uo):
  Left h (cut h.length fl' (h'.set k y)) fl fl' i s m o F F' b' :=by
 obtain⟨⟨⟨lv,rc,dn,ks,hb,r1,r2,r3,rfl⟩,hfl⟩,⟨g1,g2,g3⟩,h1,h2⟩:=hl;have hkF:∀ j∈bZ i s m o lv,j≠k:=fun j hj hh=>by
  subst hh;rcases g3 j hj with h|h
  ·have:=hF j h;omega
  ·simp at h;omega
 have hlt:=rR hb;simp only[lG]at g1;have hmx:∀ j∈bZ i s m o lv,j<max h.length fl' :=by
  intro j hj;rcases h2 with⟨e,_,h3⟩|e
  ·have:=hF j (h3 j hj);omega
  ·have:=hlt j hj;omega
 have hget:∀ j,j<max h.length fl'→j≠k→(cut h.length fl' (h'.set k y))[j]? =h'[j]? :=fun j hj hn=>by
  unfold cut;rw[jP,if_pos hj,List.getElem?_set_ne (Ne.symm hn)]
 refine⟨⟨⟨lv,rc,dn,ks,hb.same (fun j hj=>hget j (hmx j hj) (hkF j hj)),r1,r2,r3,rfl⟩,?_⟩,⟨?_,fun j hj hn=> ?_,fun j hj=> ?_⟩,h1,?_⟩
 ·unfold cut;rw[List.length_take,List.length_set];omega
 ·unfold cut;rw[List.length_take,List.length_set];omega
 ·rw[hget j (by omega) (by omega),g2 j (by simp;omega) hn,cw hj]
 ·rcases g3 j hj with h|h
  ·exact .inl h
  ·right;simp at h;omega
 ·rcases h2 with⟨e,h3,h4⟩|e
  ·left;refine⟨e,?_,h4⟩;unfold cut;rw[List.length_take,List.length_set];simp at h3;omega
  ·right;unfold cut;rw[List.length_take,List.length_set,Nat.max_eq_right (by omega)];omega
structure Pre(b:Bs)(k:Nat):Prop where
 cm:qaf b k
 ids:∀ t∈b.live,t.id≤b.last
 last:b.last<small
 li:b.db.lim.live<small
theorem Cx.app{h x:List Uo}{fl:Nat}{i s m o:Nat}{F:List Nat}{b:Bs}(hb:Cx h fl i s m o F b):Cx (h++x) fl i s m o F b:=by
 obtain⟨⟨lv,rc,dn,ks,hb,r1,r2,r3,r4⟩,h2⟩:=hb;exact⟨⟨lv,rc,dn,ks,hb.app,r1,r2,r3,r4⟩,by simp;omega⟩
theorem Cx.lt{h:List Uo}{fl:Nat}{i s m o:Nat}{F:List Nat}{b:Bs}(hb:Cx h fl i s m o F b):∀ j∈F,j<h.length:=by
 obtain⟨⟨lv,rc,dn,ks,hb,r1,r2,r3,rfl⟩,h2⟩:=hb;exact rR hb
theorem Left.WY{h h' :List Uo}{fl:Nat}{i s m o:Nat}{lv lv' :List Lv}{b' :Bs}{rc dn ks:U}(hf:fl≤h.length)(hb:dw h' i s m o lv' b' rc dn ks)(r1:n9 ks b'.db.keys)(r2:mD 6 rc (b'.ah.map recC))(r3:mD 7 dn (b'.done.map gG))(hfr:Fr h h' (bZ i s m o lv))(hft:bZ i s m o lv' =bZ i s m o lv):
  Left h h' fl fl i s m o (bZ i s m o lv) (bZ i s m o lv') b' :=
 ⟨⟨⟨lv',rc,dn,ks,hb,r1,r2,r3,rfl⟩,by rw[hfr.1];exact hf⟩,by rw[hft];exact hfr.gr,aq _,.inl ⟨rfl,hfr.1,fun j hj=>by rw[←hft];exact hj⟩⟩
theorem w17{h:List Uo}{fl:Nat}{i s m o:Nat}{F:List Nat}{b:Bs}{k:Nat}(hb:Cx h fl i s m o F b)(hp:Pre b k):
  ∃ h' fl' F',G 17 [.ptr i 0] h fl=some (.aX [.int .i64 ((bN b).1:Nat),.int .i64 ((bN b).2.1:Nat)],h',fl')∧Left h h' fl fl' i s m o F F' (bN b).2.2:=by
 obtain⟨⟨lv,rc,dn,ks,hb,r1,r2,r3,rfl⟩,h2⟩:=hb;obtain⟨h',lv',fl',c,hb',g,f1,f2,f3⟩:=t17 fl h2 hb hp.ids hp.last (by have:=hp.cm.ev;omega) hp.li;have hk:(bN b).2.2.db=b.db∧(bN b).2.2.ah=b.ah∧(bN b).2.2.done=b.done:=by
  unfold bN;cases decide (b.db.lim.live≤b.live.length)<;>exact⟨rfl,rfl,rfl⟩
 refine⟨h',fl',_,c,⟨⟨lv',rc,dn,ks,hb',by rw[hk.1];exact r1,by rw[hk.2.1];exact r2,by rw[hk.2.2];exact r3,rfl⟩,f2⟩,g,f1,?_⟩;rcases f3 with⟨e1,e2,e3⟩|e
 ·exact .inl ⟨e1,e3,fun j hj=>by rw[←e2];exact hj⟩
 ·exact .inr e
theorem w36{h:List Uo}{fl:Nat}{i s m o:Nat}{F:List Nat}{b:Bs}{k:Nat}(hb:Cx h fl i s m o F b)(hp:Pre b k)(id:Int)(key:By)(hkl:key.length<small):
  ∃ h' F',G 36 [.ptr i 0,.int .i64 id,.str key] h fl=some ((iw b id key).1,h',fl)∧Left h h' fl fl i s m o F F' (iw b id key).2:=by
 obtain⟨⟨lv,rc,dn,ks,hb,r1,r2,r3,rfl⟩,h2⟩:=hb;obtain⟨h',lv',c,hb',g,ft⟩:=t36 fl h2 hb hp.cm.ok id key hkl;have hk:(iw b id key).2.db=b.db∧(iw b id key).2.ah=b.ah∧(iw b id key).2.done=b.done:=by
  unfold iw;cases gz b id with
  |none=>exact⟨rfl,rfl,rfl⟩
  |some t=>dsimp only;cases fF nU key t.ct<;>exact⟨rfl,rfl,rfl⟩
 exact⟨h',_,c,Left.WY h2 hb' (by rw[hk.1];exact r1) (by rw[hk.2.1];exact r2) (by rw[hk.2.2];exact r3) g ft⟩
theorem w37{h:List Uo}{fl:Nat}{i s m o:Nat}{F:List Nat}{b:Bs}{k:Nat}(hb:Cx h fl i s m o F b)(hp:Pre b k)(id:Int)(lo hi:By):
  ∃ h' F',G 37 [.ptr i 0,.int .i64 id,.str lo,.str hi] h fl=some ((jO b id (lo,hi)).1,h',fl)∧Left h h' fl fl i s m o F F' (jO b id (lo,hi)).2:=by
 obtain⟨⟨lv,rc,dn,ks,hb,r1,r2,r3,rfl⟩,h2⟩:=hb;obtain⟨h',lv',c,hb',g,ft⟩:=t37 fl h2 hb r1 hp.cm.ok id lo hi;have hk:(jO b id (lo,hi)).2.db=b.db∧(jO b id (lo,hi)).2.ah=b.ah∧(jO b id (lo,hi)).2.done=b.done:=by
  unfold jO;cases gz b id with
  |none=>exact⟨rfl,rfl,rfl⟩
  |some t=>dsimp only;cases dG (lo,hi)<;>exact⟨rfl,rfl,rfl⟩
 exact⟨h',_,c,Left.WY h2 hb' (by rw[hk.1];exact r1) (by rw[hk.2.1];exact r2) (by rw[hk.2.2];exact r3) g ft⟩
theorem w18{h:List Uo}{fl:Nat}{i s m o:Nat}{F:List Nat}{b:Bs}(hb:Cx h fl i s m o F b)(id:Int)(w:Wt)(hw:ow w):
  ∃ h' F',G 18 [.ptr i 0,.int .i64 id,.agg (eO w)] h fl=some (.int .i64 ((dY b id w).1:Nat),h',fl)∧Left h h' fl fl i s m o F F' (dY b id w).2:=by
 obtain⟨⟨lv,rc,dn,ks,hb,r1,r2,r3,rfl⟩,h2⟩:=hb;obtain⟨h',lv',c,hb',g,ft⟩:=t18 fl h2 hb id w hw;have hk:(dY b id w).2.db=b.db∧(dY b id w).2.ah=b.ah∧(dY b id w).2.done=b.done:=by
  unfold dY;cases gz b id with
  |none=>exact⟨rfl,rfl,rfl⟩
  |some t=>dsimp only;cases fL none w==0<;>exact⟨rfl,rfl,rfl⟩
 exact⟨h',_,c,Left.WY h2 hb' (by rw[hk.1];exact r1) (by rw[hk.2.1];exact r2) (by rw[hk.2.2];exact r3) g ft⟩
theorem Gr.sub{h h' :List Uo}{l l' :List Nat}(hg:Gr h h' l l')(hlen:h'.length=h.length)(hl:∀ j∈l',j<h'.length):∀ j∈l',j∈l:=fun j hj=>by
 rcases hg.2.2 j hj with h1|h1
 ·exact h1
 ·have:=hl j hj;omega
theorem w53{h:List Uo}{fl:Nat}{i s m o:Nat}{F:List Nat}{b:Bs}{k:Nat}(hb:Cx h fl i s m o F b)(hp:Pre b k)(id:Int):
  ∃ h' F',G 53 [.ptr i 0,.int .i64 id] h fl=some (.int .i64 ((gE b id).1:Nat),h',fl)∧Left h h' fl fl i s m o F F' (gE b id).2:=by
 obtain⟨⟨lv,rc,dn,ks,hb,r1,r2,r3,rfl⟩,h2⟩:=hb;obtain⟨h',lv',rc',c,hb',r4,g,gl⟩:=t53 fl h2 hb r2 hp.cm.rc id;have hk:(gE b id).2.db=b.db∧(gE b id).2.done=b.done:=by
  unfold gE;cases gz b id<;>exact⟨rfl,rfl⟩
 exact⟨h',_,c,⟨⟨⟨lv',rc',dn,ks,hb',by rw[hk.1];exact r1,r4,by rw[hk.2];exact r3,rfl⟩,by omega⟩,g,aq _,.inl ⟨rfl,gl,g.sub gl (rR hb')⟩⟩⟩
theorem w19{h:List Uo}{fl:Nat}{i s m o:Nat}{F:List Nat}{b:Bs}{k:Nat}(hb:Cx h fl i s m o F b)(hp:Pre b k)(id:Int):
  ∃ h' F',G 19 [.ptr i 0,.int .i64 id] h fl=some (.aX [.int .u64 ((bP b id).1:Nat),.int .i64 ((bP b id).2.1:Nat)],h',fl)∧Left h h' fl fl i s m o F F' (bP b id).2.2:=by
 obtain⟨⟨lv,rc,dn,ks,hb,r1,r2,r3,rfl⟩,h2⟩:=hb;obtain⟨h',lv',rc',dn',ks',c,hb',r4,r5,r6,g,gl⟩:=t19 fl h2 hb r1 r2 r3 hp.cm id;exact⟨h',_,c,⟨⟨⟨lv',rc',dn',ks',hb',r4,r5,r6,rfl⟩,by omega⟩,g,aq _,.inl ⟨rfl,gl,g.sub gl (rR hb')⟩⟩⟩
theorem w50{h:List Uo}{fl:Nat}{i s m o:Nat}{F:List Nat}{b:Bs}{k:Nat}(hb:Cx h fl i s m o F b)(hp:Pre b k):
  ∃ h' F',G 50 [.ptr i 0] h fl=some (.int .i64 (Aj b).1,h',fl)∧Left h h' fl fl i s m o F F' (Aj b).2:=by
 obtain⟨⟨lv,rc,dn,ks,hb,r1,r2,r3,rfl⟩,h2⟩:=hb;obtain⟨h',ks',c,hb',r4,g⟩:=t50 fl h2 hb r1 hp.cm.r hp.cm.w hp.cm.m5 hp.cm.z;exact⟨h',_,c,Left.WY h2 hb' r4 r2 r3 g rfl⟩
end Go.RE
namespace Go.RE
open Go.Proofs
theorem qhr{H:Type}:Gy (Go.Proofs.YtmpopachilfinaaGreat.Rows.uptoBulk (H:=H)):=by
 have part:∀ (l:List (DataW H)) d,d∈l→Go.Proofs.YtmpopachilfinaaGreat.Rows.uptoBulk d≤Go.Proofs.YtmpopachilfinaaGreat.Rows.uptoBulkAll l:=by
  intro l
  induction l with
  |nil=>intro d h;cases h
  |cons x r ih=>
   intro d h;simp only[Go.Proofs.YtmpopachilfinaaGreat.Rows.uptoBulkAll];rcases dM.1 h with rfl|h
   ·omega
   ·have:=ih d h;omega
 have one:∀ d:DataW H,1≤Go.Proofs.YtmpopachilfinaaGreat.Rows.uptoBulk d:=by
  intro d;cases d with
  |lit l=>cases l<;>simp[Go.Proofs.YtmpopachilfinaaGreat.Rows.uptoBulk]
  |_=>simp[Go.Proofs.YtmpopachilfinaaGreat.Rows.uptoBulk]
 have len:∀ l:List (DataW H),l.length≤Go.Proofs.YtmpopachilfinaaGreat.Rows.uptoBulkAll l:=by
  intro l
  induction l with
  |nil=>simp
  |cons x r ih=>have:=one x;simp only[Go.Proofs.YtmpopachilfinaaGreat.Rows.uptoBulkAll,List.length_cons];omega
 refine⟨fun b=>by simp[Go.Proofs.YtmpopachilfinaaGreat.Rows.uptoBulk],fun es sp=> ?_,fun es sp d hd=> ?_,fun ps d hd=> ?_⟩
 ·have:=len es;simp only[Go.Proofs.YtmpopachilfinaaGreat.Rows.uptoBulk];omega
 ·have:=part es d hd;simp only[Go.Proofs.YtmpopachilfinaaGreat.Rows.uptoBulk];omega
 ·have:=part ps d hd;simp only[Go.Proofs.YtmpopachilfinaaGreat.Rows.uptoBulk];omega
section
variable{H:Type}{enc:TypeId×Value→H}{w:World}{bk:DataW H→Nat}{B:Nat}
theorem Ln.imp{P:Program}{t:TypeId}{S S' :List U→Prop}(h:Ln enc P w bk B t S)(hs:∀ us,S us→S' us):Ln enc P w bk B t S' :=fun fuel cs x hx hb=>by
 obtain⟨vs,us,h1,h2,h3⟩:=h fuel cs x hx hb;exact⟨vs,us,h1,hs us h2,h3⟩
theorem HT{α:Type}{f:α→List U}{S:List U→Prop}(h:∀ r,S r→∃ a,r=f a):∀ {rows:List (List U)},(∀ r∈rows,S r)→∃ l:List α,rows=l.map f:=by
 intro rows
 induction rows with
 |nil=>intro _;exact⟨[],rfl⟩
 |cons r rows ih=>
  intro hr;obtain⟨a,rfl⟩:=h r (hr r eU);obtain⟨l,rfl⟩:=ih fun x hx=>hr x (gB _ hx);exact⟨a::l,rfl⟩
theorem W0(hk:Gy bk):Ln enc Tryz.prog w bk B 23 fun us=>∃ d:By,us=[.sl 1 (bQ d)]∧d.length≤B:=by
 refine(Dv hk Tryz.underlying23 (c:=1) (by kernel_rfl) (by omega) (Ep Tryz.underlying5)).imp fun us h=> ?_;obtain⟨rows,rfl,h1,h2,h3⟩:=h;obtain⟨d,rfl⟩:=HT (f:=Lp) (S:=fun r=>∃ n,r=[U.int .u8 n]∧(Lit.int IntKind.u8 n).wf=true) (fun r hr=>by
  obtain⟨n,rfl,hn⟩:=hr;have hb:0≤n∧n<256:=by
   simp[Lit.wf,IntKind.min,IntKind.max,IntKind.bits,IntKind.signed]at hn;omega
  refine⟨UInt8.ofNat n.toNat,?_⟩;have:((UInt8.ofNat n.toNat).toNat:Int)=n:=by
   have e1:(UInt8.ofNat n.toNat).toNat=n.toNat % 256:=UInt8.toNat_ofNat';rw[e1];omega
  simp only[Lp,this]) fun r hr=>(h1 r hr).1
 exact⟨d,rfl,by simpa[bQ]using h2⟩
theorem W2(hk:Gy bk):Ln enc Tryz.prog w bk B 25 fun us=>∃ p:Wt,us=eO p:=by
 refine(A4 hk Tryz.underlying25 (Ss:=[_,_,_]) (by kernel_rfl) ⟨A3 hk Tryz.underlying9,Qc Tryz.underlying4,W0 hk,trivial⟩).imp fun us h=> ?_;obtain⟨a,b,rfl,⟨k,rfl,hk'⟩,a2,b2,rfl,⟨g,rfl⟩,a3,b3,rfl,⟨d,rfl,hd⟩,rfl⟩:=h;exact⟨⟨k,g,d⟩,rfl⟩
theorem qhE(hk:Gy bk):Ln enc Tryz.prog w bk B 35 fun us=>∃ o:DU,us=eN o:=by
 refine(A4 hk Tryz.underlying35 (Ss:=[_,_,_,_]) (by kernel_rfl) ⟨Ep Tryz.underlying3,Ep Tryz.underlying3,W2 hk,A3 hk Tryz.underlying9,trivial⟩).imp fun us h=> ?_;obtain⟨_,_,rfl,⟨d,rfl,_⟩,_,_,rfl,⟨i,rfl,_⟩,_,_,rfl,⟨p,rfl⟩,_,_,rfl,⟨s,rfl,_⟩,rfl⟩:=h;exact⟨⟨d,i,p,s⟩,rfl⟩
theorem qe7(hk:Gy bk):Ln enc Tryz.prog w bk B 22 fun us=>∃ l:List DU,us=[.sl 6 (l.map eN)]∧l.length≤B:=by
 refine(Dv hk Tryz.underlying22 (c:=6) (by kernel_rfl) (by omega) (qhE hk)).imp fun us h=> ?_;obtain⟨rows,rfl,h1,h2,h3⟩:=h;obtain⟨l,rfl⟩:=HT (f:=eN) (S:=fun us=>∃ o:DU,us=eN o) (fun r hr=>hr) fun r hr=>(h1 r hr).1;exact⟨l,rfl,by simpa using h2⟩
end
end Go.RE
