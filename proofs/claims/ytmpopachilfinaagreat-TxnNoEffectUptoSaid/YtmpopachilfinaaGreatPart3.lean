/- A part of a proof. -/
import Derived.Test.YtmpopachilfinaaGreatPart2
import Derived.Scope
set_option linter.unusedVariables false
set_option linter.unusedSimpArgs false
namespace Go.RE
section
variable{P:Program}
theorem EB{n:Nat}{all:List Oper}{o:Oper}{r:List Oper}{acc:List Nat}{l:List aG}(h:Ah P n all (o::r) acc=some l):
  ∃ g l',guardOf all o=some g∧Ah P n all r (acc++[oN acc o])=some l'∧(∀ d,o.dst=some d→d<n)∧l={dst:=o.dst,op:=cop P o.op,guard:=g,aT:=oN acc o}::l' :=by
 simp only[Ah]at h;cases hg:guardOf all o with
 |none=>simp[hg]at h
 |some g=>
  cases hr:Ah P n all r (acc++[oN acc o])with
  |none=>simp[hg,hr]at h
  |some l' =>
   simp only[hg,hr]at h;cases hd:o.dst with
   |none=>simp[hd]at h;exact⟨g,l',rfl,rfl,by simp,h.symm⟩
   |some d=>
    simp only[hd]at h;cases hb:Nat.blt d n with
    |false=>simp[hb]at h
    |true=>
     simp only[hb,cond_true,ag]at h;exact⟨g,l',rfl,rfl,fun d' hd' =>by simp at hd';subst hd';rw[Nat.blt_eq]at hb;exact hb,h.symm⟩
def pr(l:List aG)(i:Nat):Nat:=(l.getD i default).aT
def dn(l:List aG)(i:Nat):Option Nat:=(l.getD i default).dst
def sm(l:List aG)(i:Nat):Bool:=(l.getD i default).small
theorem R9{n:Nat}{all:List Oper}:∀ (r:List Oper) (acc:List Nat) (l:List aG),Ah P n all r acc=some l→
  l.length=r.length∧∀ (i:Nat) o,r[i]? =some o→∃ co,l[i]? =some co∧co.dst=o.dst∧co.op=cop P o.op∧guardOf all o=some co.guard∧(∀ d,o.dst=some d→d<n)∧
   co.aT=oN (acc++(l.take i).map (·.aT)) o:=by
 intro r
 induction r with
 |nil=>intro acc l h;simp[Ah]at h;subst h;exact⟨rfl,fun i o h=>by simp at h⟩
 |cons o r ih=>
  intro acc l h;obtain⟨g,l',h1,h2,h3,rfl⟩:=EB h;obtain⟨a1,a2⟩:=ih _ _ h2;refine⟨by simp[a1],fun i o' hi=> ?_⟩;cases i with
  |zero=>simp at hi;subst hi;exact⟨_,rfl,rfl,rfl,h1,h3,by simp⟩
  |succ i=>
   simp only[DQ]at hi;obtain⟨co,b1,b2,b3,b4,b5,b6⟩:=a2 i o' hi;exact⟨co,by simpa using b1,b2,b3,b4,b5,by rw[b6];simp[gD]⟩
theorem Jw(acc:List Nat)(o:Oper)(b:Nat)(h:(oN acc o).testBit b=true):∃ e∈o.after.toList,Region.binds .any e=true∧(b=e.on∨(acc.getD e.on 0).testBit b=true):=by
 unfold oN at h;have key:∀ (l:List Edge) (s:Nat),(l.foldl (fun s e=>bif Region.binds .any e then Nat.lor (Nat.lor s (2 ^ e.on)) (acc.getD e.on 0)else s) s).testBit b=true→
   s.testBit b=true∨∃ e∈l,Region.binds .any e=true∧(b=e.on∨(acc.getD e.on 0).testBit b=true):=by
  intro l
  induction l with
  |nil=>intro s h;exact .inl h
  |cons e l ih=>
   intro s h;simp only[mz]at h;rcases ih _ h with h' |⟨e',h1,h2⟩
   ·cases hb:Region.binds .any e with
    |false=>rw[hb]at h';exact .inl h'
    |true=>
     rw[hb]at h';simp only[cond_true]at h';have h'' :((s|||2 ^ e.on)|||acc.getD e.on 0).testBit b=true:=h';rw[Yk,Yk,uN,uN]at h'';rcases h'' with(h3|h3)|h3
     ·exact .inl h3
     ·rw[Nat.testBit_two_pow]at h3;simp at h3;exact .inr ⟨e,by simp,hb,.inl h3.symm⟩
     ·exact .inr ⟨e,by simp,hb,.inr h3⟩
   ·exact .inr ⟨e',by simp[h1],h2⟩
 rcases key _ 0 h with h|h
 ·simp at h
 ·exact h
structure Stat(P:Program)(n:Nat)(ops:Array Oper)(l:List aG):Prop where
 len:l.length=ops.size
 op:∀ (i:Nat) o,ops[i]? =some o→∃ co,l[i]? =some co∧co.dst=o.dst∧co.op=cop P o.op∧guardOf ops.toList o=some co.guard∧(∀ d,o.dst=some d→d<n)
 pred:∀ (i:Nat) o,ops[i]? =some o→∀ b,(pr l i).testBit b=true→∃ e∈o.after.toList,Region.binds .any e=true∧(b=e.on∨(pr l e.on).testBit b=true)
 lt:∀ (i:Nat) o,ops[i]? =some o→∀ e∈o.after.toList,Region.binds .any e=true→e.on<i
 uniq:∀ i j t,i<ops.size→j<ops.size→i≠j→dn l j=some t→dn l i≠some t
 reads:∀ (i j:Nat) o t,ops[i]? =some o→j<ops.size→i≠j→dn l j=some t→t∈ot o ops.toList→(pr l i).testBit j=true∨(pr l j).testBit i=true
theorem lK{α:Type}[Inhabited α]{l:List α}{i:Nat}{x:α}(h:l[i]? =some x):l.getD i default=x:=by simp[List.getD,h]
theorem Stat.of{n:Nat}{ops:Array Oper}{l:List aG}(hc:Ah P n ops.toList ops.toList []=some l)(hd:BH ops.toList l=true):Stat P n ops l:=by
 obtain⟨h1,h2⟩:=R9 _ _ _ hc;have hlen:l.length=ops.size:=by simpa using h1
 have lift:∀ (i:Nat) o,ops[i]? =some o→ops.toList[i]? =some o:=fun i o h=>by simpa using h
 have hop:∀ (i:Nat) o,ops[i]? =some o→∃ co,l[i]? =some co∧co.dst=o.dst∧co.op=cop P o.op∧guardOf ops.toList o=some co.guard∧(∀ d,o.dst=some d→d<n):=fun i o h=>by
  obtain⟨co,a1,a2,a3,a4,a5,_⟩:=h2 i o (lift i o h);exact⟨co,a1,a2,a3,a4,a5⟩
 unfold BH at hd;rw[fF]at hd;have hrow:∀ (i:Nat) o,ops[i]? =some o→(o.after.toList.all (fun e=> !Region.binds .any e||Nat.blt e.on i)=true)∧
   ∀ j,j<ops.size→i≠j→∀ t,dn l j=some t→dn l i≠some t∧(t∈ot o ops.toList→(pr l i).testBit j=true∨(pr l j).testBit i=true):=fun i o hi=>by
  have hlt:i<ops.toList.length:=(aH.1 (lift i o hi)).1;have h:=hd i (Ab.2 hlt);obtain⟨co,b1,b2,_⟩:=hop i o hi;rw[lift i o hi,b1]at h;simp only[aI]at h;refine⟨h.1,fun j hj hne t ht=> ?_⟩;have hall:=fF.1 h.2 j (Ab.2 (by simpa using hj));obtain⟨p,hp⟩:∃ p,ops[j]? =some p:=⟨ops[j],mQ hj⟩;obtain⟨cp,c1,c2,_⟩:=hop j p hp;rw[lift j p hp,c1]at hall;have hdn:p.dst=some t:=by rw[←c2];unfold dn at ht;rwa[lK c1]at ht
  have hbne:Nat.beq i j=false:=by
   cases hb:Nat.beq i j with
   |false=>rfl
   |true=>exact absurd (aU hb) hne
  simp only[hbne,Fx,hdn,aI]at hall;refine⟨?_,fun hmem=> ?_⟩
  ·unfold dn;rw[lK b1,b2];intro hh;have:=hall.1;rw[hh]at this;simp at this
  ·have h3:=hall.2;rw[uN,uN]at h3;rcases h3 with(h3|h3)|h3
   ·rw[List.elem_eq_mem]at h3;simp[hmem]at h3
   ·left;exact h3
   ·right;unfold pr;rw[lK c1];exact h3
 refine⟨hlen,hop,fun i o hi b hb=> ?_,fun i o hi e he hbd=> ?_,fun i j t hi hj hne ht=> ?_,fun i j o t hi hj hne ht hmem=> ?_⟩
 ·obtain⟨co,a1,a2,a3,a4,a5,a6⟩:=h2 i o (lift i o hi);unfold pr at hb;rw[lK a1,a6]at hb;obtain⟨e,e1,e2,e3⟩:=Jw _ _ _ hb;refine⟨e,e1,e2,e3.imp id fun h=> ?_⟩;simp only[jZ]at h;unfold pr;by_cases hlt:e.on<i
  ·have hli:e.on<l.length:=by have:=(aH.1 a1).1;omega
   have:((l.take i).map (·.aT)).getD e.on 0=(l.getD e.on default).aT:=by
    simp[List.getD,gE,fU,hlt,aQ hli]
   rwa[this]at h
  ·rw[List.getD,z8 (by simp;omega)]at h;simp at h
 ·have:=fF.1 (hrow i o hi).1 e he;rw[hbd]at this;simp at this;exact this
 ·obtain⟨o,ho⟩:∃ o,ops[i]? =some o:=⟨ops[i],mQ hi⟩;exact((hrow i o ho).2 j hj hne t ht).1
 ·exact((hrow i o hi).2 j hj hne t ht).2 hmem
theorem Stat.below{n:Nat}{ops:Array Oper}{l:List aG}(h:Stat P n ops l):∀ i b,i<ops.size→(pr l i).testBit b=true→b<i:=by
 intro i
 induction i using Nat.strongRecOn with
 |_ i ih=>
  intro b hi hb;obtain⟨o,ho⟩:∃ o,ops[i]? =some o:=⟨ops[i],mQ hi⟩;obtain⟨e,e1,e2,e3⟩:=h.pred i o ho b hb;have hlt:=h.lt i o ho e e1 e2;rcases e3 with rfl|e3
  ·exact hlt
  ·have:=ih e.on hlt b (by omega) e3;omega
theorem Ny{a b:Nat}(h:within a b=true)(i:Nat)(hi:a.testBit i=true):b.testBit i=true:=by
 have:=aU h;have h2:(a&&&b).testBit i=true:=by show(Nat.land a b).testBit i=true;rw[this];exact hi
 rw[Nat.testBit_and,aI]at h2;exact h2.2
theorem Ri{a b:Nat}(h:∀ i,a.testBit i=true→b.testBit i=true):within a b=true:=by
 unfold within;have:Nat.land a b=a:=by
  apply Nat.eq_of_testBit_eq;intro i;show(a&&&b).testBit i=_;rw[Nat.testBit_and];cases ha:a.testBit i with
  |false=>rfl
  |true=>simp[h i ha]
 rw[this];exact fq a
theorem Az(a i j:Nat):(Nat.lor a (2 ^ i)).testBit j=(a.testBit j||decide (j=i)):=by
 show(a|||2 ^ i).testBit j=_;rw[Yk,Nat.testBit_two_pow];congr 1;by_cases h:j=i
 ·subst h;simp
 ·have h' :¬i=j:=fun hh=>h hh.symm;simp[h,h']
theorem Co{s s' :St}(h:∀ n x,s.get n=some x→s'.get n=some x){b:Nat}{row:List V}(hr:s.row b=some row):s'.row b=some row:=by
 unfold St.row at hr⊢;split at hr
 ·rename_i cs' hg;rw[h _ _ hg];exact hr
 ·rename_i cs' hg;rw[h _ _ hg];exact hr
 ·cases hr
theorem Aj{s s' :St}(h:∀ n x,s.get n=some x→s'.get n=some x){w:Nat}{v:V}{cs:List V}(hv:bN s w v=some cs):bN s' w v=some cs:=by
 unfold bN at hv⊢;split at hv<;>try exact hv
 rename_i b off len cap sz ex;cases hr:s.row b with
 |none=>simp[hr]at hv
 |some row=>
  have:s'.row b=some row:=Co h hr;simp only[hr]at hv;simp only[this];exact hv
theorem IJ{s s' :St}(h:∀ n x,s.get n=some x→s'.get n=some x){env:PT V}{so:gv}{v:V}(hv:cZ env s so=some v):cZ env s' so=some v:=by
 cases so with
 |load n x=>
  simp only[cZ]at hv⊢;split at hv
  ·rename_i b off hb;cases hr:s.row b with
   |none=>simp[hr]at hv
   |some row=>simp only[hr]at hv;simp only[Co h hr];exact hv
  ·exact hv
  ·simp at hv
 |toStr x=>
  simp only[cZ]at hv⊢;split at hv
  ·rename_i u hu;cases hs:bN s 1 u with
   |none=>simp[hs]at hv
   |some cs=>simp only[hs]at hv;simp only[Aj h hs];exact hv
  ·simp at hv
 |jw n sz x lo hi=>
  simp only[cZ]at hv⊢;split at hv
  ·rename_i b off hb;cases n2:aD env hi n n with
   |none=>simp[n2]at hv
   |some hh=>
    cases n1:aD env lo 0 hh with
    |none=>simp[n2,n1]at hv
    |some l=>
     simp only[n2,n1]at hv⊢;cases hr:s.row b with
     |none=>simp[hr]at hv
     |some row=>simp only[hr]at hv;simp only[Co h hr];exact hv
  ·simp at hv
 |lookup kk z ok x i=>
  simp only[cZ]at hv⊢;split at hv
  ·rename_i m k _ _;cases m with
   |map mm=>
    simp only[qB]at hv⊢;cases hg:s.get mm with
    |none=>simp[hg]at hv
    |some ob=>simp only[hg]at hv;simp only[h _ _ hg];exact hv
   |_=>exact hv
  ·simp at hv
 |len k x=>
  simp only[cZ]at hv⊢;split at hv
  ·rename_i u hu;cases hl:mE s k u with
   |none=>simp[hl]at hv
   |some n=>
    have:mE s' k u=some n:=by
     unfold mE at hl⊢;split at hl<;>try exact hl
     rename_i m;cases hg:s.get m with
     |none=>rw[hg]at hl;revert hl;cases Nat.beq k 2<;>simp
     |some ob=>rw[hg]at hl;rw[h _ _ hg];exact hl
    simp only[hl]at hv;simp only[this];exact hv
  ·simp at hv
 |entry x=>
  simp only[cZ]at hv⊢;split at hv
  ·rename_i b hb;unfold BJ at hv⊢;cases hg:s.get b with
   |none=>simp[hg]at hv
   |some ob=>
    rw[h _ _ hg];rw[hg]at hv;cases ob with
    |gA m since seen last=>
     cases m with
     |none=>exact hv
     |some mm=>
      simp only at hv⊢;cases hg2:s.get mm with
      |none=>simp[hg2]at hv
      |some ob2=>rw[h _ _ hg2];rw[hg2]at hv;exact hv
    |_=>exact hv
  ·simp at hv
 |_=>exact hv
end
end Go.RE
namespace Go.RE
section
variable{P:Program}{w0:World}{M:Nat→String→Option Nat}{F:Nat→List V→St→(V→St→Prop)→Prop}
def N3(M:Nat→String→Option Nat)(F:Nat→List V→St→(V→St→Prop)→Prop)(n:Nat)(todo:List (Nat×aG))(done:Nat)(env:PT V)(s:St)(aj:fN)(k:PT V→St→Prop):Prop:=
 match eW [] todo with
 |none=>(match todo with|[]=>k env s|_=>iW.fail)
 |some (i,o,rest)=>
  bif within o.aT done&&rest.all (fun x=>x.2.small||Nat.testBit x.2.aT i)then
   (match bW o.guard env with
   |some true=>dN M F env s o.op fun v s' =>recheck s' o.aT aj
     (fk M F n rest (Nat.lor done (2 ^ i)) (fI o.dst v env) s' (dV o.aT aj) k)
   |some false=>fk M F n rest (Nat.lor done (2 ^ i)) (fI o.dst (.aZ []) env) s aj k
   |none=>iW.fail)
  else iW.fail
theorem zG{n:Nat}{todo:List (Nat×aG)}{done:Nat}{env:PT V}{s:St}{aj:fN}{k:PT V→St→Prop}(h:fk M F n todo done env s aj k):
  ∃ m todo' done' env' s' recs',n=m+1∧jD todo done env s [] aj=some (todo',done',env',s',recs')∧N3 M F m todo' done' env' s' recs' k:=by
 cases n with
 |zero=>exact h.elim
 |succ m=>
  simp only[fk]at h;cases ha:jD todo done env s [] aj with
  |none=>rw[ha]at h;exact h.elim
  |some x=>
   obtain⟨todo',done',env',s',recs'⟩:=x;rw[ha]at h;exact⟨m,todo',done',env',s',recs',rfl,rfl,h⟩
theorem Ek:∀ (todo pre:List (Nat×aG)) {i:Nat} {o:aG} {rest:List (Nat×aG)},eW pre todo=some (i,o,rest)→
  ∃ b af,todo=b++(i,o)::af∧rest=pre.reverse++b++af∧o.small=false:=by
 intro todo
 induction todo with
 |nil=>intro pre i o rest h;simp[eW]at h
 |cons x todo ih=>
  intro pre i o rest h;obtain⟨j,p⟩:=x;simp only[eW]at h;cases hp:p.small with
  |true=>
   rw[hp]at h;obtain⟨b,af,h1,h2,h3⟩:=ih _ h;exact⟨(j,p)::b,af,by rw[h1];rfl,by rw[h2];simp,h3⟩
  |false=>
   rw[hp]at h;simp only[cond_false,ag,ay]at h;obtain⟨rfl,rfl,rfl⟩:=h;exact⟨[],todo,rfl,by simp,hp⟩
theorem Ej:∀ (todo pre:List (Nat×aG)),eW pre todo=none→∀ x∈todo,x.2.small=true:=by
 intro todo
 induction todo with
 |nil=>intro pre _ x hx;simp at hx
 |cons x todo ih=>
  intro pre h y hy;obtain⟨j,p⟩:=x;simp only[eW]at h;cases hp:p.small with
  |false=>rw[hp]at h;simp at h
  |true=>
   rw[hp]at h;rcases bT.1 hy with rfl|hy
   ·exact hp
   ·exact ih _ h y hy
theorem JA{s:St}{aT:Nat}{R:Prop}:∀ (aj:fN),recheck s aT aj R→R∧∀ x∈aj,aT.testBit x.1=false→cZ x.2.2.1 s x.2.1=some x.2.2.2:=by
 intro aj
 induction aj with
 |nil=>intro h;exact⟨h,fun x hx=>by simp at hx⟩
 |cons r aj ih=>
  intro h;obtain⟨i,so,env,v⟩:=r;simp only[recheck]at h;cases ht:aT.testBit i with
  |true=>
   rw[ht]at h;obtain⟨h1,h2⟩:=ih h;exact⟨h1,fun x hx hp=>by
    rcases bT.1 hx with rfl|hx
    ·simp only at hp;rw[ht]at hp;simp at hp
    ·exact h2 x hx hp⟩
  |false=>
   rw[ht]at h;simp only[cond_false]at h;cases hv:cZ env s so with
   |none=>rw[hv]at h;exact h.elim
   |some u=>
    rw[hv]at h;obtain⟨h0,h⟩:=h;subst h0;obtain⟨h1,h2⟩:=ih h;exact⟨h1,fun x hx hp=>by
     rcases bT.1 hx with rfl|hx
     ·exact hv
     ·exact h2 x hx hp⟩
def qkf(P:Program)(ops:Array Oper)(l:List aG)(E0:PT V)(s0:St)(ρ:Ren)(env:PT V)(s:St)(aj:fN)(nm:Nat→Option Nat)(i:Nat):Prop:=
 ∃ o env1,ops[i]? =some o∧(∀ t∈ot o ops.toList,(∀ j,(pr l i).testBit j=true→dn l j=some t→env1.get t=env.get t)∧((∀ j,(pr l i).testBit j=true→dn l j≠some t)→env1.get t=E0.get t))∧
  ((bW (l.getD i default).guard env1=some false∧∀ t,dn l i=some t→env.get t=some (.aZ []))∨
   (bW (l.getD i default).guard env1=some true∧
   ((∃ so v,(l.getD i default).op=.s so∧cZ env1 s so=some v∧(i,so,env1,v)∈aj∧∀ t,dn l i=some t→env.get t=some v)∨
    (∃ mo ob f c,(l.getD i default).op=.m mo∧BP env1 mo=some (ob,f)∧nm i=some c∧s0.next≤c∧ρ c=none∧s.get c=some ob∧∀ t,dn l i=some t→env.get t=some (f c)))))
structure Inv(P:Program)(w0:World)(n:Nat)(ops:Array Oper)(l:List aG)(E0:PT V)(ρ0:Ren)(s0:St)(wS:World)(DW:List Deferred)
  (listed:Array Bool) (a:Act) (w:World) (ρ:Ren) (done:Nat) (env:PT V) (s:St) (aj:fN) (nm:Nat→Option Nat):Prop where
 size:listed.size=ops.size
 rel:Rel w0 ρ s w
 ry:kH ρ0 s0 wS ρ s w
 tsz:n≤a.tmps.size
 DW:a.defers=DW
 closed:∀ i,done.testBit i=true→i<ops.size∧∀ b,(pr l i).testBit b=true→done.testBit b=true
 sub:∀ i,listed.getD i false=true→done.testBit i=true
 bl:∀ i,done.testBit i=true→sm l i=false→listed.getD i false=true
 lcl:∀ i,listed.getD i false=true→∀ b,(pr l i).testBit b=true→listed.getD b false=true
 Zn:∀ t,(∀ i,done.testBit i=true→dn l i≠some t)→env.get t=E0.get t
 tm:∀ t,(∀ i,done.testBit i=true→listed.getD i false=false→dn l i≠some t)→∀ v,env.get t=some v→aF w0 ρ v (a.tmps.getD t undef)
 tm0:∀ t,(∀ i,listed.getD i false=true→dn l i≠some t)→∀ v,E0.get t=some v→aF w0 ρ v (a.tmps.getD t undef)
 Z4:∀ i,done.testBit i=true→listed.getD i false=false→qkf P ops l E0 s0 ρ env s aj nm i
 nml:∀ i c,nm i=some c→c<s.next
 nmd:∀ i j c,nm i=some c→nm j=some c→i=j
theorem Gk{ρ:Ren}{env:PT V}{a:Act}{o:Oper}{all:List Oper}(h:∀ t∈ot o all,∀ v,env.get t=some v→aF w0 ρ v (a.tmps.getD t undef)):∀ x∈o.op.operands,jP w0 ρ env a.eval x:=by
 intro x hx oo v ho hv;cases x with
 |tmp t=>
  simp only[RE.cW,ag]at ho;subst ho;exact h t (by unfold ot;rw[eH];left;rw[List.mem_filterMap];exact⟨.tmp t,by simpa using hx,rfl⟩) v hv
 |const c=>
  obtain⟨y,rfl,hy⟩:=EZ (w0:=w0) (ρ:=ρ) ho;simp only[bO.ev,ag]at hv;subst hv;exact hy
 |global g=>simp[RE.cW]at ho
 |func f=>
  simp only[RE.cW,ag]at ho;subst ho;simp only[bO.ev,ag]at hv;subst hv;exact .func rfl rfl (fun i h=>by simp at h) (fun i h=>by simp at h)
theorem tC{ρ:Ren}{env:PT V}{tmps:Array Value}{ops:Array Oper}{o:Oper}{g:Option (Nat×Bool)}{b:Bool}(hg:guardOf ops.toList o=some g)(hv:bW g env=some b)
  (h:∀ t∈ot o ops.toList,∀ v,env.get t=some v→aF w0 ρ v (tmps.getD t undef)):Region.wanted o (yielded ops tmps)=b:=by
 refine zL (ρ:=ρ) (w0:=w0) hg hv fun t v ht he=>h t ?_ v he;unfold guardOf at hg;split at hg
 ·simp only[ag]at hg;subst hg;simp at ht
 ·rename_i j want hgd;cases hj:ops.toList[j]? with
  |none=>simp[hj]at hg
  |some p=>
   simp only[hj]at hg;cases hd:p.dst with
   |none=>simp[hd]at hg
   |some d=>
    simp only[hd,ag]at hg;subst hg;simp at ht;subst ht;unfold ot;rw[eH];right;simp[hgd]at hj⊢;rw[hj];simp[hd]
variable{n:Nat}{ops:Array Oper}{l:List aG}{E0:PT V}{ρ0:Ren}{s0:St}{wS:World}{DW:List Deferred}
theorem jr(dst:Option Nat)(v:V)(env:PT V)(t:Nat):(fI dst v env).get t=if dst=some t then some v else env.get t:=by
 cases dst with
 |none=>simp[fI]
 |some d=>simp only[fI,PT.iX,ag];by_cases h:t=d<;>simp[h,eq_comm]
theorem kH.oE{ρ ρ' :Ren}{s s' :St}{w w' :World}(h:kH ρ s w ρ' s' w')(ob:Ob):kH ρ s w ρ' (s'.alloc ob) w' :=
 ⟨Nat.le_succ_of_le h.next,h.ren,h.new,h.DN,fun n hn e=>by rw[St.dU,if_neg (by have:=h.next;omega)];exact h.sk n hn e,h.wk⟩
theorem L9(hs:Stat P n ops l){listed:Array Bool}{a:Act}{w:World}{ρ:Ren}{done:Nat}{env:PT V}{s:St}{aj:fN}{nm:Nat→Option Nat}(hI:Inv P w0 n ops l E0 ρ0 s0 wS DW listed a w ρ done env s aj nm)
  {i:Nat} (hi:i<ops.size) (hnd:done.testBit i=false) (hsm:sm l i=true) (hpre:∀ b,(pr l i).testBit b=true→done.testBit b=true) {v:V} {s' :St} {recs' :fN}
  (hrecs:∀ x∈aj,x∈recs')
  (hcase:(bW (l.getD i default).guard env=some false∧v=.aZ []∧s' =s)∨(bW (l.getD i default).guard env=some true∧
   ((∃ so,(l.getD i default).op=.s so∧cZ env s so=some v∧(i,so,env,v)∈recs'∧s' =s)∨(∃ mo ob f,(l.getD i default).op=.m mo∧BP env mo=some (ob,f)∧s' =s.alloc ob∧v=f s.next)))):
  ∃ nm',Inv P w0 n ops l E0 ρ0 s0 wS DW listed a w ρ (Nat.lor done (2 ^ i)) (fI (dn l i) v env) s' recs' nm' :=by
 have hul:listed.getD i false=false:=by
  cases h:listed.getD i false with
  |false=>rfl
  |true=>have:=hI.sub i h;rw[hnd]at this;simp at this
 have hbit:∀ j,(Nat.lor done (2 ^ i)).testBit j=true↔(done.testBit j=true∨j=i):=fun j=>by rw[Az];simp
 have hself:(pr l i).testBit i=false:=by
  cases h:(pr l i).testBit i with
  |false=>rfl
  |true=>have:=hpre i h;rw[hnd]at this;simp at this
 have hss:s' =s∨∃ ob,s' =s.alloc ob:=by
  rcases hcase with⟨_,_,h⟩|⟨_,⟨_,_,_,_,h⟩|⟨_,ob,_,_,_,h,_⟩⟩
  ·exact .inl h
  ·exact .inl h
  ·exact .inr ⟨ob,h⟩
 have hmore:∀ m x,s.get m=some x→s'.get m=some x:=fun m x hm=>by
  rcases hss with rfl|⟨ob,rfl⟩
  ·exact hm
  ·rw[St.dU,if_neg (fun h=>by subst h;rw[hI.rel.fresh _ (ak _)]at hm;simp at hm)];exact hm
 have hrel:Rel w0 ρ s' w:=by
  rcases hss with rfl|⟨ob,rfl⟩
  ·exact hI.rel
  ·exact hI.rel.oE ob
 have hstp:kH ρ0 s0 wS ρ s' w:=by
  rcases hss with rfl|⟨ob,rfl⟩
  ·exact hI.ry
  ·exact hI.ry.oE ob
 have hnext:s.next≤s'.next:=by
  rcases hss with rfl|⟨ob,rfl⟩
  ·exact ak _
  ·exact xQ _
 have hdone_lt:∀ j,done.testBit j=true→j<ops.size:=fun j hj=>(hI.closed j hj).1;have hne:∀ j,done.testBit j=true→j≠i:=fun j hj h=>by subst h;rw[hnd]at hj;simp at hj
 have huniq:∀ j t,done.testBit j=true→dn l j=some t→dn l i≠some t:=fun j t hj ht=>hs.uniq i j t hi (hdone_lt j hj) (fun h=>hne j hj h.symm) ht
 -- the names
 let nm' :Nat→Option Nat:=fun j=>if j=i then(match(l.getD i default).op with| .m _=>if bW (l.getD i default).guard env=some true then some s.next else none|_=>none)else nm j
 have hnm_ne:∀ j,j≠i→nm' j=nm j:=fun j hj=>by simp only[nm'];rw[if_neg hj]
 have hnm_i:∀ c,nm' i=some c→c=s.next∧s.next<s'.next:=fun c hc=>by
  simp only[nm',if_pos rfl]at hc;split at hc
  ·rename_i mo hop;split at hc
   ·rename_i hg;simp only[ag]at hc;refine⟨hc.symm,?_⟩;rcases hcase with⟨h1,_⟩|⟨_,⟨so,h1,_⟩|⟨mo',ob,f,_,_,h3,_⟩⟩
    ·rw[h1]at hg;simp at hg
    ·rw[h1]at hop;cases hop
    ·rw[h3];exact Yg _
   ·simp at hc
  ·simp at hc
 refine⟨nm',hI.size,hrel,hstp,hI.tsz,hI.DW,fun j hj=> ?_,fun j hj=>(hbit j).2 (.inl (hI.sub j hj)),fun j hj hsj=> ?_,hI.lcl,fun t ht=> ?_,fun t ht u hu=> ?_,hI.tm0,fun j hj hlj=> ?_,fun j c hc=> ?_,fun j1 j2 c h1 h2=> ?_⟩
 ·rcases(hbit j).1 hj with h|rfl
  ·exact⟨(hI.closed j h).1,fun b hb=>(hbit b).2 (.inl ((hI.closed j h).2 b hb))⟩
  ·exact⟨hi,fun b hb=>(hbit b).2 (.inl (hpre b hb))⟩
 ·rcases(hbit j).1 hj with h|rfl
  ·exact hI.bl j h hsj
  ·rw[hsm]at hsj;simp at hsj
 ·rw[jr,if_neg (ht i ((hbit i).2 (.inr rfl)))];exact hI.Zn t fun j hj=>ht j ((hbit j).2 (.inl hj))
 ·rw[jr,if_neg (ht i ((hbit i).2 (.inr rfl)) hul)]at hu;exact hI.tm t (fun j hj hlj=>ht j ((hbit j).2 (.inl hj)) hlj) u hu
 ·rcases(hbit j).1 hj with h|rfl
  ·obtain⟨o,env1,e1,e2,e3⟩:=hI.Z4 j h hlj;have hji:=hne j h;have hdst:∀ t,dn l j=some t→∀ u,env.get t=some u→(fI (dn l i) v env).get t=some u:=fun t ht u hu=>by
    rw[jr,if_neg (huniq j t h ht)];exact hu
   refine⟨o,env1,e1,fun t ht=>⟨fun j' hj' hdj' => ?_,(e2 t ht).2⟩,?_⟩
   ·have hd' :=(hI.closed j h).2 j' hj';rw[jr,if_neg (huniq j' t hd' hdj')];exact(e2 t ht).1 j' hj' hdj'
   ·rcases e3 with⟨g1,g2⟩|⟨g1,⟨so,u,q1,q2,q3,q4⟩|⟨mo,ob,f,c,q1,q2,q3,q4,q5,q6,q7⟩⟩
    ·exact .inl ⟨g1,fun t ht=>hdst t ht _ (g2 t ht)⟩
    ·exact .inr ⟨g1,.inl ⟨so,u,q1,IJ hmore q2,hrecs _ q3,fun t ht=>hdst t ht _ (q4 t ht)⟩⟩
    ·exact .inr ⟨g1,.inr ⟨mo,ob,f,c,q1,q2,by rw[hnm_ne j hji];exact q3,q4,q5,hmore _ _ q6,fun t ht=>hdst t ht _ (q7 t ht)⟩⟩
  ·obtain⟨o,ho⟩:∃ o,ops[j]? =some o:=⟨ops[j],mQ hi⟩;have hput:∀ t,dn l j=some t→(fI (dn l j) v env).get t=some v:=fun t ht=>by rw[jr,if_pos ht]
   refine⟨o,env,ho,fun t ht=>⟨fun j' hj' hdj' => ?_,fun hno=> ?_⟩,?_⟩
   ·have hd' :=hpre j' hj';rw[jr,if_neg (huniq j' t hd' hdj')]
   ·refine hI.Zn t fun j' hj' hdj' => ?_;rcases hs.reads j j' o t ho (hdone_lt j' hj') (fun h=>hne j' hj' h.symm) hdj' ht with h1|h1
    ·exact hno j' h1 hdj'
    ·have:=(hI.closed j' hj').2 j h1;rw[hnd]at this;simp at this
   ·rcases hcase with⟨g1,rfl,_⟩|⟨g1,⟨so,q1,q2,q3,rfl⟩|⟨mo,ob,f,q1,q2,rfl,rfl⟩⟩
    ·exact .inl ⟨g1,hput⟩
    ·exact .inr ⟨g1,.inl ⟨so,v,q1,q2,q3,hput⟩⟩
    ·exact .inr ⟨g1,.inr ⟨mo,ob,f,s.next,q1,q2,by(show(if j=j then _ else _)=_;rw[if_pos rfl,q1];show(if _ then _ else _)=_;rw[if_pos g1]),hI.ry.next,hI.rel.unnamed (ak _),by rw[St.dU,if_pos rfl],hput⟩⟩
 ·by_cases hji:j=i
  ·subst hji;obtain⟨rfl,h⟩:=hnm_i c hc;exact h
  ·rw[hnm_ne j hji]at hc;exact iC (hI.nml j c hc) hnext
 ·by_cases k1:j1=i
  ·by_cases k2:j2=i
   ·omega
   ·subst k1;obtain⟨rfl,_⟩:=hnm_i c h1;rw[hnm_ne j2 k2]at h2;have:=hI.nml j2 _ h2;omega
  ·by_cases k2:j2=i
   ·subst k2;obtain⟨rfl,_⟩:=hnm_i c h2;rw[hnm_ne j1 k1]at h1;have:=hI.nml j1 _ h1;omega
   ·rw[hnm_ne j1 k1]at h1;rw[hnm_ne j2 k2]at h2;exact hI.nmd j1 j2 c h1 h2
theorem vP(hs:Stat P n ops l){listed:Array Bool}{a:Act}{w:World}{ρ:Ren}:∀ (r:List (Nat×aG)) (done:Nat) (env:PT V) (s:St) (left:List (Nat×aG)) (aj:fN) (nm:Nat→Option Nat) (todo' :List (Nat×aG)) (done' :Nat) (env' :PT V) (s' :St) (recs' :fN),Inv P w0 n ops l E0 ρ0 s0 wS DW listed a w ρ done env s aj nm→(∀ x∈r,x.1<ops.size∧l[x.1]? =some x.2∧done.testBit x.1=false)→r.Pairwise (fun x y=>x.1<y.1)→
  jD r done env s left aj=some (todo',done',env',s',recs')→
  ∃ nm',Inv P w0 n ops l E0 ρ0 s0 wS DW listed a w ρ done' env' s' recs' nm'∧(∀ i,done.testBit i=true→done'.testBit i=true)∧(∀ i,done'.testBit i=true→done.testBit i=true∨∃ x∈r,x.1=i)∧
   (∃ r',todo' =left.reverse++r'∧r'.Sublist r∧(∀ x∈r,x∈r'↔done'.testBit x.1=false))∧
   (∀ x∈r,x.2.small=true→(∀ b,x.2.aT.testBit b=true→done'.testBit b=true)→done'.testBit x.1=true):=by
 intro r
 induction r with
 |nil=>
  intro done env s left aj nm todo' done' env' s' recs' hI _ _ h;simp only[jD,ag,ay]at h;obtain⟨rfl,rfl,rfl,rfl,rfl⟩:=h;exact⟨nm,hI,fun _ h=>h,fun _ h=> .inl h,⟨[],by simp,.slnil,fun x hx=>by simp at hx⟩,fun x hx=>by simp at hx⟩
 |cons x r ih=>
  intro done env s left aj nm todo' done' env' s' recs' hI hr hp h;obtain⟨i,o⟩:=x;obtain⟨hi,hli,hnd⟩:=hr (i,o) (by simp);simp only at hi hli hnd;have hgd:l.getD i default=o:=lK hli;have hpw:=PI.1 hp;have hrest:∀ (d2:Nat),(∀ j,d2.testBit j=true↔(done.testBit j=true∨j=i))→∀ x∈r,x.1<ops.size∧l[x.1]? =some x.2∧d2.testBit x.1=false:=fun d2 hd2 x hx=>by
   obtain⟨a1,a2,a3⟩:=hr x (by simp[hx]);refine⟨a1,a2,?_⟩;cases hb:d2.testBit x.1 with
   |false=>rfl
   |true=>
    rcases(hd2 x.1).1 hb with h|h
    ·rw[a3]at h;simp at h
    ·have:=hpw.1 x hx;simp only at this;omega
  simp only[jD]at h;cases hw:(o.small&&within o.aT done)with
  |false=>
   rw[hw]at h;simp only[cond_false]at h;obtain⟨nm',q1,q2,q3,⟨r',q4,q5,q6⟩,q7⟩:=ih done env s ((i,o)::left) aj nm todo' done' env' s' recs' hI (fun x hx=>hr x (by simp[hx])) hpw.2 h;have hnd' :done'.testBit i=false:=by
    cases hb:done'.testBit i with
    |false=>rfl
    |true=>
     rcases q3 i hb with h|⟨y,hy,hyi⟩
     ·rw[hnd]at h;simp at h
     ·have:=hpw.1 y hy;simp only at this;omega
   refine⟨nm',q1,q2,fun j hj=>(q3 j hj).imp id fun⟨y,hy,e⟩=>⟨y,by simp[hy],e⟩,⟨(i,o)::r',by rw[q4];simp,q5.cons_cons _,fun y hy=> ?_⟩,fun y hy hsm hpre=> ?_⟩
   ·rcases bT.1 hy with rfl|hy
    ·simp[hnd']
    ·rw[bT];constructor
     ·rintro(rfl|h)
      ·exact hnd'
      ·exact(q6 y hy).1 h
     ·intro h;exact .inr ((q6 y hy).2 h)
   ·rcases bT.1 hy with rfl|hy
    ·exfalso;simp only at hsm hpre;rw[hsm,PJ]at hw;have:within o.aT done=true:=Ri fun b hb=>by
      have hb' :=hpre b hb;rcases q3 b hb' with h|⟨y,hy,rfl⟩
      ·exact h
      ·have h1:=hpw.1 y hy;have h2:=hs.below i y.1 hi (by unfold pr;rw[hgd];exact hb);simp only at h1;omega
     rw[this]at hw;simp at hw
    ·exact q7 y hy hsm hpre
  |true=>
   rw[hw]at h;simp only[cond_true]at h;simp only[aI]at hw;have hsm:sm l i=true:=by unfold sm;rw[hgd];exact hw.1
   have hpre:∀ b,(pr l i).testBit b=true→done.testBit b=true:=fun b hb=>Ny hw.2 b (by unfold pr at hb;rwa[hgd]at hb);have hdn:dn l i=o.dst:=by unfold dn;rw[hgd]
   have hbit:∀ j,(Nat.lor done (2 ^ i)).testBit j=true↔(done.testBit j=true∨j=i):=fun j=>by rw[Az];simp
   have fin:∀ {v:V} {s1:St} {recs1:fN},(∀ x∈aj,x∈recs1)→
     ((bW (l.getD i default).guard env=some false∧v=.aZ []∧s1=s)∨(bW (l.getD i default).guard env=some true∧
      ((∃ so,(l.getD i default).op=.s so∧cZ env s so=some v∧(i,so,env,v)∈recs1∧s1=s)∨(∃ mo ob f,(l.getD i default).op=.m mo∧BP env mo=some (ob,f)∧s1=s.alloc ob∧v=f s.next))))→
     jD r (Nat.lor done (2 ^ i)) (fI o.dst v env) s1 left recs1=some (todo',done',env',s',recs')→
     ∃ nm',Inv P w0 n ops l E0 ρ0 s0 wS DW listed a w ρ done' env' s' recs' nm'∧(∀ i,done.testBit i=true→done'.testBit i=true)∧(∀ j,done'.testBit j=true→done.testBit j=true∨∃ x∈(i,o)::r,x.1=j)∧
      (∃ r',todo' =left.reverse++r'∧r'.Sublist ((i,o)::r)∧(∀ x∈(i,o)::r,x∈r'↔done'.testBit x.1=false))∧
      (∀ x∈(i,o)::r,x.2.small=true→(∀ b,x.2.aT.testBit b=true→done'.testBit b=true)→done'.testBit x.1=true):=fun {v s1 recs1} hrecs hcase habs=>by
    obtain⟨nm1,hI1⟩:=L9 hs hI hi hnd hsm hpre hrecs hcase;rw[hdn]at hI1;obtain⟨nm',q1,q2,q3,⟨r',q4,q5,q6⟩,q7⟩:=ih _ _ s1 left recs1 nm1 todo' done' env' s' recs' hI1 (hrest _ hbit) hpw.2 habs;have hid:done'.testBit i=true:=q2 i ((hbit i).2 (.inr rfl));refine⟨nm',q1,fun j hj=>q2 j ((hbit j).2 (.inl hj)),fun j hj=> ?_,⟨r',q4,q5.cons _,fun y hy=> ?_⟩,fun y hy hsmy hprey=> ?_⟩
    ·rcases q3 j hj with h|⟨y,hy,e⟩
     ·rcases(hbit j).1 h with h|rfl
      ·exact .inl h
      ·exact .inr ⟨_,cB,rfl⟩
     ·exact .inr ⟨y,by simp[hy],e⟩
    ·rcases bT.1 hy with rfl|hy
     ·constructor
      ·intro hmem;have h1:=hpw.1 _ (q5.subset hmem);simp at h1
      ·intro hf;simp only at hf;rw[hid]at hf;simp at hf
     ·exact q6 y hy
    ·rcases bT.1 hy with rfl|hy
     ·exact hid
     ·exact q7 y hy hsmy hprey
   cases hg:bW o.guard env with
   |none=>rw[hg]at h;simp at h
   |some b=>
    rw[hg]at h;cases b with
    |false=>exact fin (fun x hx=>hx) (.inl ⟨by rw[hgd];exact hg,rfl,rfl⟩) h
    |true=>
     simp only at h;cases hop:o.op with
     |s so=>
      rw[hop]at h;simp only at h;cases hv:cZ env s so with
      |none=>rw[hv]at h;simp at h
      |some v=>
       rw[hv]at h;exact fin (fun x hx=>by simp[hx]) (.inr ⟨by rw[hgd];exact hg,.inl ⟨so,by rw[hgd];exact hop,hv,by simp,rfl⟩⟩) h
     |m mo=>
      rw[hop]at h;simp only at h;cases hv:BP env mo with
      |none=>rw[hv]at h;simp at h
      |some obf=>
       obtain⟨ob,f⟩:=obf;rw[hv]at h;exact fin (fun x hx=>hx) (.inr ⟨by rw[hgd];exact hg,.inr ⟨mo,ob,f,by rw[hgd];exact hop,hv,rfl,rfl⟩⟩) h
     |_=>rw[hop]at h;simp at h
theorem filter_lt{p p' :Nat→Bool}:∀ (r:List Nat) {i:Nat},(∀ j,p' j=true→p j=true)→i∈r→p i=true→p' i=false→(r.filter p').length<(r.filter p).length:=by
 have le:∀ (r:List Nat),(∀ j,p' j=true→p j=true)→(r.filter p').length≤(r.filter p).length:=by
  intro r h
  induction r with
  |nil=>simp
  |cons x r ih=>
   rw[mw,mw];cases hx:p' x with
   |true=>rw[h x hx];simp;exact ih
   |false=>simp only[jV,if_false];split<;>(try simp only[fV])<;>omega
 intro r
 induction r with
 |nil=>intro i _ h;simp at h
 |cons x r ih=>
  intro i h hi hp hp';rw[mw,mw];rcases bT.1 hi with rfl|hi
  ·rw[hp,hp'];simp;have:=le r h;omega
  ·have:=ih h hi hp hp';cases hx:p' x with
   |true=>rw[h x hx];simp;exact this
   |false=>simp only[jV,if_false];split<;>(try simp only[fV])<;>omega
theorem vZ{a:Act}{dst:Option Nat}{x:Value}{t:Nat}:((a.put dst x).tmps.getD t undef)=if dst=some t∧t<a.tmps.size then x else a.tmps.getD t undef:=by
 cases dst with
 |none=>rw[if_neg (fun h=>nomatch h.1)];rfl
 |some d=>
  simp only[Act.put,mu,xO,ag];by_cases h:d=t
  ·subst h;by_cases hlt:d<a.tmps.size
   ·simp[hlt]
   ·simp[hlt]
  ·simp[h]
theorem JQ(a:Act)(dst:Option Nat)(x:Value):(a.put dst x).tmps.size=a.tmps.size:=by cases dst<;>simp[Act.put]
theorem lV{listed:Array Bool}{i j:Nat}(hsz:i<listed.size):(listed.setIfInBounds i true).getD j false=(listed.getD j false||decide (j=i)):=by
 by_cases h:i=j
 ·subst h;simp[mu,Kt hsz]
 ·have h' :¬j=i:=fun hh=>h hh.symm;simp[mu,Aa h,h']
theorem LC(hs:Stat P n ops l){listed:Array Bool}{a:Act}{w:World}{ρ:Ren}{done:Nat}{env:PT V}{s:St}{aj:fN}{nm:Nat→Option Nat}(hI:Inv P w0 n ops l E0 ρ0 s0 wS DW listed a w ρ done env s aj nm)
  {i:Nat} (hi:i<ops.size) (hd:done.testBit i=true) (hpre:∀ b,(pr l i).testBit b=true→listed.getD b false=true) {x:Value} {w' :World} {ρ' :Ren} (hρ:ρ.le ρ') (hR:Rel w0 ρ' s w') (hS:kH ρ0 s0 wS ρ' s w')
  (hx:∀ t,dn l i=some t→∀ v,env.get t=some v→aF w0 ρ' v x) (hnm:∀ j c,j≠i→nm j=some c→ρ c=none→ρ' c=none):
  Inv P w0 n ops l E0 ρ0 s0 wS DW (listed.setIfInBounds i true) (a.put (dn l i) x) w' ρ' done env s aj nm:=by
 have hlsz:i<listed.size:=by rw[hI.size];exact hi
 have hL:∀ j,(listed.setIfInBounds i true).getD j false=true↔(listed.getD j false=true∨j=i):=fun j=>by rw[lV hlsz];simp
 have hLf:∀ j,(listed.setIfInBounds i true).getD j false=false→listed.getD j false=false∧j≠i:=fun j h=>by rw[lV hlsz]at h;simpa using h
 have hdlt:∀ t,dn l i=some t→t<a.tmps.size:=fun t ht=>by
  obtain⟨o,ho⟩:∃ o,ops[i]? =some o:=⟨ops[i],mQ hi⟩;obtain⟨co,c1,c2,_,_,c5⟩:=hs.op i o ho;unfold dn at ht;rw[lK c1,c2]at ht;exact iC (c5 t ht) hI.tsz
 refine⟨by simpa using hI.size,hR,hS,by rw[JQ];exact hI.tsz,by rw[put_defers];exact hI.DW,hI.closed,fun j hj=> ?_,fun j hj hsj=>(hL j).2 (.inl (hI.bl j hj hsj)),fun j hj b hb=> ?_,hI.Zn,fun t ht v hv=> ?_,fun t ht v hv=> ?_,fun j hj hlj=> ?_,hI.nml,hI.nmd⟩
 ·rcases(hL j).1 hj with h|rfl
  ·exact hI.sub j h
  ·exact hd
 ·rcases(hL j).1 hj with h|rfl
  ·exact(hL b).2 (.inl (hI.lcl j h b hb))
  ·exact(hL b).2 (.inl (hpre b hb))
 ·rw[vZ];by_cases hdt:dn l i=some t
  ·rw[if_pos ⟨hdt,hdlt t hdt⟩];exact hx t hdt v hv
  ·rw[if_neg (fun h=>hdt h.1)];refine(hI.tm t (fun j hj hlj=> ?_) v hv).mono hρ;by_cases hji:j=i
   ·subst hji;exact hdt
   ·exact ht j hj (by rw[lV hlsz,hlj];simp[hji])
 ·have hdt:dn l i≠some t:=ht i ((hL i).2 (.inr rfl));rw[vZ,if_neg (fun h=>hdt h.1)];exact(hI.tm0 t (fun j hj=>ht j ((hL j).2 (.inl hj))) v hv).mono hρ
 ·obtain⟨h1,h2⟩:=hLf j hlj;obtain⟨o,env1,e1,e2,e3⟩:=hI.Z4 j hj h1;refine⟨o,env1,e1,e2,?_⟩;rcases e3 with e3|⟨g1,e3|⟨mo,ob,f,c,q1,q2,q3,q4,q5,q6,q7⟩⟩
  ·exact .inl e3
  ·exact .inr ⟨g1,.inl e3⟩
  ·exact .inr ⟨g1,.inr ⟨mo,ob,f,c,q1,q2,q3,q4,hnm j c h2 q3 q5,q6,q7⟩⟩
theorem SM(hs:Stat P n ops l){listed:Array Bool}{a:Act}{w:World}{ρ:Ren}{done:Nat}{env:PT V}{s:St}{aj recs' :fN}{nm:Nat→Option Nat}(hI:Inv P w0 n ops l E0 ρ0 s0 wS DW listed a w ρ done env s aj nm)
  {i:Nat} (hi:i<ops.size) (hnd:done.testBit i=false) (hpre:∀ b,(pr l i).testBit b=true→listed.getD b false=true) {v:V} {x:Value} {s' :St} {w' :World} {ρ' :Ren} (hR:Rel w0 ρ' s' w') (hS:kH ρ s w ρ' s' w')
  (hx:aF w0 ρ' v x) (hrec:∀ y∈aj,(pr l i).testBit y.1=false→cZ y.2.2.1 s y.2.1=some y.2.2.2→y∈recs'∧cZ y.2.2.1 s' y.2.1=some y.2.2.2):
  Inv P w0 n ops l E0 ρ0 s0 wS DW (listed.setIfInBounds i true) (a.put (dn l i) x) w' ρ' (Nat.lor done (2 ^ i)) (fI (dn l i) v env) s' recs' nm:=by
 have hlsz:i<listed.size:=by rw[hI.size];exact hi
 have hL:∀ j,(listed.setIfInBounds i true).getD j false=true↔(listed.getD j false=true∨j=i):=fun j=>by rw[lV hlsz];simp
 have hLf:∀ j,(listed.setIfInBounds i true).getD j false=false→listed.getD j false=false∧j≠i:=fun j h=>by rw[lV hlsz]at h;simpa using h
 have hbit:∀ j,(Nat.lor done (2 ^ i)).testBit j=true↔(done.testBit j=true∨j=i):=fun j=>by rw[Az];simp
 have hdlt:∀ t,dn l i=some t→t<a.tmps.size:=fun t ht=>by
  obtain⟨o,ho⟩:∃ o,ops[i]? =some o:=⟨ops[i],mQ hi⟩;obtain⟨co,c1,c2,_,_,c5⟩:=hs.op i o ho;unfold dn at ht;rw[lK c1,c2]at ht;exact iC (c5 t ht) hI.tsz
 have hne:∀ j,done.testBit j=true→j≠i:=fun j hj h=>by subst h;rw[hnd]at hj;simp at hj
 have huniq:∀ j t,done.testBit j=true→dn l j=some t→dn l i≠some t:=fun j t hj ht=>hs.uniq i j t hi (hI.closed j hj).1 (fun h=>hne j hj h.symm) ht;refine⟨by simpa using hI.size,hR,hI.ry.trans hS,by rw[JQ];exact hI.tsz,by rw[put_defers];exact hI.DW,fun j hj=> ?_,fun j hj=> ?_,fun j hj hsj=> ?_,fun j hj b hb=> ?_,fun t ht=> ?_,fun t ht u hu=> ?_,fun t ht u hu=> ?_,fun j hj hlj=> ?_,fun j c hc=>iC (hI.nml j c hc) hS.next,hI.nmd⟩
 ·rcases(hbit j).1 hj with h|rfl
  ·exact⟨(hI.closed j h).1,fun b hb=>(hbit b).2 (.inl ((hI.closed j h).2 b hb))⟩
  ·exact⟨hi,fun b hb=>(hbit b).2 (.inl (hI.sub b (hpre b hb)))⟩
 ·rcases(hL j).1 hj with h|rfl
  ·exact(hbit j).2 (.inl (hI.sub j h))
  ·exact(hbit j).2 (.inr rfl)
 ·rcases(hbit j).1 hj with h|rfl
  ·exact(hL j).2 (.inl (hI.bl j h hsj))
  ·exact(hL j).2 (.inr rfl)
 ·rcases(hL j).1 hj with h|rfl
  ·exact(hL b).2 (.inl (hI.lcl j h b hb))
  ·exact(hL b).2 (.inl (hpre b hb))
 ·rw[jr,if_neg (ht i ((hbit i).2 (.inr rfl)))];exact hI.Zn t fun j hj=>ht j ((hbit j).2 (.inl hj))
 ·rw[jr]at hu;rw[vZ];by_cases hdt:dn l i=some t
  ·rw[if_pos hdt]at hu;simp only[ag]at hu;subst hu;rw[if_pos ⟨hdt,hdlt t hdt⟩];exact hx
  ·rw[if_neg hdt]at hu;rw[if_neg (fun h=>hdt h.1)];refine(hI.tm t (fun j hj hlj=> ?_) u hu).mono hS.ren;exact ht j ((hbit j).2 (.inl hj)) (by rw[lV hlsz,hlj];simp[hne j hj])
 ·have hdt:dn l i≠some t:=ht i ((hL i).2 (.inr rfl));rw[vZ,if_neg (fun h=>hdt h.1)];exact(hI.tm0 t (fun j hj=>ht j ((hL j).2 (.inl hj))) u hu).mono hS.ren
 ·obtain⟨h1,h2⟩:=hLf j hlj;have hdj:done.testBit j=true:=((hbit j).1 hj).resolve_right h2;obtain⟨o,env1,e1,e2,e3⟩:=hI.Z4 j hdj h1;have hpj:(pr l i).testBit j=false:=by
   cases hb:(pr l i).testBit j with
   |false=>rfl
   |true=>have:=hpre j hb;rw[h1]at this;simp at this
  have hdst:∀ t,dn l j=some t→∀ u,env.get t=some u→(fI (dn l i) v env).get t=some u:=fun t ht u hu=>by
   rw[jr,if_neg (huniq j t hdj ht)];exact hu
  refine⟨o,env1,e1,fun t ht=>⟨fun j' hj' hdj' => ?_,(e2 t ht).2⟩,?_⟩
  ·have hd' :=(hI.closed j hdj).2 j' hj';rw[jr,if_neg (huniq j' t hd' hdj')];exact(e2 t ht).1 j' hj' hdj'
  ·rcases e3 with⟨g1,g2⟩|⟨g1,⟨so,u,q1,q2,q3,q4⟩|⟨mo,ob,f,c,q1,q2,q3,q4,q5,q6,q7⟩⟩
   ·exact .inl ⟨g1,fun t ht=>hdst t ht _ (g2 t ht)⟩
   ·obtain⟨r1,r2⟩:=hrec _ q3 hpj q2;exact .inr ⟨g1,.inl ⟨so,u,q1,r2,r1,fun t ht=>hdst t ht _ (q4 t ht)⟩⟩
   ·have hc:=hI.nml j c q3;refine .inr ⟨g1,.inr ⟨mo,ob,f,c,q1,q2,q3,q4,?_,by rw[hS.sk c hc q5];exact q6,fun t ht=>hdst t ht _ (q7 t ht)⟩⟩;cases hρc:ρ' c with
    |none=>rfl
    |some y=>have:=hS.new c y q5 hρc;omega
theorem Nx(hs:Stat P n ops l){listed:Array Bool}{a:Act}{w:World}{ρ:Ren}{done:Nat}{env:PT V}{s:St}{aj:fN}{nm:Nat→Option Nat}(hI:Inv P w0 n ops l E0 ρ0 s0 wS DW listed a w ρ done env s aj nm)
  {i:Nat} {o:Oper} {env1:PT V} (ho:ops[i]? =some o) (hul:listed.getD i false=false) (hpre:∀ b,(pr l i).testBit b=true→listed.getD b false=true)
  (he:∀ t∈ot o ops.toList,(∀ j,(pr l i).testBit j=true→dn l j=some t→env1.get t=env.get t)∧((∀ j,(pr l i).testBit j=true→dn l j≠some t)→env1.get t=E0.get t)):
  ∀ t∈ot o ops.toList,∀ v,env1.get t=some v→aF w0 ρ v (a.tmps.getD t undef):=by
 intro t ht v hv;by_cases hx:∃ j,(pr l i).testBit j=true∧dn l j=some t
 ·obtain⟨j,hj,hdj⟩:=hx;rw[(he t ht).1 j hj hdj]at hv;have hlj:=hpre j hj;refine hI.tm t (fun j' hj' hlj' => ?_) v hv;exact hs.uniq j' j t (hI.closed j' hj').1 (hI.closed j (hI.sub j hlj)).1 (fun h=>by subst h;rw[hlj]at hlj';simp at hlj') hdj
 ·have hx' :∀ j,(pr l i).testBit j=true→dn l j≠some t:=fun j hj hdj=>hx ⟨j,hj,hdj⟩;rw[(he t ht).2 hx']at hv;refine hI.tm0 t (fun j hj hdj=> ?_) v hv;have hji:i≠j:=fun h=>by subst h;rw[hul]at hj;simp at hj
  rcases hs.reads i j o t ho (hI.closed j (hI.sub j hj)).1 hji hdj ht with h1|h1
  ·exact hx' j h1 hdj
  ·have:=hI.lcl j hj i h1;rw[hul]at this;simp at this
theorem Yd(hs:Stat P n ops l){listed:Array Bool}{a:Act}{w:World}{ρ:Ren}{done:Nat}{env:PT V}{s:St}{aj:fN}{nm:Nat→Option Nat}(hI:Inv P w0 n ops l E0 ρ0 s0 wS DW listed a w ρ done env s aj nm)
  {i:Nat} {o:Oper} (ho:ops[i]? =some o) (hnd:done.testBit i=false) (hpre:∀ b,(pr l i).testBit b=true→listed.getD b false=true):
  ∀ t∈ot o ops.toList,∀ v,env.get t=some v→aF w0 ρ v (a.tmps.getD t undef):=by
 intro t ht v hv;refine hI.tm t (fun j hj hlj hdj=> ?_) v hv;have hji:i≠j:=fun h=>by subst h;rw[hnd]at hj;simp at hj
 rcases hs.reads i j o t ho (hI.closed j hj).1 hji hdj ht with h1|h1
 ·have:=hpre j h1;rw[hlj]at this;simp at this
 ·have:=(hI.closed j hj).2 i h1;rw[hnd]at this;simp at this
theorem vW{k:PT V→St→Prop}{Q:Exit→Act→World→Prop}
  (hk:∀ env' s' ρ' a' w',k env' s'→Rel w0 ρ' s' w'→kH ρ0 s0 wS ρ' s' w'→oA w0 ρ' n env' a'→a'.defers=DW→Q .normal a' w')
  {listed:Array Bool} {a:Act} {w:World} {ρ:Ren} {m:Nat} {todo:List (Nat×aG)} {done:Nat} {env:PT V} {s:St} {aj:fN} {nm:Nat→Option Nat}
  (hI:Inv P w0 n ops l E0 ρ0 s0 wS DW listed a w ρ done env s aj nm) (ht1:∀ x∈todo,x.1<ops.size∧l[x.1]? =some x.2∧done.testBit x.1=false) (hmain:N3 M F m todo done env s aj k)
  (hall:∀ i,i<ops.size→listed.getD i false=true):Q .normal a w:=by
 have htodo:todo=[]:=by
  cases todo with
  |nil=>rfl
  |cons x r=>
   obtain⟨h1,_,h3⟩:=ht1 x (by simp);have:=hI.sub x.1 (hall x.1 h1);rw[h3]at this;simp at this
 subst htodo;have hkk:k env s:=hmain;refine hk env s ρ a w hkk hI.rel hI.ry ⟨hI.tsz,fun t v hv=>hI.tm t (fun i hd hl=> ?_) v hv⟩ hI.DW;have:=hall i (hI.closed i hd).1;rw[hl]at this;simp at this
theorem QW(hs:Stat P n ops l){listed:Array Bool}(hsz:listed.size=ops.size)(h:Region.ready .any ops listed=[]):∀ i,i<ops.size→listed.getD i false=true:=by
 intro i
 induction i using Nat.strongRecOn with
 |_ i ih=>
  intro hi;cases hl:listed.getD i false with
  |true=>rfl
  |false=>
   exfalso;obtain⟨o,ho⟩:∃ o,ops[i]? =some o:=⟨ops[i],mQ hi⟩;have:i∈Region.ready .any ops listed:=mem_ready.2 ⟨by
    simp only[mu,mQ (show i<listed.size by omega)]at hl⊢;exact hl,o,ho,fun e he hb=>ih e.on (hs.lt i o ho e (by simpa using he) hb) (by have:=hs.lt i o ho e (by simpa using he) hb;omega)⟩
   rw[h]at this;simp at this
theorem P7(hs:Stat P n ops l)(hM:rK P M)(hF:xT P w0 F){k:PT V→St→Prop}{Q:Exit→Act→World→Prop}
  (hk:∀ env' s' ρ' a' w',k env' s'→Rel w0 ρ' s' w'→kH ρ0 s0 wS ρ' s' w'→oA w0 ρ' n env' a'→a'.defers=DW→Q .normal a' w'):
  ∀ (fuel:Nat) (listed:Array Bool) (a:Act) (w:World) (ρ:Ren) (m:Nat) (todo:List (Nat×aG)) (done:Nat) (env:PT V) (s:St) (aj:fN) (nm:Nat→Option Nat),Inv P w0 n ops l E0 ρ0 s0 wS DW listed a w ρ done env s aj nm→(∀ x∈todo,x.1<ops.size∧l[x.1]? =some x.2∧done.testBit x.1=false)→(∀ i,i<ops.size→done.testBit i=false→∃ o,(i,o)∈todo)→
   todo.Pairwise (fun x y=>x.1<y.1)→(∀ i,i<ops.size→sm l i=true→(∀ b,(pr l i).testBit b=true→done.testBit b=true)→done.testBit i=true)→
   N3 M F m todo done env s aj k→((List.range ops.size).filter fun i=> !listed.getD i false).length≤fuel→wpAny P .any ops Q fuel listed a w:=by
 intro fuel
 induction fuel with
 |zero=>
  intro listed a w ρ m todo done env s aj nm hI ht1 ht2 ht3 hasap hmain hfuel;have hall:∀ i,i<ops.size→listed.getD i false=true:=fun i hi=>by
   cases h:listed.getD i false with
   |true=>rfl
   |false=>
    have:i∈(List.range ops.size).filter fun i=> !listed.getD i false:=qg.2 ⟨Ab.2 hi,by simp only[h];rfl⟩;have h0:(List.range ops.size).filter (fun i=> !listed.getD i false)=[]:=fT (by omega);rw[h0]at this;simp at this
  refine⟨?_,vW hk hI ht1 hmain hall⟩;cases hr:Region.ready .any ops listed with
  |nil=>rfl
  |cons i r=>
   exfalso;have hmem:i∈Region.ready .any ops listed:=by rw[hr];simp
   obtain⟨h1,o,h2,_⟩:=mem_ready.1 hmem;have hi:i<ops.size:=(qc3.1 h2).1;have hl:=hall i hi;simp only[mu,mQ (show i<listed.size by rw[hI.size];exact hi),rB]at hl h1;rw[h1]at hl;simp at hl
 |succ fuel ih=>
  intro listed a w ρ m todo done env s aj nm hI ht1 ht2 ht3 hasap hmain hfuel;refine⟨fun hr=>vW hk hI ht1 hmain (QW hs hI.size hr),fun i hmem=> ?_⟩;obtain⟨h1,o,ho,hedges⟩:=mem_ready.1 hmem;have hi:i<ops.size:=(qc3.1 ho).1;have hlsz:i<listed.size:=by rw[hI.size];exact hi
  have hul:listed.getD i false=false:=by
   simp only[mu,mQ hlsz]at h1⊢;exact h1
  have hpre:∀ b,(pr l i).testBit b=true→listed.getD b false=true:=fun b hb=>by
   obtain⟨ed,e1,e2,e3⟩:=hs.pred i o ho b hb;have hl:=hedges ed (by simpa using e1) e2;rcases e3 with rfl|e3
   ·exact hl
   ·exact hI.lcl ed.on hl b e3
  have hcount:((List.range ops.size).filter fun j=> !(listed.setIfInBounds i true).getD j false).length≤fuel:=by
   have:=filter_lt (p:=fun j=> !listed.getD j false) (p' :=fun j=> !(listed.setIfInBounds i true).getD j false) (List.range ops.size) (i:=i) (fun j hj=>by
    rw[lV hlsz]at hj;cases hb:listed.getD j false with
    |false=>rfl
    |true=>rw[hb]at hj;simp at hj) (Ab.2 hi) (by simp only[hul];rfl) (by rw[lV hlsz];simp)
   omega
  obtain⟨co,c1,c2,c3,c4,c5⟩:=hs.op i o ho;have hgd:l.getD i default=co:=lK c1;have hdn:dn l i=o.dst:=by unfold dn;rw[hgd,c2]
  unfold wpOp;rw[ho];simp only[]
  -- what comes behind
  cases hsmall:sm l i with
  |true=>
   have hd:done.testBit i=true:=hasap i hi hsmall fun b hb=>hI.sub b (hpre b hb);have next:∀ {x:Value} {w' :World} {ρ' :Ren},ρ.le ρ'→Rel w0 ρ' s w'→kH ρ0 s0 wS ρ' s w'→(∀ t,dn l i=some t→∀ v,env.get t=some v→aF w0 ρ' v x)→(∀ j c,j≠i→nm j=some c→ρ c=none→ρ' c=none)→
     wpAny P .any ops Q fuel (listed.setIfInBounds i true) (a.put o.dst x) w' :=fun {x w' ρ'} q1 q2 q3 q4 q5=>by
    have:=LC hs hI hi hd hpre q1 q2 q3 q4 q5;rw[hdn]at this;exact ih _ _ _ _ m todo done env s aj nm this ht1 ht2 ht3 hasap hmain hcount
   obtain⟨o',env1,e1,e2,e3⟩:=hI.Z4 i hd hul;rw[ho]at e1;cases e1;have hview:=Nx hs hI ho hul hpre e2;rw[hgd]at e3;rcases e3 with⟨g1,g2⟩|⟨g1,⟨so,v,q1,q2,q3,q4⟩|⟨mo,ob,f,c,q1,q2,q3,q4,q5,q6,q7⟩⟩
   ·have hw:=tC (tmps:=a.tmps) c4 g1 hview;rw[if_neg (by rw[hw];simp)];refine next (Ren.le_refl _) hI.rel hI.ry (fun t ht v hv=> ?_) fun j c _ _ h=>h
    rw[g2 t ht]at hv;simp only[ag]at hv;subst hv;exact tQ
   ·have hw:=tC (tmps:=a.tmps) c4 g1 hview;rw[if_pos hw];left;obtain⟨x,x1,x2⟩:=EF (P:=P) (by rw[←c3];exact q1) q2 hI.rel (Gk (o:=o) hview);unfold Oper.wp;rw[x1];refine next (Ren.le_refl _) hI.rel hI.ry (fun t ht u hu=> ?_) fun j c _ _ h=>h
    rw[q4 t ht]at hu;simp only[ag]at hu;subst hu;exact x2
   ·have hw:=tC (tmps:=a.tmps) c4 g1 hview;rw[if_pos hw];left;obtain⟨obj,lim,w',x,x1,x2,x3,x4,x5,x6⟩:=EE (P:=P) (w0:=w0) (ρ:=ρ) (by rw[←c3];exact q1) q2 (Gk (o:=o) hview) w;unfold Oper.wp;rw[x1];have hcn:=hI.nml i c q3;have hreal:=hI.rel.realize hcn q5 q6 x5;have hle:=Ren.B7 (ρ:=ρ) (n:=c) (w.heap.size,0,lim) q5;have hwh:w'.heap=(w.alloc obj).heap:=x2;refine next hle (hreal.same hwh x3 x4) ⟨hI.ry.next,Ren.le_trans hI.ry.ren hle,fun m y hm hy=> ?_,?_,hI.ry.sk,fun r hr hx=> ?_⟩ (fun t ht u hu=> ?_) fun j c' hj hc' hn=> ?_
    ·unfold Ren.add at hy;by_cases hmc:m=c
     ·rw[hmc];exact q4
     ·rw[if_neg hmc]at hy;exact hI.ry.new m y hm hy
    ·rw[hwh];have:=hI.ry.DN;simp;omega
    ·obtain⟨y1,y2⟩:=hI.ry.wk r hr hx;have hrw:r<w.heap.size:=iC hr hI.ry.DN;obtain⟨z1,z2⟩:=Ks (ρ:=ρ) (n:=c) (obj:=obj) (lim:=lim) r hrw y2;rw[hwh];exact⟨z1.trans y1,z2⟩
    ·rw[q7 t ht]at hu;simp only[ag]at hu;subst hu;exact x6 _ _ hle (Ren.add_same _ _ _)
    ·unfold Ren.add;rw[if_neg (fun h=>hj (hI.nmd j i c' hc' (by rw[h];exact q3)))];exact hn
  |false=>
   have hnd:done.testBit i=false:=by
    cases h:done.testBit i with
    |false=>rfl
    |true=>have:=hI.bl i h hsmall;rw[hul]at this;simp at this
   obtain⟨p,hp⟩:=ht2 i hi hnd;have hpo:p=co:=by have:=(ht1 _ hp).2.1;simp only at this;rw[c1]at this;exact(qh this).symm
   subst hpo;have hpsm:p.small=false:=by unfold sm at hsmall;rwa[hgd]at hsmall
   unfold N3 at hmain;cases hsp:eW [] todo with
   |none=>have:=Ej _ _ hsp _ hp;simp only at this;rw[hpsm]at this;simp at this
   |some x=>
    obtain⟨i0,o0,rest⟩:=x;rw[hsp]at hmain;simp only at hmain;obtain⟨bf,af,hb1,hb2,hb3⟩:=Ek _ _ hsp;simp only[PK,jZ]at hb2;cases hcnd:(within o0.aT done&&rest.all (fun x=>x.2.small||Nat.testBit x.2.aT i0))with
    |false=>rw[hcnd]at hmain;exact hmain.elim
    |true=>
     rw[hcnd]at hmain;simp only[cond_true]at hmain;simp only[aI]at hcnd;have hi0:(i0,o0)∈todo:=by rw[hb1];simp
     have hii:i0=i:=by
      rcases Decidable.em (i0=i)with h|h
      ·exact h
      ·exfalso;have hmem:(i,p)∈rest:=by
        rw[hb2];rw[hb1]at hp;rcases eH.1 hp with hp|hp
        ·exact eH.2 (.inl hp)
        ·rcases bT.1 hp with hp|hp
         ·cases hp;exact absurd rfl h
         ·exact eH.2 (.inr hp)
       have hall:=fF.1 hcnd.2 _ hmem;simp only[hpsm,Fx]at hall;have hl0:=hpre i0 (by unfold pr;rw[hgd];exact hall);have:=hI.sub i0 hl0;rw[(ht1 _ hi0).2.2]at this;simp at this
     subst hii;have hop:o0=p:=by have:=(ht1 _ hi0).2.1;simp only at this;rw[c1]at this;exact(qh this).symm
     subst hop;have hview:=Yd hs hI ho hnd hpre;have hbit:∀ j,(Nat.lor done (2 ^ i0)).testBit j=true↔(done.testBit j=true∨j=i0):=fun j=>by rw[Az];simp
     have hrest1:∀ x∈rest,x∈todo∧x.1≠i0:=fun x hx=>by
      rw[hb2]at hx;rw[hb1]at ht3⊢;have hpw:=List.pairwise_append.1 ht3;rcases eH.1 hx with hx|hx
      ·have:=hpw.2.2 x hx (i0,o0) (by simp);simp only at this;exact⟨eH.2 (.inl hx),by omega⟩
      ·have:=(PI.1 hpw.2.1).1 x hx;simp only at this;exact⟨eH.2 (.inr (by simp[hx])),by omega⟩
     have hsub:rest.Sublist todo:=by
      rw[hb1,hb2];exact List.Sublist.append (List.Sublist.refl _) (PL _ _)
     -- what comes behind
     have next:∀ {v:V} {x:Value} {s' :St} {w' :World} {ρ' :Ren} {recs' :fN},Rel w0 ρ' s' w'→kH ρ s w ρ' s' w'→aF w0 ρ' v x→(∀ y∈aj,(pr l i0).testBit y.1=false→cZ y.2.2.1 s y.2.1=some y.2.2.2→y∈recs'∧cZ y.2.2.1 s' y.2.1=some y.2.2.2)→
       fk M F m rest (Nat.lor done (2 ^ i0)) (fI o0.dst v env) s' recs' k→wpAny P .any ops Q fuel (listed.setIfInBounds i0 true) (a.put o.dst x) w' :=fun {v x s' w' ρ' recs'} q1 q2 q3 q4 q5=>by
      have hI' :=SM hs hI hi hnd hpre q1 q2 q3 q4;have hdn0:dn l i0=o0.dst:=by unfold dn;rw[hgd]
      rw[hdn0,c2]at hI';rw[c2]at q5;obtain⟨m',todo2,done2,env2,s2,recs2,_,hab,hmain2⟩:=zG q5;obtain⟨nm2,z1,z2,z3,⟨r',z4,z5,z6⟩,z7⟩:=vP hs rest _ _ _ [] _ nm _ _ _ _ _ hI' (fun x hx=>by
       obtain⟨y1,y2⟩:=hrest1 x hx;obtain⟨y3,y4,y5⟩:=ht1 x y1;refine⟨y3,y4,?_⟩;cases hb:(Nat.lor done (2 ^ i0)).testBit x.1 with
       |false=>rfl
       |true=>
        rcases(hbit x.1).1 hb with h|h
        ·rw[y5]at h;simp at h
        ·exact absurd h y2) (ht3.sublist hsub) hab
      simp only[PK,jZ]at z4;subst z4;have hin:∀ j,j<ops.size→done2.testBit j=false→∃ p,(j,p)∈rest∧l[j]? =some p:=fun j hj hdj=>by
       have hdj0:done.testBit j=false:=by
        cases h:done.testBit j with
        |false=>rfl
        |true=>have:=z2 j ((hbit j).2 (.inl h));rw[hdj]at this;simp at this
       have hji:j≠i0:=fun h=>by
        have:=z2 j ((hbit j).2 (.inr h));rw[hdj]at this;simp at this
       obtain⟨p,hp⟩:=ht2 j hj hdj0;refine⟨p,?_,(ht1 _ hp).2.1⟩;rw[hb1]at hp;rw[hb2];rcases eH.1 hp with hp|hp
       ·exact eH.2 (.inl hp)
       ·rcases bT.1 hp with hp|hp
        ·cases hp;exact absurd rfl hji
        ·exact eH.2 (.inr hp)
      refine ih _ _ _ _ m' todo2 done2 env2 s2 recs2 nm2 z1 (fun x hx=> ?_) (fun j hj hdj=> ?_) ((ht3.sublist hsub).sublist z5) (fun j hj hsj hprej=> ?_) hmain2 hcount
      ·have hxr:=z5.subset hx;obtain⟨y1,y2⟩:=hrest1 x hxr;obtain⟨y3,y4,y5⟩:=ht1 x y1;exact⟨y3,y4,(z6 x hxr).1 hx⟩
      ·obtain⟨p,hp1,hp2⟩:=hin j hj hdj;exact⟨p,(z6 _ hp1).2 hdj⟩
      ·cases hdj:done2.testBit j with
       |true=>rfl
       |false=>
        obtain⟨p,hp1,hp2⟩:=hin j hj hdj;have hpd:l.getD j default=p:=lK hp2;have:=z7 _ hp1 (by unfold sm at hsj;rw[hpd]at hsj;exact hsj) (fun b hb=>hprej b (by unfold pr;rw[hpd];exact hb));simp only at this;rw[hdj]at this;simp at this
     cases hg:bW o0.guard env with
     |none=>rw[hg]at hmain;exact hmain.elim
     |some bb=>
      rw[hg]at hmain;have hw:=tC (tmps:=a.tmps) c4 hg hview;cases bb with
      |true=>
       rw[if_pos hw];left;simp only at hmain;rw[c3]at hmain;refine Jt hM hF hmain hI.rel (Gk (o:=o) hview) fun v s' ρ' x w' q1 q2 q3 q4=> ?_;obtain⟨r1,r2⟩:=JA _ q1;refine next q2 q3 q4 (fun y hy hpy _=> ?_) r1
       have hpy' :o0.aT.testBit y.1=false:=by unfold pr at hpy;rwa[hgd]at hpy
       exact⟨qg.2 ⟨hy,by simp[hpy']⟩,r2 y hy hpy'⟩
      |false=>
       rw[if_neg (by rw[hw];simp)];simp only at hmain;exact next hI.rel (.refl _ _ _) tQ (fun y hy _ hev=>⟨hy,hev⟩) hmain
theorem Gi:∀ (l:List aG) (i:Nat),(∀ x∈bx l i,i≤x.1∧l[x.1 - i]? =some x.2)∧(bx l i).Pairwise (fun x y=>x.1<y.1)∧∀ j,j<l.length→∃ o,(i+j,o)∈bx l i:=by
 intro l
 induction l with
 |nil=>intro i;exact⟨fun x h=>by simp[bx]at h,.nil,fun j h=>by simp at h⟩
 |cons o l ih=>
  intro i;obtain⟨h1,h2,h3⟩:=ih (i+1);refine⟨fun x hx=> ?_,PI.2 ⟨fun x hx=>by have:=(h1 x hx).1;simp only;omega,h2⟩,fun j hj=> ?_⟩
  ·rcases bT.1 hx with rfl|hx
   ·exact⟨ak _,by simp⟩
   ·obtain⟨a1,a2⟩:=h1 x hx;exact⟨by omega,by rw[show x.1 - i=(x.1 - (i+1))+1 from by omega];simpa using a2⟩
  ·cases j with
   |zero=>exact⟨o,by simp[bx]⟩
   |succ j=>
    obtain⟨p,hp⟩:=h3 j (by simpa using hj);exact⟨p,by simp only[bx];rw[show i+(j+1)=i+1+j from by omega];exact eu _ hp⟩
theorem K6(hM:rK P M)(hF:xT P w0 F)(hD:P.follows .mixedOrders=true){n id:Nat}{ops:Array Oper}{l:List aG}{k:PT V→St→Prop}{Q:Exit→Act→World→Prop}{env:PT V}{s:St}{a:Act}{w:World}{ρ:Ren}
  (hc:Ah P n ops.toList ops.toList []=some l) (hd:BH ops.toList l=true) (he:fk M F (l.length+1) (bx l 0) 0 env s [] k) (hR:Rel w0 ρ s w) (hE:oA w0 ρ n env a)
  (hk:∀ env' s' ρ' a' w',k env' s'→Rel w0 ρ' s' w'→kH ρ s w ρ' s' w'→oA w0 ρ' n env' a'→a'.defers=a.defers→Q .normal a' w'):(Code.region id ops true).wp P Q a w:=by
 have hs:=Stat.of hc hd;refine wp_region_any hD ?_;have hR' :Rel w0 ρ s {w with drawn:=w.drawn+1}:=hR.same rfl rfl rfl;obtain⟨n1,n2,n3⟩:=Gi l 0;have hget:∀ i,(Array.replicate ops.size false).getD i false=false:=fun i=>by
  simp only[mu,Array.getElem?_replicate];split<;>rfl
 have hI:Inv P w0 n ops l env ρ s w a.defers (Array.replicate ops.size false) a {w with drawn:=w.drawn+1} ρ 0 env s [] (fun _=>none):=
  ⟨by simp,hR',kH.same rfl,hE.1,rfl,fun i h=>by simp at h,fun i h=>by rw[hget]at h;simp at h,fun i h=>by simp at h,fun i h=>by rw[hget]at h;simp at h,fun _ _=>rfl,fun t _ v hv=>hE.2 t v hv,fun t _ v hv=>hE.2 t v hv,fun i h=>by simp at h,fun i c h=>by simp at h,fun i j c h=>by simp at h⟩
 obtain⟨m',todo2,done2,env2,s2,recs2,_,hab,hmain2⟩:=zG he;have hr1:∀ x∈bx l 0,x.1<ops.size∧l[x.1]? =some x.2∧(0:Nat).testBit x.1=false:=fun x hx=>by
  obtain⟨_,h2⟩:=n1 x hx;simp only[PG]at h2;exact⟨by rw[←hs.len];exact(aH.1 h2).1,h2,by simp⟩
 obtain⟨nm2,z1,z2,z3,⟨r',z4,z5,z6⟩,z7⟩:=vP hs (bx l 0) _ _ _ [] _ _ _ _ _ _ _ hI hr1 n2 hab;simp only[PK,jZ]at z4;subst z4;have hin:∀ j,j<ops.size→∃ p,(j,p)∈bx l 0∧l[j]? =some p:=fun j hj=>by
  obtain⟨p,hp⟩:=n3 j (by rw[hs.len];exact hj);rw[kF]at hp;exact⟨p,hp,(hr1 _ hp).2.1⟩
 refine P7 hs hM hF hk ops.size _ a _ ρ m' todo2 done2 env2 s2 recs2 nm2 z1 (fun x hx=> ?_) (fun j hj hdj=> ?_) (n2.sublist z5) (fun j hj hsj hprej=> ?_) hmain2 ?_
 ·have hxr:=z5.subset hx;obtain⟨y1,y2,_⟩:=hr1 x hxr;exact⟨y1,y2,(z6 x hxr).1 hx⟩
 ·obtain⟨p,hp1,hp2⟩:=hin j hj;exact⟨p,(z6 _ hp1).2 hdj⟩
 ·cases hdj:done2.testBit j with
  |true=>rfl
  |false=>
   obtain⟨p,hp1,hp2⟩:=hin j hj;have hpd:l.getD j default=p:=lK hp2;have:=z7 _ hp1 (by unfold sm at hsj;rw[hpd]at hsj;exact hsj) (fun b hb=>hprej b (by unfold pr;rw[hpd];exact hb));simp only at this;rw[hdj]at this;simp at this
 ·exact j0 (rC _ _) (by simp)
end
end Go.RE
namespace Go.RE
section
variable{P:Program}{w0:World}{M:Nat→String→Option Nat}{F:Nat→List V→St→(V→St→Prop)→Prop}
theorem Q3(hM:rK P M)(hF:xT P w0 F){n:Nat}{ops:Array Oper}{k:PT V→St→Prop}{Q:Exit→Act→World→Prop}:∀ (r pre:List Oper) (acc:List Nat) (cr:List aG) (env:PT V) (s:St) (a:Act) (w:World) (ρ:Ren),ops.toList=pre++r→Ah P n ops.toList r acc=some cr→fm M F cr env s k→Rel w0 ρ s w→oA w0 ρ n env a→
  (∀ env' s' ρ' a' w',k env' s'→Rel w0 ρ' s' w'→kH ρ s w ρ' s' w'→oA w0 ρ' n env' a'→a'.defers=a.defers→Q .normal a' w')→
  wpOps P ops Q (List.range' pre.length r.length) a w:=by
 intro r
 induction r with
 |nil=>
  intro pre acc cr env s a w ρ ho hc he hR hE hk;simp[Ah]at hc;subst hc;simp only[fm]at he;simpa[wpOps]using hk env s ρ a w he hR (.refl _ _ _) hE rfl
 |cons o r ih=>
  intro pre acc cr env s a w ρ ho hc he hR hE hk;obtain⟨g,l',h1,h2,h3,rfl⟩:=EB hc;have hoi:ops[pre.length]? =some o:=by rw[←s4,ho];simp
  have hrest:∀ env' s' ρ' a' w',fm M F l' env' s' k→Rel w0 ρ' s' w'→kH ρ s w ρ' s' w'→oA w0 ρ' n env' a'→a'.defers=a.defers→wpOps P ops Q (List.range' (pre.length+1) r.length) a' w' :=fun env' s' ρ' a' w' q1 q2 q3 q4 q5=>by
   have:=ih (pre++[o]) _ l' env' s' a' w' ρ' (by rw[ho];simp) h2 q1 q2 q4 fun e2 s2 ρ2 a2 w2 z1 z2 z3 z4 z5=>hk e2 s2 ρ2 a2 w2 z1 z2 (q3.trans z3) z4 (z5.trans q5);simpa using this
  rw[fV,List.range'_succ,wpOps_cons];unfold wpOp;rw[hoi];simp only[];simp only[fm]at he;cases hg:bW g env with
  |none=>rw[hg]at he;exact he.elim
  |some b=>
   rw[hg]at he;have hw:=zL (tmps:=a.tmps) (ρ:=ρ) h1 hg (fun t v _ e=>hE.2 t v e);cases b with
   |true=>
    rw[if_pos hw];left;exact Jt hM hF he hR (fun x _=>hE.cW x) fun v s' ρ' x w' q1 q2 q3 q4=>hrest _ s' ρ' _ w' q1 q2 q3 ((hE.mono q3.ren).put h3 q4) (put_defers _ _ _)
   |false=>
    rw[if_neg (by rw[hw];simp)];exact hrest _ s ρ _ w he hR (.refl _ _ _) (hE.put h3 tQ) (put_defers _ _ _)
def Sim(w0:World)(n:Nat)(ρ:Ren)(s:St)(w:World)(k:Ex→PT V→St→Prop):Exit→Act→World→Prop:=fun e a w' =>
 ∃ ex env' s' ρ',e=(match ex with| .normal=>Exit.normal| .exit i=> .exit i| .ret=> .ret)∧k ex env' s'∧Rel w0 ρ' s' w'∧kH ρ s w ρ' s' w'∧oA w0 ρ' n env' a∧a.defers=[]
def Bp(P:Program):Prop:=P.follows .mixedOrders=true
theorem DL{c:Code}{Q:Exit→Act→World→Prop}{a:Act}{w:World}{J:Nat→Act→World→Prop}{m:Nat}(h0:J m a w)
  (round:∀ m a w,J m a w→c.wp P (Exit.then (fun a' w' =>∃ m',m' <m∧J m' a' w') Q) a w):(Code.loop c).wp P Q a w:=by
 intro b k cs;have key:∀ m a w,J m a w→∃ e a' w',Q e a' w'∧Arrives P (lone (b.at a (.code c::.inLoop c::k)) cs w) b k cs e a' w' :=by
  intro m
  induction m using Nat.strongRecOn with
  |_ m ih=>
   intro a w hJ;obtain⟨e,a₁,w₁,hq,harr⟩:=round m a w hJ b (.inLoop c::k) cs;cases e with
   |normal=>
    obtain⟨m',hlt,hJ'⟩:=hq;obtain⟨e₂,a₂,w₂,hq₂,harr₂⟩:=ih m' hlt a₁ w₁ hJ';exact⟨e₂,a₂,w₂,hq₂,.of_steps (Steps.trans harr (.one step_inLoop)) harr₂⟩
   |exit id=>exact⟨_,a₁,w₁,hq,.pass (x:=.inLoop c) rfl (fun _ _=> .inl (by simp)) harr⟩
   |goto l=>exact⟨_,a₁,w₁,hq,.pass (x:=.inLoop c) rfl (fun _ _=> .inl (by simp)) harr⟩
   |ret=>exact⟨_,a₁,w₁,hq,.pass (x:=.inLoop c) rfl (fun _ _=> .inl (by simp)) harr⟩
   |panic ch=>exact⟨_,a₁,w₁,hq,.pass (x:=.inLoop c) rfl (fun _ _=> .inl (by simp)) harr⟩
   |outgrown=>exact⟨_,a₁,w₁,hq,.pass (x:=.inLoop c) rfl (fun _ _=> .inl (by simp)) harr⟩
 obtain⟨e,a',w',hq,harr⟩:=key m a w h0;exact⟨e,a',w',hq,.of_steps (.one step_loop) harr⟩
theorem EH{w0:World}{n:Nat}{ρ:Ren}{s:St}{w:World}{k:Ex→PT V→St→Prop}{k' :PT V→St→Prop}{N:Act→World→Prop}{Q:Exit→Act→World→Prop}
  (hn:∀ env' s' ρ' a' w',k' env' s'→Rel w0 ρ' s' w'→kH ρ s w ρ' s' w'→oA w0 ρ' n env' a'→a'.defers=[]→N a' w')
  (hq:∀ e a' w',Sim w0 n ρ s w k e a' w'→Q e a' w'):∀ e a' w',Sim w0 n ρ s w (fun e env s=>match e with| .normal=>k' env s| .exit i=>k (.exit i) env s| .ret=>k .ret env s) e a' w'→Exit.then N Q e a' w' :=by
 rintro e a' w' ⟨ex,env',s',ρ',rfl,h1,h2,h3,h4,h5⟩;cases ex with
 |normal=>exact hn env' s' ρ' a' w' h1 h2 h3 h4 h5
 |exit i=>exact hq _ _ _ ⟨.exit i,env',s',ρ',rfl,h1,h2,h3,h4,h5⟩
 |ret=>exact hq _ _ _ ⟨.ret,env',s',ρ',rfl,h1,h2,h3,h4,h5⟩
def rm(n:Nat)(p:List V→St→Option (V×St)):cq:=⟨n,[.t 0],.wB n p⟩
def FH(P:Program)(w0:World)(f n:Nat)(p:List V→St→Option (V×St)):Prop:=
 (∃ fn b,P.funcs[f]? =some fn∧fn.body=some b∧(fn.name== "runtime.NumGoroutine")=false)∧
 ∀ (args:List V) (s:St) (v:V) (s' :St) (ρ:Ren) (w:World) (args' :List Value),args.length=n→p args s=some (v,s')→Rel w0 ρ s w→aV w0 ρ args args'→
  Calls P f args'.toArray w fun e w' =>∃ ρ' x,e=.returned x∧Rel w0 ρ' s' w'∧kH ρ s w ρ' s' w'∧aF w0 ρ' v x
def KK(P:Program)(w0:World)(C:Nat→Option cq):Prop:=∀ f fn,C f=some fn→qg8 P f=some fn∨∃ n p,fn=rm n p∧FH P w0 f n p
def KU(C:Nat→Option cq)(M:Nat→String→Option Nat)(n:Nat):Nat→List V→St→(V→St→Prop)→Prop:=fun f args s k=>Zp C M n f args s k
theorem Sim.trans{n:Nat}{ρ ρ' :Ren}{s s' :St}{w w' :World}{k:Ex→PT V→St→Prop}(h:kH ρ s w ρ' s' w'){e:Exit}{a:Act}{w2:World}(hs:Sim w0 n ρ' s' w' k e a w2):Sim w0 n ρ s w k e a w2:=by
 obtain⟨ex,env',s2,ρ2,h1,h2,h3,h4,h5,h6⟩:=hs;exact⟨ex,env',s2,ρ2,h1,h2,h3,h.trans h4,h5,h6⟩
theorem KZ{C:Nat→Option cq}(hM:rK P M)(hD:Bp P)(m:Nat)(hF:∀ j,j<m→xT P w0 (KU C M j)){n:Nat}:∀ (j:Nat),j≤m→∀ (c:Code) (env:PT V) (s:St) (a:Act) (w:World) (ρ:Ren) (k:Ex→PT V→St→Prop),gz C M j (iL P n c) env s k→Rel w0 ρ s w→oA w0 ρ n env a→a.defers=[]→c.wp P (Sim w0 n ρ s w k) a w:=by
 intro j
 induction j using Nat.strongRecOn with
 |_ j ih=>
 cases j with
 |zero=>intro _ c env s a w ρ k h;exact h.elim
 |succ j=>
  intro hj c env s a w ρ k h hR hE hd;have ih' :=ih j (by omega) (by omega);have hFj:=hF j (by omega);cases c with
  |skip=>simp only[iL,gz]at h;exact wp_skip ⟨.normal,env,s,ρ,rfl,h,hR,.refl _ _ _,hE,hd⟩
  |label l=>simp only[iL,gz]at h;exact wp_label ⟨.normal,env,s,ρ,rfl,h,hR,.refl _ _ _,hE,hd⟩
  |exit i=>simp only[iL,gz]at h;exact wp_exit ⟨.exit i,env,s,ρ,rfl,h,hR,.refl _ _ _,hE,hd⟩
  |ret=>simp only[iL,gz]at h;exact wp_ret ⟨.ret,env,s,ρ,rfl,h,hR,.refl _ _ _,hE,hd⟩
  |goto l=>simp only[iL,gz]at h;exact h.elim
  |refuse y=>simp only[iL,gz]at h;exact h.elim
  |rangeFunc f p x y=>simp only[iL,gz]at h;exact h.elim
  |scope b=>
   simp only[iL,gz]at h;refine wp_scope_straight (wp_mono (ih' b env s a w ρ _ h hR hE hd) ?_);rintro e a' w' ⟨ex,env',s',ρ',rfl,h1,h2,h3,h4,h5⟩;cases ex with
   |normal=>
    cases j with
    |zero=>exact h1.elim
    |succ j=>simp only[gz]at h1;exact⟨.normal,env',s',ρ',rfl,h1,h2,h3,h4,h5⟩
   |exit i=>exact⟨.exit i,env',s',ρ',rfl,h1,h2,h3,h4,h5⟩
   |ret=>exact⟨.ret,env',s',ρ',rfl,h1,h2,h3,h4,h5⟩
  |region id ops draw=>
   simp only[iL]at h;split at h
   ·rename_i l hl;cases draw with
    |false=>
     simp only[cond_false,gz]at h;refine wp_region ?_;have:=Q3 (P:=P) (w0:=w0) hM hFj (n:=n) (ops:=ops) (Q:=Sim w0 n ρ s w k) ops.toList [] [] l env s a w ρ (by simp) hl h hR hE fun env' s' ρ' a' w' q1 q2 q3 q4 q5=>⟨.normal,env',s',ρ',rfl,q1,q2,q3,q4,q5.trans hd⟩;simpa[List.range_eq_range']using this
    |true=>
     simp only[cond_true]at h;cases hdo:BH ops.toList l with
     |false=>rw[hdo]at h;simp only[cond_false,gz]at h;exact h.elim
     |true=>
      rw[hdo]at h;simp only[cond_true,gz]at h;exact K6 (P:=P) (w0:=w0) hM hFj hD hl hdo h hR hE fun env' s' ρ' a' w' q1 q2 q3 q4 q5=>⟨.normal,env',s',ρ',rfl,q1,q2,q3,q4,q5.trans hd⟩
   ·simp only[gz]at h;exact h.elim
  |seq x y=>
   simp only[iL,gz]at h;refine wp_seq (wp_mono (ih' x env s a w ρ _ h hR hE hd) ?_);exact EH (fun env' s' ρ' a' w' q1 q2 q3 q4 q5=>wp_mono (ih' y env' s' a' w' ρ' k q1 q2 q4 q5) fun e a2 w2 hs=>hs.trans q3) fun e a' w' hs=>hs
  |cond c x y=>
   simp only[iL]at h;split at h
   ·rename_i co hco;simp only[gz]at h;split at h
    ·rename_i hv;exact wp_cond_true ((hE.cW c co _ hco hv).gR) (ih' x env s a w ρ k h hR hE hd)
    ·rename_i hv;exact wp_cond_false ((hE.cW c co _ hco hv).gR) (ih' y env s a w ρ k h hR hE hd)
    ·exact h.elim
   ·simp only[gz]at h;exact h.elim
  |block id b=>
   simp only[iL,gz]at h;refine wp_block (wp_mono (ih' b env s a w ρ _ h hR hE hd) ?_);rintro e a' w' ⟨ex,env',s',ρ',rfl,h1,h2,h3,h4,h5⟩;cases ex with
   |normal=>exact⟨.normal,env',s',ρ',rfl,h1,h2,h3,h4,h5⟩
   |ret=>exact⟨.ret,env',s',ρ',rfl,h1,h2,h3,h4,h5⟩
   |exit i=>
    simp only[Exit.inBlock]at h1⊢;by_cases hi:i=id
    ·subst hi;rw[if_pos rfl];rw[show Nat.beq i i=true from fq i]at h1;exact⟨.normal,env',s',ρ',rfl,h1,h2,h3,h4,h5⟩
    ·rw[if_neg hi];have:Nat.beq i id=false:=by
      cases hb:Nat.beq i id with
      |false=>rfl
      |true=>exact absurd (aU hb) hi
     rw[this]at h1;exact⟨.exit i,env',s',ρ',rfl,h1,h2,h3,h4,h5⟩
  |loop b=>
   refine DL (J:=fun i a' w' =>i≤j+1∧∃ env' s' ρ',gz C M i (.loop (iL P n b)) env' s' k∧Rel w0 ρ' s' w'∧kH ρ s w ρ' s' w'∧oA w0 ρ' n env' a'∧a'.defers=[]) (m:=j+1)
    ⟨ak _,env,s,ρ,by simpa only[iL]using h,hR,.refl _ _ _,hE,hd⟩ ?_
   rintro i a1 w1 ⟨hi,env1,s1,ρ1,z1,z2,z3,z4,z5⟩;cases i with
   |zero=>exact z1.elim
   |succ i=>
    simp only[gz]at z1;refine wp_mono (ih i (by omega) (by omega) b env1 s1 a1 w1 ρ1 _ z1 z2 z4 z5) ?_;exact EH (fun env' s' ρ' a' w' q1 q2 q3 q4 q5=>⟨i,by omega,by omega,env',s',ρ',q1,q2,z3.trans q3,q4,q5⟩) fun e a' w' hs=>hs.trans z3
theorem fO:∀ (args:List V) (i:Nat) (env:PT V) (t:Nat),(cK args i env).get t=if i≤t∧t<i+args.length then args[t - i]? else env.get t:=by
 intro args
 induction args with
 |nil=>intro i env t;simp only[cK];rw[if_neg (by simp only[ox];omega)]
 |cons v vs ih=>
  intro i env t;simp only[cK,ih,PT.iX,fV];by_cases h:i+1≤t∧t<i+1+vs.length
  ·rw[if_pos h,if_pos (by omega),show t - i=(t - (i+1))+1 from by omega,DQ]
  ·rw[if_neg h];by_cases ht:t=i
   ·subst ht;rw[if_pos rfl,if_pos (by omega)];simp
   ·rw[if_neg ht,if_neg (by omega)]
theorem LW{ρ:Ren}{n:Nat}{env:PT V}{s:St}{a:Act}{w:World}(hR:Rel w0 ρ s w)(hE:oA w0 ρ n env a):∀ {rs:List ResultVar} {crs:List vN} {vs:List V},rQ P rs=some crs→vw env s crs=some vs→
  ∃ xs,(rs.mapM (m:=Sem) fun| .tmp t=>pure (a.tmps.getD t undef)| .cell q t=>do loadVar t (←asAddr (a.tmps.getD q undef))).run P w=.ok xs w∧aV w0 ρ vs xs:=by
 intro rs
 induction rs with
 |nil=>intro crs vs h h';simp[rQ]at h;subst h;simp[vw]at h';subst h';exact⟨[],by simp,.nil⟩
 |cons r rs ih=>
  intro crs vs h h';cases r with
  |tmp t=>
   simp only[rQ]at h;cases hc:rQ P rs with
   |none=>simp[hc]at h
   |some l=>
    simp[hc]at h;subst h;simp only[vw,Eg]at h';cases hv:env.get t with
    |none=>simp[hv]at h'
    |some v=>
     cases hl:vw env s l with
     |none=>simp[hv,hl]at h'
     |some us=>
      simp[hv,hl]at h';subst h';obtain⟨xs,h1,h2⟩:=ih hc hl;refine⟨a.tmps.getD t undef::xs,?_,.cons (hE.2 t v hv) h2⟩;rw[Yi];simp only[Sem.run_bind,Sem.run_pure,Result.andThen_ok];rw[h1];rfl
  |cell q t=>
   simp only[rQ]at h;cases hs:spread P t with
   |none=>simp[hs]at h
   |some m=>
    cases hc:rQ P rs with
    |none=>simp[hs,hc]at h
    |some l=>
     simp[hs,hc]at h;subst h;simp only[vw]at h';cases hv:Eg env s (.cell q m)with
     |none=>simp[hv]at h'
     |some v=>
      cases hl:vw env s l with
      |none=>simp[hv,hl]at h'
      |some us=>
       simp[hv,hl]at h';subst h';obtain⟨xs,h1,h2⟩:=ih hc hl;simp only[Eg]at hv;split at hv<;>try (simp at hv;done)
       rename_i b off hb;cases hrow:s.row b with
       |none=>simp[hrow]at hv
       |some cs=>
        simp only[hrow]at hv;have hp:=hE.2 q _ hb;generalize hx:a.tmps.getD q undef=x at hp;cases hp with
        |ptr hρ=>
         rename_i r o lim;obtain⟨y,y1,y2⟩:=oe (P:=P) (hR.cells hρ hrow) hs hv;have ha:(asAddr (a.tmps.getD q undef)).run P w=.ok ⟨r,o+off,none⟩ w:=by rw[hx];rfl
         refine⟨y::xs,?_,.cons y2 h2⟩;rw[Yi];simp only[Sem.run_bind,ha,Result.andThen_ok,y1];rw[h1];rfl
theorem QX{ρ:Ren}{n:Nat}{env:PT V}{s:St}{a:Act}{w:World}(hR:Rel w0 ρ s w)(hE:oA w0 ρ n env a){fn:Func}{crs:List vN}{v:V}(hc:rQ P fn.results.toList=some crs)(hv:cI env s crs=some v):
  ∃ x,(results fn a.tmps).run P w=.ok x w∧aF w0 ρ v x:=by
 unfold cI at hv;cases hl:vw env s crs with
 |none=>simp[hl]at hv
 |some vs=>
  obtain⟨xs,h1,h2⟩:=LW (P:=P) hR hE hc hl;have hrun:(results fn a.tmps).run P w=.ok (if h:xs.toArray.size=1 then xs.toArray[0]else .tuple xs.toArray) w:=by
   unfold results;rw[qc2];simp only[Sem.run_bind,Sem.run_map]
   erw [h1];rfl
  cases vs with
  |nil=>
   simp[hl]at hv;subst hv;have:=h2.eF;subst this;exact⟨_,hrun,by simpa using aF.lH h2⟩
  |cons u us=>
   obtain⟨x,xs',rfl,hx,hxs⟩:=h2.bD;cases us with
   |nil=>
    simp[hl]at hv;subst hv;have:=hxs.eF;subst this;exact⟨_,hrun,by simpa using hx⟩
   |cons u2 us=>
    simp[hl]at hv;subst hv;obtain⟨x2,xs2,rfl,hx2,hxs2⟩:=hxs.bD;exact⟨_,hrun,by simpa using aF.lH h2⟩
theorem zI{args:List V}:∀ {n:Nat} {acc vs:List V},firsts (cK args 0 .e) n acc=some vs→n≤args.length∧vs=args.take n++acc:=by
 intro n
 induction n with
 |zero=>intro acc vs h;simp[firsts]at h;subst h;simp
 |succ n ih=>
  intro acc vs h;simp only[firsts]at h;cases hg:(cK args 0 .e).get n with
  |none=>rw[hg]at h;simp at h
  |some v=>
   rw[hg]at h;obtain⟨h1,h2⟩:=ih h;rw[fO]at hg;simp only[bU,true_and,kF,PG,PT.qaM]at hg;split at hg<;>try (simp at hg;done)
   rename_i hlt;refine⟨hlt,?_⟩;rw[h2,Yj,hg];simp
theorem YY{C:Nat→Option cq}(hC:KK P w0 C)(hM:rK P M)(hD:Bp P):∀ n,xT P w0 (KU C M n):=by
 intro n
 induction n using Nat.strongRecOn with
 |_ n ihn=>
 intro f args s k ρ w args' h hR hA;simp only[KU,Zp]at h;cases hf:C f with
 |none=>rw[hf]at h;exact h.elim
 |some cf=>
  rw[hf]at h;rcases hC f cf hf with hcf|⟨pn,p,rfl,hp1,hp2⟩
  rotate_left
  ·refine⟨hp1,?_⟩;simp only[rm]at h;cases hle:Nat.ble args.length pn with
   |false=>simp only[hle,cond_false]at h;exact h.elim
   |true=>
    have hle' :=dY hle;simp only[hle,cond_true]at h;cases n with
    |zero=>exact h.elim
    |succ n=>
     simp only[gz]at h;cases hfs:firsts (cK args 0 .e) pn []with
     |none=>rw[hfs]at h;exact h.elim
     |some vs=>
      rw[hfs]at h;simp only at h;obtain⟨g1,g2⟩:=zI hfs;have hvs:vs=args:=by rw[g2,gu hle'];simp
      subst hvs;cases hpv:p vs s with
      |none=>rw[hpv]at h;exact h.elim
      |some r=>
       obtain⟨v,s'⟩:=r;rw[hpv]at h;simp[cI,vw,Eg,PT.iX]at h;exact(hp2 vs s v s' ρ w args' (by omega) hpv hR hA).mono fun e w' ⟨ρ',x,a1,a2,a3,a4⟩=>⟨v,s',ρ',x,a1,h,a2,a3,a4⟩
  unfold qg8 at hcf;cases hfn:P.funcs[f]? with
  |none=>simp[hfn]at hcf
  |some fn=>
   simp only[hfn]at hcf;cases hb:fn.body with
   |none=>simp[hb]at hcf
   |some b=>
    simp only[hb]at hcf;cases hnm:(fn.name== "runtime.NumGoroutine")with
    |true=>simp[hnm]at hcf
    |false=>
     simp only[hnm,cond_false]at hcf;cases hr:rQ P fn.results.toList with
     |none=>simp[hr]at hcf
     |some rs=>
      simp only[hr,ag]at hcf;subst hcf;refine⟨⟨fn,b,rfl,hb,hnm⟩,?_⟩;cases hle:Nat.ble args.length fn.ntmps with
      |false=>simp only[hle,cond_false]at h;exact h.elim
      |true=>
       have hle' :=dY hle;simp only[hle,cond_true]at h;refine calls_of_wp hfn hb ?_;have hlen:=hA.1;have hE:oA w0 ρ fn.ntmps (cK args 0 .e) {tmps:=args'.toArray++Array.replicate (fn.ntmps - args'.toArray.size) undef,defers:=[]}:=by
        refine⟨by simp;omega,fun t v hv=> ?_⟩;rw[fO]at hv;simp only[bU,true_and,kF,PG,PT.qaM]at hv;split at hv<;>try (simp at hv;done)
        rename_i hlt;obtain⟨x,x1,x2⟩:=hA.get hv;rw[mu,Kv (by simp;omega)];simp[x1];exact x2
       refine wp_mono (KZ hM hD n ihn n (ak _) b _ s _ w ρ _ h hR hE rfl) ?_;rintro e a' w' ⟨ex,env',s',ρ',rfl,h1,h2,h3,h4,h5⟩;have fin:(match cI env' s' rs with|some v=>k v s' |none=>(iW.fail:Prop))→a'.defers=[]∧∃ v,(results fn a'.tmps).run P w' =.ok v w'∧(∃ v' s' ρ' x,Ending.returned v=.returned x∧k v' s'∧Rel w0 ρ' s' w'∧kH ρ s w ρ' s' w'∧aF w0 ρ' v' x):=fun hk=>by
        cases hv:cI env' s' rs with
        |none=>rw[hv]at hk;exact hk.elim
        |some v=>
         rw[hv]at hk;obtain⟨x,x1,x2⟩:=QX (P:=P) h2 h4 hr hv;exact⟨h5,x,x1,v,s',ρ',x,rfl,hk,h2,h3,x2⟩
       cases ex with
       |normal=>exact fin h1
       |ret=>exact fin h1
       |exit i=>exact h1.elim
end
end Go.RE
namespace Go.RE
def bY(C:Nat→Option cq)(M:Nat→String→Option Nat)(n f:Nat)(args:List V)(s:St)(k:V→St→Prop):Prop:=Zp C M n f args s k
def Rm(F F' :Nat→List V→St→(V→St→Prop)→Prop):Prop:=
 ∀ f args s (k k' :V→St→Prop),(∀ v s,k v s→k' v s)→F f args s k→F' f args s k'
variable{M:Nat→String→Option Nat}{F F' :Nat→List V→St→(V→St→Prop)→Prop}
theorem dS(hF:Rm F F'){env:PT V}{s:St}{o:j7}{k k' :V→St→Prop}(hk:∀ v s,k v s→k' v s)(h:dN M F env s o k):dN M F' env s o k' :=by
 cases o with
 |s o=>simp only[dN]at h⊢;split at h<;>simp_all [iW.fail]
 |m o=>simp only[dN]at h⊢;split at h<;>simp_all [iW.fail]
 |h o=>simp only[dN]at h⊢;split at h<;>simp_all [iW.fail]
 |call f args=>
  simp only[dN]at h⊢;split at h
  ·rename_i e1 e2;exact hF _ _ _ _ _ hk h
  ·exact h.elim
 |invoke name x args=>
  simp only[dN]at h⊢;split at h
  ·rename_i e1 e2;split at h
   ·rename_i e3;exact hF _ _ _ _ _ hk h
   ·exact h.elim
  ·exact h.elim
 |next x=>
  simp only[dN]at h⊢;split at h
  ·unfold qw at h⊢;split at h
   ·exact hk _ _ h
   ·split at h
    ·rename_i es clock _;generalize (!_&& !_&&_)=b at h⊢;cases b with
     |true=>exact h.elim
     |false=>
      intro i hi;have:=h i hi;dsimp only at this⊢;split at this
      ·exact hk _ _ this
      ·exact hk _ _ this
      ·exact this.elim
    ·exact h.elim
   ·exact h.elim
  ·exact h.elim
 |bad=>exact h
theorem nD(hF:Rm F F'):∀ {ops:List aG} {env:PT V} {s:St} {k k' :PT V→St→Prop},(∀ env s,k env s→k' env s)→fm M F ops env s k→fm M F' ops env s k' :=by
 intro ops
 induction ops with
 |nil=>intro env s k k' hk h;exact hk _ _ h
 |cons o r ih=>
  intro env s k k' hk h;simp only[fm]at h⊢;split at h
  ·exact dS hF (fun v s h=>ih hk h) h
  ·exact ih hk h
  ·exact h.elim
theorem eS{s:St}{p:Nat}:∀ {aj:fN} {a b:Prop},(a→b)→recheck s p aj a→recheck s p aj b:=by
 intro aj
 induction aj with
 |nil=>intro a b hab h;exact hab h
 |cons x r ih=>
  intro a b hab h;obtain⟨i,op,env,v⟩:=x;simp only[recheck]at h⊢;cases hb:Nat.testBit p i with
  |true=>rw[hb]at h;exact ih hab h
  |false=>
   rw[hb]at h;simp only[cond_false]at h⊢;split at h
   ·exact⟨h.1,ih hab h.2⟩
   ·exact h.elim
theorem zF(hF:Rm F F'):∀ {n:Nat} {todo:List (Nat×aG)} {done:Nat} {env:PT V} {s:St} {aj:fN} {k k' :PT V→St→Prop},(∀ env s,k env s→k' env s)→
  fk M F n todo done env s aj k→fk M F' n todo done env s aj k' :=by
 intro n
 induction n with
 |zero=>intro _ _ _ _ _ _ _ _ h;exact h.elim
 |succ n ih=>
  intro todo done env s aj k k' hk h;simp only[fk]at h⊢;split at h
  ·exact h.elim
  ·split at h
   ·split at h
    ·exact hk _ _ h
    ·exact h.elim
   ·rename_i i o rest _;generalize (within o.aT _&&rest.all _)=b at h⊢;cases b with
    |false=>exact h.elim
    |true=>
     simp only[cond_true]at h⊢;split at h
     ·exact dS hF (fun v s h=>eS (fun h=>ih hk h) h) h
     ·exact ih hk h
     ·exact h.elim
variable{C:Nat→Option cq}
theorem cu:∀ {n m:Nat},n≤m→∀ {c:aq} {env:PT V} {s:St} {k k' :Ex→PT V→St→Prop},(∀ e env s,k e env s→k' e env s)→gz C M n c env s k→gz C M m c env s k' :=by
 intro n
 induction n with
 |zero=>intro m _ c env s k k' _ h;exact h.elim
 |succ n ih=>
  intro m hm c env s k k' hk h;obtain⟨m,rfl⟩:∃ m',m=m'+1:=⟨m - 1,by omega⟩;have hm:n≤m:=by omega
  have hF:Rm (fun f args s k=>match C f with
   |none=>iW.fail
   |some fn=>
    bif Nat.ble args.length fn.ntmps then
     gz C M n fn.body (cK args 0 .e) s fun e env s=>match e with
      | .exit _=>iW.fail
      |_=>(match cI env s fn.results with|some v=>k v s|none=>iW.fail)
    else iW.fail) (fun f args s k=>match C f with
   |none=>iW.fail
   |some fn=>
    bif Nat.ble args.length fn.ntmps then
     gz C M m fn.body (cK args 0 .e) s fun e env s=>match e with
      | .exit _=>iW.fail
      |_=>(match cI env s fn.results with|some v=>k v s|none=>iW.fail)
    else iW.fail):=by
   intro f args s k k' hk h;split at h
   ·exact h.elim
   ·generalize Nat.ble _ _=b at h⊢;cases b with
    |false=>exact h.elim
    |true=>
     refine ih hm (fun e env s h=> ?_) h;split at h
     ·exact h.elim
     ·split at h
      ·exact hk _ _ h
      ·exact h.elim
  cases c with
  |wB m p=>
   simp only[gz]at h⊢;split at h
   ·split at h
    ·exact hk _ _ _ h
    ·exact h.elim
   ·exact h.elim
  |skip=>exact hk _ _ _ h
  |region ops=>exact nD hF (fun env s h=>hk _ _ _ h) h
  |draw ops=>exact zF hF (fun env s h=>hk _ _ _ h) h
  |seq a b=>
   refine ih hm (fun e env s h=> ?_) h;split at h
   ·exact ih hm hk h
   ·exact hk _ _ _ h
   ·exact hk _ _ _ h
  |cond x a b=>
   simp only[gz]at h⊢;split at h
   ·exact ih hm hk h
   ·exact ih hm hk h
   ·exact h.elim
  |block id b=>
   refine ih hm (fun e env s h=> ?_) h;split at h
   ·exact hk _ _ _ h
   ·generalize Nat.beq _ _=b at h⊢;cases b with
    |false=>exact hk _ _ _ h
    |true=>exact hk _ _ _ h
   ·exact hk _ _ _ h
  |loop b=>
   refine ih hm (fun e env s h=> ?_) h;split at h
   ·exact ih hm hk h
   ·exact hk _ _ _ h
   ·exact hk _ _ _ h
  |exit i=>exact hk _ _ _ h
  |ret=>exact hk _ _ _ h
  |bad=>exact h.elim
theorem iN{n m:Nat}(hnm:n≤m){f:Nat}{args:List V}{s:St}{k k' :V→St→Prop}(hk:∀ v s,k v s→k' v s)(h:Zp C M n f args s k):Zp C M m f args s k' :=by
 unfold Zp at h⊢;split at h
 ·exact h.elim
 ·generalize Nat.ble _ _=b at h⊢;cases b with
  |false=>exact h.elim
  |true=>
   refine cu hnm (fun e env s h=> ?_) h;split at h
   ·exact h.elim
   ·split at h
    ·exact hk _ _ h
    ·exact h.elim
theorem BO{n:Nat}{env:PT V}{s:St}{k:Ex→PT V→St→Prop}:gz C M (n+1) .skip env s k=k .normal env s:=rfl
theorem FT{n:Nat}{env:PT V}{s:St}{k:Ex→PT V→St→Prop}:gz C M (n+1) .ret env s k=k .ret env s:=rfl
theorem II{n i:Nat}{env:PT V}{s:St}{k:Ex→PT V→St→Prop}:gz C M (n+1) (.exit i) env s k=k (.exit i) env s:=rfl
theorem jH{n:Nat}{ops:List aG}{env:PT V}{s:St}{k:Ex→PT V→St→Prop}:
  gz C M (n+1) (.region ops) env s k=fm M (bY C M n) ops env s fun env s=>k .normal env s:=rfl
theorem BN{n:Nat}{ops:List aG}{env:PT V}{s:St}{k:Ex→PT V→St→Prop}:
  gz C M (n+1) (.draw ops) env s k=fk M (bY C M n) (ops.length+1) (bx ops 0) 0 env s [] fun env s=>k .normal env s:=rfl
def Gd(C:Nat→Option cq)(M:Nat→String→Option Nat)(n:Nat)(b:aq)(k:Ex→PT V→St→Prop):Ex→PT V→St→Prop:=fun e env s=>match e with
 | .normal=>gz C M n b env s k
 | .exit i=>k (.exit i) env s
 | .ret=>k .ret env s
def pe(id:Nat)(k:Ex→PT V→St→Prop):Ex→PT V→St→Prop:=fun e env s=>match e with
 | .normal=>k .normal env s
 | .exit i=>bif Nat.beq i id then k .normal env s else k (.exit i) env s
 | .ret=>k .ret env s
def SG(fn:cq)(k:V→St→Prop):Ex→PT V→St→Prop:=fun e env s=>match e with
 | .exit _=>False
 |_=>(match cI env s fn.results with|some v=>k v s|none=>False)
theorem qv{n:Nat}{a b:aq}{env:PT V}{s:St}{k:Ex→PT V→St→Prop}:gz C M (n+1) (.seq a b) env s k=gz C M n a env s (Gd C M n b k):=rfl
theorem tj{n id:Nat}{b:aq}{env:PT V}{s:St}{k:Ex→PT V→St→Prop}:gz C M (n+1) (.block id b) env s k=gz C M n b env s (pe id k):=rfl
theorem BM{n:Nat}{x:bO}{a b:aq}{env:PT V}{s:St}{k:Ex→PT V→St→Prop}{t:Bool}(h:x.ev env=some (.bool t)):
  gz C M (n+1) (.cond x a b) env s k=(if t=true then gz C M n a env s k else gz C M n b env s k):=by
 simp only[gz,h];cases t<;>simp
@[simp] theorem oI{n:Nat}{b:aq}{k:Ex→PT V→St→Prop}{env:PT V}{s:St}:Gd C M n b k .normal env s=gz C M n b env s k:=rfl
@[simp] theorem qf0{n i:Nat}{b:aq}{k:Ex→PT V→St→Prop}{env:PT V}{s:St}:Gd C M n b k (.exit i) env s=k (.exit i) env s:=rfl
@[simp] theorem SH{n:Nat}{b:aq}{k:Ex→PT V→St→Prop}{env:PT V}{s:St}:Gd C M n b k .ret env s=k .ret env s:=rfl
@[simp] theorem YN{id:Nat}{k:Ex→PT V→St→Prop}{env:PT V}{s:St}:pe id k .normal env s=k .normal env s:=rfl
@[simp] theorem qdS{id:Nat}{k:Ex→PT V→St→Prop}{env:PT V}{s:St}:pe id k .ret env s=k .ret env s:=rfl
@[simp] theorem zM{id i:Nat}{k:Ex→PT V→St→Prop}{env:PT V}{s:St}:pe id k (.exit i) env s=(if i=id then k .normal env s else k (.exit i) env s):=by
 show(bif Nat.beq i id then k .normal env s else k (.exit i) env s)=_;by_cases h:i=id
 ·subst h;simp[fq]
 ·rw[if_neg h];have:Nat.beq i id=false:=by
   cases hb:Nat.beq i id with
   |false=>rfl
   |true=>exact absurd (aU hb) h
  rw[this];rfl
theorem k8{fn:cq}{k:V→St→Prop}{env:PT V}{s:St}:SG fn k .normal env s=(match cI env s fn.results with|some v=>k v s|none=>False):=rfl
theorem oH{fn:cq}{k:V→St→Prop}{env:PT V}{s:St}:SG fn k .ret env s=(match cI env s fn.results with|some v=>k v s|none=>False):=rfl
theorem rN{n f:Nat}{fn:cq}(hf:C f=some fn){args:List V}(ha:args.length≤fn.ntmps){s:St}{k:V→St→Prop}:
  bY C M n f args s k=gz C M n fn.body (cK args 0 .e) s (SG fn k):=by
 unfold bY Zp;rw[hf];have hb:Nat.ble args.length fn.ntmps=true:=jA ha;simp only[hb,cond_true];rfl
theorem KV{n m:Nat}(hnm:n≤m){f:Nat}{args:List V}{s:St}{k k' :V→St→Prop}(hk:∀ v s,k v s→k' v s)(h:bY C M n f args s k):bY C M m f args s k' :=iN hnm hk h
@[simp] theorem St.qd9(s:St)(o:Ob):(s.alloc o).next=s.next+1:=rfl
@[simp] theorem St.qh0(s:St)(m:Nat)(o:Ob):(s.put m o).next=s.next:=rfl
end Go.RE
namespace Go.RE
inductive Step where
 |small (i:Nat) (o:aG)
 |bl (i:Nat) (o:aG)
deriving Inhabited
def eU:List (Nat×aG)→Nat→List (Nat×aG)→List Step→List (Nat×aG)×Nat×List Step
 |[],done,left,acc=>(left.reverse,done,acc)
 |(i,o)::r,done,left,acc=>
  bif o.small&&within o.aT done then eU r (Nat.lor done (2 ^ i)) left (.small i o::acc)
  else eU r done ((i,o)::left) acc
def sched:Nat→List (Nat×aG)→Nat→Option (List Step)
 |0,_,_=>none
 |n+1,todo,done=>
  let(todo,done,taken):=eU todo done [] []
  match eW [] todo with
  |none=>(match todo with|[]=>some taken.reverse|_=>none)
  |some (i,o,rest)=>
   bif within o.aT done&&rest.all (fun x=>x.2.small||Nat.testBit x.2.aT i)then
    (match sched n rest (Nat.lor done (2 ^ i))with
    |some r=>some (taken.reverse++.bl i o::r)
    |none=>none)
   else none
def gv.impure:gv→Bool
 | .load .. =>true
 | .toStr .. =>true
 | .lookup .. =>true
 | .len 2 _=>true
 | .jw .. =>true
 | .entry .. =>true
 |_=>false
theorem Sh{env:PT V}{s s' :St}:∀ {o:gv},o.impure=false→cZ env s o=cZ env s' o
 | .bn _,_=>rfl
 | .pick ..,_=>rfl
 | .load ..,h=>by simp[gv.impure]at h
 | .nilCheck _,_=>rfl
 | .bin ..,_=>rfl
 | .un ..,_=>rfl
 | .eP ..,_=>rfl
 | .uV ..,_=>rfl
 | .toStr ..,h=>by simp[gv.impure]at h
 | .oJ ..,_=>rfl
 | .jK ..,_=>rfl
 | .build ..,_=>rfl
 | .oh ..,_=>rfl
 | .slice ..,_=>rfl
 | .jw ..,h=>by simp[gv.impure]at h
 | .fieldAddr ..,_=>rfl
 | .field ..,_=>rfl
 | .indexAddr ..,_=>rfl
 | .nI ..,_=>rfl
 | .index ..,_=>rfl
 | .D0 ..,_=>rfl
 | .lookup ..,h=>by simp[gv.impure]at h
 | .extract ..,_=>rfl
 | .len k x,h=>by
  have hk:k≠2:=by rintro rfl;simp[gv.impure]at h
  simp only[cZ];cases x.ev env with
  |none=>rfl
  |some v=>
   have:mE s k v=mE s' k v:=by
    cases v<;>simp only[mE];have:Nat.beq k 2=false:=by
     cases hb:Nat.beq k 2 with
     |false=>rfl
     |true=>exact absurd (aU hb) hk
    simp only[this,cond_false]
   simp only[this]
 | .cap ..,_=>rfl
 | .max ..,_=>rfl
 | .min ..,_=>rfl
 | .nv ..,_=>rfl
 | .entry ..,h=>by simp[gv.impure]at h
section
variable(M:Nat→String→Option Nat)(F:Nat→List V→St→(V→St→Prop)→Prop)
def kV:List Step→PT V→St→fN→(PT V→St→Prop)→Prop
 |[],env,s,_,k=>k env s
 | .small i o::r,env,s,aj,k=>
  match bW o.guard env with
  |some true=>(match o.op with
   | .s op=>(match cZ env s op with
    |some v=>kV r (fI o.dst v env) s (bif op.impure then(i,op,env,v)::aj else aj) k
    |none=>False)
   | .m op=>(match BP env op with
    |some (ob,f)=>kV r (fI o.dst (f s.next) env) (s.alloc ob) aj k
    |none=>False)
   |_=>False)
  |some false=>kV r (fI o.dst (.aZ []) env) s aj k
  |none=>False
 | .bl i o::r,env,s,aj,k=>
  match bW o.guard env with
  |some true=>dN M F env s o.op fun v s' =>recheck s' o.aT aj (kV r (fI o.dst v env) s' (dV o.aT aj) k)
  |some false=>kV r (fI o.dst (.aZ []) env) s aj k
  |none=>False
end
def iH(few many:fN):Prop:=few=many.filter (fun x=>x.2.1.impure)∧∀ x∈many,x.2.1.impure=false→∀ s,cZ x.2.2.1 s x.2.1=some x.2.2.2
theorem iH.nil:iH [] []:=⟨rfl,fun x h=>by simp at h⟩
theorem iH.cons{few many:fN}(h:iH few many){i:Nat}{op:gv}{env:PT V}{v:V}{s:St}(hv:cZ env s op=some v):
  iH (bif op.impure then(i,op,env,v)::few else few) ((i,op,env,v)::many):=by
 obtain⟨h1,h2⟩:=h;subst h1;refine⟨?_,?_⟩
 ·cases hi:op.impure<;>simp[hi]
 ·intro x hx hp s';rcases bT.1 hx with rfl|hx
  ·exact(Sh hp).trans hv
  ·exact h2 x hx hp s'
theorem iH.keep{few many:fN}(h:iH few many)(p:Nat):iH (dV p few) (dV p many):=by
 obtain⟨h1,h2⟩:=h;subst h1;refine⟨?_,?_⟩
 ·simp only[dV,List.filter_filter];congr 1;funext x;exact Bool.and_comm _ _
 ·intro x hx hp s';exact h2 x (qg.1 hx).1 hp s'
theorem iH.recheck{s:St}{p:Nat}{r:Prop}:∀ {many few:fN},iH few many→RE.recheck s p few r→RE.recheck s p many r:=by
 intro many
 induction many with
 |nil=>intro few h hr;obtain⟨rfl,_⟩:=h;exact hr
 |cons x many ih=>
  intro few h hr;obtain⟨i,op,env,v⟩:=x;obtain⟨rfl,h2⟩:=h;have hle:iH (many.filter fun x=>x.2.1.impure) many:=⟨rfl,fun x hx=>h2 x (eu _ hx)⟩;cases hi:op.impure with
  |false=>
   rw[List.filter_cons_of_neg (by simp[hi])]at hr;simp only[RE.recheck];cases hb:Nat.testBit p i with
   |true=>exact ih hle hr
   |false=>
    simp only[cond_false];rw[h2 _ cB hi s];exact⟨rfl,ih hle hr⟩
  |true=>
   rw[List.filter_cons_of_pos (by simp[hi])]at hr;simp only[RE.recheck]at hr⊢;cases hb:Nat.testBit p i with
   |true=>rw[hb]at hr;exact ih hle hr
   |false=>
    rw[hb]at hr;simp only[cond_false]at hr⊢;split at hr
    ·exact⟨hr.1,ih hle hr.2⟩
    ·exact hr.elim
variable{M:Nat→String→Option Nat}{F:Nat→List V→St→(V→St→Prop)→Prop}
theorem JL:∀ (l:List (Nat×aG)) (done:Nat) (left:List (Nat×aG)) (acc:List Step),eU l done left acc=((eU l done left []).1,(eU l done left []).2.1,(eU l done left []).2.2++acc):=by
 intro l
 induction l with
 |nil=>intro done left acc;simp[eU]
 |cons x r ih=>
  intro done left acc;obtain⟨i,o⟩:=x;simp only[eU];cases(o.small&&within o.aT done)with
  |false=>simp only[cond_false];exact ih _ _ _
  |true=>
   simp only[cond_true];rw[ih _ _ (.small i o::acc),ih _ _ [.small i o]];simp
theorem IK:∀ (l:List (Nat×aG)) (done:Nat) (left:List (Nat×aG)) (env:PT V) (s:St) (few many:fN) (rest:List Step) (k:PT V→St→Prop),iH few many→
  kV M F ((eU l done left []).2.2.reverse++rest) env s few k→
  ∃ env' s' few' many',jD l done env s left many=some ((eU l done left []).1,(eU l done left []).2.1,env',s',many')∧iH few' many'∧kV M F rest env' s' few' k:=by
 intro l
 induction l with
 |nil=>intro done left env s few many rest k hle h;exact⟨env,s,few,many,rfl,hle,h⟩
 |cons x r ih=>
  intro done left env s few many rest k hle h;obtain⟨i,o⟩:=x;simp only[eU,jD]at h⊢;cases hb:(o.small&&within o.aT done)with
  |false=>
   rw[hb]at h;simp only[cond_false]at h⊢;exact ih _ _ _ _ _ _ _ _ hle h
  |true=>
   rw[hb]at h;simp only[cond_true]at h⊢;rw[JL]at h⊢;simp only[List.reverse_append,List.reverse_cons,PK,jZ,DS,kV]at h;cases hg:bW o.guard env with
   |none=>rw[hg]at h;exact h.elim
   |some b=>
    rw[hg]at h;cases b with
    |false=>exact ih _ _ _ _ _ _ _ _ hle h
    |true=>
     dsimp only at h⊢;cases ho:o.op with
     |s op=>
      rw[ho]at h;dsimp only at h⊢;cases hv:cZ env s op with
      |none=>rw[hv]at h;exact h.elim
      |some v=>
       rw[hv]at h;exact ih _ _ _ _ _ _ _ _ (hle.cons hv) h
     |m op=>
      rw[ho]at h;dsimp only at h⊢;cases hv:BP env op with
      |none=>rw[hv]at h;exact h.elim
      |some x=>
       obtain⟨ob,f⟩:=x;rw[hv]at h;exact ih _ _ _ _ _ _ _ _ hle h
     |_=>rw[ho]at h;exact h.elim
theorem Qx(hF:Rm F F):∀ (n:Nat) (todo:List (Nat×aG)) (done:Nat) (env:PT V) (s:St) (few many:fN) (k:PT V→St→Prop) (steps:List Step),sched n todo done=some steps→iH few many→
  kV M F steps env s few k→fk M F n todo done env s many k:=by
 intro n
 induction n with
 |zero=>intro _ _ _ _ _ _ _ _ h;simp[sched]at h
 |succ n ih=>
  intro todo done env s few many k steps hs hle h;simp only[sched]at hs;simp only[fk];generalize hA:eU todo done [] []=A at hs;obtain⟨todo',done',taken⟩:=A;dsimp only at hs;have key:∀ rest,kV M F (taken.reverse++rest) env s few k→∃ env' s' few' many',jD todo done env s [] many=some (todo',done',env',s',many')∧iH few' many'∧kV M F rest env' s' few' k:=by
   intro rest hr;have:=IK (M:=M) (F:=F) todo done [] env s few many rest k hle (by rw[hA];exact hr);rw[hA]at this;exact this
  cases hsp:eW [] todo' with
  |none=>
   rw[hsp]at hs;cases todo' with
   |cons=>simp at hs
   |nil=>
    simp only[ag]at hs;subst hs;obtain⟨env',s',few',many',ha,hl,hr⟩:=key [] (by simpa using h);simp only[ha,hsp];exact hr
  |some x=>
   obtain⟨i,o,rest⟩:=x;rw[hsp]at hs;dsimp only at hs;generalize hc:(within o.aT done' &&rest.all fun x=>x.2.small||Nat.testBit x.2.aT i)=c at hs;cases c with
   |false=>simp at hs
   |true=>
    simp only[cond_true]at hs;cases hr:sched n rest (Nat.lor done' (2 ^ i))with
    |none=>rw[hr]at hs;simp at hs
    |some r=>
     rw[hr]at hs;simp only[ag]at hs;subst hs;obtain⟨env',s',few',many',ha,hl,hr'⟩:=key _ h;simp only[ha,hsp,hc,cond_true];simp only[kV]at hr';cases hg:bW o.guard env' with
     |none=>rw[hg]at hr';exact hr'.elim
     |some b=>
      rw[hg]at hr';cases b with
      |false=>exact ih _ _ _ _ _ _ _ _ hr hl hr'
      |true=>
       refine dS (F:=F) (F' :=F) hF (fun v s2 h2=> ?_) hr';exact iH.recheck hl (eS (fun h3=>ih _ _ _ _ _ _ _ _ hr (hl.keep _) h3) h2)
theorem RZ{C:Nat→Option cq}{n:Nat}:Rm (bY C M n) (bY C M n):=fun _ _ _ _ _ hk h=>KV (ak _) hk h
theorem Qr{C:Nat→Option cq}{n:Nat}{ops:List aG}{env:PT V}{s:St}{k:Ex→PT V→St→Prop}{steps:List Step}
  (hs:sched (ops.length+1) (bx ops 0) 0=some steps) (h:kV M (bY C M n) steps env s [] fun env s=>k .normal env s):gz C M (n+1) (.draw ops) env s k:=by
 rw[BN];exact Qx RZ _ _ _ _ _ _ _ _ _ hs iH.nil h
end Go.RE
