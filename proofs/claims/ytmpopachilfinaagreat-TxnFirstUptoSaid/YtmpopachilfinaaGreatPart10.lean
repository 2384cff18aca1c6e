/- Two things that follow, at once. -/
import Derived.Test.YtmpopachilfinaaGreatPart9
set_option linter.unusedVariables false
set_option linter.unusedSimpArgs false
set_option linter.constructorNameAsVariable false
namespace Go.RE
def OY(F:Nat→List V→St→(V→St→Prop)→Prop):Prop:=
 ∀ f args s (k k' :V→St→Prop),F f args s k→F f args s k'→F f args s fun v s=>k v s∧k' v s
variable{M:oW}{F:Nat→List V→St→(V→St→Prop)→Prop}
theorem Ay(hF:OY F){env:PT V}{s:St}{o:jE}{k k' :V→St→Prop}(h:dH M F env s o k)(h' :dH M F env s o k'):dH M F env s o fun v s=>k v s∧k' v s:=by
 cases o with
 |s o=>
  simp only[dH]at h h'⊢;cases hq:cD env s o with
  |none=>rw[hq]at h;exact h.elim
  |some v=>rw[hq]at h h';exact⟨h,h'⟩
 |m o=>
  simp only[dH]at h h'⊢;cases hq:Ax env o with
  |none=>rw[hq]at h;exact h.elim
  |some v=>rw[hq]at h h';exact⟨h,h'⟩
 |h o=>
  simp only[dH]at h h'⊢;cases hq:x8 env s o with
  |none=>rw[hq]at h;exact h.elim
  |some v=>rw[hq]at h h';exact⟨h,h'⟩
 |call f args=>
  simp only[dH]at h h'⊢;split at h
  ·rename_i e1 e2;simp only[e1,e2]at h';exact hF _ _ _ _ _ h h'
  ·exact h.elim
 |invoke name x args=>
  simp only[dH]at h h'⊢;split at h
  ·rename_i e1 e2;simp only[e1,e2]at h';split at h
   ·rename_i e3;simp only[e3]at h';exact hF _ _ _ _ _ h h'
   ·exact h.elim
  ·exact h.elim
 |next x=>
  simp only[dH]at h h'⊢;split at h
  ·rename_i e1;simp only[e1]at h';unfold pq at h h'⊢;split at h
   ·rename_i e2;simp only[e2]at h';exact⟨h,h'⟩
   ·rename_i e2;simp only[e2]at h';split at h
    ·rename_i es clock e3;simp only[e3]at h';generalize (!_&& !_&&_)=b at h h'⊢;cases b with
     |true=>exact h.elim
     |false=>
      intro i hi;have h1:=h i hi;have h2:=h' i hi;dsimp only at h1 h2⊢;split at h1
      ·rename_i e4;rw[e4]at h2;exact⟨h1,h2⟩
      ·rename_i e4;rw[e4]at h2;exact⟨h1,h2⟩
      ·exact h1.elim
    ·exact h.elim
   ·exact h.elim
  ·exact h.elim
 |bad=>exact h.elim
theorem N7(hF:OY F)(hM:OT F F):∀ {ops:List aD} {env:PT V} {s:St} {k k' :PT V→St→Prop},eV M F ops env s k→eV M F ops env s k'→eV M F ops env s fun e s=>k e s∧k' e s:=by
 intro ops
 induction ops with
 |nil=>intro env s k k' h h';exact⟨h,h'⟩
 |cons o r ih=>
  intro env s k k' h h';simp only[eV]at h h'⊢;split at h
  ·rename_i e1;simp only[e1]at h';exact dK hM (fun v s hh=>ih hh.1 hh.2) (Ay hF h h')
  ·rename_i e1;simp only[e1]at h';exact ih h h'
  ·exact h.elim
theorem HS{s:St}{p:Nat}:∀ {ah:fE} {a b:Prop},recheck s p ah a→recheck s p ah b→recheck s p ah (a∧b):=by
 intro ah
 induction ah with
 |nil=>intro a b h h';exact⟨h,h'⟩
 |cons x r ih=>
  intro a b h h';obtain⟨i,op,env,v⟩:=x;simp only[recheck]at h h'⊢;cases hb:Nat.testBit p i with
  |true=>rw[hb]at h h';exact ih h h'
  |false=>
   rw[hb]at h h';simp only[cond_false]at h h'⊢;cases hq:cD env s op with
   |none=>rw[hq]at h;exact h.elim
   |some u=>rw[hq]at h h';exact⟨h.1,ih h.2 h'.2⟩
theorem Jq(hF:OY F)(hM:OT F F):∀ {n:Nat} {todo:List (Nat×aD)} {done:Nat} {env:PT V} {s:St} {ah:fE} {k k' :PT V→St→Prop},eT M F n todo done env s ah k→eT M F n todo done env s ah k'→eT M F n todo done env s ah fun e s=>k e s∧k' e s:=by
 intro n
 induction n with
 |zero=>intro _ _ _ _ _ _ _ h;exact h.elim
 |succ n ih=>
  intro todo done env s ah k k' h h';simp only[eT]at h h'⊢;cases ha:iV todo done env s [] ah with
  |none=>rw[ha]at h;exact h.elim
  |some q=>
   obtain⟨todo,done,env,s,ah⟩:=q;rw[ha]at h h';simp only at h h'⊢;cases hs:eM [] todo with
   |none=>
    rw[hs]at h h';simp only at h h'⊢;cases todo with
    |nil=>exact⟨h,h'⟩
    |cons a b=>exact h.elim
   |some q=>
    obtain⟨i,o,rest⟩:=q;rw[hs]at h h';simp only at h h'⊢;generalize (within o.aO _&&rest.all _)=b at h h'⊢;cases b with
    |false=>exact h.elim
    |true=>
     simp only[cond_true]at h h'⊢;cases hg:bU o.guard env with
     |none=>rw[hg]at h;exact h.elim
     |some b=>
      rw[hg]at h h';cases b with
      |true=>exact dK hM (fun v s hh=>eE (fun h=>ih h.1 h.2) (HS hh.1 hh.2)) (Ay hF h h')
      |false=>exact ih h h'
variable{C:Nat→Option ck}
theorem Wv:∀ {n:Nat} {c:aj} {env:PT V} {s:St} {k k' :Ex→PT V→St→Prop},fZ C M n c env s k→fZ C M n c env s k'→fZ C M n c env s fun ex e s=>k ex e s∧k' ex e s:=by
 intro n
 induction n with
 |zero=>intro c env s k k' h;exact h.elim
 |succ n ih=>
  intro c env s k k' h h';have hM:OT (fun f args s (k:V→St→Prop)=>match C f with
   |none=>iw.fail
   |some fn=>
    bif Nat.ble args.length fn.ntmps then
     fZ C M n fn.body (cu args 0 .e) s fun e env s=>match e with
      | .exit _=>iw.fail
      |_=>(match ct env s fn.results with|some v=>k v s|none=>iw.fail)
    else iw.fail) (fun f args s (k:V→St→Prop)=>match C f with
   |none=>iw.fail
   |some fn=>
    bif Nat.ble args.length fn.ntmps then
     fZ C M n fn.body (cu args 0 .e) s fun e env s=>match e with
      | .exit _=>iw.fail
      |_=>(match ct env s fn.results with|some v=>k v s|none=>iw.fail)
    else iw.fail):=by
   intro f args s k k' hk h;split at h
   ·exact h.elim
   ·rename_i fn _;generalize Nat.ble _ _=b at h⊢;cases b with
    |false=>exact h.elim
    |true=>
     refine b9 (aq _) (fun e env s hh=> ?_) h;cases e with
     |exit i=>exact hh
     |normal=>simp only at hh⊢;cases hr:ct env s fn.results with
      |none=>rw[hr]at hh;exact hh
      |some v=>rw[hr]at hh;exact hk _ _ hh
     |ret=>simp only at hh⊢;cases hr:ct env s fn.results with
      |none=>rw[hr]at hh;exact hh
      |some v=>rw[hr]at hh;exact hk _ _ hh
  have hF:OY (fun f args s (k:V→St→Prop)=>match C f with
   |none=>iw.fail
   |some fn=>
    bif Nat.ble args.length fn.ntmps then
     fZ C M n fn.body (cu args 0 .e) s fun e env s=>match e with
      | .exit _=>iw.fail
      |_=>(match ct env s fn.results with|some v=>k v s|none=>iw.fail)
    else iw.fail):=by
   intro f args s k k' h h';simp only at h h'⊢;cases hc:C f with
   |none=>rw[hc]at h;exact h.elim
   |some fn=>
    rw[hc]at h h';simp only at h h'⊢;generalize Nat.ble _ _=b at h h'⊢;cases b with
    |false=>exact h.elim
    |true=>
     refine b9 (aq _) (fun e env s hh=> ?_) (ih h h');cases e with
     |exit i=>exact hh.1
     |normal=>simp only at hh⊢;cases hr:ct env s fn.results with
      |none=>rw[hr]at hh;exact hh.1
      |some v=>rw[hr]at hh;exact hh
     |ret=>simp only at hh⊢;cases hr:ct env s fn.results with
      |none=>rw[hr]at hh;exact hh.1
      |some v=>rw[hr]at hh;exact hh
  cases c with
  |skip=>exact⟨h,h'⟩
  |ret=>exact⟨h,h'⟩
  |exit i=>exact⟨h,h'⟩
  |bad=>exact h.elim
  |region ops=>exact N7 hF hM h h'
  |draw ops=>exact Jq hF hM h h'
  |seq a b=>
   simp only[fZ]at h h'⊢;refine b9 (aq _) (fun e env s hh=> ?_) (ih h h');cases e with
   |normal=>exact ih hh.1 hh.2
   |exit i=>exact hh
   |ret=>exact hh
  |cond x a b=>
   simp only[fZ]at h h'⊢;split at h
   ·rename_i e1;simp only[e1]at h';exact ih h h'
   ·rename_i e1;simp only[e1]at h';exact ih h h'
   ·exact h.elim
  |block id b=>
   simp only[fZ]at h h'⊢;refine b9 (aq _) (fun e env s hh=> ?_) (ih h h');cases e with
   |normal=>exact hh
   |exit i=>
    simp only at hh⊢;cases hb:Nat.beq i id with
    |true=>rw[hb]at hh;exact hh
    |false=>rw[hb]at hh;exact hh
   |ret=>exact hh
  |loop b=>
   simp only[fZ]at h h'⊢;refine b9 (aq _) (fun e env s hh=> ?_) (ih h h');cases e with
   |normal=>exact ih hh.1 hh.2
   |exit i=>exact hh
   |ret=>exact hh
  |uG m p=>
   simp only[fZ]at h h'⊢;split at h
   ·rename_i e1;simp only[e1]at h';split at h
    ·rename_i e2;simp only[e2]at h';exact⟨h,h'⟩
    ·exact h.elim
   ·exact h.elim
theorem C5{n:Nat}:OY (bW C M n):=by
 intro f args s k k' h h';unfold bW Ww at h h'⊢;cases hc:C f with
 |none=>rw[hc]at h;exact h.elim
 |some fn=>
  rw[hc]at h h';simp only at h h'⊢;generalize Nat.ble _ _=b at h h'⊢;cases b with
  |false=>exact h.elim
  |true=>
   refine b9 (aq _) (fun e env s hh=> ?_) (Wv h h');cases e with
   |exit i=>exact hh.1
   |normal=>simp only at hh⊢;cases hr:ct env s fn.results with
    |none=>rw[hr]at hh;exact hh.1
    |some v=>rw[hr]at hh;exact hh
   |ret=>simp only at hh⊢;cases hr:ct env s fn.results with
    |none=>rw[hr]at hh;exact hh.1
    |some v=>rw[hr]at hh;exact hh
end Go.RE
namespace Go.RE
def Step.er:Step→Step
 | .small i o=> .small i o.er
 | .bp i o=> .bp i o.er
def kI(x:Nat×aD):Nat×aD:=(x.1,x.2.er)
theorem As(o:aD):o.er.small=o.small:=by
 obtain⟨d,op,g,p⟩:=o;cases op<;>rfl
theorem Ar(o:aD):o.er.aO=o.aO:=rfl
theorem HK:∀ (ops:List aD) (i:Nat),bq (fI ops) i=(bq ops i).map kI:=by
 intro ops
 induction ops with
 |nil=>intro i;rfl
 |cons o r ih=>intro i;simp only[fI,bq,ih,List.map_cons];rfl
theorem HN:∀ (ops:List aD),(fI ops).length=ops.length:=by
 intro ops
 induction ops with
 |nil=>rfl
 |cons o r ih=>simp[fI,ih]
theorem NK:∀ (l:List (Nat×aD)) (done:Nat) (left:List (Nat×aD)) (acc:List Step),eG (l.map kI) done (left.map kI) (acc.map Step.er)=((eG l done left acc).1.map kI,(eG l done left acc).2.1,(eG l done left acc).2.2.map Step.er):=by
 intro l
 induction l with
 |nil=>intro done left acc;simp[eG]
 |cons x l ih=>
  intro done left acc;obtain⟨i,o⟩:=x;simp only[List.map_cons,kI,eG,As,Ar];cases o.small&&within o.aO done with
  |true=>simp only[cond_true];exact ih _ left (.small i o::acc)
  |false=>simp only[cond_false];exact ih done ((i,o)::left) acc
theorem QX:∀ (l pre:List (Nat×aD)),eM (pre.map kI) (l.map kI)=(eM pre l).map fun x=>(x.1,x.2.1.er,x.2.2.map kI):=by
 intro l
 induction l with
 |nil=>intro pre;simp[eM]
 |cons x l ih=>
  intro pre;obtain⟨i,o⟩:=x;simp only[List.map_cons,kI,eM,As];cases o.small with
  |true=>simp only[cond_true];exact ih ((i,o)::pre)
  |false=>simp[kI]
theorem QL:∀ {n:Nat} {todo:List (Nat×aD)} {done:Nat} {l:List Step},sched n todo done=some l→sched n (todo.map kI) done=some (l.map Step.er):=by
 intro n
 induction n with
 |zero=>intro _ _ _ h;simp[sched]at h
 |succ n ih=>
  intro todo done l h;simp only[sched]at h⊢;have ha:=NK todo done [] [];simp only[List.map_nil]at ha;rw[ha];generalize eG todo done [] []=R at h⊢;obtain⟨t,d,tk⟩:=R;simp only at h⊢;have hs:=QX t [];simp only[List.map_nil]at hs;rw[hs];cases hq:eM [] t with
  |none=>
   rw[hq]at h;simp only[Option.map_none];cases t with
   |nil=>simp at h⊢;subst h;rw[List.map_reverse]
   |cons a b=>simp at h
  |some x=>
   obtain⟨i,o,rest⟩:=x;rw[hq]at h;simp only[Option.map_some,Ar]at h⊢;have hall:(rest.map kI).all (fun x=>x.2.small||Nat.testBit x.2.aO i)=rest.all (fun x=>x.2.small||Nat.testBit x.2.aO i):=by
    rw[List.all_map];congr 1;funext x;simp[kI,As,Ar]
   rw[hall];cases hb:(within o.aO d&&rest.all fun x=>x.2.small||Nat.testBit x.2.aO i)with
   |false=>rw[hb]at h;simp at h
   |true=>
    rw[hb]at h;simp only[cond_true]at h⊢;cases hr:sched n rest (Nat.lor d (2 ^ i))with
    |none=>rw[hr]at h;simp at h
    |some r=>
     rw[hr]at h;simp only[ai]at h;subst h;rw[ih hr];simp[Step.er]
section
variable{C:Nat→Option ck}{M:oW}{Q:mA}{F:FU}
variable{E:qe}{σ σ' :Sg}{Z Z' :Zs}{ω:Om}{s s' :Vs}{e:PT V}{st st' :St}{n m:Nat}
def KR(σ:Sg)(Z:Zs)(n:Nat)(R:Nat×fS×PT V×V):Rk→Prop
 | .ok=>∀ st2:St,(∀ b r,Z b=some r→st2.row b=some r)→cD R.2.2.1 st2 R.2.1=some R.2.2.2
 | .ld i k off u=>i<n∧(∀ st2:St,cD R.2.2.1 st2 R.2.1=(match st2.row (σ i)with|some cs=>dZ k cs off|none=>none))∧(U.same u u=true→UR σ Z n u R.2.2.2)
 | .no=>True
theorem KR.mono{R:Nat×fS×PT V×V}{k:Rk}(hn:n≤m)(hσ:∀ i,i<n→σ' i=σ i)(hZ:∀ b r,Z b=some r→Z' b=some r)(h:KR σ Z n R k):KR σ' Z' m R k:=by
 cases k with
 |ok=>exact fun st2 h2=>h st2 fun b r hb=>h2 b r (hZ b r hb)
 |ld i q off u=>exact⟨mb h.1 hn,fun st2=>by rw[hσ i h.1];exact h.2.1 st2,fun hu=>(h.2.2 hu).mono hn hσ hZ⟩
 |no=>trivial
inductive RL(σ:Sg)(Z:Zs)(n:Nat)(st:St):List (Nat×Rk)→fE→Prop
 |nil:RL σ Z n st [] []
 |cons {i:Nat} {k:Rk} {op:fS} {env:PT V} {v:V} {few:List (Nat×Rk)} {ah:fE} (h1:cD env st op=some v) (h2:KR σ Z n (i,op,env,v) k) (h:RL σ Z n st few ah):RL σ Z n st ((i,k)::few) ((i,op,env,v)::ah)
theorem RL.mono{few:List (Nat×Rk)}{ah:fE}(hn:n≤m)(hσ:∀ i,i<n→σ' i=σ i)(hZ:∀ b r,Z b=some r→Z' b=some r)(hst:∀ b x,st.get b=some x→st'.get b=some x)(h:RL σ Z n st few ah):RL σ' Z' m st' few ah:=by
 induction h with
 |nil=>exact .nil
 |cons h1 h2 _ ih=>exact .cons (GZ hst h1) (h2.mono hn hσ hZ) ih
mutual
theorem DC:∀ {u u' :U},U.same u u' =true→U.same u u=true
 | .bool a,u',h=>by simp[U.same]
 | .int k a,u',h=>by simp[U.same]
 | .str a,u',h=>by simp[U.same]
 | .bA,_,_=>rfl
 | .bQ,_,_=>rfl
 | .di,_,_=>rfl
 | .cO,_,_=>rfl
 | .ptr a b,_,_=>by simp[U.same]
 | .map a,_,_=>by simp[U.same]
 | .agg a,u',h=>by
  cases u' <;>simp[U.same]at h;simp only[U.same];exact Bb h
 | .bu,_,h=>by simp[U.same]at h
 | .bad,_,h=>by simp[U.same]at h
 | .eD _ _,_,h=>by simp[U.same]at h
 | .sl _ _,_,h=>by simp[U.same]at h
 | .own _ _ _,_,h=>by simp[U.same]at h
 | .bF _ _,_,h=>by simp[U.same]at h
 | .bD _ _ _,_,h=>by simp[U.same]at h
 | .xU _ _ _ _,_,h=>by simp[U.same]at h
 | .func _ _ _,_,h=>by simp[U.same]at h
 | .iface _ _,_,h=>by simp[U.same]at h
 | .aV _,_,h=>by simp[U.same]at h
theorem Bb:∀ {a b:List U},U.lQ a b=true→U.lQ a a=true
 |[],_,_=>rfl
 |x::a,[],h=>by simp[U.lQ]at h
 |x::a,y::b,h=>by
  simp only[U.lQ,bC]at h⊢;exact⟨DC h.1,Bb h.2⟩
end
theorem RL.stay{few:List (Nat×Rk)}{ah:fE}{p:Nat}{r:Prop}(h:RL σ Z n st few ah)(hgo:r):recheck st p ah r∧RL σ Z n st (fU p few) (dM p ah):=by
 induction h with
 |nil=>exact⟨hgo,.nil⟩
 | @cons i k op env v few ah h1 h2 h ih=>
  obtain⟨ih1,ih2⟩:=ih;simp only[recheck,fU,dM,List.filter_cons];cases hb:Nat.testBit p i with
  |true=>simp only[cond_true,Bool.not_true];exact⟨ih1,ih2⟩
  |false=>
   simp only[cond_false,Bool.not_false,if_true,h1];exact⟨⟨rfl,ih1⟩,.cons h1 h2 ih2⟩
theorem RL.check{few:List (Nat×Rk)}{ah:fE}{p:Nat}{r:Prop}(hk:Ok E σ Z ω s e st')(h:RL σ Z s.h.length st few ah)(hc:oI s p few=true)(hgo:r):recheck st' p ah r∧RL σ Z s.h.length st' (fU p few) (dM p ah):=by
 induction h with
 |nil=>exact⟨hgo,.nil⟩
 | @cons i k op env v few ah h1 hK h ih=>
  simp only[oI,bC]at hc;obtain⟨ih1,ih2⟩:=ih hc.2;simp only[recheck,fU,dM,List.filter_cons];cases hb:Nat.testBit p i with
  |true=>simp only[cond_true,Bool.not_true];exact⟨ih1,ih2⟩
  |false=>
   simp only[cond_false,Bool.not_false,if_true];have hev:cD env st' op=some v:=by
    have hc1:=hc.1;rw[hb]at hc1;simp only[Bool.false_or]at hc1;cases k with
    |ok=>exact hK st' hk.qm
    |no=>simp[Rk.holds]at hc1
    |ld q kk off u=>
     simp only[Rk.holds]at hc1;split at hc1<;>try (simp at hc1;done)
     rename_i cs hi;split at hc1<;>try (simp at hc1;done)
     rename_i u' hl;obtain⟨k1,k2,k3⟩:=hK;obtain⟨cs',v',w1,w2,w3⟩:=AR hk hi hl;have hur:UR σ Z s.h.length u' v' :=by
      cases u' with
      |own g w xs=>cases u<;>simp[U.same]at hc1
      |bad=>cases u<;>simp[U.same]at hc1
      |bF w xs=>cases u<;>simp[U.same]at hc1
      |bD g a b=>cases u<;>simp[U.same]at hc1
      |xU a b c d=>cases u<;>simp[U.same]at hc1
      |view a b c d=>cases u<;>simp[U.same]at hc1
      |cZ=>cases u<;>simp[U.same]at hc1
      |_=>exact w3
     have hvv:=(k3 (DC hc1)).same hur hc1;have:=k2 st';simp only at this hvv;rw[this,w1];simp only;rw[w2,hvv]
   rw[hev];exact⟨⟨rfl,ih1⟩,.cons hev hK ih2⟩
def Hun(σ:Sg)(n:Nat)(st st' :St)(hid:List Nat×List (Nat×Nat)):Prop:=
 (∀ j,j∈hid.1→j<n→st'.get (σ j)=st.get (σ j))∧∀ x,x∈hid.2→∃ r r',st'.row (σ x.1)=some r∧st.row (σ x.1)=some r'∧r[x.2]? =r'[x.2]?
theorem RL.qat{few:List (Nat×Rk)}{ah:fE}{p:Nat}{r:Prop}{hid:List Nat×List (Nat×Nat)}{st0:St}{σ0:Sg}{n0:Nat}(hk:Ok E σ Z ω s e st')(h:RL σ Z s.h.length st0 few ah)(h0:RL σ0 Z' n0 st0 few ah)(hc:pH s p few=some hid)
  (hh:Hun σ0 n0 st0 st' hid) (hgo:r):recheck st' p ah r∧RL σ Z s.h.length st' (fU p few) (dM p ah):=by
 induction h generalizing hid with
 |nil=>exact⟨hgo,.nil⟩
 | @cons i k op env v few ah h1 hK h ih=>
  cases h0 with
  |cons g1 g2 g3=>
  simp only[pH]at hc;simp only[recheck,fU,dM,List.filter_cons];cases hb:Nat.testBit p i with
  |true=>
   rw[hb]at hc;simp only[Bool.true_or,cond_true]at hc;obtain⟨ih1,ih2⟩:=ih g3 hc hh;simp only[cond_true,Bool.not_true];exact⟨ih1,ih2⟩
  |false=>
   rw[hb]at hc;simp only[Bool.false_or]at hc;simp only[cond_false,Bool.not_false,if_true];cases hr:k.holds s with
   |true=>
    rw[hr]at hc;simp only[cond_true]at hc;obtain⟨ih1,ih2⟩:=ih g3 hc hh;have hone:=RL.check (few:=[(i,k)]) (ah:=[(i,op,env,v)]) (p:=p) (r:=True) hk (.cons h1 hK .nil) (by simp only[oI,hb,hr];rfl) trivial;have hev:cD env st' op=some v:=by
     have h2:=hone.2;simp only[fU,dM,List.filter_cons,List.filter_nil,hb,cond_false,Bool.not_false,if_true]at h2;cases h2 with
     |cons a b c=>exact a
    rw[hev];exact⟨⟨rfl,ih1⟩,.cons hev hK ih2⟩
   |false=>
    rw[hr]at hc;simp only[cond_false]at hc;split at hc<;>try (simp at hc;done)
    rename_i j q off u;split at hc<;>simp only[ai,reduceCtorEq]at hc;rename_i l hl;subst hc;have hcase:(JC j q off u l=(l.1,(j,off)::l.2)∧q=none)∨JC j q off u l=(j::l.1,l.2):=by
     unfold JC;cases hq:(q.isNone&&(u.L7||u.qaT))with
     |true=>
      simp only[bC]at hq;exact .inl ⟨rfl,by cases q with|none=>rfl|some _=>simp at hq⟩
     |false=>exact .inr rfl
    have hh' :Hun σ0 n0 st0 st' l:=by
     rcases hcase with⟨e,_⟩|e
     ·rw[e]at hh;exact⟨hh.1,fun x hx=>hh.2 x (gB _ hx)⟩
     ·rw[e]at hh;exact⟨fun x hx=>hh.1 x (gB _ hx),hh.2⟩
    obtain⟨ih1,ih2⟩:=ih g3 hl hh';have hev:cD env st' op=some v:=by
     obtain⟨k1,k2,k3⟩:=g2;have e1:=k2 st';have e2:=k2 st0;simp only at e1 e2;rcases hcase with⟨e,rfl⟩|e
     ·rw[e]at hh;obtain⟨ra,rb,q1,q2,q3⟩:=hh.2 (j,off) eU;rw[q1]at e1;rw[q2]at e2;rw[e1];rw[e2]at h1;simp only[dZ]at h1⊢;rw[q3];exact h1
     ·rw[e]at hh;have e3:st'.row (σ0 j)=st0.row (σ0 j):=by unfold St.row;rw[hh.1 j eU k1]
      rw[e1,e3,←e2];exact h1
    rw[hev];exact⟨⟨rfl,ih1⟩,.cons hev hK ih2⟩
theorem Ok.qeC(h:Ok E σ Z ω s e st)(j:Nat):Ok E σ Z ω {s with h:=s.h.set j .gone} e st:=by
 have hl:(s.h.set j .gone).length=s.h.length:=List.length_set;refine⟨fun t u hu=>by rw[hl];exact h.env t u hu,fun i o ho=> ?_,h.qm,h.lE,h.fresh,by rw[hl];exact h.inj,h.gJ,by rw[hl];exact h.sw,by rw[hl];exact h.sz,h.wz,by rw[hl];exact h.sb,h.zT,by rw[hl];exact h.wc,by rw[hl];exact h.n0,h.sig,h.zz,h.nx,by rw[hl];exact h.out,fun i hi=> ?_,h.wC.2.set fun off cs e=>by cases e⟩
 ·rw[hl];simp only at ho;rw[eN]at ho;by_cases hj:j=i
  ·rw[if_pos hj]at ho;split at ho
   ·simp at ho;subst ho;trivial
   ·cases ho
  ·rw[if_neg hj]at ho;exact h.obj i o ho
 ·obtain⟨q1,q2,q3⟩:=h.gn i hi;refine⟨q1,?_,q3⟩;rw[eN];split
  ·subst j;rw[if_pos (bn.1 q2).1]
  ·exact q2
theorem Hh:∀ (l:List Nat) (h:List Uo),(fT l h).length=h.length:=by
 intro l
 induction l with
 |nil=>intro h;rfl
 |cons j l ih=>intro h;simp only[fT,ih,List.length_set]
theorem En:∀ (l:List Nat) (h:List Uo) (i:Nat),h[i]? =some .gone→(fT l h)[i]? =some .gone:=by
 intro l
 induction l with
 |nil=>intro h i hi;exact hi
 |cons j l ih=>
  intro h i hi;refine ih _ i ?_;rw[eN];split
  ·subst j;rw[if_pos (bn.1 hi).1]
  ·exact hi
theorem Hi:∀ (l:List Nat) (h:List Uo) (i:Nat),i∈l→i<h.length→(fT l h)[i]? =some .gone:=by
 intro l
 induction l with
 |nil=>intro h i hi;cases hi
 |cons j l ih=>
  intro h i hi hlt;rcases dS.1 hi with rfl|hi
  ·refine En l _ i ?_;rw[eN,if_pos rfl,if_pos hlt]
  ·exact ih _ i hi (by simpa using hlt)
theorem Ok.qaR:∀ (l:List Nat) {s:Vs},Ok E σ Z ω s e st→Ok E σ Z ω {s with h:=fT l s.h} e st:=by
 intro l
 induction l with
 |nil=>intro s h;exact h
 |cons j l ih=>intro s h;exact ih (h.qeC j)
theorem Fl.qaR:∀ (l:List Nat) {s:Vs},Fl s→Fl {s with h:=fT l s.h}:=by
 intro l
 induction l with
 |nil=>intro s h;exact h
 |cons j l ih=>intro s h;exact ih (h.set (i:=j) (o:=.gone) rfl s.e)
theorem xY(hF:VE (dA C M) F){f:Nat}{args:List U}{vs:List V}{hid:List Nat×List (Nat×Nat)}(h:Ok E σ Z ω s e st)(hF0:Fl s)
  (hl:args.length=vs.length) (ha:∀ (j:Nat) u v,args[j]? =some u→vs[j]? =some v→TR σ Z ω s.h.length u v) (hc:lK F f args s hid=true):
  dA C M f vs st fun v st' =>Hun σ s.h.length st st' hid:=by
 unfold lK at hc;split at hc<;>try (simp at hc;done)
 rename_i us hus;split at hc<;>try (simp at hc;done)
 rename_i R hcall;obtain⟨r,h',fl'⟩:=R;obtain⟨Z1,ω1,b1,b2,b3,b4,b5⟩:=pF (args:=args) (rJ hus) h;have hlu:LU σ Z1 s.h.length us vs:=yK b2 hus hl ha b5;have hs:(fT hid.1 (aG args s).h).length=s.h.length:=by rw[Hh];exact b3
 have hsh:=(b1.qaR hid.1).shared hid.2 (aG args s).fl;refine o8 ?_ (hF f us _ _ r h' fl' hcall σ Z1 (oG hid.2 ω1) st vs hsh (((hF0.aG.qaR hid.1).oh hid.2 [])) (fun _=>r8 trivial) (by rw[mc,hs];exact hlu));rintro v st' ⟨k0,σ',Z',ω',k1,k2,k3⟩;refine⟨fun j hj hlt=> ?_,fun x hx=> ?_⟩
 ·have h0:=Hi hid.1 (aG args s).h j hj (by rw[b3];exact hlt);have h1:(eu hid.2 (fT hid.1 (aG args s).h))[j]? =some .gone:=by rw[qM hid.2 (fun cs hh=>by rw[h0]at hh;cases hh)];exact h0
  have hg:=k1.gn j h1;have hsig:σ' j=σ j:=k1.sig j hg.1;rw[←hsig];refine hg.2.2.trans ?_;rw[hsig]
 ·have hx' :=jD.1 hc x hx;simp only[lF]at hx';split at hx' <;>try (cases hx';done)
  rename_i cs hcs;split at hx' <;>try (cases hx';done)
  rename_i hle;obtain⟨⟨_,hin⟩,ra,rb,k4,k5,k6⟩:=k1.wC.2 x.1 x.2 cs hcs hle;have hsig:σ' x.1=σ x.1:=k1.sig x.1 hin;exact⟨ra,rb,by rw[←hsig];exact iT k4,iT k5,k6⟩
theorem G9(hF:VE (dA C M) F){o:jE}{p:Nat}{few:List (Nat×Rk)}{hid:List Nat×List (Nat×Nat)}{t:Vs}(hh:pH t p few=some hid)(h:gH M Q F s t o p few=true)(hk:Ok E σ Z ω s e st)(hfl:Fl s):
  ∃ N,dH M (bW C M N) e st o.er fun v st' =>Hun σ s.h.length st st' hid:=by
 unfold gH at h;rw[hh]at h;simp only at h;split at h<;>try (simp at h;done)
 ·rename_i f args;split at h<;>try (simp at h;done)
  rename_i g first captured vs hf ha
  split at h<;>try (simp at h;done)
  rename_i hq hqa;simp only[bC]at h;obtain⟨_,h⟩:=h;obtain⟨vf,f1,f2⟩:=hk.cB hf;obtain⟨first',captured',rfl,l1,l2⟩:=TR.func f2;obtain⟨vs',a1,a2,a3⟩:=hk.mY ha;obtain⟨N,hN⟩:=xY hF hk hfl (vs:=first'++vs'++captured') (by simp[l1.1,l2.1,a2]) (by
   intro j u v hu hv;rw[kO]at hu hv;by_cases h1:j<first.length
   ·rw[cz h1]at hu;rw[cz (by rw[←l1.1];exact h1)]at hv;exact TR.bB (l1.2 j u v hu hv)
   ·rw[fh (by omega)]at hu;rw[fh (by rw[←l1.1];omega),←l1.1]at hv;by_cases h2:j - first.length<vs.length
    ·rw[cz h2]at hu;rw[cz (by omega)]at hv;exact a3 _ u v hu hv
    ·rw[fh (by omega)]at hu;rw[fh (by omega),←a2]at hv;exact TR.bB (l2.2 _ u v hu hv)) h
  exact⟨N,by simp only[jE.er,dH,f1,a1];exact hN⟩
 ·rename_i name x args;split at h<;>try (simp at h;done)
  rename_i t0 u0 vs hx ha;split at h<;>try (simp at h;done)
  rename_i f hm;obtain⟨vx,x1,x2⟩:=hk.cB hx;obtain⟨v',rfl,x3⟩:=TR.iface x2;obtain⟨vs',a1,a2,a3⟩:=hk.mY ha;obtain⟨N,hN⟩:=xY hF hk hfl (vs:=v' ::vs') (by simp[a2]) (fun j u v hu hv=>by
   cases j with
   |zero=>simp at hu hv;subst hu;subst hv;exact TR.bB x3
   |succ j=>exact a3 j u v (by simpa using hu) (by simpa using hv)) h
  exact⟨N,by simp only[jE.er,dH,x1,a1,hm];exact hN⟩
theorem Oe(o:fS):o.er.impure=o.impure:=by
 cases o with
 |len k x=>
  match k with
  |0=>rfl
  |1=>rfl
  |2=>rfl
  |k+3=>rfl
 |_=>rfl
theorem Dg{F F' :Nat→List V→St→(V→St→Prop)→Prop}(hF:OT F F'){M:oW}:∀ {l:List Step} {env:PT V} {s:St} {ah:fE} {k k' :PT V→St→Prop},(∀ e s,k e s→k' e s)→j8 M F l env s ah k→j8 M F' l env s ah k' :=by
 intro l
 induction l with
 |nil=>intro env s ah k k' hk h;exact hk _ _ h
 |cons x r ih=>
  intro env s ah k k' hk h;cases x with
  |small i o=>
   simp only[j8]at h⊢;split at h
   ·split at h
    ·split at h
     ·exact ih hk h
     ·exact h.elim
    ·split at h
     ·exact ih hk h
     ·exact h.elim
    ·exact h.elim
   ·exact ih hk h
   ·exact h.elim
  |bp i o=>
   simp only[j8]at h⊢;split at h
   ·exact dK hF (fun v s h=>eE (fun h=>ih hk h) h) h
   ·exact ih hk h
   ·exact h.elim
theorem WT{d:Nat}{o:fS}{u:U}(h:fR d s o=some (u,s'))(hk:Ok E σ Z ω s e st){v:V}(hv:cD e st o.er=some v)(hu:TR σ Z ω s.h.length u v)(i:Nat):KR σ Z s.h.length (i,o.er,e,v) (sZ s o u):=by
 cases o with
 |load n x=>
  simp only[sZ];split
  ·rename_i j off hx;obtain⟨vx,x1,x2⟩:=hk.cB hx;obtain⟨hlt,rfl⟩:=TR.ptr x2;refine⟨hlt,fun st2=>by simp only[fS.er,cD,x1];cases st2.row (σ j)<;>rfl,fun hs=> ?_⟩;cases u with
   |own g w xs=>simp[U.same]at hs
   |bad=>simp[U.same]at hs
   |bF w xs=>simp[U.same]at hs
   |bD g a b=>simp[U.same]at hs
   |xU a b c d=>simp[U.same]at hs
   |view a b c d=>simp[U.same]at hs
   |cZ=>simp[U.same]at hs
   |_=>exact hu
  ·rename_i row off hx;obtain⟨vx,x1,x2⟩:=hk.cB hx;intro st2 hst2;simp only[fS.er,cD,x1]at hv⊢;cases x2 with
   |jr hz hr hv' =>
    simp only[(hk.qm _ _ hz)]at hv;simp only[(hst2 _ _ hz)];exact hv
   |jq hr hv' =>exact hv
  ·trivial
 |toStr x=>
  simp only[sZ];split
  ·rename_i w xs hx;obtain⟨vx,x1,x2⟩:=hk.cB hx;intro st2 hst2;simp only[fS.er,cD,x1]at hv⊢;have hsc:∀ cs,bH st 1 vx=some cs→bH st2 1 vx=some cs:=by
    intro cs hcs;have x3:UR σ Z s.h.length (.sl w xs) vx:=x2;cases x3 with
    |slnil=>exact hcs
    |y9=>exact hcs
    |Bf hn hz hl hcap hr hv' =>
     simp only[bH,(hk.qm _ _ hz)]at hcs;simp only[bH,(hst2 _ _ hz)];exact hcs
    |CO hn hl hr hv' =>exact hcs
   cases hq:bH st 1 vx with
   |none=>rw[hq]at hv;simp at hv
   |some cs=>rw[hq]at hv;rw[hsc cs hq];exact hv
  ·trivial
 |_=>exact trivial
theorem ES(hF:VE (dA C M) F)(hQ:QOK (dA C M) Q):∀ {l:List Step} {σ:Sg} {Z:Zs} {ω:Om} {s s' :Vs} {e:PT V} {st:St} {few:List (Nat×Rk)} {ah:fE},bV M Q F l s few=some s'→Ok E σ Z ω s e st→Fl s→RL σ Z s.h.length st few ah→
  ∃ N,j8 M (bW C M N) (l.map Step.er) e st ah fun e' st' =>Cz E s' e' st' :=by
 intro l
 induction l with
 |nil=>
  intro σ Z ω s s' e st few ah h hk hfl hr;simp only[bV,ai]at h;subst h;exact⟨0,hfl,σ,Z,ω,hk⟩
 |cons x r ih=>
  intro σ Z ω s s' e st few ah h hk hfl hr;have hunit:Ok E σ Z ω {s with e:=iN (match x with| .small _ o=>o.dst| .bp _ o=>o.dst) (.aV []) s.e} (fq (match x with| .small _ o=>o.dst| .bp _ o=>o.dst) (.aV []) e) st:=hk.put (UR.aV rfl (fun j u v h=>by simp at h));cases x with
  |small i o=>
   simp only[bV]at h;cases hg:hU o.guard s.e with
   |none=>rw[hg]at h;simp at h
   |some b=>
    rw[hg]at h;have hgr:bU (aD.er o).guard e=some b:=AF hk hg;cases b with
    |false=>
     simp only at h;obtain⟨N,hN⟩:=ih h hunit (hfl.env _) hr;exact⟨N,by simp only[List.map_cons,Step.er,j8,hgr];exact hN⟩
    |true=>
     simp only at h;cases hc:kG M Q F s o.dst o.op with
     |none=>rw[hc]at h;simp at h
     |some p=>
      obtain⟨u,s1⟩:=p;rw[hc]at h;simp only at h;cases hop:o.op with
      |s so=>
       rw[hop]at hc h;simp only[kG]at hc;simp only at h;obtain⟨Z',ω',v,h1,h2,h3,h4,h5⟩:=Dw hc hk;have hr2:RL σ Z' s1.h.length st few ah:=hr.mono (by omega) (fun _ _=>rfl) h5 (fun _ _ h=>h);have hrecs:RL σ Z' s1.h.length st (bif so.impure then(i,sZ s so u)::few else few) (bif so.er.impure then(i,so.er,e,v)::ah else ah):=by
        rw[Oe];cases so.impure with
        |false=>exact hr2
        |true=>
         refine .cons h1 ?_ hr2
         -- what is read was told before
         have hkr:KR σ Z s.h.length (i,so.er,e,v) (sZ s so u)∨True:=.inr trivial;cases so with
         |load n y=>
          simp only[fR]at hc;have hs1:s1=s:=by
           split at hc
           ·split at hc<;>try (simp at hc;done)
            split at hc<;>simp only[ai,aJ,reduceCtorEq]at hc;exact hc.2.symm
           ·split at hc<;>simp only[ai,aJ,reduceCtorEq]at hc;exact hc.2.symm
           ·split at hc<;>try (simp at hc;done)
            split at hc<;>try (simp at hc;done)
            split at hc<;>simp only[ai,aJ,reduceCtorEq]at hc;exact hc.2.symm
           ·simp at hc
          subst hs1;simp only[sZ];split
          ·rename_i j off hx;obtain⟨vx,x1,x2⟩:=h2.cB hx;obtain⟨hlt,rfl⟩:=TR.ptr x2;refine⟨hlt,fun st2=>by simp only[fS.er,cD,x1];cases st2.row (σ j)<;>rfl,fun hs=> ?_⟩;cases u with
           |own g w xs=>simp[U.same]at hs
           |bad=>simp[U.same]at hs
           |bF w xs=>simp[U.same]at hs
           |bD g a b=>simp[U.same]at hs
           |xU a b c d=>simp[U.same]at hs
           |view a b c d=>simp[U.same]at hs
           |cZ=>simp[U.same]at hs
           |_=>exact h3
          ·rename_i row off hx;obtain⟨vx,x1,x2⟩:=h2.cB hx;intro st2 hst2;simp only[fS.er,cD,x1]at h1⊢;cases x2 with
           |jr hz hr' hv' =>
            simp only[(h2.qm _ _ hz)]at h1;simp only[(hst2 _ _ hz)];exact h1
           |jq hr' hv' =>exact h1
          ·trivial
         |toStr y=>
          have hs1:s1=s:=by
           simp only[fR]at hc;split at hc<;>try (simp at hc;done)
           split at hc<;>try (simp at hc;done)
           split at hc<;>simp only[ai,aJ,reduceCtorEq]at hc;exact hc.2.symm
          subst hs1;exact WT hc h2 h1 h3 i
         |_=>trivial
       obtain⟨N,hN⟩:=ih h (h2.put h3) ((Qv hc hfl).env _) hrecs;refine⟨N,?_⟩;have hoe:(aD.er o).op=.s so.er:=by simp[aD.er,hop,jE.er]
       simp only[List.map_cons,Step.er,j8,hgr,hoe,h1];exact hN
      |m mo=>
       rw[hop]at hc h;simp only[kG]at hc;simp only at h;obtain⟨σ',Z',ω',ob,f,h1,h2,h3,h4,h5,h6⟩:=Dv hc hk;obtain⟨N,hN⟩:=ih h (h2.put h3) ((Qr hc hk hfl).env _) (hr.mono h4 h5 h6 fun b x hb=>by rw[St.dL,if_neg (by have:=hk.lt_next hb;omega)];exact hb);refine⟨N,?_⟩;have hoe:(aD.er o).op=.m mo.er:=by simp[aD.er,hop,jE.er]
       simp only[List.map_cons,Step.er,j8,hgr,hoe,h1];exact hN
      |_=>rw[hop]at h;simp at h
  |bp i o=>
   simp only[bV]at h;cases hg:hU o.guard s.e with
   |none=>rw[hg]at h;simp at h
   |some b=>
    rw[hg]at h;have hgr:bU (aD.er o).guard e=some b:=AF hk hg;cases b with
    |false=>
     simp only at h;obtain⟨N,hN⟩:=ih h hunit (hfl.env _) hr;exact⟨N,by simp only[List.map_cons,Step.er,j8,hgr];exact hN⟩
    |true=>
     simp only at h;cases hc:kG M Q F s o.dst o.op with
     |none=>rw[hc]at h;simp at h
     |some p=>
      obtain⟨u,s1⟩:=p;rw[hc]at h;simp only at h;cases hb:(fu Q s o.op||oI s1 o.aO few||gH M Q F s s1 o.op o.aO few)with
      |false=>rw[hb]at h;simp at h
      |true=>
       rw[hb]at h;simp only[cond_true]at h;obtain⟨N0,hN0⟩:=Du hF hQ hc hk hfl
       -- what lies where it Eb not come to
       have hfr:∃ N1,dH M (bW C M N1) e st o.op.er fun v st' =>∀ hid,(fu Q s o.op||oI s1 o.aO few)=false→pH s1 o.aO few=some hid→Hun σ s.h.length st st' hid:=by
        cases hq:(fu Q s o.op||oI s1 o.aO few)with
        |true=>exact⟨N0,dK (bY (aq _)) (fun v st' _ hid hh=>by cases hh) hN0⟩
        |false=>
         rw[hq,Bool.false_or]at hb;cases hh:pH s1 o.aO few with
         |none=>exact⟨N0,dK (bY (aq _)) (fun v st' _ hid _ hh=>by cases hh) hN0⟩
         |some hid=>
          obtain⟨N1,hN1⟩:=G9 hF hh hb hk hfl;exact⟨N1,dK (bY (aq _)) (fun v st' h hid' _ hh=>by cases hh;exact h) hN1⟩
       obtain⟨N1,hN1⟩:=hfr;have hN:=Ay (C5 (C:=C) (M:=M) (n:=max N0 N1)) (dK (bY (oU N0 N1)) (fun _ _ h=>h) hN0) (dK (bY (Nat.le_max_right N0 N1)) (fun _ _ h=>h) hN1);generalize max N0 N1=N at hN;have h2:dH M (bW C M N) e st o.op.er fun v st' =>∃ m,recheck st' o.aO ah (j8 M (bW C M m) (r.map Step.er) (fq o.dst v e) st' (dM o.aO ah) fun e' st' =>Cz E s' e' st'):=by
        refine dK (bY (aq N)) (fun v st' hv=> ?_) hN;obtain⟨⟨k0,σ',Z',ω',k1,k2,k3,k4,k5,k6⟩,hid0⟩:=hv;refine uJ (K:=fun m=>j8 M (bW C M m) (r.map Step.er) (fq o.dst v e) st' (dM o.aO ah) fun e' st' =>Cz E s' e' st') ?_;have hr1:RL σ' Z' s1.h.length st few ah:=hr.mono k3 k4 k5 (fun _ _ h=>h);have fin:∀ {st2:St},RL σ' Z' s1.h.length st' (fU o.aO few) (dM o.aO ah)→∃ m,j8 M (bW C M m) (r.map Step.er) (fq o.dst v e) st' (dM o.aO ah) fun e' st' =>Cz E s' e' st' :=fun hrl=>ih h (k1.put k2) (k0.env _) hrl;cases hq:fu Q s o.op with
        |true=>
         have hr2:RL σ' Z' s1.h.length st' few ah:=hr.mono k3 k4 k5 (fun b x hbx=>by rw[k6 hq b (hk.lt_next hbx)];exact hbx);have hst:=hr2.stay (p:=o.aO) trivial;exact eE (fun _=>fin (st2:=st') hst.2) hst.1
        |false=>
         cases hro:oI s1 o.aO few with
         |true=>
          have hst:=RL.check k1 hr1 hro trivial;exact eE (fun _=>fin (st2:=st') hst.2) hst.1
         |false=>
          cases hh:pH s1 o.aO few with
          |none=>
           rw[hq,hro]at hb;simp[gH,hh]at hb
          |some hid=>
           have hst:=RL.qat k1 hr1 hr hh (hid0 hid (by rw[hq,hro];rfl) hh) trivial;exact eE (fun _=>fin (st2:=st') hst.2) hst.1
       obtain⟨m,_,hm⟩:=uC (K:=fun m v st' =>recheck st' o.aO ah (j8 M (bW C M m) (r.map Step.er) (fq o.dst v e) st' (dM o.aO ah) fun e' st' =>Cz E s' e' st')) (fun a b hab=>bY hab) (fun f args s K hK h=>tc hK h)
        (fun a b v s hab h=>eE (fun h=>Dg (bY hab) (fun _ _ h=>h) h) h) h2
       exact⟨m,by simp only[List.map_cons,Step.er,j8,hgr];exact hm⟩
theorem GW(hF:VE (dA C M) F)(hQ:QOK (dA C M) Q){ops:List aD}{l:List Step}(hl:sched (ops.length+1) (bq ops 0) 0=some l)(h:bV M Q F l s []=some s')(hk:Ok E σ Z ω s e st)(hfl:Fl s):
  ∃ N,fZ C M N (.draw (fI ops)) e st fun ex e' st' =>ex=.normal∧Cz E s' e' st' :=by
 obtain⟨N,hN⟩:=ES hF hQ h hk hfl .nil;refine⟨N+1,N5 (steps:=l.map Step.er) ?_ (Dg (bY (aq _)) (fun _ _ h=>⟨rfl,h⟩) hN)⟩;have:=QL hl;rw[HN,HK];exact this
end
end Go.RE
namespace Go.RE
section
variable{E:qe}{σ:Sg}{Z:Zs}{ω ω' :Om}{s s' :Vs}{e e2:PT V}{st:St}{n m:Nat}
theorem Ok.reω(h:Ok E σ Z ω s e st){bk:Tg→Tg}(hb:∀ g I,ω' g=some I→ω (bk g)=some I)(hi:∀ g g' I I',ω' g=some I→ω' g' =some I'→bk g=bk g'→g=g')
  (hr:ω' .r=none) (hwa:WA E ω') (hc:∀ i off,ω' (.c i off)=ω (.c i off)) {E' :Env} (he:∀ t u,look E' t=some u→∃ v,e2.get t=some v∧TR σ Z ω' s.h.length u v):Ok E σ Z ω' {s with e:=E'} e2 st:=
 ⟨he,fun i o ho=>(h.obj i o ho).mono (aq _) (fun _ _=>rfl) (fun _ _ h=>h) (fun off=>hc i off),h.qm,fun g I hI=>h.lE _ I (hb g I hI),h.fresh,h.inj,fun g g' I I' h1 h2 hbb=>hi g g' I I' h1 h2 (h.gJ _ _ _ _ (hb g I h1) (hb g' I' h2) hbb),fun i g I hi hI=>h.sw i _ I hi (hb g I hI),h.sz,fun g I hI=>h.wz _ I (hb g I hI),h.sb,⟨hr,hwa⟩,fun i off I hI=>h.wc i off I (by rw[←hc];exact hI),h.n0,h.sig,h.zz,h.nx,fun b hb1 hb2=>by
   obtain⟨k1,k2,k3,k4⟩:=h.out b hb1 hb2;exact⟨k1,k2,fun g I hI=>k3 _ I (hb g I hI),k4⟩,h.wC⟩
theorem UR.cut{u:U}{v:V}(h:UR σ Z n u v)(hl:u.low m=true):UR σ Z m u v:=by
 have hls:∀ {a:List U},U.b8 m a=true→∀ (j:Nat) u,a[j]? =some u→u.low m=true:=fun h j u hu=>k7.1 h u (List.mem_of_getElem? hu)
 induction h with
 |bool b=>exact .bool b
 |int k x=>exact .int k x
 |str s=>exact .str s
 |bA=>exact .bA
 |bu=>exact .bu
 |bQ=>exact .bQ
 |di=>exact .di
 |cO=>exact .cO
 |ptr h=>exact .ptr (by simp only[U.low,Nat.blt,gv]at hl;omega)
 |map h=>exact .map (by simp only[U.low,Nat.blt,gv]at hl;omega)
 |jr h1 h2 h3 _=>exact .jr h1 h2 h3
 |jq h1 h2 _=>exact .jq h1 h2
 |slnil=>exact .slnil
 |y9=>exact .y9
 |CJ=>exact .CJ
 |Dt=>exact .Dt
 |Bf h1 h2 h3 h4 h5 h6 _=>exact .Bf h1 h2 h3 h4 h5 h6
 |CO h1 h2 h3 h4 _=>exact .CO h1 h2 h3 h4
 |func h1 h2 h3 h4 i1 i2=>
  simp only[U.low,bC]at hl;exact .func h1 h2 (fun j u v a b=>i1 j u v a b (hls hl.1 j u a)) (fun j u v a b=>i2 j u v a b (hls hl.2 j u a))
 |iface h ih=>exact .iface (ih hl)
 |agg h1 h2 ih=>exact .agg h1 fun j u v a b=>ih j u v a b (hls (by simpa only[U.low]using hl) j u a)
 |aV h1 h2 ih=>exact .aV h1 fun j u v a b=>ih j u v a b (hls (by simpa only[U.low]using hl) j u a)
theorem TR.cut{u:U}{v:V}(h:TR σ Z ω n u v)(hl:u.low m=true)(hω:∀ g,u.tag=some g→ω' g=ω g):TR σ Z ω' m u v:=by
 cases u with
 |bad=>trivial
 |bF _ _=>trivial
 |own g w xs=>exact⟨h.1.mono (fun _ _ h=>h) (hω g rfl),fun i off e=>by subst e;simp only[U.low,Nat.blt,gv]at hl;omega⟩
 |bD g i f=>
  obtain⟨⟨I,h1,h2⟩,h3⟩:=h;exact⟨⟨I,by rw[hω g rfl];exact h1,h2⟩,fun i off e=>by subst e;simp only[U.low,Nat.blt,gv]at hl;omega⟩
 |view g lo len w=>exact⟨h.1.mono (hω g rfl),fun i off e=>by subst e;simp only[U.low,Nat.blt,gv]at hl;omega⟩
 |cZ=>trivial
 |xU i off len w=>obtain⟨h1,cap,h2,h3⟩:=h;exact⟨by simp only[U.low,Nat.blt,gv]at hl;omega,cap,h2,h3⟩
 |_=>exact UR.cut h hl
theorem CR.cut{i off:Nat}{u:U}{v:V}(h:CR σ Z ω n i off u v)(hl:u.low m=true)(hω:ω' (.c i off)=ω (.c i off)):CR σ Z ω' m i off u v:=by
 cases u with
 |bad=>trivial
 |cZ=>trivial
 |bF w xs=>exact OR.mono (fun _ _ h=>h) hω h
 |_=>exact UR.cut h hl
theorem OB.cut{i:Nat}{o:Uo}{ob:Option Ob}(h:OB σ Z ω n i o ob)(hl:o.low m=true)(hω:∀ off,ω' (.c i off)=ω (.c i off)):OB σ Z ω' m i o ob:=by
 cases o with
 |row cs=>
  obtain⟨cs',h1,h2,h3⟩:=h;exact⟨cs',h1,h2,fun off u v a b=>(h3 off u v a b).cut (k7.1 hl u (List.mem_of_getElem? a)) (hω off)⟩
 |map es c=>
  obtain⟨es',h1,h2,h3⟩:=h;refine⟨es',h1,h2,fun j x y a b=> ?_⟩;simp only[Uo.low,jD,iZ,bC]at hl;have:=hl x (List.mem_of_getElem? a);exact⟨(h3 j x y a b).1.cut this.1,(h3 j x y a b).2.1.cut this.2,(h3 j x y a b).2.2⟩
 |iter q a b c=>exact⟨h.1,fun j hj=>by subst hj;simp only[Uo.low,Nat.blt,gv]at hl;omega⟩
 |gone=>trivial
def below(m:Nat)(ω:Om):Om:=fun g=>match g with
 | .c i off=>if i<m then ω (.c i off)else none
 |g=>ω g
theorem jY{g:Tg}{I:nZ}(h:below m ω g=some I):ω g=some I:=by
 unfold below at h;split at h
 ·split at h
  ·exact h
  ·cases h
 ·exact h
theorem Oo:∀ {ev:Env},HF n ev=true→∀ t u,look ev t=some u→u.low n=true:=by
 intro ev
 induction ev with
 |nil=>intro _ t u h;simp[look]at h
 |cons x r ih=>
  intro h t u hu;obtain⟨k,v⟩:=x;simp only[HF,bC]at h;simp only[look]at hu;cases hb:Nat.beq k t with
  |true=>rw[hb]at hu;simp at hu;subst hu;exact h.1
  |false=>rw[hb]at hu;exact ih h.2 t u hu
theorem Fl.cut(h:Fl s)(n:Nat):Fl {s with h:=RE.cut n s.fl s.h}:=by
 refine⟨?_,fun i o ho=> ?_⟩
 ·have:=h.le;simp only[RE.cut,List.length_take];omega
 ·simp only[RE.cut]at ho;rw[jN]at ho;split at ho
  ·exact h.ob i o ho
  ·cases ho
theorem Ok.cut(h:Ok E σ Z ω s e st)(hf:Fl s)(hn:E.n≤n)(hl:∀ t u,look s.e t=some u→u.low n=true):∃ ω',Ok E σ Z ω' {s with h:=RE.cut n s.fl s.h} e st∧(∀ d,ω' (.t d)=ω (.t d))∧∀ i off,i<(RE.cut n s.fl s.h).length→ω' (.c i off)=ω (.c i off):=by
 by_cases hle:s.h.length≤max n s.fl
 ·have e1:RE.cut n s.fl s.h=s.h:=by unfold RE.cut;exact jU hle
  refine⟨ω,?_,fun _=>rfl,fun _ _ _=>rfl⟩;rw[e1];exact h
 ·have hlen:(RE.cut n s.fl s.h).length=max n s.fl:=by simp only[RE.cut,List.length_take];omega
  generalize hm:max n s.fl=m at hlen hle;have hmn:n≤m:=by omega
  have hget:∀ (i:Nat) o,(RE.cut n s.fl s.h)[i]? =some o→s.h[i]? =some o:=fun i o ho=>by
   unfold RE.cut at ho;rw[jN]at ho;split at ho
   ·exact ho
   ·cases ho
  refine⟨below m ω,⟨fun t u hu=> ?_,fun i o ho=> ?_,h.qm,fun g I hI=>h.lE g I (jY hI),h.fresh,fun i j hi hj=>h.inj i j (by rw[hlen]at hi;omega) (by rw[hlen]at hj;omega),fun g g' I I' h1 h2=>h.gJ g g' I I' (jY h1) (jY h2),fun i g I hi hI=>h.sw i g I (by rw[hlen]at hi;omega) (jY hI),fun i hi=>h.sz i (by rw[hlen]at hi;omega),fun g I hI=>h.wz g I (jY hI),fun i hi=>h.sb i (by rw[hlen]at hi;omega),⟨h.wr,h.zT.2.up rfl⟩,fun i off I hI=> ?_,?_,h.sig,h.zz,h.nx,fun b hb1 hb2=> ?_,fun i hi=> ?_,fun i off cs h1 h2=>h.wC.2 i off cs (hget i _ h1) h2⟩,fun _=>rfl,fun i off hi=> ?_⟩
  ·obtain⟨v,h1,h2⟩:=h.env t u hu;have hlow:=ic hmn (hl t u hu);refine⟨v,h1,?_⟩;rw[hlen];refine h2.cut hlow fun g hg=> ?_;unfold below;split
   ·rename_i i off;rw[if_pos];cases u with
    |own g w xs=>simp[U.tag]at hg;subst hg;simp only[U.low,Nat.blt,gv]at hlow;omega
    |bD g a b=>simp[U.tag]at hg;subst hg;simp only[U.low,Nat.blt,gv]at hlow;omega
    |view g a b c=>simp[U.tag]at hg;subst hg;simp only[U.low,Nat.blt,gv]at hlow;omega
    |_=>simp[U.tag]at hg
   ·rfl
  ·have hi:i<m:=by have:=(bn.1 ho).1;rw[hlen]at this;exact this
   rw[hlen];refine(h.obj i o (hget i o ho)).cut (Uo.ic (by omega) (hf.ob i o (hget i o ho))) fun off=> ?_;simp only[below,if_pos hi]
  ·rw[hlen];simp only[below]at hI;split at hI
   ·assumption
   ·cases hI
  ·rw[hlen];have:=h.n0;omega
  ·obtain⟨k1,k2,k3,k4⟩:=h.out b hb1 hb2;exact⟨k1,fun i hi=>k2 i (by rw[hlen]at hi;omega),fun g I hI=>k3 g I (jY hI),k4⟩
  ·obtain⟨k1,k2,k3⟩:=h.gn i hi;exact⟨k1,by unfold RE.cut;rw[jN,if_pos (by omega)];exact k2,k3⟩
  ·rw[hlen]at hi;simp only[below,if_pos hi]
def Mr(ω:Om)(κ:Nat→Option Nat):Om:=fun g=>match g with
 | .c i off=>ω (.c i off)
 | .t x=>(match κ x with|some y=>ω (.t y)|none=>none)
 | .r=>none
 | .a=>ω .a
def Tg.fix:Tg→Prop
 | .c _ _=>True
 | .a=>True
 |_=>False
theorem JK{ω:Om}(hr:ω .r=none):∀ {L:List Nat} {ev:Env},(∀ t u,look ev t=some u→∃ v,e.get t=some v∧TR σ Z ω n u v)→
  ∃ κ:Nat→Option Nat,(∀ t t' y,κ t=some y→κ t' =some y→t=t')∧(∀ t y,κ t=some y→∃ x w xs,look ev x=some (.own (.t y) w xs))∧
   ∀ t u,look (dg L ev) t=some u→(∀ g,u.tag=some g→g=.t t∨g.fix)∧∃ v,e.get t=some v∧TR σ Z (Mr ω κ) n u v:=by
 intro L
 induction L with
 |nil=>intro ev h;exact⟨fun _=>none,fun t t' y hh _=>by simp at hh,fun t y hh=>by simp at hh,fun t u hu=>by simp[dg,look]at hu⟩
 |cons t ts ih=>
  intro ev h;have hkill:∀ g,∀ x u,look (Env.kill g ev) x=some u→∃ v,e.get x=some v∧TR σ Z ω n u v:=fun g x u hu=>by
   rw[kD]at hu;cases hq:look ev x with
   |none=>rw[hq]at hu;simp at hu
   |some y=>
    rw[hq]at hu;simp at hu;obtain⟨v,h1,h2⟩:=h x y hq;rcases(mP hu).2 with rfl|rfl
    ·exact⟨v,h1,h2⟩
    ·exact⟨v,h1,trivial⟩
  -- one that has no tag of its own
  have other:∀ u0,look ev t=some u0→∀ u1 ev',(∀ v,TR σ Z ω n u0 v→∀ κ,κ t=none→TR σ Z (Mr ω κ) n u1 v)→(∀ g,u1.tag=some g→g=.t t∨g.fix)→(∀ x u,look ev' x=some u→∃ v,e.get x=some v∧TR σ Z ω n u v)→
    (∀ x u,look ev' x=some u→u.tag.isSome=true→look ev x=some u)→
    ∃ κ:Nat→Option Nat,(∀ t t' y,κ t=some y→κ t' =some y→t=t')∧(∀ t y,κ t=some y→∃ x w xs,look ev x=some (.own (.t y) w xs))∧
     ∀ x u,look ((t,u1)::dg ts ev') x=some u→(∀ g,u.tag=some g→g=.t x∨g.fix)∧∃ v,e.get x=some v∧TR σ Z (Mr ω κ) n u v:=by
   intro u0 h0 u1 ev' htr htag hev hsub;obtain⟨κ,a1,a2,a3⟩:=ih hev;refine⟨fun x=>if x=t then none else κ x,fun x x' y hx hx' => ?_,fun x y hx=> ?_,fun x u hu=> ?_⟩
   ·have hx:(if x=t then none else κ x)=some y:=hx;have hx' :(if x' =t then none else κ x')=some y:=hx';split at hx
    ·cases hx
    split at hx'
    ·cases hx'
    exact a1 x x' y hx hx'
   ·have hx:(if x=t then none else κ x)=some y:=hx;split at hx
    ·cases hx
    obtain⟨z,w,xs,hz⟩:=a2 x y hx;exact⟨z,w,xs,hsub z _ hz rfl⟩
   ·simp only[look]at hu;cases hb:Nat.beq t x with
    |true=>
     rw[hb]at hu;simp at hu;subst hu;have:=bR hb;subst this;obtain⟨v,h1,h2⟩:=h t u0 h0;exact⟨htag,v,h1,htr v h2 _ (by simp)⟩
    |false=>
     rw[hb]at hu;obtain⟨b1,v,b2,b3⟩:=a3 x u hu;have hne:x≠t:=fun hh=>by subst hh;simp at hb
     refine⟨b1,v,b2,b3.mono (aq _) (fun _ _=>rfl) (fun _ _ h=>h) fun g hg=> ?_⟩;rcases b1 g hg with rfl|hfx
     ·simp only[Mr,if_neg hne]
     ·cases g<;>first|rfl|exact hfx.elim
  have hself:∀ x u,look ev x=some u→u.tag.isSome=true→look ev x=some u:=fun _ _ h _=>h;have hselfk:∀ g x u,look (Env.kill g ev) x=some u→u.tag.isSome=true→look ev x=some u:=fun g x u hu ht=>by
   rw[kD]at hu;cases hq:look ev x with
   |none=>rw[hq]at hu;simp at hu
   |some y=>
    rw[hq]at hu;simp at hu;rcases(mP hu).2 with rfl|rfl
    ·rfl
    ·simp[U.tag]at ht
  cases h0:look ev t with
  |none=>
   obtain⟨κ,a1,a2,a3⟩:=ih h;exact⟨κ,a1,a2,fun x u hu=>a3 x u (by simpa only[dg,h0]using hu)⟩
  |some u0=>
   cases u0 with
   |own g w xs=>
    cases g with
    |t g=>
     simp only[dg,h0];obtain⟨κ,a1,a2,a3⟩:=ih (hkill (.t g));have hnog:∀ x,κ x≠some g:=fun x hx=>by
      obtain⟨z,w,xs,hz⟩:=a2 x g hx;rw[kD]at hz;cases hq:look ev z with
      |none=>rw[hq]at hz;simp at hz
      |some y=>
       rw[hq]at hz;simp at hz;exact(mP hz).1 rfl
     refine⟨fun x=>if x=t then some g else κ x,fun x x' y hx hx' => ?_,fun x y hx=> ?_,fun x u hu=> ?_⟩
     ·simp only at hx hx';by_cases h1:x=t<;>by_cases h2:x' =t
      ·rw[h1,h2]
      ·rw[if_pos h1]at hx;rw[if_neg h2]at hx';cases hx;exact absurd hx' (hnog x')
      ·rw[if_neg h1]at hx;rw[if_pos h2]at hx';cases hx';exact absurd hx (hnog x)
      ·rw[if_neg h1]at hx;rw[if_neg h2]at hx';exact a1 x x' y hx hx'
     ·simp only at hx;split at hx
      ·cases hx;exact⟨t,w,xs,h0⟩
      ·obtain⟨z,w,xs,hz⟩:=a2 x y hx;exact⟨z,w,xs,hselfk _ z _ hz rfl⟩
     ·simp only[look]at hu;cases hb:Nat.beq t x with
      |true=>
       rw[hb]at hu;simp at hu;subst hu;have:=bR hb;subst this;obtain⟨v,h1,h2⟩:=h t _ h0;refine⟨fun g' hg' =>by simp[U.tag]at hg';exact .inl hg'.symm,v,h1,OR.to h2.1 (fun _ _ h=>h) ?_,fun i off hh=>by cases hh⟩;simp only[Mr,if_true]
      |false=>
       rw[hb]at hu;obtain⟨b1,v,b2,b3⟩:=a3 x u hu;have hne:x≠t:=fun hh=>by subst hh;simp at hb
       refine⟨b1,v,b2,b3.mono (aq _) (fun _ _=>rfl) (fun _ _ h=>h) fun g hg=> ?_⟩;rcases b1 g hg with rfl|hfx
       ·simp only[Mr,if_neg hne]
       ·cases g<;>first|rfl|exact hfx.elim
    |r=>
     simp only[dg,h0];refine other _ h0 _ _ (fun v hv κ hκ=>⟨OR.to hv.1 (fun _ _ h=>h) ?_,fun i off hh=>by cases hh⟩) (fun g' hg' =>by simp[U.tag]at hg';exact .inl hg'.symm) (hkill .r) (hselfk .r);simp only[Mr,hκ];exact hr.symm
    |c i off=>
     simp only[dg,h0];exact other _ h0 _ _ (fun v hv κ hκ=>TR.mono (aq _) (fun _ _=>rfl) (fun _ _ h=>h) (fun g hg=>by simp[U.tag]at hg;subst hg;rfl) hv) (fun g' hg' =>by simp[U.tag]at hg';exact .inr (hg'▸trivial)) h hself
    |a=>
     simp only[dg,h0];exact other _ h0 _ _ (fun v hv κ hκ=>TR.mono (aq _) (fun _ _=>rfl) (fun _ _ h=>h) (fun g hg=>by simp[U.tag]at hg;subst hg;rfl) hv) (fun g' hg' =>by simp[U.tag]at hg';exact .inr (hg'▸trivial)) h hself
   |bD g i f=>
    cases g with
    |t g=>
     simp only[dg,h0];exact other _ h0 _ _ (fun v hv κ hκ=>trivial) (fun g' hg' =>by simp[U.tag]at hg') h hself
    |r=>
     simp only[dg,h0];exact other _ h0 _ _ (fun v hv κ hκ=>trivial) (fun g' hg' =>by simp[U.tag]at hg') h hself
    |c j off=>
     simp only[dg,h0];exact other _ h0 _ _ (fun v hv κ hκ=>TR.mono (aq _) (fun _ _=>rfl) (fun _ _ h=>h) (fun g hg=>by simp[U.tag]at hg;subst hg;rfl) hv) (fun g' hg' =>by simp[U.tag]at hg';exact .inr (hg'▸trivial)) h hself
    |a=>
     simp only[dg,h0];exact other _ h0 _ _ (fun v hv κ hκ=>TR.mono (aq _) (fun _ _=>rfl) (fun _ _ h=>h) (fun g hg=>by simp[U.tag]at hg;subst hg;rfl) hv) (fun g' hg' =>by simp[U.tag]at hg';exact .inr (hg'▸trivial)) h hself
   |view g i f l=>
    cases g with
    |t g=>
     simp only[dg,h0];exact other _ h0 _ _ (fun v hv κ hκ=>trivial) (fun g' hg' =>by simp[U.tag]at hg') h hself
    |r=>
     simp only[dg,h0];exact other _ h0 _ _ (fun v hv κ hκ=>trivial) (fun g' hg' =>by simp[U.tag]at hg') h hself
    |c j off=>
     simp only[dg,h0];exact other _ h0 _ _ (fun v hv κ hκ=>TR.mono (aq _) (fun _ _=>rfl) (fun _ _ h=>h) (fun g hg=>by simp[U.tag]at hg;subst hg;rfl) hv) (fun g' hg' =>by simp[U.tag]at hg';exact .inr (hg'▸trivial)) h hself
    |a=>
     simp only[dg,h0];exact other _ h0 _ _ (fun v hv κ hκ=>TR.mono (aq _) (fun _ _=>rfl) (fun _ _ h=>h) (fun g hg=>by simp[U.tag]at hg;subst hg;rfl) hv) (fun g' hg' =>by simp[U.tag]at hg';exact .inr (hg'▸trivial)) h hself
   |_=>
    simp only[dg,h0];exact other _ h0 _ _ (fun v hv κ hκ=>TR.mono (aq _) (fun _ _=>rfl) (fun _ _ h=>h) (fun g hg=>by simp[U.tag]at hg) hv) (fun g' hg' =>by simp[U.tag]at hg') h hself
theorem WS(hf:Fl s)(h:Ok E σ Z ω s e st)(hn:E.n≤n)(L:List Nat):Cz E (keep L n s) e st:=by
 obtain⟨κ,a1,a2,a3⟩:=JK (L:=L) h.wr h.env;have h1:Ok E σ Z (Mr ω κ) {s with e:=dg L s.e} e st:=by
  refine h.reω (ω' :=Mr ω κ) (E' :=dg L s.e) (bk:=fun g=>match g with| .t x=>(match κ x with|some y=> .t y|none=> .r)|g=>g) (fun g I hI=> ?_) (fun g g' I I' h1 h2 hbb=> ?_) rfl (h.zT.2.up rfl) (fun _ _=>rfl) (fun t u hu=>(a3 t u hu).2)
  ·cases g with
   |t x=>
    simp only[Mr]at hI⊢;cases hx:κ x with
    |none=>rw[hx]at hI;cases hI
    |some y=>rw[hx]at hI;exact hI
   |c i off=>exact hI
   |a=>exact hI
   |r=>cases hI
  ·cases g with
   |t x=>
    simp only[Mr]at h1;cases hx:κ x with
    |none=>rw[hx]at h1;cases h1
    |some y=>
     simp only[hx]at hbb;cases g' with
     |t x' =>
      simp only[Mr]at h2;cases hx' :κ x' with
      |none=>rw[hx']at h2;cases h2
      |some y' =>
       simp only[hx']at hbb;cases hbb;rw[a1 x x' y hx hx']
     |c i off=>cases hbb
     |a=>cases hbb
     |r=>cases hbb
   |a=>
    cases g' with
    |t x' =>
     simp only[Mr]at h2;cases hx' :κ x' with
     |none=>rw[hx']at h2;cases h2
     |some y' =>simp only[hx']at hbb;cases hbb
    |c j o=>cases hbb
    |a=>rfl
    |r=>cases h2
   |c i off=>
    cases g' with
    |t x' =>
     simp only[Mr]at h2;cases hx' :κ x' with
     |none=>rw[hx']at h2;cases h2
     |some y' =>simp only[hx']at hbb;cases hbb
    |c j o=>simpa using hbb
    |a=>cases hbb
    |r=>cases h2
   |r=>cases h1
 have hf1:Fl {s with e:=dg L s.e}:=hf.env _;unfold keep;simp only;cases hl:HF n (dg L s.e)with
 |false=>exact⟨hf1,σ,Z,_,h1⟩
 |true=>
  simp only[cond_true];obtain⟨ω',k1,_⟩:=h1.cut hf1 hn (Oo hl);exact⟨hf1.cut n,σ,Z,ω',k1⟩
end
end Go.RE
namespace Go.RE
section
variable{E:qe}{σ:Sg}{Z:Zs}{ω ω' :Om}{s s' :Vs}{e e2:PT V}{st:St}{n m:Nat}
theorem W9(h:Ok E σ Z ω s e st){r:tZ}{u:U}(hr:HY s r=some u):∃ v,CN e st r=some v∧TR σ Z ω s.h.length u v:=by
 cases r with
 |t k=>exact h.env k u hr
 |cell a k=>
  simp only[HY]at hr;split at hr<;>try (simp at hr;done)
  rename_i i off ha;split at hr<;>try (simp at hr;done)
  rename_i cs hi;obtain⟨va,h1,h2⟩:=h.env a _ ha;obtain⟨_,rfl⟩:=TR.ptr h2;obtain⟨cs',v,w1,w2,w3⟩:=AR h hi hr;exact⟨v,by simp only[CN,h1,w1];exact w2,w3⟩
theorem HZ(h:Ok E σ Z ω s e st):∀ {rs:List tZ} {us:List U},qi s rs=some us→∃ vs,tI e st rs=some vs∧us.length=vs.length∧∀ (j:Nat) u v,us[j]? =some u→vs[j]? =some v→TR σ Z ω s.h.length u v:=by
 intro rs
 induction rs with
 |nil=>intro us hr;simp[qi]at hr;subst hr;exact⟨[],rfl,rfl,fun j u v hu=>by simp at hu⟩
 |cons r rs ih=>
  intro us hr;simp only[qi]at hr;split at hr<;>try (simp at hr;done)
  rename_i u hu;split at hr<;>simp only[ai,reduceCtorEq]at hr;rename_i us' hus;subst hr;obtain⟨v,h1,h2⟩:=W9 h hu;obtain⟨vs,k1,k2,k3⟩:=ih hus;refine⟨v::vs,by simp only[tI,h1,k1],by simp[k2],fun j x y hx hy=> ?_⟩;cases j with
  |zero=>simp at hx hy;subst hx;subst hy;exact h2
  |succ j=>exact k3 j x y (by simpa using hx) (by simpa using hy)
theorem LO(H:List Uo)(fl:Nat):(cut n fl H).length=min (max n fl) H.length:=by simp only[cut,List.length_take]
theorem Mh{u:U}{a b:Nat}(ha:u.low a=true)(hb:u.low b=true){c:Nat}(hc:a≤c∨b≤c):u.low c=true:=by
 rcases hc with hc|hc
 ·exact ic hc ha
 ·exact ic hc hb
theorem Ok.Jt{H:List Uo}{fl:Nat}(h:Ok E σ Z ω ⟨[],H,fl⟩ .e st)(hf:Fl ⟨[],H,fl⟩)(hn:E.n≤n)(b:Bool):
  ∃ ω',Ok E σ Z ω' ⟨[],bif b then RE.cut n fl H else H,fl⟩ .e st∧(∀ d,ω' (.t d)=ω (.t d))∧Fl ⟨[],bif b then RE.cut n fl H else H,fl⟩:=by
 cases b with
 |false=>exact⟨ω,h,fun _=>rfl,hf⟩
 |true=>
  obtain⟨ω',k1,k2,_⟩:=h.cut hf hn (fun t u hu=>by simp[look]at hu);exact⟨ω',k1,k2,hf.cut n⟩
theorem qaL{H:List Uo}{fl:Nat}{u:U}(hu:u.low H.length=true):u.low (bif u.low n then cut n fl H else H).length=true:=by
 cases hl:u.low n with
 |false=>exact hu
 |true=>
  simp only[cond_true,LO];exact Mh hl hu (by omega)
theorem Wy{H:List Uo}{fl:Nat}{us:List U}(hu:U.b8 H.length us=true):U.b8 (bif U.b8 n us then cut n fl H else H).length us=true:=by
 cases hl:U.b8 n us with
 |false=>exact hu
 |true=>
  simp only[cond_true,LO];rw[k7]at hu hl⊢;exact fun u hm=>Mh (hl u hm) (hu u hm) (by omega)
def Wx(ω:Om)(g:Option Tg):Om:=fun x=>match x with
 | .c i off=>ω (.c i off)
 | .t 0=>(match g with|some g=>ω g|none=>none)
 |_=>none
theorem Ok.Qm(h:Ok E σ Z ω s e st){g:Option Tg}(hA:E.A=none)(hg:∀ i off,g≠some (.c i off)):Ok E σ Z (Wx ω g) ⟨[],s.h,s.fl⟩ .e st:=by
 refine h.reω (ω' :=Wx ω g) (E' :=[]) (bk:=fun x=>match x with| .t 0=>(match g with|some g=>g|none=> .r)|x=>x) (fun x I hI=> ?_) (fun x y I J hI hJ hb=> ?_) rfl (by unfold WA;rw[hA];rfl) (fun _ _=>rfl) (fun t u hu=>by simp[look]at hu)
 ·cases x with
  |c i off=>exact hI
  |r=>cases hI
  |a=>cases hI
  |t d=>
   cases d with
   |zero=>
    simp only[Wx]at hI⊢;cases g with
    |none=>cases hI
    |some g=>exact hI
   |succ d=>cases hI
 ·cases x with
  |r=>cases hI
  |a=>cases hI
  |c i off=>
   cases y with
   |r=>cases hJ
   |a=>cases hJ
   |c j o=>simpa using hb
   |t d=>
    cases d with
    |zero=>
     cases g with
     |none=>cases hJ
     |some g=>simp only at hb;exact absurd (by rw[hb]) (hg i off)
    |succ d=>cases hJ
  |t d=>
   cases d with
   |succ d=>cases hI
   |zero=>
    cases y with
    |r=>cases hJ
    |a=>cases hJ
    |t d2=>
     cases d2 with
     |zero=>rfl
     |succ d2=>cases hJ
    |c j o=>
     cases g with
     |none=>cases hI
     |some g=>simp only at hb;exact absurd (by rw[hb]) (hg j o)
theorem Js(g:Option Tg):∀ d,d≠0→Wx ω g (.t d)=none:=by
 intro d hd;cases d with
 |zero=>exact absurd rfl hd
 |succ d=>rfl
theorem JB:∀ {vs us:List U},qG false vs=some us→gK vs=some us∧∀ i off w xs,.own (.c i off) w xs ∉ vs:=by
 intro vs
 induction vs with
 |nil=>intro us h;simp[qG]at h;subst h;exact⟨rfl,fun i off w xs hm=>by cases hm⟩
 |cons v vs ih=>
  intro us h;simp only[qG]at h;split at h<;>try (simp at h;done)
  rename_i u hu;split at h<;>simp only[ai,reduceCtorEq]at h;rename_i us' hus;subst h;obtain⟨k1,k2⟩:=ih hus;have hv:sP v=some u∧∀ i off w xs,v≠.own (.c i off) w xs:=by
   cases v with
   |own g w xs=>cases g<;>first|(simp[U.jA]at hu;done)|(simp[U.jA]at hu;subst hu;exact⟨rfl,fun i off w xs hh=>by cases hh⟩)
   |bad=>simp[U.jA]at hu
   |bF _ _=>simp[U.jA]at hu
   |bD _ _ _=>simp[U.jA]at hu
   |xU _ _ _ _=>simp[U.jA]at hu
   |view _ _ _ _=>simp[U.jA]at hu
   |cZ=>simp[U.jA]at hu
   |aV _=>simp[U.jA]at hu
   |_=>simp[U.jA]at hu;subst hu;exact⟨rfl,fun i off w xs hh=>by cases hh⟩
  refine⟨by simp only[gK,hv.1,k1],fun i off w xs hm=> ?_⟩;rcases dS.1 hm with hh|hh
  ·exact hv.2 i off w xs hh.symm
  ·exact k2 i off w xs hh
theorem XO{g:Tg}(hg:∀ i off,g≠.c i off):(s.lT g).h=s.h∧(s.lT g).fl=s.fl:=by
 cases g with
 |c i off=>exact absurd rfl (hg i off)
 |t d=>exact⟨rfl,rfl⟩
 |r=>exact⟨rfl,rfl⟩
 |a=>exact⟨rfl,rfl⟩
theorem Oc:∀ {vs:List U} {s:Vs},(∀ i off w xs,.own (.c i off) w xs ∉ vs)→(aG vs s).h=s.h∧(aG vs s).fl=s.fl:=by
 intro vs
 induction vs with
 |nil=>intro s _;exact⟨rfl,rfl⟩
 |cons v vs ih=>
  intro s h;have h2:∀ i off w xs,.own (.c i off) w xs ∉ vs:=fun i off w xs hm=>h i off w xs (gB _ hm);cases v with
  |own g w xs=>
   simp only[aG];have hg:∀ i off,g≠.c i off:=fun i off hh=>by subst hh;exact h i off w xs eU
   obtain⟨a,b⟩:=ih (s:=s.lT g) h2;obtain⟨c,d⟩:=XO (s:=s) hg;exact⟨a.trans c,b.trans d⟩
  |_=>simp only[aG];exact ih h2
theorem Em(n:Nat)(h:List Uo):(GD n h).length=h.length:=by
 unfold GD;simp only[lZ,List.length_take,List.length_map,List.length_dropLast,List.length_drop];have:((h.drop n).getLast?.toList).length=if h.length≤n then 0 else 1:=by
  cases hd:h.drop n with
  |nil=>
   have:=congrArg List.length hd;simp at this;rw[if_pos (by omega)];rfl
  |cons a r=>
   have:=congrArg List.length hd;simp at this;rw[if_neg (by omega),List.getLast?_cons];rfl
 rw[this];split<;>omega
theorem yN(n:Nat)(h:List Uo)(i:Nat)(o:Uo)(ho:(GD n h)[i]? =some o):o=.gone∨h[i]? =some o:=by
 unfold GD at ho;rw[kO]at ho;by_cases hi:i<(h.take n).length
 ·rw[cz hi,jN]at ho;split at ho
  ·exact .inr ho
  ·cases ho
 ·rw[fh (by omega)]at ho;by_cases hj:i - (h.take n).length<((h.drop n).dropLast.map fun _=>Uo.gone).length
  ·rw[cz hj,List.getElem?_map]at ho;cases hx:(h.drop n).dropLast[i - (h.take n).length]? with
   |none=>rw[hx]at ho;simp at ho
   |some x=>rw[hx]at ho;simp at ho;exact .inl ho.symm
  ·rw[fh (by omega)]at ho;cases hd:h.drop n with
   |nil=>rw[hd]at ho;simp at ho
   |cons a r=>
    have hlen:=congrArg List.length hd;simp at hlen;rw[hd,List.getLast?_cons]at ho;simp only[List.length_map,List.length_dropLast,hd,List.length_cons,List.length_take]at hj ho;have hmin:min n h.length=n:=by omega
    rw[hmin]at hj ho;rw[List.length_take,hmin]at hi;have hz:i - n - (r.length+1 - 1)=0:=by
     cases hk:i - n - (r.length+1 - 1)with
     |zero=>rfl
     |succ k=>rw[hk]at ho;simp at ho
    rw[hz]at ho;simp at ho;right;have hi2:i=n+r.length:=by omega
    have h1:h[i]? =(h.drop n)[r.length]? :=by rw[qd,hi2]
    rw[h1,hd,←ho];cases r with
    |nil=>rfl
    |cons b r' =>simp[List.getLastD_eq_getLast?,List.getLast?_eq_getElem?]
theorem Ok.gc{h:List Uo}{fl:Nat}{e:PT V}(n:Nat)(hk:Ok E σ Z ω ⟨[],h,fl⟩ e st):Ok E σ Z ω ⟨[],GD n h,fl⟩ e st:=by
 have hl:=Em n h;refine⟨fun t u hu=>by simp[look]at hu,fun i o ho=> ?_,hk.qm,hk.lE,hk.fresh,fun i j hi hj=>hk.inj i j (by simpa[hl]using hi) (by simpa[hl]using hj),hk.gJ,fun i g I hi=>hk.sw i g I (by simpa[hl]using hi),fun i hi=>hk.sz i (by simpa[hl]using hi),hk.wz,fun i hi=>hk.sb i (by simpa[hl]using hi),hk.zT,fun i off I hI=>by have:=hk.wc i off I hI;simpa[hl]using this,by have:=hk.n0;simpa[hl]using this,hk.sig,hk.zz,hk.nx,fun b hb hI=> ?_,fun i hG=> ?_,hk.wC.2.sub fun i off cs h1 h2=> ?_⟩
 ·rcases yN n h i o ho with rfl|h1
  ·trivial
  ·have:=hk.obj i o h1;simpa[hl]using this
 ·obtain⟨a,b2,c,d⟩:=hk.out b hb hI;exact⟨a,fun i hi=>b2 i (by simpa[hl]using hi),c,d⟩
 ·obtain⟨a,b,c⟩:=hk.gn i hG;refine⟨a,?_,c⟩;have hlt:i<(GD n h).length:=by rw[hl];exact(bn.1 b).1
  have hs:(GD n h)[i]? =some (GD n h)[i]:=bP hlt;rcases yN n h i _ hs with h1|h1
  ·show(GD n h)[i]? =_;rw[hs,h1]
  ·have b' :h[i]? =some .gone:=b;rw[b']at h1;show(GD n h)[i]? =_;rw[hs];exact h1.symm
 ·rcases yN n h i _ h1 with h3|h3
  ·cases h3
  ·exact⟨cs,h3,h2⟩
theorem Fl.gc{h:List Uo}{fl:Nat}(n:Nat)(hf:Fl ⟨[],h,fl⟩):Fl ⟨[],GD n h,fl⟩:=by
 refine⟨by have:=hf.le;simpa[Em]using this,fun i o ho=> ?_⟩;rcases yN n h i o ho with rfl|h1
 ·rfl
 ·exact hf.ob i o h1
theorem rP{fn:aC}{r:U}{h' :List Uo}{fl' :Nat}(h:Ok E σ Z ω s e st)(hf:Fl s)(hA:E.A=none)(hn:E.n≤n)(hr:CF n fn s=some (r,h',fl')):
  ∃ v,ct e st fn.results=some v∧Fl ⟨[],h',fl'⟩∧∃ σ' Z' ω',Ok E σ' Z' ω' ⟨[],h',fl'⟩ .e st∧(∀ d,d≠0→ω' (.t d)=none)∧RR σ' Z' ω' h'.length r v:=by
 unfold CF at hr;split at hr
 ·rename_i u0 hu0;obtain⟨vs,v1,v2,v3⟩:=HZ h hu0;have:∃ v,vs=[v]:=by
   cases vs with
   |nil=>simp at v2
   |cons v vs=>cases vs with|nil=>exact⟨v,rfl⟩|cons a b=>simp at v2
  obtain⟨v,rfl⟩:=this;have htr:=v3 0 u0 v rfl rfl;have hres:ct e st fn.results=some v:=by simp only[ct,v1]
  refine⟨v,hres,?_⟩;split at hr<;>simp only[ai,aJ,reduceCtorEq]at hr;rename_i r0 hg;obtain⟨rfl,rfl,rfl⟩:=hr
  -- what has no tag
  have plain:∀ {s1:Vs} {Z1:Zs} {ω1:Om},Ok E σ Z1 ω1 s1 e st→s1.h=s.h→s1.fl=s.fl→UR σ Z1 s.h.length r0 v→(∀ w xs,r0≠.own .r w xs)→
    Fl ⟨[],bif r0.low n then cut n s.fl s.h else s.h,s.fl⟩∧∃ σ' Z' ω',Ok E σ' Z' ω' ⟨[],bif r0.low n then cut n s.fl s.h else s.h,s.fl⟩ .e st∧(∀ d,d≠0→ω' (.t d)=none)∧RR σ' Z' ω' (bif r0.low n then cut n s.fl s.h else s.h).length r0 v:=by
   intro s1 Z1 ω1 h1 e1 e2 hur hno;have h2:=h1.Qm (g:=none) hA (fun _ _ hh=>by cases hh);rw[e1,e2]at h2;obtain⟨ω3,k1,k2,k3⟩:=h2.Jt (hf.env []) hn (r0.low n);refine⟨k3,σ,Z1,ω3,k1,fun d hd=>by rw[k2];exact Js _ d hd,?_⟩;have hcut:=hur.cut (qaL (n:=n) (fl:=s.fl) hur.mR);cases r0 with
   |own g w xs=>cases hur
   |_=>exact hcut
  cases u0 with
  |own g w xs=>
   have hgc:∀ i off,g≠.c i off:=fun i off hh=>by subst hh;simp[U.jA]at hg
   have hgg:some (bif fn.own then U.own .r w xs else .sl w xs)=some r0:=by
    cases g with
    |c i off=>exact absurd rfl (hgc i off)
    |t d=>simpa[U.jA]using hg
    |r=>simpa[U.jA]using hg
    |a=>simp[U.jA]at hg
   simp only[ai]at hgg;cases how:fn.own with
   |true=>
    rw[how]at hgg;simp only[cond_true]at hgg;subst hgg;have h2:=h.Qm (g:=some g) hA (fun i off hh=>by cases hh;exact absurd rfl (hgc i off));obtain⟨ω3,k1,k2,k3⟩:=h2.Jt (hf.env []) hn ((U.own .r w xs).low n);refine⟨k3,σ,Z,ω3,k1,fun d hd=>by rw[k2];exact Js _ d hd,?_⟩;exact OR.to htr.1 (fun _ _ h=>h) (k2 0)
   |false=>
    rw[how]at hgg;simp only[cond_false]at hgg;subst hgg;obtain⟨Z',ω2,k1,k2,k3,k4,k5,k6⟩:=h.lT g (by rintro rfl;simp[U.jA]at hg);obtain⟨e1,e2⟩:=XO (s:=s) hgc;exact plain k1 e1 e2 (htr.1.sl k2 k5) (fun w xs hh=>by cases hh)
  |bad=>simp[U.jA]at hg
  |bF _ _=>simp[U.jA]at hg
  |bD _ _ _=>simp[U.jA]at hg
  |xU _ _ _ _=>simp[U.jA]at hg
  |view _ _ _ _=>simp[U.jA]at hg
  |cZ=>simp[U.jA]at hg
  |aV _=>simp[U.jA]at hg
  |nl w=>
   simp[U.jA]at hg;subst hg;have h1:UR σ Z s.h.length (.nl w) v:=htr;exact plain h rfl rfl (by cases h1 with|CJ=>exact .slnil|Dt=>exact .y9) (fun w xs hh=>by cases hh)
  |_=>
   simp[U.jA]at hg;subst hg;exact plain h rfl rfl htr (fun w xs hh=>by cases hh)
 ·rename_i us hno hus;obtain⟨vs,v1,v2,v3⟩:=HZ h hus;have hres:ct e st fn.results=some (.aV vs):=by
   simp only[ct,v1];cases vs with
   |nil=>rfl
   |cons v vs=>
    cases vs with
    |nil=>
     cases us with
     |nil=>simp at v2
     |cons u us=>cases us with|nil=>exact absurd rfl (hno u)|cons a b=>simp at v2
    |cons a b=>rfl
  refine⟨_,hres,?_⟩;split at hr<;>simp only[ai,aJ,reduceCtorEq]at hr;rename_i ys hg;obtain⟨rfl,rfl,rfl⟩:=hr;obtain⟨g1,g2⟩:=JB hg;obtain⟨Z1,ω1,b1,b2,b3,b4,b5⟩:=pF (args:=us) (rJ g1) h;obtain⟨e1,e2⟩:=Oc (s:=s) g2;have hlu:LU σ Z1 s.h.length ys vs:=yK b2 g1 v2 v3 b5;have h2:=b1.Qm (g:=none) hA (fun _ _ hh=>by cases hh);rw[e1,e2]at h2;obtain⟨ω3,k1,k2,k3⟩:=h2.Jt (hf.env []) hn (U.b8 n ys);have hur:UR σ Z1 s.h.length (.aV ys) (.aV vs):=UR.aV hlu.1 hlu.2;have hcut:=hur.cut (by simp only[U.low];exact Wy (n:=n) (fl:=s.fl) hlu.mR);have hom:∀ d,d≠0→ω3 (.t d)=none:=fun d hd=>by rw[k2];exact Js _ d hd
  cases hlo:U.b8 n ys with
  |true=>
   rw[hlo]at k1 k3 hcut;exact⟨k3,σ,Z1,ω3,k1,hom,hcut⟩
  |false=>
   rw[hlo]at k1 k3 hcut;cases fn.own with
   |true=>exact⟨k3,σ,Z1,ω3,k1,hom,hcut⟩
   |false=>
    simp only[cond_false]at k1 k3 hcut⊢;refine⟨k3.gc n,σ,Z1,ω3,k1.gc n,hom,?_⟩;rw[Em];exact hcut
 ·simp at hr
end
end Go.RE
namespace Go.RE
def V9(P:Nat→List V→St→(V→St→Prop)→Prop)(f:Nat)(p:List U→List Uo→Nat→Option (U×List Uo×Nat)):Prop:=
 ∀ (us:List U) (h:List Uo) (fl:Nat) (r:U) (h' :List Uo) (fl' :Nat),p us h fl=some (r,h',fl')→
  ∀ (σ:Sg) (Z:Zs) (ω:Om) (st:St) (vs:List V),Ok ⟨h.length,σ,fO σ ω h.length,Z,st,fun i=>h[i]? =some .gone,none,jd h⟩ σ Z ω ⟨[],h,fl⟩ .e st→Fl ⟨[],h,fl⟩→(∀ d,ω (.t d)=none)→LU σ Z h.length us vs→
   P f vs st fun v st' =>Fl ⟨[],h',fl'⟩∧∃ σ' Z' ω',Ok ⟨h.length,σ,fO σ ω h.length,Z,st,fun i=>h[i]? =some .gone,none,jd h⟩ σ' Z' ω' ⟨[],h',fl'⟩ .e st'∧(∀ d,d≠0→ω' (.t d)=none)∧RR σ' Z' ω' h'.length r v
structure lR(C:Nat→Option ck)(M:oW)(VF:Nat→Option aC)(Q:mA)(Pm:XG):Prop where
 code:∀ f fn,VF f=some fn→C f=some ⟨fn.ntmps,fn.results,fn.body.er⟩
 muts:QOK (dA C M) Q
 HQ:∀ f p,Pm f=some p→V9 (dA C M) f p
section
variable{C:Nat→Option ck}{M:oW}{VF:Nat→Option aC}{Q:mA}{Pm:XG}
variable{E:qe}{σ:Sg}{Z:Zs}{ω:Om}{s s' :Vs}{e:PT V}{st:St}{n m:Nat}
def WR(E:qe)(K:Ex→Vs→Prop):Ex→PT V→St→Prop:=fun ex e' st' =>∃ s',K ex s'∧Cz E s' e' st'
theorem Dz{α:Type}{P:α→Prop}{x:α}(h:pick P=some x):P x:=by
 unfold pick at h;split at h
 ·rename_i hh;simp only[ai]at h;subst h;exact hh.choose_spec
 ·cases h
theorem DK{N:Nat}{c:aj}{K1:Ex→PT V→St→Prop}{K:Nat→Ex→PT V→St→Prop}(hK:∀ a b e env s,a≤b→K a e env s→K b e env s)(h:fZ C M N c e st K1)(h2:∀ ex e' st',K1 ex e' st'→∃ m,K m ex e' st'):∃ m,fZ C M m c e st (K m):=by
 obtain⟨m,_,hm⟩:=GX hK (b9 (aq N) h2 h);exact⟨m,hm⟩
theorem Cz.keep{E:qe}{s:Vs}(h:Cz E s e st)(L:List Nat)(hn:E.n≤n):Cz E (keep L n s) e st:=by
 obtain⟨hf,σ,Z,ω,hk⟩:=h;exact WS hf hk hn L
theorem wD:∀ {us:List U} {i t:Nat} {u:U},look (lM us i) t=some u→i≤t∧us[t - i]? =some u:=by
 intro us
 induction us with
 |nil=>intro i t u h;simp[lM,look]at h
 |cons a r ih=>
  intro i t u h;simp only[lM,look]at h;cases hb:Nat.beq i t with
  |true=>
   rw[hb]at h;have:=bR hb;subst this;simp at h;subst h;exact⟨aq _,by simp⟩
  |false=>
   rw[hb]at h;obtain⟨h1,h2⟩:=ih h;refine⟨by omega,?_⟩;rw[show t - i=(t - (i+1))+1 by omega];simpa using h2
theorem Pt{es:List (U×U×Nat)}{es' :List ME}(hl:es.length=es'.length)(hr:∀ (j:Nat) e e',es[j]? =some e→es'[j]? =some e'→UR σ Z n e.1 e'.key∧UR σ Z n e.2.1 e'.val∧e'.born=e.2.2){since:Nat}{seen:List Nat}:
  ∀ (i:Nat) (c:Option ME),(dV es' since seen)[i]? =some c→∃ c0,c0∈td es since seen∧(match c0,c with
   |none,none=>True
   |some a,some b=>UR σ Z n a.1 b.key∧UR σ Z n a.2.1 b.val∧b.born=a.2.2
   |_,_=>False):=by
 -- the lists,side by side
 have pair:∀ {es:List (U×U×Nat)} {es' :List ME},es.length=es'.length→(∀ (j:Nat) e e',es[j]? =some e→es'[j]? =some e'→UR σ Z n e.1 e'.key∧UR σ Z n e.2.1 e'.val∧e'.born=e.2.2)→∀ p:Nat→Bool,(es.filter fun e=>p e.2.2).length=(es'.filter fun e=>p e.born).length∧∀ (j:Nat) e e',(es.filter fun e=>p e.2.2)[j]? =some e→(es'.filter fun e=>p e.born)[j]? =some e'→UR σ Z n e.1 e'.key∧UR σ Z n e.2.1 e'.val∧e'.born=e.2.2:=by
  intro es
  induction es with
  |nil=>
   intro es' hl _ p;have:es' =[]:=jT hl.symm;subst this;exact⟨rfl,fun j e e' he=>by simp at he⟩
  |cons a es ih=>
   intro es' hl hr p;cases es' with
   |nil=>simp at hl
   |cons a' es' =>
    have h0:=hr 0 a a' rfl rfl;obtain⟨i1,i2⟩:=ih (by simpa using hl) (fun j x y hx hy=>hr (j+1) x y (by simpa using hx) (by simpa using hy)) p;rw[List.filter_cons,List.filter_cons,h0.2.2];cases p a.2.2 with
    |false=>exact⟨i1,i2⟩
    |true=>
     refine⟨by simp[i1],fun j x y hx hy=> ?_⟩;cases j with
     |zero=>simp at hx hy;subst hx;subst hy;exact h0
     |succ j=>exact i2 j x y (by simpa using hx) (by simpa using hy)
 obtain⟨a1,a2⟩:=pair hl hr (fun b=> !seen.contains b);obtain⟨b1,b2⟩:=pair a1 a2 (fun b=>Nat.blt b since);obtain⟨c1,c2⟩:=pair a1 a2 (fun b=>Nat.ble since b);intro i c hc;unfold dV at hc;unfold td;simp only at hc⊢;have hm:=List.mem_of_getElem? hc;rw[gD]at hm;rcases hm with hm|hm
 ·have he:(List.filter (fun e=>Nat.blt e.born since) (List.filter (fun e=> !seen.contains e.born) es')).isEmpty=true:=by
   cases hq:(List.filter (fun e=>Nat.blt e.born since) (List.filter (fun e=> !seen.contains e.born) es')).isEmpty with
   |true=>rfl
   |false=>rw[hq]at hm;simp at hm
  rw[he]at hm;simp at hm;subst hm;refine⟨none,List.mem_append_left _ ?_,trivial⟩;have:(List.filter (fun e=>Nat.blt e.2.2 since) (List.filter (fun e=> !seen.contains e.2.2) es)).isEmpty=true:=by
   rw[List.isEmpty_iff_length_eq_zero,b1,←List.isEmpty_iff_length_eq_zero];exact he
  rw[this];simp
 ·rw[eS]at hm;obtain⟨x,hx,rfl⟩:=hm;rw[gD]at hx;have get:∀ {A:List (U×U×Nat)} {B:List ME},A.length=B.length→(∀ (j:Nat) e e',A[j]? =some e→B[j]? =some e'→UR σ Z n e.1 e'.key∧UR σ Z n e.2.1 e'.val∧e'.born=e.2.2)→x∈B→∃ a∈A,UR σ Z n a.1 x.key∧UR σ Z n a.2.1 x.val∧x.born=a.2.2:=by
   intro A B hAB hr hx;obtain⟨j,hj,rfl⟩:=List.mem_iff_getElem.1 hx;exact⟨A[j]'(by omega),List.getElem_mem _,hr j _ _ (bP (by omega)) (bP hj)⟩
  rcases hx with hx|hx
  ·obtain⟨a,ha,hr⟩:=get b1 b2 hx;exact⟨some a,List.mem_append_right _ (eS.2 ⟨a,List.mem_append_left _ ha,rfl⟩),hr⟩
  ·obtain⟨a,ha,hr⟩:=get c1 c2 hx;exact⟨some a,List.mem_append_right _ (eS.2 ⟨a,List.mem_append_right _ ha,rfl⟩),hr⟩
theorem JW{dst:Option Nat}{x:bJ}{k:Vs→Prop}{F:Nat→List V→St→(V→St→Prop)→Prop}(hok:Cz E s e st)(h:ig s dst x k):
  dH M F e st (.next x.er) fun v st' =>∃ t,k t∧Cz E t (fq dst v e) st' :=by
 obtain⟨hf,σ,Z,ω,hk⟩:=hok;unfold ig at h;split at h<;>try exact h.elim
 rename_i q hx;obtain⟨vx,x1,x2⟩:=hk.cB hx;obtain⟨hlt,rfl⟩:=TR.ptr x2;have hfalse:TR σ Z ω s.h.length (.aV [.bool false]) (.aV [.bool false]):=UR.aV rfl (LU.cons (.bool false) .nil).2;simp only[dH,x1];split at h<;>try exact h.elim
 ·rename_i since seen last hq;obtain⟨g1,g2⟩:=hk.obj q _ hq;simp only[pq,g1,Option.map_none];exact⟨_,h,hf.env _,σ,Z,ω,hk.put hfalse⟩
 ·rename_i j since seen last hq;split at h<;>try exact h.elim
  rename_i es clock hj;obtain⟨hst,hall⟩:=h;obtain⟨g1,g2⟩:=hk.obj q _ hq;obtain⟨es',m1,m2,m3⟩:=hk.obj j _ hj;have hst' :(!seen.isEmpty&& !es'.isEmpty&&es'.all (fun e=>Nat.ble last e.born))=false:=by
   have e1:es'.isEmpty=es.isEmpty:=by cases es<;>cases es' <;>simp at m2⊢
   have e2:es'.all (fun e=>Nat.ble last e.born)=es.all (fun e=>Nat.ble last e.2.2):=by
    clear hst hall hj m1
    induction es generalizing es' with
    |nil=>have:es' =[]:=jT m2.symm;subst this;rfl
    |cons a es ih=>
     cases es' with
     |nil=>simp at m2
     |cons a' es' =>
      simp only[List.all_cons];rw[(m3 0 a a' rfl rfl).2.2,ih es' (by simpa using m2) (fun j x y hx hy=>m3 (j+1) x y (by simpa using hx) (by simpa using hy)) (by cases es<;>cases es' <;>simp at m2⊢)]
   rw[e1,e2];exact hst
  simp only[pq,g1,Option.map_some,m1,hst',cond_false];intro i hi;have hc:=bP hi;rw[hc];obtain⟨c0,c1,c2⟩:=Pt m2 m3 i _ hc;have hk0:=hall c0 c1;generalize (dV es' since seen)[i]=c at c2;cases c with
  |none=>
   cases c0 with
   |some a=>exact c2.elim
   |none=>exact⟨_,hk0,hf.env _,σ,Z,ω,hk.put hfalse⟩
  |some b=>
   cases c0 with
   |none=>exact c2.elim
   |some a=>
    obtain⟨r1,r2,r3⟩:=c2;have hput:=hk.DA (i:=q) (o:=.iter (some j) since (seen++[a.2.2]) clock) (ob:=.ga (some (σ j)) since (seen++[b.born]) clock) hlt (by rw[hq];intro hh;cases hh) ⟨by rw[r3];rfl,fun j' hj' =>by cases hj';exact g2 j rfl⟩;refine⟨_,hk0,hf.set (o:=.iter (some j) since (seen++[a.2.2]) clock) ?_ _,σ,Z,ω,hput.put (UR.aV rfl (LU.cons (.bool true) (LU.cons ?_ (LU.cons ?_ .nil))).2)⟩
    ·have:=hf.ob q _ hq;simpa only[Uo.low]using this
    ·simpa using r1
    ·simpa using r2
theorem sound(T:lR C M VF Q Pm):∀ n,VE (dA C M) (vF VF M Q Pm n)∧
  (∀ {fn:aC} {c:aj} {E:qe} {s:Vs} {K:Ex→Vs→Prop} {e:PT V} {st:St},vC VF M Q Pm n fn c s K→Cz E s e st→∃ N,fZ C M N c.er e st (WR E K))∧
  (∀ {fn:aC} {id:Nat} {b:aj} {m:Nat} {E:qe} {s:Vs} {K:Ex→Vs→Prop} {e:PT V} {st:St},vL VF M Q Pm n fn id b m s K→E.n≤m→Cz E s e st→∃ N,fZ C M N (.loop b.er) e st (og id (WR E K))):=by
 intro n
 induction n with
 |zero=>
  refine⟨fun f us h fl r h' fl' hh=> ?_,fun hh=> ?_,fun hh=> ?_⟩
  ·simp[vF]at hh
  ·simp[vC]at hh
  ·simp[vL]at hh
 |succ n ih=>
  obtain⟨ihF,ihC,ihL⟩:=ih;refine⟨?_,?_,?_⟩
  ·-- a function
   intro f us h fl r h' fl' hh σ Z ω st vs hk hfl ht hlu;simp only[vF]at hh;split at hh
   ·rename_i p hp;exact T.HQ f p hp us h fl r h' fl' hh σ Z ω st vs hk hfl ht hlu
   ·split at hh<;>try (simp at hh;done)
    rename_i fn hfn;obtain⟨hb,hh⟩:=aK hh;have hc:=Dz hh;have hlen:vs.length≤fn.ntmps:=by have:=gu hb;have:=hlu.1;omega
    have hinit:Cz ⟨h.length,σ,fO σ ω h.length,Z,st,fun i=>h[i]? =some .gone,none,jd h⟩ ⟨lM us 0,h,fl⟩ (cu vs 0 .e) st:=by
     refine⟨hfl.env _,σ,Z,ω,hk.setEnv fun t u hu=> ?_⟩;obtain⟨_,hu2⟩:=wD hu;simp only[Nat.sub_zero]at hu2;obtain⟨ht1,_⟩:=bn.1 hu2;have hv:=bP (l:=vs) (i:=t) (by have:=hlu.1;omega);refine⟨_,?_,TR.bB (hlu.2 t u _ hu2 hv)⟩;rw[fF,if_pos ⟨dW _,by have:=hlu.1;omega⟩];exact hv
    obtain⟨N,hN⟩:=ihC hc hinit;refine⟨N,?_⟩;rw[qv (T.code f fn hfn) (by exact hlen)];refine b9 (aq _) ?_ hN;rintro ex' e' st' ⟨s',hK,hf',σ',Z',ω',hk'⟩;cases ex' with
    |exit i=>exact hK.elim
    |normal=>
     obtain⟨v,r1,r2,r3⟩:=rP hk' hf' rfl (aq _) hK;rw[kr];simp only[r1];exact⟨r2,r3⟩
    |ret=>
     obtain⟨v,r1,r2,r3⟩:=rP hk' hf' rfl (aq _) hK;rw[nK];simp only[r1];exact⟨r2,r3⟩
  ·-- code
   intro fn c E s K e st hh hok;have hn0:E.n≤s.h.length:=by obtain⟨_,σ,Z,ω,hk⟩:=hok;exact hk.n0
   -- a block of any code
   have blk:∀ {id:Nat} {b:aj},vC VF M Q Pm n fn b s (kB fn id s.h.length K)→∃ N,fZ C M N (aj.block id b.er) e st (WR E K):=by
    intro id b hh;obtain⟨N,hN⟩:=ihC hh hok;refine⟨N+1,?_⟩;rw[rO];refine b9 (aq _) ?_ hN;rintro ex' e' st' ⟨t,hK,h2⟩;cases ex' with
    |normal=>exact⟨_,hK,h2.keep _ hn0⟩
    |ret=>exact⟨_,hK,h2⟩
    |exit i=>
     unfold og;simp only[kB]at hK;cases hb:Nat.beq i id with
     |true=>rw[hb]at hK;simp only[hb,cond_true];exact⟨_,hK,h2.keep _ hn0⟩
     |false=>rw[hb]at hK;simp only[hb,cond_false];exact⟨_,hK,h2⟩
   cases c with
   |skip=>exact⟨1,by rw[aj.er,Aw];exact⟨s,hh,hok⟩⟩
   |ret=>exact⟨1,by rw[aj.er,Ef];exact⟨s,hh,hok⟩⟩
   |exit i=>exact⟨1,by rw[aj.er,GY];exact⟨s,hh,hok⟩⟩
   |region ops=>
    have hh:jS M Q (vF VF M Q Pm n) s K ops:=hh;have plain:∀ {ops:List aD} {s:Vs} {e:PT V} {st:St},Cz E s e st→iq K (gy M Q (vF VF M Q Pm n) ops s)→∃ N,eV M (bW C M N) (fI ops) e st fun e' st' =>WR E K .normal e' st' :=by
     intro ops s e st hok hh;obtain⟨hfl,σ,Z,ω,hk⟩:=hok;cases hs:gy M Q (vF VF M Q Pm n) ops s with
     |none=>rw[hs]at hh;exact hh.elim
     |some s1=>
      rw[hs]at hh;obtain⟨N,hN⟩:=JZ ihF T.muts hs hk hfl;exact⟨N,mG (bY (aq _)) (fun e s h=>⟨s1,hh,h⟩) hN⟩
    unfold jS at hh;split at hh
    ·rename_i dst x p ops _;have h1:=JW (M:=M) (F:=bW C M 0) hok hh;have h2:dH M (bW C M 0) e st (.next x.er) fun v st' =>∃ m,eV M (bW C M m) (fI ops) (fq dst v e) st' fun e' st' =>WR E K .normal e' st' :=by
      refine dK (bY (aq 0)) (fun v st' ⟨t,ht,hokt⟩=> ?_) h1;exact plain hokt ht
     obtain⟨m,_,hm⟩:=uC (K:=fun m v st' =>eV M (bW C M m) (fI ops) (fq dst v e) st' fun e' st' =>WR E K .normal e' st') (fun a b hab=>bY hab) (fun f args s K hK h=>tc hK h)
      (fun a b v s hab h=>mG (bY hab) (fun _ _ h=>h) h) h2
     refine⟨m+1,?_⟩;rw[aj.er,jb];simp only[fI,eV,aD.er,jE.er,bU];exact hm
    ·obtain⟨N,hN⟩:=plain hok hh;exact⟨N+1,by rw[aj.er,jb];exact hN⟩
   |draw ops=>
    have hh:kV M Q (vF VF M Q Pm n) s K (sched (ops.length+1) (bq ops 0) 0):=hh;cases hl:sched (ops.length+1) (bq ops 0) 0 with
    |none=>rw[hl]at hh;exact hh.elim
    |some l=>
     rw[hl]at hh;simp only[kV]at hh;obtain⟨hfl,σ,Z,ω,hk⟩:=hok;cases hs:bV M Q (vF VF M Q Pm n) l s []with
     |none=>rw[hs]at hh;exact hh.elim
     |some s1=>
      rw[hs]at hh;obtain⟨N,hN⟩:=GW ihF T.muts hl hs hk hfl;refine⟨N,b9 (aq _) ?_ hN⟩;rintro ex e' st' ⟨rfl,h2⟩;exact⟨s1,hh,h2⟩
   |seq a b=>
    have hh:vC VF M Q Pm n fn a s (fun ex s=>match ex with
     | .normal=>vC VF M Q Pm n fn b s K
     |ex=>K ex s):=hh
    obtain⟨N,hN⟩:=ihC hh hok;obtain⟨m,hm⟩:=DK (K:=fun m=>Es C M m b.er (WR E K)) (fun x y ex e s hxy h=>by
     cases ex with
     |normal=>exact b9 hxy (fun _ _ _ h=>h) h
     |ret=>exact h
     |exit i=>exact h) hN (by
     rintro ex' e' st' ⟨t,hK,h2⟩;cases ex' with
     |normal=>exact ihC hK h2
     |exit i=>exact⟨0,t,hK,h2⟩
     |ret=>exact⟨0,t,hK,h2⟩)
    exact⟨m+1,by rw[aj.er,pg];exact hm⟩
   |cond x a b=>
    simp only[vC]at hh;split at hh<;>try exact hh.elim
    ·rename_i hx;obtain⟨N,hN⟩:=ihC hh hok;obtain⟨hfl,σ,Z,ω,hk⟩:=hok;obtain⟨vx,x1,x2⟩:=hk.cB hx;obtain rfl:=TR.bool x2;exact⟨N+1,by rw[aj.er,Au x1,if_pos rfl];exact hN⟩
    ·rename_i hx;obtain⟨N,hN⟩:=ihC hh hok;obtain⟨hfl,σ,Z,ω,hk⟩:=hok;obtain⟨vx,x1,x2⟩:=hk.cB hx;obtain rfl:=TR.bool x2;exact⟨N+1,by rw[aj.er,Au x1,if_neg (by simp)];exact hN⟩
   |block id b=>
    cases b with
    |loop b=>
     simp only[vC]at hh;obtain⟨N,hN⟩:=ihL hh hn0 (hok.keep _ hn0);exact⟨N+1,by rw[aj.er,rO,aj.er];exact hN⟩
    |_=>simp only[vC]at hh;exact blk hh
   |loop b=>simp[vC]at hh
   |bad=>simp[vC]at hh
   |uG a b=>simp[vC]at hh
  ·-- a loop
   intro fn id b m E s K e st hh hm hok;simp only[vL]at hh;obtain⟨N,hN⟩:=ihC hh hok;obtain⟨k,hkk⟩:=DK (K:=fun k=>Es C M k (.loop b.er) (og id (WR E K))) (fun x y ex e s hxy h=>by
    cases ex with
    |normal=>exact b9 hxy (fun _ _ _ h=>h) h
    |ret=>exact h
    |exit i=>exact h) hN (by
    rintro ex' e' st' ⟨t,hK,h2⟩;cases ex' with
    |normal=>exact ihL hK hm (h2.keep _ hm)
    |ret=>exact⟨0,t,hK,h2⟩
    |exit i=>
     refine⟨0,?_⟩;show og id (WR E K) (.exit i) e' st';unfold og;simp only[kB]at hK;cases hb:Nat.beq i id with
     |true=>rw[hb]at hK;simp only[hb,cond_true];exact⟨_,hK,h2.keep _ hm⟩
     |false=>rw[hb]at hK;simp only[hb,cond_false];exact⟨t,hK,h2⟩)
   exact⟨k+1,hkk⟩
end
end Go.RE
