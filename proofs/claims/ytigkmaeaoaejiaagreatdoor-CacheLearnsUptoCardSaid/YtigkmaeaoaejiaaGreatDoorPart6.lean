/- The operations that neither write nor make memory. -/
import Derived.Test.YtigkmaeaoaejiaaGreatDoorPart5
set_option linter.unusedVariables false
set_option linter.unusedSimpArgs false
set_option linter.constructorNameAsVariable false
namespace Go.RE
section
variable{E:vK}{σ:Sg}{Z:Zs}{ω:Om}{s s' :Vs}{e:PT V}{st:St}{n:Nat}
theorem eN{b:Nat}{r:List V}(h:st.get b=some (.row r)):st.row b=some r:=by unfold St.row;rw[h]
theorem qal(h:Ok E σ Z ω s e st){g:Tg}{w:Nat}{xs:List (List U)}:∀ {r:Env},Env.gI g s.e r=some (w,xs)→∃ v,OR σ Z ω g w xs v:=by
 intro r
 induction r with
 |nil=>intro h;cases h
 |cons x r ih=>
  intro hx;obtain⟨k,u⟩:=x;cases u with
  |own g' w' xs' =>
   simp only[Env.gI]at hx;split at hx
   ·split at hx
    ·rename_i g2 w2 xs2 hl;split at hx
     ·rename_i hg;subst hg;simp only[ay,aO]at hx;obtain⟨rfl,rfl⟩:=hx;obtain⟨v,_,h2⟩:=h.env _ _ hl;exact⟨v,h2.1⟩
     ·exact ih hx
    ·exact ih hx
   ·exact ih hx
  |_=>exact ih hx
theorem Et(h:Ok E σ Z ω s e st){g:Tg}{w:Nat}{xs:List (List U)}(hx:s.gI g=some (w,xs)):∃ v,OR σ Z ω g w xs v:=by
 unfold Vs.gI at hx;split at hx
 ·rename_i i off;split at hx<;>try (cases hx;done)
  rename_i cs hi;split at hx<;>try (cases hx;done)
  rename_i w' xs' hc;simp only[ay,aO]at hx;obtain⟨rfl,rfl⟩:=hx;obtain⟨cs',h1,h2,h3⟩:=h.obj i _ hi;have hlt:off<cs.length:=(cz.1 hc).1;exact⟨_,h3 off _ _ hc (dm (by omega))⟩
 ·exact qal h hx
theorem UU{i off:Nat}{u:U}{v:V}(hn:u.ve=true)(h:CR σ Z ω n i off u v):UR σ Z n u v:=by
 cases u<;>first|exact h|(simp[U.ve]at hn)
theorem Zb{i:Nat}{cs:List U}{cs' :List V}(hlen:cs.length=cs'.length)(hc:∀ (off:Nat) u v,cs[off]? =some u→cs'[off]? =some v→CR σ Z ω n i off u v){k:Option Nat}{off:Nat}{u:U}
  (hl:gv k cs off=some u):∃ v,ei k cs' off=some v∧UR σ Z n u v:=by
 cases k with
 |none=>
  simp only[gv]at hl;cases hq:cs[off]? with
  |none=>rw[hq]at hl;simp at hl
  |some x=>
   rw[hq]at hl;simp only at hl;cases hx:x.ve with
   |false=>rw[hx]at hl;simp at hl
   |true=>
    rw[hx]at hl;simp at hl;subst hl;have hlt:=(cz.1 hq).1;have hv:=dm (l:=cs') (i:=off) (by omega);exact⟨_,hv,UU hx (hc off _ _ hq hv)⟩
 |some k=>
  simp only[gv]at hl;cases hb:(Nat.ble (off+k) cs.length&&((cs.drop off).take k).all U.ve)with
  |false=>rw[hb]at hl;simp at hl
  |true=>
   rw[hb]at hl;simp at hl;subst hl;simp only[cm,qd]at hb;have hle:=ja hb.1;refine⟨.agg ((cs'.drop off).take k),by simp only[ei,tD (show off+k≤cs'.length by omega),cond_true],.agg (by simp;omega) fun j u v hu hv=> ?_⟩;have hmem:u∈(cs.drop off).take k:=List.mem_of_getElem? hu;rw[o3]at hu hv;split at hu
   ·rw[if_pos ‹_›]at hv;rw[td]at hu hv;exact UU (hb.2 u hmem) (hc _ u v hu hv)
   ·simp at hu
theorem nS{row:List V}{o L off:Nat}{k:Option Nat}{v:V}(ho:o+L≤row.length)(h:ei k ((row.drop o).take L) off=some v):ei k row (o+off)=some v:=by
 cases k with
 |none=>
  simp only[ei]at h⊢;rw[o3]at h;split at h
  ·rw[td]at h;exact h
  ·simp at h
 |some k=>
  simp only[ei]at h⊢;cases hb:Nat.ble (off+k) ((row.drop o).take L).length with
  |false=>rw[hb]at h;simp at h
  |true=>
   rw[hb]at h;have hle:=ja hb;simp only[List.length_take,List.length_drop]at hle;simp only[cond_true,ay]at h;rw[tD (show o+off+k≤row.length by omega)];simp only[cond_true,ay];rw[←h];congr 1;rw[List.drop_take,List.drop_drop,List.take_take,Nat.min_eq_left (by omega)]
theorem Ba(h:Ok E σ Z ω s e st){i:Nat}{cs:List U}(hi:s.h[i]? =some (.row cs)){k:Option Nat}{off:Nat}{u:U}(hl:mN i k cs off=some u):
  ∃ cs' v,st.row (σ i)=some cs'∧ei k cs' off=some v∧TR σ Z ω s.h.length u v:=by
 have hlt:i<s.h.length:=(cz.1 hi).1;obtain⟨cs',h1,h2,h3⟩:=h.obj i _ hi;unfold mN at hl;split at hl
 ·rename_i w xs hc;simp at hl;subst hl;have hoff:off<cs.length:=(cz.1 hc).1;have hv:=dm (l:=cs') (i:=off) (by omega);exact⟨cs',_,eN h1,hv,h3 off _ _ hc hv,fun i' off' he=>by cases he;exact hlt⟩
 ·obtain⟨v,a,b⟩:=Zb h2 h3 hl;exact⟨cs',v,eN h1,a,TR.bz b⟩
theorem XF(h:Ok E σ Z ω s e st){w:Nat}{xs:List (List U)}{v:V}(hv:UR σ Z n (.sl w xs) v):
  ∃ cs,bx st w v=some cs∧LU σ Z 0 xs.flatten cs∧tT v=some xs.length∧∀ r∈xs,r.length=w:=by
 cases hv with
 |slnil=>exact⟨[],rfl,.nil,rfl,fun r hr=>by cases hr⟩
 |zW=>exact⟨[],rfl,.nil,rfl,fun r hr=>by cases hr⟩
 |Cs hn hz hl hcap hr hv=>
  subst hn;refine⟨_,oJ (eN (h.tL _ _ hz)) hr,⟨?_,hv⟩,rfl,hl⟩;rw[dB hl];simp;omega
 |Cn hn hl hr hv=>
  subst hn;refine⟨_,by simp only[bx,nX,tD hr,Bool.and_self,cond_true],⟨?_,hv⟩,rfl,hl⟩;rw[dB hl];simp;omega
theorem PN(h:Ok E σ Z ω s e st){g:Tg}{w:Nat}{xs:List (List U)}{v:V}(hv:OR σ Z ω g w xs v):
  ∃ cs,bx st w v=some cs∧LU σ Z 0 xs.flatten cs∧tT v=some xs.length∧∀ r∈xs,r.length=w:=by
 unfold OR at hv;split at hv
 ·obtain⟨rfl,rfl|rfl⟩:=hv
  ·exact⟨[],rfl,.nil,rfl,fun r hr=>by cases hr⟩
  ·exact⟨[],rfl,.nil,rfl,fun r hr=>by cases hr⟩
 ·rename_i I hg;obtain⟨rfl,h0,h1,h2,h3,h4⟩:=hv;have hle:xs.length*w≤I.cap*w:=o7 _ h1;exact⟨_,oJ (eN (h.pW g I hg)) (by omega),h4,rfl,h3⟩
theorem zZ(h:Ok E σ Z ω s e st){w:Nat}{u:U}{xs:List (List U)}{v:V}(hx:rowsOf s w u=some xs)(hv:TR σ Z ω s.h.length u v):
  ∃ cs,bx st w v=some cs∧LU σ Z s.h.length xs.flatten cs∧tT v=some xs.length∧∀ r∈xs,r.length=w:=by
 have up:∀ {cs},LU σ Z 0 xs.flatten cs→LU σ Z s.h.length xs.flatten cs:=fun hh=>hh.mono (kN _) (fun _ _=>rfl) (fun _ _ h=>h);cases u<;>simp only[rowsOf,reduceCtorEq]at hx
 ·rename_i w' ys;cases hb:Nat.beq w' w with
  |false=>simp[hb]at hx
  |true=>
   simp[hb]at hx;subst hx;have:w' =w:=bS hb;subst this;obtain⟨cs,a,b,c,d⟩:=XF h hv;exact⟨cs,a,up b,c,d⟩
 ·rename_i w';cases hb:Nat.beq w' w with
  |false=>simp[hb]at hx
  |true=>
   simp[hb]at hx;subst hx;have hv:UR σ Z s.h.length (.nl w') v:=hv;cases hv with
   |Ge=>exact⟨[],rfl,.nil,rfl,fun r hr=>by cases hr⟩
   |Ho=>exact⟨[],rfl,.nil,rfl,fun r hr=>by cases hr⟩
 ·rename_i g w' ys;cases hb:Nat.beq w' w with
  |false=>simp[hb]at hx
  |true=>
   simp[hb]at hx;subst hx;have:w' =w:=bS hb;subst this;obtain⟨cs,a,b,c,d⟩:=PN h hv.1;exact⟨cs,a,up b,c,d⟩
 ·rename_i i off len w';split at hx<;>try (simp at hx;done)
  rename_i cs hi;cases hb:(Nat.beq w' w&&Nat.beq w 1&&Nat.ble (off+len) cs.length&&((cs.drop off).take len).all U.ve)with
  |false=>rw[hb]at hx;simp at hx
  |true=>
   rw[hb]at hx;simp only[cond_true,ay]at hx;subst hx;simp only[cm,qd]at hb;have e1:w' =w:=bS hb.1.1.1;have e2:w=1:=bS hb.1.1.2;subst e1;subst e2;have hle:=ja hb.1.2;obtain⟨hi',cap,hcap,rfl⟩:=hv;obtain⟨cs',h1,h2,h3⟩:=h.obj i _ hi;have hfl:(List.map (fun c=>[c]) (List.take len (List.drop off cs))).flatten=(cs.drop off).take len:=by
    generalize (cs.drop off).take len=l
    induction l with
    |nil=>rfl
    |cons a l ih=>simpa using ih
   refine⟨_,oJ (eN h1) (by omega),?_,by simp only[tT,List.length_map,List.length_take,List.length_drop,ay];omega,fun r hr=>by simp only[fh]at hr;obtain⟨x,_,rfl⟩:=hr;rfl⟩;rw[hfl,Nat.mul_one];refine⟨by simp;omega,fun j u v hu hv=> ?_⟩;have hmem:u∈(cs.drop off).take len:=List.mem_of_getElem? hu;rw[o3]at hu hv;split at hu
   ·rw[if_pos ‹_›]at hv;rw[td]at hu hv;exact UU (hb.2 u hmem) (h3 _ u v hu hv)
   ·simp at hu
theorem B9:∀ {xs:List (List U)} {bs:List UInt8} {cs:List V},eH xs=some bs→LU σ Z n xs.flatten cs→bytesOf cs=some bs:=by
 intro xs
 induction xs with
 |nil=>intro bs cs h hl;simp[eH]at h;subst h;rw[hl.eF];rfl
 |cons r xs ih=>
  intro bs cs h hl;simp only[eH]at h;cases hr:qt r with
  |none=>rw[hr]at h;simp at h
  |some b=>
   rw[hr]at h;simp only at h;cases hx:eH xs with
   |none=>rw[hx]at h;simp at h
   |some bs' =>
    rw[hx]at h;simp at h;subst h;unfold qt at hr;split at hr<;>simp at hr;rename_i m;simp only[List.flatten_cons,List.singleton_append]at hl;obtain⟨v,vs,rfl,h1,h2⟩:=hl.cq;cases h1;simp only[bytesOf,ih hx h2,hr]
theorem uP{kk:fD}{k:U}{k' :V}(hk:TR σ Z ω n k k'):∀ {es:List (U×U×Nat)} {es' :List ME},es.length=es'.length→
  (∀ (j:Nat) x y,es[j]? =some x→es'[j]? =some y→UR σ Z n x.1 y.key∧UR σ Z n x.2.1 y.val∧y.born=x.2.2)→∀ {i:Nat} {r:Option (Nat×U)},jt kk k es i=some r→
  ∃ r',nM kk k' es' i=some r'∧(match r,r' with|none,none=>True|some (j,u),some (j',v)=>j=j'∧UR σ Z n u v|_,_=>False):=by
 intro es
 induction es with
 |nil=>
  intro es' hl _ i r h;have:es' =[]:=pQ hl.symm;subst this;simp[jt]at h;subst h;exact⟨none,rfl,trivial⟩
 |cons x es ih=>
  intro es' hl hr i r h;cases es' with
  |nil=>simp at hl
  |cons y es' =>
   have h0:=hr 0 x y rfl rfl;simp only[jt]at h;simp only[nM];cases hp:fF kk k x.1 with
   |none=>rw[hp]at h;simp at h
   |some b=>
    rw[hp]at h;have hpe:jN kk k' y.key=some b:=by
     unfold fF at hp;split at hp
     ·rename_i a c e1 e2;rw[r8 e1 hk,r8 e2 (TR.bz (ω:=ω) h0.1)];exact hp
     ·simp at hp
    rw[hpe];cases b with
    |true=>simp at h;subst h;exact⟨_,rfl,rfl,h0.2.1⟩
    |false=>exact ih (by simpa using hl) (fun j a c ha hc=>hr (j+1) a c (by simpa using ha) (by simpa using hc)) h
theorem mu{kk:fD}{k:U}{k' :V}(hk:TR σ Z ω n k k')(h:bR kk k=true):plainKey kk k' =true:=by
 unfold bR at h;split at h
 ·rename_i v e1;rw[r8 e1 hk];exact h
 ·cases h
theorem yY(h:Ok E σ Z ω s e st){i:Nat}{es:List (U×U×Nat)}{c:Nat}(hi:s.h[i]? =some (.map es c)):
  ∃ es',st.get (σ i)=some (.map es' c)∧es.length=es'.length∧∀ (j:Nat) x y,es[j]? =some x→es'[j]? =some y→UR σ Z s.h.length x.1 y.key∧UR σ Z s.h.length x.2.1 y.val∧y.born=x.2.2:=h.obj i _ hi
theorem Pf(h:Ok E σ Z ω s e st){kk:fD}{zero:U}{z' :V}{ok:Bool}{m k u:U}{m' k' :V}(hz:UR σ Z s.h.length zero z')(hm:TR σ Z ω s.h.length m m')(hk:TR σ Z ω s.h.length k k')
  (hl:fO s kk zero ok m k=some u):∃ v,qu st kk z' ok m' k' =some v∧UR σ Z s.h.length u v:=by
 have hzz:UR σ Z s.h.length (bif ok then .aP [zero,.bool false]else zero) (if ok then .aP [z',.bool false]else z'):=by
  cases ok with
  |true=>exact .aP rfl (LU.cons hz (LU.cons (.bool _) .nil)).2
  |false=>exact hz
 cases m with
 |bK=>
  obtain rfl:=TR.bK hm;simp only[fO]at hl;cases hp:bR kk k with
  |false=>rw[hp]at hl;simp at hl
  |true=>
   rw[hp]at hl;simp only[cond_true,ay]at hl;subst hl;simp only[qu,mu hk hp,cond_true];exact⟨_,rfl,hzz⟩
 |map i=>
  obtain⟨hi,rfl⟩:=TR.map hm;simp only[fO]at hl;cases hq:s.h[i]? with
  |none=>rw[hq]at hl;simp at hl
  |some o=>
   rw[hq]at hl;cases o with
   |map es c=>
    simp only at hl;cases hp:bR kk k with
    |false=>rw[hp]at hl;simp at hl
    |true=>
     rw[hp]at hl;simp only[cond_true]at hl;obtain⟨es',g1,g2,g3⟩:=yY h hq;simp only[qu,g1,mu hk hp,cond_true];cases hf:jt kk k es 0 with
     |none=>rw[hf]at hl;simp at hl
     |some r=>
      rw[hf]at hl;obtain⟨r',f1,f2⟩:=uP hk g2 g3 hf;rw[f1];cases r with
      |none=>
       cases r' with
       |none=>simp only[ay]at hl;subst hl;exact⟨_,rfl,hzz⟩
       |some _=>exact f2.elim
      |some p=>
       cases r' with
       |none=>exact f2.elim
       |some q=>
        obtain⟨j,a⟩:=p;obtain⟨j',b⟩:=q;simp only[ay]at hl;subst hl;refine⟨_,rfl,?_⟩;cases ok with
        |true=>exact .aP rfl (LU.cons f2.2 (LU.cons (.bool _) .nil)).2
        |false=>exact f2.2
   |row _=>simp at hl
   |iter a b c d=>simp at hl
   |gone=>simp at hl
 |_=>simp[fO]at hl
theorem Hq{u:U}{v:V}(h:TR σ Z ω n u v){b:Bool}(hu:u.Mu=some b):(b=false∧v=.aT)∨(b=true∧((∃ x y,v=.ptr x y)∨∃ x y,v=.dI x y)):=by
 cases u<;>simp[U.Mu]at hu<;>subst hu
 ·cases h;exact .inl ⟨rfl,rfl⟩
 ·exact .inr ⟨rfl,.inl ⟨_,_,(TR.ptr h).2⟩⟩
 ·cases h
  ·exact .inr ⟨rfl,.inl ⟨_,_,rfl⟩⟩
  ·exact .inr ⟨rfl,.inr ⟨_,_,rfl⟩⟩
 ·obtain⟨⟨I,_,rfl⟩,_⟩:=h;exact .inr ⟨rfl,.inl ⟨_,_,rfl⟩⟩
theorem GU{u:U}{v:V}(h:TR σ Z ω n u v){b:Bool}(hu:u.N5=some b):(b=false∧v=.bK)∨(b=true∧∃ x,v=.map x):=by
 cases u<;>simp[U.N5]at hu<;>subst hu
 ·exact .inl ⟨rfl,TR.bK h⟩
 ·exact .inr ⟨rfl,_,(TR.map h).2⟩
theorem Og{u:U}{v:V}(h:TR σ Z ω n u v){b:Bool}(hu:u.YI=some b):(b=false∧v=.cZ)∨(b=true∧∃ x y z,v=.func x y z):=by
 cases u<;>simp[U.YI]at hu<;>subst hu
 ·cases h;exact .inl ⟨rfl,rfl⟩
 ·obtain⟨a,b,rfl,_⟩:=TR.func h;exact .inr ⟨rfl,_,_,_,rfl⟩
theorem Mk{u:U}{v:V}(h:TR σ Z ω n u v){b:Bool}(hu:u.Ea=some b):(b=false∧v=.bu)∨(b=true∧((∃ a b c d e f,v=.slice a b c d e f)∨∃ a b c d,v=.aj a b c d)):=by
 cases u with
 |bu=>simp[U.Ea]at hu;subst hu;cases h;exact .inl ⟨rfl,rfl⟩
 |sl w xs=>
  cases xs with
  |nil=>simp[U.Ea]at hu
  |cons a r=>
   simp[U.Ea]at hu;subst hu;cases h
   ·exact .inr ⟨rfl,.inl ⟨_,_,_,_,_,_,rfl⟩⟩
   ·exact .inr ⟨rfl,.inr ⟨_,_,_,_,rfl⟩⟩
 |own g w xs=>
  cases xs with
  |nil=>simp[U.Ea]at hu
  |cons a r=>
   simp[U.Ea]at hu;subst hu;obtain⟨h,_⟩:=h;unfold OR at h;split at h
   ·cases h.1
   ·exact .inr ⟨rfl,.inl ⟨_,_,_,_,_,_,h.1⟩⟩
 |_=>simp[U.Ea]at hu
theorem qw{a b:Option Bool}{r:Bool}(h:CV a b=some r):∃ x y,a=some x∧b=some y∧(x=false∧r= !y∨x=true∧y=false∧r=false):=by
 unfold CV at h;split at h<;>simp at h
 ·rename_i x;exact⟨false,x,rfl,rfl,.inl ⟨rfl,by subst h;simp⟩⟩
 ·exact⟨true,false,rfl,rfl,.inr ⟨rfl,rfl,by subst h;rfl⟩⟩
theorem JL{k:fD}{a b:U}{x y:V}{r:Bool}(h:fF k a b=some r)(ha:TR σ Z ω n a x)(hb:TR σ Z ω n b y):jN k x y=some r:=by
 unfold fF at h;split at h
 ·rename_i p q e1 e2;rw[r8 e1 ha,r8 e2 hb];exact h
 ·simp at h
theorem PE:∀ {ks:List (Nat×fD)} {a b:List U} {x y:List V} {r:Bool},gN ks a b=some r→LU σ Z n a x→LU σ Z n b y→rO ks x y=some r:=by
 intro ks
 induction ks with
 |nil=>intro a b x y r h _ _;simpa[gN,rO]using h
 |cons k ks ih=>
  intro a b x y r h ha hb;obtain⟨o,k⟩:=k;simp only[gN]at h;split at h<;>try (simp at h;done)
  rename_i p q e1 e2;obtain⟨p',f1,f2⟩:=ha.get e1;obtain⟨q',g1,g2⟩:=hb.get e2;simp only[rO,f1,g1];cases hp:fF k p q with
  |none=>rw[hp]at h;simp at h
  |some c=>
   rw[hp]at h;rw[JL (ω:=fun _=>none) hp (TR.bz f2) (TR.bz g2)];cases c with
   |true=>exact ih h ha hb
   |false=>exact h
theorem qjq{ek:fD}{a b:U}{x y:V}{r:Bool}(h:Oe ek a b=some r)(ha:TR σ Z ω n a x)(hb:TR σ Z ω n b y):Ga ek x y=some r:=by
 cases ek with
 |bool=>
  simp only[Oe]at h;split at h<;>simp at h;subst h;rw[TR.bool ha,TR.bool hb];rfl
 |aT=>
  obtain⟨p,q,h1,h2,h3⟩:=qw (by simpa only[Oe]using h);rcases Hq ha h1 with⟨rfl,rfl⟩|⟨rfl,h4⟩<;>rcases Hq hb h2 with⟨rfl,rfl⟩|⟨rfl,h5⟩
  ·simp at h3;subst h3;rfl
  ·simp at h3;subst h3;rcases h5 with⟨_,_,rfl⟩|⟨_,_,rfl⟩<;>rfl
  ·simp at h3;subst h3;rcases h4 with⟨_,_,rfl⟩|⟨_,_,rfl⟩<;>rfl
  ·simp at h3
 |bu=>
  obtain⟨p,q,h1,h2,h3⟩:=qw (by simpa only[Oe]using h);rcases Mk ha h1 with⟨rfl,rfl⟩|⟨rfl,h4⟩<;>rcases Mk hb h2 with⟨rfl,rfl⟩|⟨rfl,h5⟩
  ·simp at h3;subst h3;rfl
  ·simp at h3;subst h3;rcases h5 with⟨_,_,_,_,_,_,rfl⟩|⟨_,_,_,_,rfl⟩<;>rfl
  ·simp at h3;subst h3;rcases h4 with⟨_,_,_,_,_,_,rfl⟩|⟨_,_,_,_,rfl⟩<;>rfl
  ·simp at h3
 |bK=>
  obtain⟨p,q,h1,h2,h3⟩:=qw (by simpa only[Oe]using h);rcases GU ha h1 with⟨rfl,rfl⟩|⟨rfl,_,rfl⟩<;>rcases GU hb h2 with⟨rfl,rfl⟩|⟨rfl,_,rfl⟩
  ·simp at h3;subst h3;rfl
  ·simp at h3;subst h3;rfl
  ·simp at h3;subst h3;rfl
  ·simp at h3
 |cZ=>
  obtain⟨p,q,h1,h2,h3⟩:=qw (by simpa only[Oe]using h);rcases Og ha h1 with⟨rfl,rfl⟩|⟨rfl,_,_,_,rfl⟩<;>rcases Og hb h2 with⟨rfl,rfl⟩|⟨rfl,_,_,_,rfl⟩
  ·simp at h3;subst h3;rfl
  ·simp at h3;subst h3;rfl
  ·simp at h3;subst h3;rfl
  ·simp at h3
 |iface g=>
  simp only[Oe]at h;split at h
  ·rw[TR.aK ha,TR.aK hb];cases g with
   |true=>simp at h
   |false=>simp at h;subst h;rfl
  ·simp at h;subst h;obtain⟨v',rfl,_⟩:=TR.iface hb;rw[TR.aK ha];cases g<;>rfl
  ·simp at h;subst h;obtain⟨v',rfl,_⟩:=TR.iface ha;rw[TR.aK hb];cases g<;>rfl
  ·simp at h
 |flat ks=>
  simp only[Oe]at h;split at h<;>try (simp at h;done)
  obtain⟨p,rfl,h1⟩:=TR.agg ha;obtain⟨q,rfl,h2⟩:=TR.agg hb;exact PE h h1 h2
 |int=>simp[Oe]at h
 |str=>simp[Oe]at h
 |no=>simp[Oe]at h
end
end Go.RE
namespace Go.RE
section
variable{E:vK}{σ:Sg}{Z:Zs}{ω:Om}{s s' :Vs}{e:PT V}{st:St}{n:Nat}
theorem dL(g:Tg)(s:Vs):(s.kill g).h.length=s.h.length:=by
 unfold Vs.kill;split
 ·unfold setCell;split<;>simp
 ·rfl
theorem Ok.FM(h:Ok E σ Z ω s e st)(d:Nat):∃ ω',Ok E σ Z ω' (s.kill (.t d)) e st∧ω' (.t d)=none∧∀ g,g≠.t d→ω' g=ω g:=
 ⟨_,(h.kill (.t d)).Ch (fJ _ _) (by simp) (o:=none) (fun I hI=>by cases hI),bw _ _ _,fun g hg=>dF _ _ hg⟩
theorem TR.empty{d w:Nat}{v:V}(h:ω (.t d)=none)(hv:v=.bu∨v=.bQ):TR σ Z ω n (.own (.t d) w []) v:=by
 refine⟨?_,fun i off hh=>by cases hh⟩;unfold OR;rw[h];exact⟨rfl,hv⟩
theorem ng{a:List U}{row:List V}{off L i k:Nat}(h:LU σ Z n a ((row.drop off).take L))(hk:k≤L):LU σ Z n ((a.take k).drop i) ((row.drop (off+i)).take (k - i)):=by
 have e:(((row.drop off).take L).take k).drop i=(row.drop (off+i)).take (k - i):=by
  rw[List.take_take,Nat.min_eq_left hk,List.drop_take,List.drop_drop]
 rw[←e];exact(h.take k).drop i
theorem PJ(h:Ok E σ Z ω s e st){d:Nat}{g:Tg}{w:Nat}{xs:List (List U)}{v:V}(hv:OR σ Z ω g w xs v){l hh:Nat}(h1:l≤hh)(h2:hh≤xs.length):
  ∃ ω' v',Ok E σ Z ω' ((s.kill g).kill (.t d)) e st∧OR σ Z ω' (.t d) w ((xs.take hh).drop l) v'∧
   (match v with
   | .bu=>v' =.bu
   | .bQ=>v' =.bQ
   | .slice b off len cap sz ex=>v' =.slice b (off+l*sz) (hh - l) (cap - l) sz ex∧sz=w∧len=xs.length∧hh≤cap
   |_=>False):=by
 have hk1:=h.kill g;have hk2:=hk1.kill (.t d);unfold OR at hv;split at hv
 ·rename_i hg;obtain⟨rfl,hvv⟩:=hv;have hh0:hh=0:=by simpa using h2
  have hl0:l=0:=by omega
  subst hh0;subst hl0;refine⟨_,v,hk2.Ch (fJ _ _) (by simp) (o:=none) (fun I hI=>by cases hI),?_,?_⟩
  ·unfold OR;rw[bw];exact⟨by simp,hvv⟩
  ·rcases hvv with rfl|rfl<;>rfl
 ·rename_i I hg;obtain⟨rfl,e0,e1,e2,e3,e4⟩:=hv
  -- the old tag is given up,the new one takes what it had
  have hgr:g≠.r:=fun hh=>by subst hh;rw[h.wr]at hg;cases hg
  have hnt:pU g ((s.kill g).kill (.t d)):=(fJ g s).kill;have hka:=hk2.Ch hnt hgr (o:=none) (fun I hI=>by cases hI);have hlen:((s.kill g).kill (.t d)).h.length=s.h.length:=by rw[dL,dL]
  have hwl:∀ a:Nat,I.off+a*w+(I.cap - a)*w≤I.row.length∨¬a≤I.cap:=fun a=>by
   by_cases ha:a≤I.cap
   ·left;have:a*w+(I.cap - a)*w=I.cap*w:=by rw[←Nat.add_mul];congr 1;omega
    omega
   ·exact .inr ha
  have hkb:=hka.Ch (g:=.t d) (fJ _ _) (by simp) (o:=some ⟨I.b,I.off+l*w,I.cap - l,I.ex,w,I.row,(xs.take hh).drop l⟩) (fun J hJ=>by
   cases hJ;refine⟨h.pW g I hg,fun i hi=>h.sw i g I (by omega) hg,h.wz g I hg,fun g' I' hg' hI' hb=> ?_,fun b hb hbI=> ?_,fun i off hh=>by cases hh⟩
   ·by_cases hgg:g' =g
    ·subst hgg;rw[bw]at hI';cases hI'
    ·rw[dF _ _ hgg]at hI';exact hgg (h.jA g' g I' I hI' hg hb)
   ·exact(h.out b hb hbI).2.2.1 g I hg)
  refine⟨_,_,hkb,?_,rfl,rfl,rfl,by omega⟩;unfold OR;rw[bw];have hle:((xs.take hh).drop l).length=hh - l:=by simp;omega
  refine⟨by rw[hle],⟨rfl,rfl⟩,by rw[hle];simp only;omega,?_,fun r hr=>e3 r (List.mem_of_mem_take (List.mem_of_mem_drop hr)),?_⟩
  ·rcases hwl l with hq|hq
   ·exact hq
   ·omega
  ·rw[sO (fun r hr=>e3 r (List.mem_of_mem_take hr)),s7 e3,hle];rw[show(hh - l)*w=hh*w - l*w from Nat.sub_mul _ _ _];exact ng e4 (o7 _ h2)
theorem HC{d w:Nat}{lo hi mx:Option bB}{u u' :U}{v:V}{x:bB}(h:Ok E σ Z ω s e st)(hx:x.er.ev e=some v)(hu:TR σ Z ω s.h.length u v)(hs:kR d w lo hi mx u s=some (u',s')):
  ∃ Z' ω' v',cX e st (.slice w x.er (bT lo) (bT hi) (bT mx))=some v'∧Ok E σ Z' ω' s' e st∧TR σ Z' ω' s'.h.length u' v'∧s'.h.length=s.h.length∧∀ b r,Z b=some r→Z' b=some r:=by
 have hmx:(bT mx).isSome=mx.isSome:=by cases mx<;>rfl
 cases u with
 |sl w' xs=>
  simp only[kR]at hs;cases hb:Nat.beq w' w with
  |false=>rw[hb]at hs;simp at hs
  |true=>
   have hww:w' =w:=bS hb;subst hww;rw[hb]at hs;simp only[cond_true]at hs;cases n2:cD s.e hi xs.length xs.length with
   |none=>rw[n2]at hs;simp at hs
   |some hh=>
    rw[n2]at hs;simp only at hs;cases n1:cD s.e lo 0 hh with
    |none=>rw[n1]at hs;simp at hs
    |some l=>
     rw[n1]at hs;simp only at hs;have q2:=h.aF n2;have q1:=h.aF n1;have b1:l≤hh:=c7 (kN _) q1;have b2:hh≤xs.length:=c7 (aM _) q2
     -- what a part shows
     have part:∀ {n:Nat},UR σ Z n (.sl w' xs) v→∀ (m:Nat),hh≤m→m≤xs.length→(∀ k,aF e (bT mx) k k=if mx.isSome then(if m≤k then some m else none)else some k)→
       (mx.isSome=false→m=xs.length)→(mx.isSome=true→hh=m)→
       ∃ y,cX e st (.slice w' x.er (bT lo) (bT hi) (bT mx))=some y∧((mx.isSome&&Nat.beq m 0)=false→UR σ Z n (.sl w' ((xs.take hh).drop l)) y)∧((mx.isSome&&Nat.beq m 0)=true→y=.bu∨y=.bQ):=by
      intro n hur m hm1 hm2 hopt hm3 hm4;have hl0:(bT hi=none∨∀ a b,aF e (bT hi) a b=aF e (bT hi) b b):=by
       cases hi with
       |none=>exact .inl rfl
       |some y=>exact .inr fun a b=>rfl
      have q2m:∀ k,aF e (bT hi) xs.length m=some k→k=hh:=fun k hk=>by
       cases hi with
       |none=>simp[bT,aF]at hk q2;omega
       |some y=>
        simp only[bT,aF]at hk q2;cases hyv:y.er.ev e with
        |none=>rw[hyv]at hk;simp at hk
        |some a=>
         rw[hyv]at hk q2;simp only at hk q2;cases a<;>simp[asNat]at hk q2;omega
      have q2' :aF e (bT hi) xs.length m=some hh:=by
       cases hi with
       |none=>
        simp only[bT,aF,ay]at q2⊢;cases hq:mx.isSome with
        |true=>omega
        |false=>omega
       |some y=>
        simp only[bT,aF]at q2⊢;cases hyv:y.er.ev e with
        |none=>rw[hyv]at q2;simp at q2
        |some a=>
         rw[hyv]at q2;simp only at q2⊢;cases a<;>simp[asNat]at q2⊢;omega
      cases hur with
      |slnil=>
       have z1:hh=0:=by simpa using b2
       have z2:m=0:=by simpa using hm2
       have z3:l=0:=by omega
       subst z1;subst z2;subst z3;have h3:aF e (bT mx) 0 0=some 0:=by rw[hopt];cases mx.isSome<;>simp
       refine⟨.bu,?_,fun _=>by simpa using UR.slnil,fun _=> .inl rfl⟩;simp only[cX,hx,h3];simp only[List.length_nil]at q2';simp only[q2',q1]
      |zW=>
       have z1:hh=0:=by simpa using b2
       have z2:m=0:=by simpa using hm2
       have z3:l=0:=by omega
       subst z1;subst z2;subst z3;have h3:aF e (bT mx) 0 0=some 0:=by rw[hopt];cases mx.isSome<;>simp
       refine⟨.bQ,?_,fun _=>by simpa using UR.zW,fun _=> .inr rfl⟩;simp only[cX,hx,h3];simp only[List.length_nil]at q2';simp only[q2',q1]
      |Cs hn hz hl hcap hr hv=>
       rename_i b off len cap ex row';subst hn
       -- the room
       have hM:∃ M,aF e (bT mx) cap cap=some M∧m≤M∧M≤cap∧aF e (bT hi) xs.length M=some hh∧(mx.isSome=true→M=m):=by
        rw[hopt];cases hq:mx.isSome with
        |true=>exact⟨m,by simp;omega,aM _,by omega,q2',fun _=>rfl⟩
        |false=>
         refine⟨cap,by simp,by omega,aM _,?_,fun hh=>by simp at hh⟩;cases hi with
         |none=>simpa[bT,aF]using q2
         |some y=>
          simp only[bT,aF]at q2⊢;cases hyv:y.er.ev e with
          |none=>rw[hyv]at q2;simp at q2
          |some a=>
           rw[hyv]at q2;simp only at q2⊢;cases a<;>simp[asNat]at q2⊢;omega
       obtain⟨M,m1,m2,m3,m4,m5⟩:=hM;have hev:cX e st (.slice w' x.er (bT lo) (bT hi) (bT mx))=(bif(bT mx).isSome&&Nat.beq M 0 then some .bQ else some (.slice b (off+l*w') (hh - l) (M - l) w' (ex||(bT mx).isSome))):=by
        simp only[cX,hx,m1,m4,q1,nX,cond_true]
       rw[hev,hmx];cases hz0:(mx.isSome&&Nat.beq M 0)with
       |true=>
        simp only[cm]at hz0;have hMm:=m5 hz0.1;have hm0:M=0:=bS hz0.2;refine⟨.bQ,rfl,fun hf=> ?_,fun _=> .inr rfl⟩;rw[hz0.1,←hMm,hz0.2]at hf;simp at hf
       |false=>
        refine⟨_,rfl,fun _=> ?_,fun ht=> ?_⟩
        ·have hle:((xs.take hh).drop l).length=hh - l:=by simp;omega
         have hmul:hh*w'≤xs.length*w' :=o7 _ b2;have hsub:(hh - l)*w' =hh*w' - l*w' :=Nat.sub_mul _ _ _;have hlw:l*w'≤hh*w' :=o7 _ b1;refine .Cs hle.symm hz (fun r hr=>hl r (List.mem_of_mem_take (List.mem_of_mem_drop hr))) (by omega) (by rw[hle];omega) fun j a c ha hc=> ?_;rw[sO (fun r hr=>hl r (List.mem_of_mem_take hr)),s7 hl]at ha;rw[hle]at hc;have hlu:LU σ Z 0 xs.flatten ((row'.drop off).take (xs.length*w')):=⟨by rw[dB hl];simp;omega,hv⟩;exact(ng hlu hmul).2 j a c ha (by rw[←hsub];exact hc)
        ·simp only[cm]at ht;have:=m5 ht.1;rw[this,ht.1,ht.2]at hz0;simp at hz0
      |Cn hn hl hr hv=>
       rename_i off len row';subst hn;have h3:aF e (bT mx) xs.length xs.length=some m:=by
        rw[hopt];cases hq:mx.isSome with
        |true=>simp;omega
        |false=>simp[hm3 hq]
       have hev:cX e st (.slice w' x.er (bT lo) (bT hi) (bT mx))=(bif(bT mx).isSome&&Nat.beq m 0 then some .bQ else some (.aj row' (off+l*w') (hh - l) w')):=by
        simp only[cX,hx,h3,q2',q1,nX,cond_true]
       rw[hev,hmx];cases hz0:(mx.isSome&&Nat.beq m 0)with
       |true=>exact⟨.bQ,rfl,(fun hf=>by cases hf),fun _=> .inr rfl⟩
       |false=>
        refine⟨_,rfl,fun _=> ?_,fun ht=>by cases ht⟩;have hle:((xs.take hh).drop l).length=hh - l:=by simp;omega
        have hmul:hh*w'≤xs.length*w' :=o7 _ b2;have hsub:(hh - l)*w' =hh*w' - l*w' :=Nat.sub_mul _ _ _;have hlw:l*w'≤hh*w' :=o7 _ b1;refine .Cn hle.symm (fun r hr=>hl r (List.mem_of_mem_take (List.mem_of_mem_drop hr))) (by rw[hle];omega) fun j a c ha hc=> ?_;rw[sO (fun r hr=>hl r (List.mem_of_mem_take hr)),s7 hl]at ha;rw[hle]at hc;have hlu:LU σ Z 0 xs.flatten ((row'.drop off).take (xs.length*w')):=⟨by rw[dB hl];simp;omega,hv⟩;exact(ng hlu hmul).2 j a c ha (by rw[←hsub];exact hc)
     have hu0:UR σ Z s.h.length (.sl w' xs) v:=hu;cases mx with
     |none=>
      simp only[ay,aO]at hs;obtain⟨rfl,rfl⟩:=hs;obtain⟨y,y1,y2,_⟩:=part hu0 xs.length b2 (aM _) (fun k=>by simp[bT,aF]) (fun _=>rfl) (fun hh=>by simp at hh);exact⟨Z,ω,y,y1,h,TR.bz (y2 (by simp)),rfl,fun _ _ h=>h⟩
     |some mo=>
      simp only at hs;cases n3:cD s.e (some mo) xs.length xs.length with
      |none=>rw[n3]at hs;simp at hs
      |some m=>
       rw[n3]at hs;simp only at hs;have q3:=h.aF n3;have b3:m≤xs.length:=c7 (aM _) q3;cases hb2:Nat.beq m hh with
       |false=>rw[hb2]at hs;simp at hs
       |true=>
        have hmh:m=hh:=bS hb2;rw[hb2]at hs;simp only[cond_true]at hs;have hopt:∀ k,aF e (bT (some mo)) k k=if(some mo).isSome then(if m≤k then some m else none)else some k:=fun k=>by
         simp only[bT,aF]at q3⊢;cases hyv:mo.er.ev e with
         |none=>rw[hyv]at q3;simp at q3
         |some a=>
          rw[hyv]at q3;simp only at q3⊢;cases a<;>simp[asNat]at q3⊢;by_cases hk:m≤k
          ·rw[if_pos hk,if_pos (by omega)];simp;omega
          ·rw[if_neg hk,if_neg (by omega)]
        obtain⟨y,y1,y2,y3⟩:=part hu0 m (by omega) b3 hopt (fun hh=>by simp at hh) (fun _=>hmh.symm);cases hb0:Nat.beq m 0 with
        |true=>
         rw[hb0]at hs;simp only[cond_true,ay,aO]at hs;obtain⟨rfl,rfl⟩:=hs;obtain⟨ω',k1,k2,k3⟩:=h.FM d;exact⟨Z,ω',y,y1,k1,TR.empty k2 (y3 (by simp[hb0])),rfl,fun _ _ h=>h⟩
        |false=>
         rw[hb0]at hs;simp only[cond_false,ay,aO]at hs;obtain⟨rfl,rfl⟩:=hs;exact⟨Z,ω,y,y1,h,TR.bz (y2 (by simp[hb0])),rfl,fun _ _ h=>h⟩
 |own g w' xs=>
  simp only[kR]at hs;cases hb:Nat.beq w' w with
  |false=>rw[hb]at hs;simp at hs
  |true=>
   have hww:w' =w:=bS hb;subst hww;rw[hb]at hs;simp only[cond_true]at hs;cases mx with
   |none=>
    simp only at hs;cases n2:cD s.e hi xs.length xs.length with
    |none=>rw[n2]at hs;simp at hs
    |some hh=>
     rw[n2]at hs;simp only at hs;cases n1:cD s.e lo 0 hh with
     |none=>rw[n1]at hs;simp at hs
     |some l=>
      rw[n1]at hs;simp only[ay,aO]at hs;obtain⟨rfl,rfl⟩:=hs;have q2:=h.aF n2;have q1:=h.aF n1;have b1:l≤hh:=c7 (kN _) q1;have b2:hh≤xs.length:=c7 (aM _) q2;obtain⟨ω',v',k1,k2,k3⟩:=PJ (d:=d) h hu.1 b1 b2;refine⟨Z,ω',v',?_,k1,⟨k2,fun i off hh=>by cases hh⟩,by rw[dL,dL],fun _ _ h=>h⟩;have hor:=hu.1;unfold OR at hor;split at hor
      ·obtain⟨rfl,rfl|rfl⟩:=hor
       ·simp only at k3;subst k3;simp only[List.length_nil]at q2;have z1:hh=0:=by simpa using b2
        subst z1;have q3:aF e (bT none) 0 0=some 0:=rfl;simp only[cX,hx,q3,q2,q1]
       ·simp only at k3;subst k3;simp only[List.length_nil]at q2;have z1:hh=0:=by simpa using b2
        subst z1;have q3:aF e (bT none) 0 0=some 0:=rfl;simp only[cX,hx,q3,q2,q1]
      ·rename_i I hg;obtain⟨rfl,_⟩:=hor;simp only at k3;obtain⟨rfl,_,_,k4⟩:=k3;have q2' :aF e (bT hi) xs.length I.cap=some hh:=by
        cases hi with
        |none=>simpa[bT,aF]using q2
        |some y=>
         simp only[bT,aF]at q2⊢;cases hyv:y.er.ev e with
         |none=>rw[hyv]at q2;simp at q2
         |some a=>
          rw[hyv]at q2;simp only at q2⊢;cases a<;>simp[asNat]at q2⊢;omega
       have q3' :aF e (bT none) I.cap I.cap=some I.cap:=rfl;simp only[cX,hx,q3',q2',q1,nX,cond_true];simp[bT]
   |some mo=>
    simp only at hs;split at hs<;>simp only[ay,aO,reduceCtorEq]at hs;rename_i n2 n3 n1;obtain⟨rfl,rfl⟩:=hs;have q2:=h.aF n2;have q3:=h.aF n3;have q1:=h.aF n1;obtain⟨ω',k1,k2,k3⟩:=h.FM d;have hm0:∀ k,aF e (bT (some mo)) k k=some 0:=fun k=>by
     simp only[bT,aF]at q3⊢;cases hyv:mo.er.ev e with
     |none=>rw[hyv]at q3;simp at q3
     |some a=>
      rw[hyv]at q3;simp only at q3⊢;cases a<;>simp[asNat]at q3⊢;omega
    have hh0:aF e (bT hi) xs.length 0=some 0:=by
     cases hi with
     |none=>simpa[bT,aF]using q2
     |some y=>
      simp only[bT,aF]at q2⊢;cases hyv:y.er.ev e with
      |none=>rw[hyv]at q2;simp at q2
      |some a=>
       rw[hyv]at q2;simp only at q2⊢;cases a<;>simp[asNat]at q2⊢;omega
    have hor:=hu.1;unfold OR at hor;split at hor
    ·obtain⟨rfl,rfl|rfl⟩:=hor
     ·refine⟨Z,ω',.bu,?_,k1,TR.empty k2 (.inl rfl),rfl,fun _ _ h=>h⟩;simp only[List.length_nil]at hh0;simp only[cX,hx,hm0,hh0,q1]
     ·refine⟨Z,ω',.bQ,?_,k1,TR.empty k2 (.inr rfl),rfl,fun _ _ h=>h⟩;simp only[List.length_nil]at hh0;simp only[cX,hx,hm0,hh0,q1]
    ·rename_i I hg;obtain⟨rfl,_⟩:=hor;refine⟨Z,ω',.bQ,?_,k1,TR.empty k2 (.inr rfl),rfl,fun _ _ h=>h⟩;simp only[cX,hx,hm0,hh0,q1,nX,cond_true];rfl
 |_=>simp[kR]at hs
end
end Go.RE
namespace Go.RE
section
variable{E:vK}{σ:Sg}{Z:Zs}{ω:Om}{s s' :Vs}{e:PT V}{st:St}{n:Nat}
theorem Ok.nI(h:Ok E σ Z ω s e st):∀ {xs:List bB} {us:List U},jE s.e xs=some us→∃ vs,KQ e (nQ xs)=some vs∧us.length=vs.length∧∀ (j:Nat) u v,us[j]? =some u→vs[j]? =some v→TR σ Z ω s.h.length u v:=by
 intro xs
 induction xs with
 |nil=>intro us h;simp[jE]at h;subst h;exact⟨[],rfl,rfl,fun j u v h=>by simp at h⟩
 |cons x xs ih=>
  intro us hx;simp only[jE]at hx;cases hq:ck s.e x with
  |none=>rw[hq]at hx;simp at hx
  |some u=>
   rw[hq]at hx;simp only at hx;cases hr:jE s.e xs with
   |none=>rw[hr]at hx;simp at hx
   |some us' =>
    rw[hr]at hx;simp only[ay]at hx;subst hx;obtain⟨v,a1,a2⟩:=h.cO hq;obtain⟨vs,b1,b2,b3⟩:=ih hr;refine⟨v::vs,by simp only[nQ,KQ,a1,b1],by simp[b2],fun j p q hp hq=> ?_⟩;cases j with
    |zero=>simp at hp hq;subst hp;subst hq;exact a2
    |succ j=>simp at hp hq;exact b3 j p q hp hq
theorem OP{f:V→V→Option V}:∀ {us:List U} {vs:List V} {a r:U} {x:V},us.length=vs.length→(∀ (j:Nat) u v,us[j]? =some u→vs[j]? =some v→TR σ Z ω n u v)→TR σ Z ω n a x→oW (oZ f) a us=some r→
  ∃ y,xR f x vs=some y∧TR σ Z ω n r y:=by
 intro us
 induction us with
 |nil=>intro vs a r x hl _ ha h;simp[oW]at h;subst h;have:vs=[]:=pQ hl.symm;subst this;exact⟨x,rfl,ha⟩
 |cons u us ih=>
  intro vs a r x hl hr ha h;cases vs with
  |nil=>simp at hl
  |cons v vs=>
   simp only[oW]at h;cases hq:oZ f a u with
   |none=>rw[hq]at h;simp at h
   |some c=>
    rw[hq]at h;simp only at h;unfold oZ at hq;split at hq<;>try (simp at hq;done)
    rename_i p q e1 e2;obtain⟨y,y1,y2⟩:=EU (σ:=σ) (Z:=Z) (n:=n) hq;have hx:=r8 e1 ha;have hv:=r8 e2 (hr 0 u v rfl rfl);subst hx;subst hv;simp only[xR,y1];exact ih (by simpa using hl) (fun j p q hp hq=>hr (j+1) p q (by simpa using hp) (by simpa using hq)) (TR.bz y2) h
set_option maxHeartbeats 1000000 in
theorem ZW{k:Nat}:∀ {es:List (U×U×Nat)} {es' :List ME} {x:U×U×Nat},es.length=es'.length→(∀ (j:Nat) e e',es[j]? =some e→es'[j]? =some e'→UR σ Z n e.1 e'.key∧UR σ Z n e.2.1 e'.val∧e'.born=e.2.2)→
  es.find? (fun e=>Nat.beq e.2.2 k)=some x→∃ x',es'.find? (fun e=>Nat.beq e.born k)=some x'∧UR σ Z n x.1 x'.key∧UR σ Z n x.2.1 x'.val:=by
 intro es
 induction es with
 |nil=>intro es' x _ _ h;simp at h
 |cons e es ih=>
  intro es' x hl hr h;cases es' with
  |nil=>simp at hl
  |cons e' es' =>
   obtain⟨r1,r2,r3⟩:=hr 0 e e' rfl rfl;rw[List.find?_cons]at h⊢;rw[r3];cases hb:Nat.beq e.2.2 k with
   |true=>rw[hb]at h;simp at h;subst h;exact⟨e',rfl,r1,r2⟩
   |false=>
    rw[hb]at h;exact ih (by simpa using hl) (fun j a b ha hb=>hr (j+1) a b (by simpa using ha) (by simpa using hb)) h
theorem Xc(h:Ok E σ Z ω s e st){q:Nat}{u:U}(hu:mH s q=some u):∃ v,zf st (σ q)=some v∧UR σ Z s.h.length u v:=by
 unfold mH at hu;split at hu<;>try (simp at hu;done)
 rename_i m since seen last hq;split at hu<;>try (simp at hu;done)
 rename_i es clock k hm hk;obtain⟨hb,hu⟩:Nat.beq clock last=true∧_:=by
  cases hb:Nat.beq clock last with
  |false=>rw[hb]at hu;simp at hu
  |true=>rw[hb]at hu;exact⟨rfl,hu⟩
 simp only[cond_true]at hu;split at hu<;>simp only[ay,reduceCtorEq]at hu;rename_i x hx;subst hu;obtain⟨g1,g2⟩:=h.obj q _ hq;obtain⟨es',m1,m2,m3⟩:=h.obj m _ hm;obtain⟨x',f1,f2,f3⟩:=ZW m2 m3 hx;refine⟨.aP [x'.key,x'.val],?_,UR.aP rfl (LU.cons f2 (LU.cons f3 .nil)).2⟩;unfold zf;simp only[g1,Option.map_some,m1,hk,hb,cond_true,f1]
theorem Dw{d:Nat}{o:ga}{u:U}(h:fA d s o=some (u,s'))(hk:Ok E σ Z ω s e st):
  ∃ Z' ω' v,cX e st o.er=some v∧Ok E σ Z' ω' s' e st∧TR σ Z' ω' s'.h.length u v∧s'.h.length=s.h.length∧∀ b r,Z b=some r→Z' b=some r:=by
 have same:∀ {v},cX e st o.er=some v→TR σ Z ω s.h.length u v→s' =s→∃ Z' ω' v,cX e st o.er=some v∧Ok E σ Z' ω' s' e st∧TR σ Z' ω' s'.h.length u v∧s'.h.length=s.h.length∧∀ b r,Z b=some r→Z' b=some r:=
  fun {v} h1 h2 h3=>by subst h3;exact⟨Z,ω,v,h1,hk,h2,rfl,fun _ _ h=>h⟩
 cases o with
 |aJ x=>
  simp only[fA]at h;split at h
  ·rename_i w xs hx;simp only[ay,aO]at h;obtain⟨rfl,rfl⟩:=h;obtain⟨v,h1,h2⟩:=hk.cO hx;have h3:=h2.1;unfold OR at h3;rw[hk.wr]at h3;obtain⟨rfl,h4⟩:=h3;obtain⟨ω',k1,k2,_⟩:=hk.FM d;exact⟨Z,ω',v,h1,k1,TR.empty k2 h4,rfl,fun _ _ h=>h⟩
  ·rename_i u' hno hx;simp only[ay,aO]at h;obtain⟨rfl,rfl⟩:=h;obtain⟨v,h1,h2⟩:=hk.cO hx;exact same h1 h2 rfl
  ·simp at h
 |pick c a b=>
  simp only[fA]at h;split at h
  ·rename_i hc;split at h<;>simp only[ay,aO,reduceCtorEq]at h;rename_i hx;obtain⟨rfl,rfl⟩:=h;obtain⟨vc,c1,c2⟩:=hk.cO hc;obtain⟨v,h1,h2⟩:=hk.cO hx;obtain rfl:=TR.bool c2;exact same (by simp only[ga.er,cX,c1,h1]) h2 rfl
  ·rename_i hc;split at h<;>simp only[ay,aO,reduceCtorEq]at h;rename_i hx;obtain⟨rfl,rfl⟩:=h;obtain⟨vc,c1,c2⟩:=hk.cO hc;obtain⟨v,h1,h2⟩:=hk.cO hx;obtain rfl:=TR.bool c2;exact same (by simp only[ga.er,cX,c1,h1]) h2 rfl
  ·simp at h
 |load k x=>
  simp only[fA]at h;split at h
  ·rename_i i off hx;split at h<;>try (simp at h;done)
   rename_i cs hi;split at h<;>simp only[ay,aO,reduceCtorEq]at h;rename_i v0 hl;obtain⟨rfl,rfl⟩:=h;obtain⟨v,h1,h2⟩:=hk.cO hx;obtain⟨_,rfl⟩:=TR.ptr h2;obtain⟨cs',y,y1,y2,y3⟩:=Ba hk hi hl;exact same (by simp only[ga.er,cX,h1,y1,y2]) y3 rfl
  ·rename_i row off hx;split at h<;>simp only[ay,aO,reduceCtorEq]at h;rename_i v0 hl;obtain⟨rfl,rfl⟩:=h;obtain⟨v,h1,h2⟩:=hk.cO hx;have up:∀ {y},UR σ Z 0 v0 y→TR σ Z ω s.h.length v0 y:=fun hh=>TR.bz (hh.mono (kN _) (fun _ _=>rfl) (fun _ _ h=>h));cases h2 with
   |kn hz hr hv=>
    obtain⟨y,y1,y2⟩:=yW ⟨by simp;omega,hv⟩ hl;exact same (by simp only[ga.er,cX,h1,eN (hk.tL _ _ hz)];exact nS hr y1) (up y2) rfl
   |kq hr hv=>
    obtain⟨y,y1,y2⟩:=yW ⟨by simp;omega,hv⟩ hl;exact same (by simp only[ga.er,cX,h1];exact nS hr y1) (up y2) rfl
  ·rename_i g i f hx;split at h<;>try (simp at h;done)
   rename_i w xs hc;split at h<;>try (simp at h;done)
   rename_i r hr;split at h<;>simp only[ay,aO,reduceCtorEq]at h;rename_i v0 hl;obtain⟨rfl,rfl⟩:=h;obtain⟨v,h1,⟨I,hg,rfl⟩,_⟩:=hk.cO hx;obtain⟨vo,hor⟩:=Et hk hc;unfold OR at hor;rw[hg]at hor;obtain⟨rfl,e0,e1,e2,e3,e4⟩:=hor;obtain⟨f1,f2⟩:=Bh e3 hr;have hlen:r.length=w:=e3 r (List.mem_of_getElem? hr);have hlu:LU σ Z 0 r ((I.row.drop (I.off+i*w)).take w):=by
    have hle:i*w+w≤xs.length*w:=by rw[dB e3]at f1;exact f1
    have:=ng (i:=i*w) (k:=i*w+w) e4 hle;rw[s9,List.drop_take,s9]at this;rw[←f2];exact this
   have hle:i*w+w≤xs.length*w:=by rw[dB e3]at f1;exact f1
   have hcap:xs.length*w≤I.cap*w:=o7 _ e1;obtain⟨y,y1,y2⟩:=yW hlu hl;refine same (v:=y) ?_ (TR.bz (y2.mono (kN _) (fun _ _=>rfl) (fun _ _ h=>h))) rfl;simp only[ga.er,cX,h1,eN (hk.pW g I hg),e0.1];exact nS (by omega) y1
  ·simp at h
 |nilCheck x=>
  simp only[fA]at h;split at h<;>simp only[ay,aO,reduceCtorEq]at h
  all_goals
   rename_i hx;obtain⟨rfl,rfl⟩:=h;obtain⟨v,h1,h2⟩:=hk.cO hx;refine same (v:=v) ?_ h2 rfl;simp only[ga.er,cX,h1]
  ·obtain⟨_,rfl⟩:=TR.ptr h2;rfl
  ·cases h2<;>rfl
  ·obtain⟨⟨I,_,rfl⟩,_⟩:=h2;rfl
  ·obtain⟨a,b,rfl,_⟩:=TR.func h2;rfl
  ·obtain⟨a,rfl,_⟩:=TR.iface h2;rfl
 |bin op ek x y=>
  simp only[fA]at h;split at h<;>try (simp at h;done)
  rename_i a b ha hb;split at h<;>simp only[ay,aO,reduceCtorEq]at h;rename_i u' hr;obtain⟨rfl,rfl⟩:=h;obtain⟨va,a1,a2⟩:=hk.cO ha;obtain⟨vb,b1,b2⟩:=hk.cO hb;unfold iz at hr;split at hr
  ·obtain rfl:=TR.int a2;obtain rfl:=TR.int b2;obtain⟨r,r1,r2⟩:=EU (σ:=σ) (Z:=Z) (n:=s.h.length) hr;exact same (by simp only[ga.er,cX,a1,b1,r1]) (TR.bz r2) rfl
  ·obtain rfl:=TR.str a2;obtain rfl:=TR.str b2;obtain⟨r,r1,r2⟩:=EU (σ:=σ) (Z:=Z) (n:=s.h.length) hr;refine same (v:=r) ?_ (TR.bz r2) rfl;simp only[ga.er,cX,a1,b1];cases op<;>first|exact r1|(simp[mL]at r1)
  ·rename_i n1 n2;have key:∀ {c:Bool},Oe ek a b=some c→∀ neg:Bool,(op=.eql∧neg=false∨op=.neq∧neg=true)→cU op ek va vb=some (.bool (if neg then !c else c)):=by
    intro c hc neg hop;have hq:=qjq hc a2 b2;have hni:∀ k x j y,¬(va=.int k x∧vb=.int j y):=fun k x j y hh=>by
     obtain⟨rfl,rfl⟩:=hh;cases ek<;>simp[Ga]at hq
    have hns:∀ x y,¬(va=.str x∧vb=.str y):=fun x y hh=>by
     obtain⟨rfl,rfl⟩:=hh;cases ek<;>simp[Ga]at hq
    rcases hop with⟨rfl,rfl⟩|⟨rfl,rfl⟩
    all_goals
     unfold cU;split
     all_goals first
      |(exact absurd ⟨rfl,rfl⟩ (hni _ _ _ _))
      |(exact absurd ⟨rfl,rfl⟩ (hns _ _))
      |(rw[hq];rfl)
      |simp_all
   split at hr
   ·split at hr<;>simp only[ay,reduceCtorEq]at hr;rename_i c hc;subst hr;have:=key hc false (.inl ⟨rfl,rfl⟩);exact same (by simp only[ga.er,cX,a1,b1];exact this) (TR.bz (.bool _)) rfl
   ·split at hr<;>simp only[ay,reduceCtorEq]at hr;rename_i c hc;subst hr;have:=key hc true (.inr ⟨rfl,rfl⟩);exact same (by simp only[ga.er,cX,a1,b1];exact this) (TR.bz (.bool _)) rfl
   ·simp at hr
 |un op x=>
  simp only[fA]at h;split at h<;>try (simp at h;done)
  rename_i a ha;split at h<;>simp only[ay,aO,reduceCtorEq]at h;rename_i u' hr;obtain⟨rfl,rfl⟩:=h;obtain⟨va,a1,a2⟩:=hk.cO ha;unfold unU at hr;split at hr<;>try (simp at hr;done)
  rename_i p e1;obtain rfl:=r8 e1 a2;obtain⟨y,y1,y2⟩:=EU (σ:=σ) (Z:=Z) (n:=s.h.length) hr;exact same (by simp only[ga.er,cX,a1,y1]) (TR.bz y2) rfl
 |bI k x=>
  simp only[fA]at h;split at h<;>simp only[ay,aO,reduceCtorEq]at h;rename_i kk m hx;obtain⟨rfl,rfl⟩:=h;obtain⟨v,h1,h2⟩:=hk.cO hx;obtain rfl:=TR.int h2;exact same (by simp only[ga.er,cX,h1]) (TR.bz (.int _ _)) rfl
 |tF x=>
  simp only[fA]at h;split at h<;>simp only[ay,aO,reduceCtorEq]at h;rename_i b hx;obtain⟨rfl,rfl⟩:=h;obtain⟨v,h1,h2⟩:=hk.cO hx;obtain rfl:=TR.str h2;exact same (by simp only[ga.er,cX,h1]) (TR.bz (.str _)) rfl
 |toStr x=>
  simp only[fA]at h;split at h<;>try (simp at h;done)
  rename_i a ha;split at h<;>try (simp at h;done)
  rename_i xs hxs;split at h<;>simp only[ay,aO,reduceCtorEq]at h;rename_i bs hbs;obtain⟨rfl,rfl⟩:=h;obtain⟨v,h1,h2⟩:=hk.cO ha;obtain⟨cs,c1,c2,_⟩:=zZ hk hxs h2;exact same (by simp only[ga.er,cX,h1,c1,B9 hbs c2]) (TR.bz (.str _)) rfl
 |fm t x=>
  simp only[fA]at h;split at h<;>simp only[ay,aO,reduceCtorEq]at h;rename_i u' s1 hx;obtain⟨rfl,rfl⟩:=h;obtain⟨Z',ω',v,a1,a2,a3,a4,a5⟩:=hk.fC hx;exact⟨Z',ω',.iface t v,by simp only[ga.er,cX,a1],a2,by rw[a4];exact TR.bz (.iface a3),a4,a5⟩
 |lP f a b=>
  simp only[fA]at h;split at h<;>try (simp at h;done)
  rename_i us s1 hx;split at h<;>simp only[ay,aO,reduceCtorEq]at h;rename_i ws s2 hy;obtain⟨rfl,rfl⟩:=h;obtain⟨Z1,ω1,v1,a1,a2,a3,a4,a5⟩:=hk.fX hx;obtain⟨Z2,ω2,v2,b1,b2,b3,b4,b5⟩:=a2.fX hy;have a3' :=a3.mono (aM _) (σ' :=σ) (fun _ _=>rfl) b5;rw[a4]at b3;exact⟨Z2,ω2,.func f v1 v2,by simp only[ga.er,cX,a1,b1],b2,by rw[b4,a4];exact TR.bz (.func a3'.1 b3.1 a3'.2 b3.2),by omega,fun b r hb=>b5 b r (a5 b r hb)⟩
 |build z p=>
  simp only[fA]at h;cases hz:(V.cY z).all U.aL with
  |false=>rw[hz]at h;simp at h
  |true=>
   rw[hz]at h;simp only[cond_true]at h;split at h<;>simp only[ay,aO,reduceCtorEq]at h;rename_i cs s1 hf;obtain⟨rfl,rfl⟩:=h;obtain⟨Z1,ω1,ws,a1,a2,a3,a4,a5⟩:=hk.fill (kF z hz) hf;exact⟨Z1,ω1,.agg ws,by simp only[ga.er,cX,a1],a2,by rw[a4];exact TR.bz (.agg a3.1 a3.2),a4,a5⟩
 |jJ x lo hi=>
  simp only[fA]at h;split at h<;>try (simp at h;done)
  rename_i b hx;split at h<;>try (simp at h;done)
  rename_i hh n2;split at h<;>simp only[ay,aO,reduceCtorEq]at h;rename_i l n1;obtain⟨rfl,rfl⟩:=h;obtain⟨v,h1,h2⟩:=hk.cO hx;obtain rfl:=TR.str h2;exact same (by simp only[ga.er,cX,h1,hk.aF n2,hk.aF n1]) (TR.bz (.str _)) rfl
 |slice w x lo hi mx=>
  simp only[fA]at h;split at h<;>try (simp at h;done)
  rename_i a ha;obtain⟨v,h1,h2⟩:=hk.cO ha;exact HC hk h1 h2 h
 |ir len w x lo hi=>
  simp only[fA]at h;split at h<;>try (simp at h;done)
  rename_i i off hx;split at h<;>try (simp at h;done)
  rename_i hh n2;split at h<;>try (simp at h;done)
  rename_i l n1;split at h<;>try (simp at h;done)
  rename_i cs hi';cases hb:Nat.ble (off+len*w) cs.length with
  |false=>rw[hb]at h;simp at h
  |true=>
   rw[hb]at h;simp only[cond_true,ay,aO]at h;obtain⟨rfl,rfl⟩:=h;obtain⟨v,h1,h2⟩:=hk.cO hx;obtain⟨hlt,rfl⟩:=TR.ptr h2;obtain⟨cs',g1,g2,g3⟩:=hk.obj i _ hi';have q2:=hk.aF n2;have q1:=hk.aF n1;have b2:hh≤len:=c7 (aM _) q2;rw[g2]at hb;refine same (v:=.slice (σ i) (off+l*w) (hh - l) (len - l) w true) ?_ ⟨hlt,_,by omega,rfl⟩ rfl;simp only[ga.er,cX,h1,q2,q1,eN g1,hb,cond_true]
 |fieldAddr off x=>
  simp only[fA]at h;split at h<;>simp only[ay,aO,reduceCtorEq]at h
  ·rename_i i o hx;obtain⟨rfl,rfl⟩:=h;obtain⟨v,h1,h2⟩:=hk.cO hx;obtain⟨hlt,rfl⟩:=TR.ptr h2;exact same (by simp only[ga.er,cX,h1]) (TR.bz (.ptr hlt)) rfl
  ·rename_i row o hx;obtain⟨rfl,rfl⟩:=h;obtain⟨v,h1,h2⟩:=hk.cO hx;cases h2 with
   |kn hz hr hv=>exact same (by simp only[ga.er,cX,h1,Nat.add_assoc]) (TR.bz (.kn hz hr hv)) rfl
   |kq hr hv=>exact same (by simp only[ga.er,cX,h1,Nat.add_assoc]) (TR.bz (.kq hr hv)) rfl
  ·rename_i g i o hx;obtain⟨rfl,rfl⟩:=h;obtain⟨v,h1,⟨I,hg,rfl⟩,h3⟩:=hk.cO hx;exact same (by simp only[ga.er,cX,h1];rfl) ⟨⟨I,hg,by rw[Nat.add_assoc]⟩,h3⟩ rfl
 |field off k x=>
  simp only[fA]at h;split at h<;>try (simp at h;done)
  rename_i cs hx;split at h<;>simp only[ay,aO,reduceCtorEq]at h;rename_i v0 hl;obtain⟨rfl,rfl⟩:=h;obtain⟨v,h1,h2⟩:=hk.cO hx;obtain⟨cs',rfl,h3⟩:=TR.agg h2;obtain⟨y,y1,y2⟩:=yW h3 hl;exact same (by simp only[ga.er,cX,h1,y1]) (TR.bz y2) rfl
 |indexAddr w x i=>
  simp only[fA]at h;split at h
  ·rename_i w' xs k m hx hi;split at h<;>try (simp at h;done)
   rename_i hm;split at h<;>try (simp at h;done)
   rename_i r hr;cases hb:Nat.beq w' w with
   |false=>rw[hb]at h;simp at h
   |true=>
    have hww:w' =w:=bS hb;subst hww;rw[hb]at h;simp only[cond_true,ay,aO]at h;obtain⟨rfl,rfl⟩:=h;obtain⟨v,h1,h2⟩:=hk.cO hx;obtain⟨vi,i1,i2⟩:=hk.cO hi;obtain rfl:=TR.int i2;have hlt:m.toNat<xs.length:=(cz.1 hr).1;have hlt' :m<(xs.length:Int):=by omega
    have hmem:=List.mem_of_getElem? hr;cases h2 with
    |slnil=>simp at hlt
    |zW=>simp at hlt
    |Cs hn hz hl hcap hro hv=>
     subst hn;obtain⟨f1,f2⟩:=Bh hl hr;have hle:m.toNat*w'+w'≤xs.length*w' :=by rw[dB hl]at f1;exact f1
     refine same (by simp only[ga.er,cX,h1,i1,hm,hlt',and_self,if_true,nX,cond_true];rfl) (TR.bz (.kn (o:=_) (off:=0) hz ?_ ?_)) rfl
     ·rw[hl r hmem];show(_+m.toNat*w')+w'≤_;omega
     ·rw[hl r hmem];intro j u v hu hv';rw[←f2]at hu;rename_i off _ _ row';have hlu:LU σ Z 0 xs.flatten ((row'.drop off).take (xs.length*w')):=⟨by rw[dB hl];simp;omega,hv⟩;have:=ng (i:=m.toNat*w') (k:=m.toNat*w'+w') hlu hle;rw[s9,List.drop_take,s9]at this;exact this.2 j u v hu hv'
    |Cn hn hl hro hv=>
     subst hn;obtain⟨f1,f2⟩:=Bh hl hr;have hle:m.toNat*w'+w'≤xs.length*w' :=by rw[dB hl]at f1;exact f1
     refine same (by simp only[ga.er,cX,h1,i1,hm,hlt',and_self,if_true,nX,cond_true];rfl) (TR.bz (.kq (o:=_) (off:=0) ?_ ?_)) rfl
     ·rw[hl r hmem];show(_+m.toNat*w')+w'≤_;omega
     ·rw[hl r hmem];intro j u v hu hv';rw[←f2]at hu;rename_i off row';have hlu:LU σ Z 0 xs.flatten ((row'.drop off).take (xs.length*w')):=⟨by rw[dB hl];simp;omega,hv⟩;have:=ng (i:=m.toNat*w') (k:=m.toNat*w'+w') hlu hle;rw[s9,List.drop_take,s9]at this;exact this.2 j u v hu hv'
  ·rename_i g w' xs k m hx hi;split at h<;>try (simp at h;done)
   rename_i hm;cases hb:Nat.beq w' w with
   |false=>rw[hb]at h;simp at h
   |true=>
    have hww:w' =w:=bS hb;subst hww;rw[hb]at h;simp only[cond_true,ay,aO]at h;obtain⟨rfl,rfl⟩:=h;obtain⟨v,h1,h2,h2c⟩:=hk.cO hx;obtain⟨vi,i1,i2⟩:=hk.cO hi;obtain rfl:=TR.int i2;unfold OR at h2;split at h2
    ·obtain⟨rfl,_⟩:=h2;exfalso;have:=hm.2;simp at this;omega
    ·rename_i I hg;obtain⟨rfl,e0,_⟩:=h2;exact same (by simp only[ga.er,cX,h1,i1,hm,and_self,if_true,nX,cond_true];rfl) ⟨⟨I,hg,by rw[e0.1];rfl⟩,h2c⟩ rfl
  ·rename_i j off len w' k m hx hi;split at h<;>try (simp at h;done)
   rename_i hm;cases hb:Nat.beq w' w with
   |false=>rw[hb]at h;simp at h
   |true=>
    have hww:w' =w:=bS hb;subst hww;rw[hb]at h;simp only[cond_true,ay,aO]at h;obtain⟨rfl,rfl⟩:=h;obtain⟨v,h1,hlt,cap,_,rfl⟩:=hk.cO hx;obtain⟨vi,i1,i2⟩:=hk.cO hi;obtain rfl:=TR.int i2;exact same (by simp only[ga.er,cX,h1,i1,hm,and_self,if_true,nX,cond_true]) (TR.bz (.ptr hlt)) rfl
  ·simp at h
 |kM len w x i=>
  simp only[fA]at h;split at h
  ·rename_i j off k m hx hi;split at h<;>simp only[ay,aO,reduceCtorEq]at h;rename_i hm;obtain⟨rfl,rfl⟩:=h;obtain⟨v,h1,h2⟩:=hk.cO hx;obtain⟨hlt,rfl⟩:=TR.ptr h2;obtain⟨vi,i1,i2⟩:=hk.cO hi;obtain rfl:=TR.int i2;exact same (by simp only[ga.er,cX,h1,i1,hm,and_self,if_true]) (TR.bz (.ptr hlt)) rfl
  ·rename_i row off k m hx hi;split at h<;>simp only[ay,aO,reduceCtorEq]at h;rename_i hm;obtain⟨rfl,rfl⟩:=h;obtain⟨v,h1,h2⟩:=hk.cO hx;obtain⟨vi,i1,i2⟩:=hk.cO hi;obtain rfl:=TR.int i2;cases h2 with
   |kn hz hr hv=>exact same (by simp only[ga.er,cX,h1,i1,hm,and_self,if_true,Nat.add_assoc]) (TR.bz (.kn hz hr hv)) rfl
   |kq hr hv=>exact same (by simp only[ga.er,cX,h1,i1,hm,and_self,if_true,Nat.add_assoc]) (TR.bz (.kq hr hv)) rfl
  ·simp at h
 |index x i=>
  simp only[fA]at h;split at h<;>try (simp at h;done)
  rename_i b k m hx hi;split at h<;>try (simp at h;done)
  rename_i hm;split at h<;>simp only[ay,aO,reduceCtorEq]at h;rename_i c hc;obtain⟨rfl,rfl⟩:=h;obtain⟨v,h1,h2⟩:=hk.cO hx;obtain rfl:=TR.str h2;obtain⟨vi,i1,i2⟩:=hk.cO hi;obtain rfl:=TR.int i2;exact same (by simp only[ga.er,cX,h1,i1,hm,if_true,hc]) (TR.bz (.int _ _)) rfl
 |lookup kk z ok x i=>
  simp only[fA]at h;split at h<;>try (simp at h;done)
  rename_i z0 m k hz hm hkk;split at h<;>simp only[ay,aO,reduceCtorEq]at h;rename_i v0 hl;obtain⟨rfl,rfl⟩:=h;obtain⟨vm,m1,m2⟩:=hk.cO hm;obtain⟨vk,k1,k2⟩:=hk.cO hkk;obtain⟨y,y1,y2⟩:=Pf hk (LM hz) m2 k2 hl;exact same (by simp only[ga.er,cX,m1,k1,y1]) (TR.bz y2) rfl
 |extract i x=>
  simp only[fA]at h;split at h<;>try (simp at h;done)
  rename_i vs hx;split at h<;>simp only[ay,aO,reduceCtorEq]at h;rename_i v0 hv;obtain⟨rfl,rfl⟩:=h;obtain⟨v,h1,h2⟩:=hk.cO hx;obtain⟨vs',rfl,h3⟩:=TR.aP h2;obtain⟨y,y1,y2⟩:=h3.get hv;exact same (by simp only[ga.er,cX,h1,y1]) (TR.bz y2) rfl
 |len k x=>
  simp only[fA]at h;split at h<;>try (simp at h;done)
  rename_i a ha;split at h<;>simp only[ay,aO,reduceCtorEq]at h;rename_i m hl;obtain⟨rfl,rfl⟩:=h;obtain⟨v,h1,h2⟩:=hk.cO ha;have hlen:ov st k v=some m:=by
   unfold ZY at hl;split at hl
   ·obtain rfl:=TR.str h2;exact hl
   ·rename_i w xs;cases hb:Nat.beq k 1 with
    |false=>rw[hb]at hl;simp at hl
    |true=>
     rw[hb]at hl;simp at hl;subst hl;cases h2 with
     |slnil=>simp[ov,hb]
     |zW=>simp[ov,hb]
     |Cs hn=>simp[ov,hb,hn]
     |Cn hn=>simp[ov,hb,hn]
   ·rename_i w;cases hb:Nat.beq k 1 with
    |false=>rw[hb]at hl;simp at hl
    |true=>
     rw[hb]at hl;simp at hl;subst hl;have h2:UR σ Z s.h.length (.nl w) v:=h2;cases h2 with
     |Ge=>simp[ov,hb]
     |Ho=>simp[ov,hb]
   ·rename_i g w xs;cases hb:Nat.beq k 1 with
    |false=>rw[hb]at hl;simp at hl
    |true=>
     rw[hb]at hl;simp at hl;subst hl;obtain⟨h2,_⟩:=h2;unfold OR at h2;split at h2
     ·obtain⟨rfl,rfl|rfl⟩:=h2<;>simp[ov,hb]
     ·obtain⟨rfl,_⟩:=h2;simp[ov,hb]
   ·rename_i i o len w;cases hb:Nat.beq k 1 with
    |false=>rw[hb]at hl;simp at hl
    |true=>
     rw[hb]at hl;simp at hl;subst hl;obtain⟨_,cap,_,rfl⟩:=h2;simp[ov,hb]
   ·obtain rfl:=TR.bK h2;exact hl
   ·rename_i i;obtain⟨hlt,rfl⟩:=TR.map h2;cases hb:Nat.beq k 2 with
    |false=>rw[hb]at hl;simp at hl
    |true=>
     rw[hb]at hl;simp only[cond_true]at hl;split at hl<;>simp only[ay,reduceCtorEq]at hl;rename_i es c hes;obtain⟨es',g1,g2,g3⟩:=yY hk hes;simp[ov,hb,g1,←g2,hl]
   ·simp at hl
  exact same (by simp only[ga.er,cX,h1,hlen]) (TR.bz (.int _ _)) rfl
 |cap x=>simp[fA]at h
 |entry x=>
  simp only[fA]at h;split at h<;>try (simp at h;done)
  rename_i q hx;split at h<;>simp only[ay,aO,reduceCtorEq]at h;rename_i v0 hv0;obtain⟨rfl,rfl⟩:=h;obtain⟨vx,x1,x2⟩:=hk.cO hx;obtain⟨hlt,rfl⟩:=TR.ptr x2;obtain⟨v,k1,k2⟩:=Xc hk hv0;exact same (v:=v) (by simp only[ga.er,cX,x1];exact k1) (TR.bz k2) rfl
 |max xs=>
  simp only[fA]at h;split at h<;>try (simp at h;done)
  rename_i a us hx;split at h<;>simp only[ay,aO,reduceCtorEq]at h;rename_i v0 hf;obtain⟨rfl,rfl⟩:=h;obtain⟨vs,h1,h2,h3⟩:=hk.nI hx;cases vs with
  |nil=>simp at h2
  |cons x vs=>
   obtain⟨y,y1,y2⟩:=OP (us:=us) (vs:=vs) (by simpa using h2) (fun j p q hp hq=>h3 (j+1) p q (by simpa using hp) (by simpa using hq)) (h3 0 a x rfl rfl) hf;exact same (by simp only[ga.er,cX,h1,y1]) y2 rfl
 |min xs=>
  simp only[fA]at h;split at h<;>try (simp at h;done)
  rename_i a us hx;split at h<;>simp only[ay,aO,reduceCtorEq]at h;rename_i v0 hf;obtain⟨rfl,rfl⟩:=h;obtain⟨vs,h1,h2,h3⟩:=hk.nI hx;cases vs with
  |nil=>simp at h2
  |cons x vs=>
   obtain⟨y,y1,y2⟩:=OP (us:=us) (vs:=vs) (by simpa using h2) (fun j p q hp hq=>h3 (j+1) p q (by simpa using hp) (by simpa using hq)) (h3 0 a x rfl rfl) hf;exact same (by simp only[ga.er,cX,h1,y1]) y2 rfl
 |oz t z x=>
  simp only[fA]at h;split at h
  ·rename_i z0 hz hx;simp only[ay,aO]at h;obtain⟨rfl,rfl⟩:=h;obtain⟨v,h1,h2⟩:=hk.cO hx;obtain rfl:=TR.aK h2;exact same (by simp only[ga.er,cX,h1]) (TR.bz (.aP rfl (LU.cons (LM hz) (LU.cons (.bool _) .nil)).2)) rfl
  ·rename_i z0 u1 v1 hz hx;simp only[ay,aO]at h;obtain⟨rfl,rfl⟩:=h;obtain⟨v,h1,h2⟩:=hk.cO hx;obtain⟨v',rfl,h3⟩:=TR.iface h2;refine same (by simp only[ga.er,cX,h1];rfl) ?_ rfl;by_cases hq:u1=t
   ·rw[if_pos hq,if_pos hq];exact TR.bz (.aP rfl (LU.cons h3 (LU.cons (.bool _) .nil)).2)
   ·rw[if_neg hq,if_neg hq];exact TR.bz (.aP rfl (LU.cons (LM hz) (LU.cons (.bool _) .nil)).2)
  ·simp at h
end
end Go.RE
namespace Go.RE
section
variable{E:vK}{σ:Sg}{Z:Zs}{ω:Om}{s s' :Vs}{e:PT V}{st:St}{n:Nat}
theorem Ok.lt_next(h:Ok E σ Z ω s e st){b:Nat}{o:Ob}(hb:st.get b=some o):b<st.next:=by
 refine Nat.lt_of_not_le fun hle=> ?_;rw[h.fresh b hle]at hb;cases hb
theorem Ok.mem(h:Ok E σ Z ω s e st){st' :St}(hn:st.next≤st'.next)(hf:∀ b,st'.next≤b→st'.get b=none)
  (hg:∀ b,((∃ i,i<s.h.length∧σ i=b)∨(∃ r,Z b=some r)∨(∃ g I,ω g=some I∧I.b=b)∨(b<E.st.next∧¬E.I b))→st'.get b=st.get b):Ok E σ Z ω s e st' :=by
 refine⟨h.env,fun i o ho=> ?_,fun b r hb=> ?_,fun g I hI=> ?_,hf,h.inj,h.jA,h.sw,h.sz,h.wz,fun i hi=>o4 (h.sb i hi) hn,h.wr,h.wc,h.n0,h.sig,h.zz,Nat.le_trans h.nx hn,fun b hb hbI=> ?_,fun i hi=> ?_⟩
 ·rw[hg _ (.inl ⟨i,(cz.1 ho).1,rfl⟩)];exact h.obj i o ho
 ·rw[hg b (.inr (.inl ⟨r,hb⟩))];exact h.tL b r hb
 ·rw[hg _ (.inr (.inr (.inl ⟨g,I,hI,rfl⟩)))];exact h.pW g I hI
 ·obtain⟨k1,k2,k3,k4⟩:=h.out b hb hbI;exact⟨by rw[hg b (.inr (.inr (.inr ⟨hb,hbI⟩))),k1],k2,k3,k4⟩
 ·obtain⟨k1,k2,k3⟩:=h.gn i hi;exact⟨k1,k2,by rw[hg _ (.inl ⟨i,(cz.1 k2).1,rfl⟩)];exact k3⟩
theorem Ok.MO(h:Ok E σ Z ω s e st){b:Nat}(hb:(∃ i,i<s.h.length∧σ i=b)∨(∃ r,Z b=some r)∨(∃ g I,ω g=some I∧I.b=b)∨(b<E.st.next∧¬E.I b)):b<st.next:=by
 rcases hb with⟨i,hi,rfl⟩|⟨r,hr⟩|⟨g,I,hI,rfl⟩|⟨hb,_⟩
 ·exact h.sb i hi
 ·exact h.lt_next (h.tL b r hr)
 ·exact h.lt_next (h.pW g I hI)
 ·exact o4 hb h.nx
theorem Ok.alloc(h:Ok E σ Z ω s e st)(o:Ob):Ok E σ Z ω s e (st.alloc o):=by
 refine h.mem (by simp) (fun b hb=> ?_) fun b hb=> ?_
 ·rw[St.dG,if_neg (by simp at hb;omega)];exact h.fresh b (by simp at hb;omega)
 ·have:=h.MO hb;rw[St.dG,if_neg (by omega)]
theorem Ok.Nl(h:Ok E σ Z ω s e st){b:Nat}(hb:b<st.next)(h1:∀ i,i<s.h.length→σ i≠b)(h2:Z b=none)(h3:∀ g I,ω g=some I→I.b≠b)(h4:b<E.st.next→E.I b)(o:Ob):Ok E σ Z ω s e (st.put b o):=by
 refine h.mem (by simp) (fun c hc=> ?_) fun c hc=> ?_
 ·have:(st.put b o).next=st.next:=rfl
  rw[this]at hc;rw[St.eE,if_neg (by omega)];exact h.fresh c hc
 ·rw[St.eE,if_neg];rintro rfl;rcases hc with⟨i,hi,hq⟩|⟨r,hr⟩|⟨g,I,hI,hq⟩|⟨hc,hq⟩
  ·exact h1 i hi hq
  ·rw[h2]at hr;cases hr
  ·exact h3 g I hI hq
  ·exact hq (h4 hc)
theorem Ok.ou(h:Ok E σ Z ω s e st){o:Uo}{ob:Ob}(ho:OB (dM σ s.h.length st.next) Z ω (s.h.length+1) s.h.length o (some ob)):
  Ok E (dM σ s.h.length st.next) Z ω {s with h:=s.h++[o]} e (st.alloc ob)∧∀ i,i<s.h.length→dM σ s.h.length st.next i=σ i:=by
 have ha:=h.alloc ob;have hσ:∀ i,i<s.h.length→dM σ s.h.length st.next i=σ i:=fun i hi=>dF _ _ (by omega)
 have hσn:dM σ s.h.length st.next s.h.length=st.next:=bw _ _ _
 have hlen:(s.h++[o]).length=s.h.length+1:=by simp
 have hcase:∀ i,i<s.h.length+1→i<s.h.length∨i=s.h.length:=fun i hi=>by omega
 have hzn:Z st.next=none:=by
  cases hz:Z st.next with
  |none=>rfl
  |some r=>have:=h.lt_next (h.tL _ _ hz);omega
 have hwn:∀ g I,ω g=some I→I.b≠st.next:=fun g I hI hh=>by have:=h.lt_next (h.pW g I hI);omega
 refine⟨⟨fun t u hu=> ?_,fun i x hx=> ?_,ha.tL,ha.pW,ha.fresh,fun i j hi hj hij=> ?_,h.jA,fun i g I hi hI=> ?_,fun i hi=> ?_,h.wz,fun i hi=> ?_,h.wr,fun i off I hI=> ?_,?_,fun i hi=> ?_,h.zz,ha.nx,fun b hb hbI=> ?_,fun i hi=> ?_⟩,hσ⟩
 ·obtain⟨v,h1,h2⟩:=h.env t u hu;exact⟨v,h1,h2.mono (by simp) hσ (fun _ _ h=>h) (fun _ _=>rfl)⟩
 ·simp only[hlen];rcases Nat.lt_or_ge i s.h.length with hi|hi
  ·simp only[gD hi]at hx;rw[hσ i hi,St.dG,if_neg (by have:=h.sb i hi;omega)];exact(h.obj i x hx).mono (by omega) hσ (fun _ _ h=>h) (fun _=>rfl)
  ·simp only[gf hi]at hx;have:i=s.h.length:=by
    have:=(cz.1 hx).1;simp at this;omega
   subst this;simp at hx;subst hx;rw[hσn,St.dG,if_pos rfl];exact ho
 ·simp only[hlen]at hi hj;rcases hcase i hi with hi' |rfl<;>rcases hcase j hj with hj' |rfl
  ·rw[hσ i hi',hσ j hj']at hij;exact h.inj i j hi' hj' hij
  ·rw[hσ i hi',hσn]at hij;have:=h.sb i hi';omega
  ·rw[hσ j hj',hσn]at hij;have:=h.sb j hj';omega
  ·rfl
 ·simp only[hlen]at hi;rcases hcase i hi with hi' |rfl
  ·rw[hσ i hi'];exact h.sw i g I hi' hI
  ·rw[hσn];exact fun hh=>hwn g I hI hh.symm
 ·simp only[hlen]at hi;rcases hcase i hi with hi' |rfl
  ·rw[hσ i hi'];exact h.sz i hi'
  ·rw[hσn];exact hzn
 ·simp only[hlen]at hi;rcases hcase i hi with hi' |rfl
  ·rw[hσ i hi'];have:=h.sb i hi';simp;omega
  ·rw[hσn];simp
 ·simp only[hlen];have:=h.wc i off I hI;omega
 ·simp only[hlen];have:=h.n0;omega
 ·rw[hσ i (by have:=h.n0;omega)];exact h.sig i hi
 ·obtain⟨k1,k2,k3,k4⟩:=ha.out b hb hbI;refine⟨k1,fun i hi=> ?_,k3,k4⟩;simp only[hlen]at hi;rcases hcase i hi with hi' |rfl
  ·rw[hσ i hi'];exact k2 i hi'
  ·rw[hσn];have:=h.nx;omega
 ·obtain⟨k1,k2,k3⟩:=ha.gn i hi;have hlt:=(cz.1 k2).1;exact⟨k1,by simp only[gD hlt];exact k2,by rw[hσ i hlt];exact k3⟩
theorem Ok.BG(h:Ok E σ Z ω s e st){i:Nat}{o:Uo}{ob:Ob}(hi:i<s.h.length)(hng:s.h[i]?≠some .gone)(ho:OB σ Z ω s.h.length i o (some ob)):Ok E σ Z ω {s with h:=s.h.set i o} e (st.put (σ i) ob):=by
 have hl:(s.h.set i o).length=s.h.length:=List.length_set;have hsb:=h.sb i hi;have hne:∀ b,b≠σ i→(st.put (σ i) ob).get b=st.get b:=fun b hb=>by rw[St.eE,if_neg hb]
 have hgn:∀ j,E.G j→j<E.n∧(s.h.set i o)[j]? =some .gone∧(st.put (σ i) ob).get (σ j)=E.st.get (E.σ j):=fun j hj=>by
  obtain⟨q1,q2,q3⟩:=h.gn j hj;have hij:i≠j:=by rintro rfl;exact hng q2
  exact⟨q1,by rw[gZ,if_neg hij];exact q2,by rw[hne _ (fun hh=>hij (h.inj _ _ (cz.1 q2).1 hi hh).symm)];exact q3⟩
 refine⟨fun t u hu=>by rw[hl];exact h.env t u hu,fun j x hx=> ?_,fun b r hb=> ?_,fun g I hI=> ?_,fun b hb=> ?_,by rw[hl];exact h.inj,h.jA,by rw[hl];exact h.sw,by rw[hl];exact h.sz,h.wz,by rw[hl];exact h.sb,h.wr,by rw[hl];exact h.wc,by rw[hl];exact h.n0,h.sig,h.zz,h.nx,fun b hb hbI=> ?_,hgn⟩
 ·rw[hl];rw[gZ]at hx;by_cases hj:i=j
  ·subst hj;rw[if_pos rfl,if_pos hi]at hx;simp at hx;subst hx;rw[St.eE,if_pos rfl];exact ho
  ·rw[if_neg hj]at hx;have hj' :=(cz.1 hx).1;rw[hne _ (fun hh=>hj (h.inj _ _ hj' hi hh).symm)];exact h.obj j x hx
 ·rw[hne b (fun hh=>by rw[hh,h.sz i hi]at hb;cases hb)];exact h.tL b r hb
 ·rw[hne _ (fun hh=>h.sw i g I hi hI hh.symm)];exact h.pW g I hI
 ·have:(st.put (σ i) ob).next=st.next:=rfl
  rw[this]at hb;rw[hne b (by omega)];exact h.fresh b hb
 ·rw[hl];obtain⟨k1,k2,k3,k4⟩:=h.out b hb hbI;exact⟨by rw[hne b (fun hh=>k2 i hi hh.symm),k1],k2,k3,k4⟩
theorem Ok.qbK(h:Ok E σ Z ω s e st){i:Nat}{o:Uo}(hi:i<s.h.length)(hng:s.h[i]?≠some .gone)(ho:OB σ Z ω s.h.length i o (st.get (σ i))):Ok E σ Z ω {s with h:=s.h.set i o} e st:=by
 have hl:(s.h.set i o).length=s.h.length:=List.length_set;have hgn:∀ j,E.G j→j<E.n∧(s.h.set i o)[j]? =some .gone∧st.get (σ j)=E.st.get (E.σ j):=fun j hj=>by
  obtain⟨q1,q2,q3⟩:=h.gn j hj;have hij:i≠j:=by rintro rfl;exact hng q2
  exact⟨q1,by rw[gZ,if_neg hij];exact q2,q3⟩
 refine⟨fun t u hu=>by rw[hl];exact h.env t u hu,fun j x hx=> ?_,h.tL,h.pW,h.fresh,by rw[hl];exact h.inj,h.jA,by rw[hl];exact h.sw,by rw[hl];exact h.sz,h.wz,by rw[hl];exact h.sb,h.wr,by rw[hl];exact h.wc,by rw[hl];exact h.n0,h.sig,h.zz,h.nx,by rw[hl];exact h.out,hgn⟩;rw[hl];rw[gZ]at hx;by_cases hj:i=j
 ·subst hj;rw[if_pos rfl,if_pos hi]at hx;simp at hx;subst hx;exact ho
 ·rw[if_neg hj]at hx;exact h.obj j x hx
theorem Ok.jH(h:Ok E σ Z ω s e st){g g2:Tg}(hn:pU g2 s)(hg:∀ i off,g≠.c i off)(hg2:g2≠.r)(hc:∀ i off,g2=.c i off→i<s.h.length):
  Ok E σ Z (dM (dM ω g none) g2 (ω g)) {s with e:=Env.jH g g2 s.e} e st∧∀ w xs v,OR σ Z ω g w xs v→OR σ Z (dM (dM ω g none) g2 (ω g)) g2 w xs v:=by
 have hor:∀ w xs v,OR σ Z ω g w xs v→OR σ Z (dM (dM ω g none) g2 (ω g)) g2 w xs v:=fun w xs v hv=>by
  unfold OR at hv⊢;rw[bw];exact hv
 by_cases hgg:g=g2
 ·-- nothing turns
  subst hgg;have e1:dM (dM ω g none) g (ω g)=ω:=by
   funext x;by_cases hx:x=g
   ·subst hx;rw[bw]
   ·rw[dF _ _ hx,dF _ _ hx]
  rw[e1];refine⟨h.setEnv fun t u hu=> ?_,by rw[e1]at hor;exact hor⟩;rw[Al]at hu;cases hl:look s.e t with
  |none=>rw[hl]at hu;simp at hu
  |some x=>
   rw[hl]at hu;simp at hu;obtain⟨v,h1,h2⟩:=h.env t x hl;refine⟨v,h1,?_⟩;have:u=x:=by
    rw[←hu];cases x<;>simp[U.jH]
    all_goals (intro hh;exact hh.symm)
   rw[this];exact h2
 have hcase:∀ x I,dM (dM ω g none) g2 (ω g) x=some I→(x=g2∧ω g=some I)∨(x≠g2∧x≠g∧ω x=some I):=fun x I hI=>by
  by_cases hx:x=g2
  ·subst hx;rw[bw]at hI;exact .inl ⟨rfl,hI⟩
  ·rw[dF _ _ hx]at hI;by_cases hx2:x=g
   ·subst hx2;rw[bw]at hI;cases hI
   ·rw[dF _ _ hx2]at hI;exact .inr ⟨hx,hx2,hI⟩
 have hoth:∀ x,x≠g2→x≠g→dM (dM ω g none) g2 (ω g) x=ω x:=fun x h1 h2=>by rw[dF _ _ h1,dF _ _ h2]
 have hsame:dM (dM ω g none) g2 (ω g) g2=ω g:=bw _ _ _;refine⟨⟨fun t u hu=> ?_,fun i o ho=> ?_,h.tL,fun x I hI=> ?_,h.fresh,h.inj,fun x y I J hI hJ hb=> ?_,fun i x I hi hI=> ?_,h.sz,fun x I hI=> ?_,h.sb,?_,fun i off I hI=> ?_,h.n0,h.sig,h.zz,h.nx,fun b hb hbI=> ?_,h.gn⟩,hor⟩
 ·rw[Al]at hu;cases hl:look s.e t with
  |none=>rw[hl]at hu;simp at hu
  |some x=>
   rw[hl]at hu;simp at hu;obtain⟨v,h1,h2⟩:=h.env t x hl;have hnt:=hn.1 t x hl;refine⟨v,h1,?_⟩;subst hu;cases x with
   |own g' w xs=>
    simp only[U.jH];by_cases hq:g' =g
    ·subst hq;rw[if_pos rfl];exact⟨hor _ _ _ h2.1,hc⟩
    ·rw[if_neg hq];exact h2.mono (aM _) (fun _ _=>rfl) (fun _ _ h=>h) fun g3 h3=>by simp[U.tag]at h3;subst h3;exact hoth _ (fun hh=>hnt (by simp[U.tag,hh])) hq
   |cA g' i f=>
    simp only[U.jH];by_cases hq:g' =g
    ·subst hq;rw[if_pos rfl];obtain⟨⟨I,k1,k2⟩,_⟩:=h2;exact⟨⟨I,by rw[hsame];exact k1,k2⟩,hc⟩
    ·rw[if_neg hq];exact h2.mono (aM _) (fun _ _=>rfl) (fun _ _ h=>h) fun g3 h3=>by simp[U.tag]at h3;subst h3;exact hoth _ (fun hh=>hnt (by simp[U.tag,hh])) hq
   |_=>exact h2.mono (aM _) (fun _ _=>rfl) (fun _ _ h=>h) fun g3 h3=>by simp[U.tag,U.jH]at h3
 ·have h1:=h.obj i o ho;cases o with
  |row cs=>
   obtain⟨cs',q1,q2,q3⟩:=h1;refine⟨cs',q1,q2,fun off u v hu hv=> ?_⟩;have h2:=q3 off u v hu hv;cases u with
   |dD w xs=>
    refine OR.mono (fun _ _ h=>h) (hoth _ (fun hh=> ?_) (fun hh=>hg i off hh.symm)) h2;exact hn.2 i off hh.symm cs w xs ho hu
   |bad=>trivial
   |_=>exact h2
  |map es c=>exact h1
  |iter q a b c=>exact h1
  |gone=>trivial
 ·rcases hcase x I hI with⟨_,hh⟩|⟨_,_,hh⟩<;>exact h.pW _ I hh
 ·rcases hcase x I hI with⟨e1,k1⟩|⟨e1,e1',k1⟩<;>rcases hcase y J hJ with⟨e2,k2⟩|⟨e2,e2',k2⟩
  ·rw[e1,e2]
  ·exact absurd (h.jA _ _ _ _ k1 k2 hb).symm e2'
  ·exact absurd (h.jA _ _ _ _ k1 k2 hb) e1'
  ·exact h.jA _ _ _ _ k1 k2 hb
 ·rcases hcase x I hI with⟨_,hh⟩|⟨_,_,hh⟩<;>exact h.sw i _ I hi hh
 ·rcases hcase x I hI with⟨_,hh⟩|⟨_,_,hh⟩<;>exact h.wz _ I hh
 ·by_cases hr:Tg.r=g
  ·subst hr;rw[dF _ _ (Ne.symm hg2),bw]
  ·rw[hoth _ (Ne.symm hg2) hr];exact h.wr
 ·rcases hcase _ I hI with⟨e1,hh⟩|⟨_,_,hh⟩
  ·exact hc i off e1.symm
  ·exact h.wc i off I hh
 ·obtain⟨k1,k2,k3,k4⟩:=h.out b hb hbI;refine⟨k1,k2,fun x I hI=> ?_,k4⟩;rcases hcase x I hI with⟨_,hh⟩|⟨_,_,hh⟩<;>exact k3 _ I hh
theorem Ok.EG(h:Ok E σ Z ω s e st){d w cap:Nat}{ex:Bool}{xs:List (List U)}{row:List V}(hl:xs.length≤cap)(hc:cap*w≤row.length)(hw:∀ r∈xs,r.length=w)(hx:LU σ Z 0 xs.flatten (row.take (xs.length*w))):
  ∃ ω',Ok E σ Z ω' (s.kill (.t d)) e (st.alloc (.row row))∧OR σ Z ω' (.t d) w xs (.slice st.next 0 xs.length cap w ex):=by
 have ha:=(h.kill (.t d)).alloc (.row row);have hzn:Z st.next=none:=by
  cases hz:Z st.next with
  |none=>rfl
  |some r=>have:=h.lt_next (h.tL _ _ hz);omega
 refine⟨_,ha.Ch (fJ _ _) (by simp) (o:=some ⟨st.next,0,cap,ex,w,row,xs⟩) fun J hJ=> ?_,?_⟩
 ·cases hJ;refine⟨by rw[St.dG,if_pos rfl],fun i hi=> ?_,hzn,fun g' I' _ hI' hb=> ?_,fun b hb _ hh=> ?_,fun i off hh=>by cases hh⟩
  ·have:=h.sb i (by rw[dL]at hi;exact hi);show σ i≠st.next
   omega
  ·have:=h.lt_next (h.pW g' I' hI');have hb' :I'.b=st.next:=hb
   omega
  ·have:=h.nx;have hh' :st.next=b:=hh
   omega
 ·unfold OR;rw[bw];exact⟨rfl,⟨rfl,rfl⟩,hl,by simpa using hc,hw,by simpa using hx⟩
end
end Go.RE
namespace Go.RE
section
variable{E:vK}{σ:Sg}{Z:Zs}{ω:Om}{s s' :Vs}{e:PT V}{st:St}{n:Nat}
theorem Y7{i:Nat}(hω:∀ off,ω (.c i off)=none):∀ {zs:List V},(V.cY zs).all (fun u=>u.aL||u.qO)=true→(V.cY zs).length=(V.yU zs).length∧
  ∀ (off:Nat) u v,(V.cY zs)[off]? =some u→(V.yU zs)[off]? =some v→∀ k,CR σ Z ω n i (k+off) u v:=by
 intro zs
 induction zs with
 |nil=>intro _;exact⟨rfl,fun off u v h=>by simp[V.cY]at h⟩
 |cons z zs ih=>
  intro h;simp only[V.cY,List.all_cons,cm]at h;obtain⟨h1,h2⟩:=ih h.2;refine⟨by simp[V.cY,V.yU,h1],fun off u v hu hv k=> ?_⟩;cases off with
  |zero=>
   simp[V.cY]at hu;simp[V.yU]at hv;subst hu;subst hv;have hh:=h.1;cases hq:z.mX with
   |dD w xs=>
    cases z with
    |aj r o l zz=>
     match r,o,l with
     |[],0,0=>simp[V.mX]at hq
     |[],1,0=>simp[V.mX]at hq
     |[],2,0=>
      simp[V.mX]at hq;obtain⟨rfl,rfl⟩:=hq;show OR σ Z ω _ _ _ _;unfold OR;rw[hω];exact⟨rfl,.inl rfl⟩
     |[],3,0=>simp[V.mX]at hq
     |[],k+4,0=>simp[V.mX]at hq
     |[],_,l+1=>simp[V.mX]at hq
     |a::r,_,_=>simp[V.mX]at hq
    |func f a b=>simp only[V.mX]at hq;generalize (_&&_:Bool)=c at hq;cases c<;>simp at hq
    |iface t v=>simp only[V.mX]at hq;generalize U.aL _=c at hq;cases c<;>simp at hq
    |agg cs=>simp only[V.mX]at hq;generalize List.all _ _=c at hq;cases c<;>simp at hq
    |aP cs=>simp only[V.mX]at hq;generalize List.all _ _=c at hq;cases c<;>simp at hq
    |_=>simp[V.mX]at hq
   |_=>
    rw[←hq];refine CR.bz (qa z ?_ ?_ ?_)<;>(rw[hq];try rw[hq]at hh)<;>simp_all [U.aL,U.qO]
  |succ off=>
   simp[V.cY]at hu;simp[V.yU]at hv;rw[show k+(off+1)=(k+1)+off by omega];exact h2 off u v hu hv (k+1)
theorem G9{w:Nat}:∀ {k:Nat} {cs:List U},cs.length=k*w→(chunks w k cs).length=k∧(chunks w k cs).flatten=cs∧∀ r∈chunks w k cs,r.length=w:=by
 intro k
 induction k with
 |zero=>intro cs h;simp at h;subst h;simp[chunks]
 |succ k ih=>
  intro cs h;rw[Nat.succ_mul]at h;obtain⟨h1,h2,h3⟩:=ih (cs:=cs.drop w) (by simp;omega);refine⟨by simp[chunks,h1],by simp only[chunks,List.flatten_cons,h2,List.take_append_drop],fun r hr=> ?_⟩;simp only[chunks,eB]at hr;rcases hr with rfl|hr
  ·simp;omega
  ·exact h3 r hr
theorem QN{a:List U}{b:List V}(h:LU σ Z n a b):∀ k,LU σ Z n (Jt a k) (dP b k):=by
 intro k
 induction k with
 |zero=>exact .nil
 |succ k ih=>exact h.append ih
theorem EW{a:List U}:∀ k,(jq a k).flatten=Jt a k:=by
 intro k
 induction k with
 |zero=>rfl
 |succ k ih=>
  have:jq a (k+1)=a::jq a k:=by simp[jq,List.replicate_succ]
  rw[this,List.flatten_cons,ih];rfl
theorem Hz{b:List V}:∀ k,(dP b k).length=k*b.length:=by
 intro k
 induction k with
 |zero=>simp[dP]
 |succ k ih=>simp[dP,ih,Nat.succ_mul];omega
theorem DS{b:List V}:∀ {k m:Nat},k≤m→(dP b m).take (k*b.length)=dP b k:=by
 intro k
 induction k with
 |zero=>intro m _;simp[dP]
 |succ k ih=>
  intro m hm;cases m with
  |zero=>omega
  |succ m=>
   simp only[dP,Nat.succ_mul];rw[List.take_append,pI (l:=b) (by omega),Nat.add_sub_cancel,ih (by omega)]
theorem Iq:∀ (zs:List V),(V.cY zs).length=zs.length∧(V.yU zs).length=zs.length
 |[]=>⟨rfl,rfl⟩
 |z::zs=>by
  obtain⟨h1,h2⟩:=Iq zs;exact⟨by simp[V.cY,h1],by simp[V.yU,h2]⟩
theorem G3:∀ (b:List UInt8),LU σ Z n (az b).flatten (b.map iM):=by
 intro b
 induction b with
 |nil=>exact .nil
 |cons c b ih=>exact LU.cons (.int _ _) ih
theorem Bz(b:List UInt8):∀ r∈az b,r.length=1:=by
 intro r hr;simp only[az,fh]at hr;obtain⟨c,_,rfl⟩:=hr;rfl
theorem GO{u:U}{v:V}(h:TR σ Z ω n u v)(hc:u.cells.all U.aL=true):UR σ Z n u v:=by
 cases u<;>first|exact h|(simp[U.cells,U.aL]at hc)
theorem uL{v:V}{g:Tg}{w:Nat}{xs:List (List U)}(h:OR σ Z ω g w xs v):v.cells=[v]∧v.one=true:=by
 unfold OR at h;split at h
 ·obtain⟨_,rfl|rfl⟩:=h<;>exact⟨rfl,rfl⟩
 ·obtain⟨rfl,_⟩:=h;exact⟨rfl,rfl⟩
theorem CQ{d:Nat}{o:Gb}{u:U}(h:yq d s o=some (u,s'))(hk:Ok E σ Z ω s e st):
  ∃ σ' Z' ω' ob f,Ai e o.er=some (ob,f)∧Ok E σ' Z' ω' s' e (st.alloc ob)∧TR σ' Z' ω' s'.h.length u (f st.next)∧s.h.length≤s'.h.length∧(∀ i,i<s.h.length→σ' i=σ i)∧∀ b r,Z b=some r→Z' b=some r:=by
 have hωn:∀ off,ω (.c s.h.length off)=none:=fun off=>by
  cases hq:ω (.c s.h.length off)with
  |none=>rfl
  |some I=>have:=hk.wc _ off I hq;omega
 have hptr:∀ (σ' :Sg),σ' s.h.length=st.next→UR σ' Z (s.h.length+1) (.ptr s.h.length 0) (.ptr st.next 0):=fun σ' hσ=>by rw[←hσ];exact .ptr (by omega)
 cases o with
 |alloc zero=>
  simp only[yq]at h;cases hz:(V.cY zero).all (fun u=>u.aL||u.qO)with
  |false=>rw[hz]at h;simp at h
  |true=>
   rw[hz]at h;simp only[cond_true,ay,aO]at h;obtain⟨rfl,rfl⟩:=h;obtain⟨h1,h2⟩:=Y7 (σ:=dM σ s.h.length st.next) (Z:=Z) (n:=s.h.length+1) hωn hz;obtain⟨k1,k2⟩:=hk.ou (o:=.row (V.cY zero)) (ob:=.row (V.yU zero)) ⟨_,rfl,h1,fun off u v hu hv=>by simpa using h2 off u v hu hv 0⟩;refine⟨_,Z,ω,.row (V.yU zero),fun n=> .ptr n 0,rfl,k1,TR.bz ?_,by simp[ou],k2,fun _ _ h=>h⟩;have:=hptr _ (bw σ s.h.length st.next);simpa[ou]using this
 |box x=>
  simp only[yq]at h;split at h
  ·simp at h
  ·rename_i g w xs hno hx;simp only[ay,aO]at h;obtain⟨rfl,rfl⟩:=h;obtain⟨v,v1,v2,v3⟩:=hk.cO hx;obtain⟨c1,c2⟩:=uL v2;have hg:∀ i off,g≠.c i off:=fun i off hh=>hno i off hh
   -- a cell of which nothing is told
   obtain⟨k1,k2⟩:=hk.ou (o:=.row [.bad]) (ob:=.row [v]) ⟨[v],rfl,rfl,fun off u y hu hv=>by
    cases off with
    |zero=>simp at hu;subst hu;trivial
    |succ off=>simp at hu⟩
   have hnt:pU (.c s.h.length 0) {s with h:=s.h++[.row [.bad]]}:=by
    refine⟨fun t u hu htag=> ?_,fun i off he cs w xs hc hx=> ?_⟩
    ·obtain⟨v',_,q2⟩:=hk.env t u hu;cases u with
     |own g' w' xs' =>simp[U.tag]at htag;subst htag;have:=q2.2 _ _ rfl;omega
     |cA g' i f=>simp[U.tag]at htag;subst htag;have:=q2.2 _ _ rfl;omega
     |_=>simp[U.tag]at htag
    ·cases he;simp at hc;subst hc;simp at hx
   obtain⟨m1,m2⟩:=k1.jH (g:=g) (g2:=.c s.h.length 0) hnt hg (by simp) (fun i off hh=>by cases hh;simp);have m3:=m1.qbK (i:=s.h.length) (o:=.row [.dD w xs]) (by simp) (by simp) (by
    rw[bw,St.dG,if_pos rfl];refine⟨[v],rfl,rfl,fun off u y hu hv=> ?_⟩;cases off with
    |zero=>
     simp at hu hv;subst hu;subst hv;exact m2 w xs _ (v2.mono (fun _ _ h=>h) rfl)
    |succ off=>simp at hu)
   have e1:(s.h++[Uo.row [.bad]]).set s.h.length (Uo.row [.dD w xs])=s.h++[Uo.row [.dD w xs]]:=by
    rw[List.set_append_right _ _ (aM _)];simp
   rw[e1]at m3;refine⟨_,Z,_,.row v.cells,fun n=> .ptr n 0,by simp only[Gb.er,Ai,v1],by rw[c1];exact m3,TR.bz ?_,by simp,k2,fun _ _ h=>h⟩;have:=hptr _ (bw σ s.h.length st.next);simpa using this
  ·rename_i u' hno1 hno2 hx;cases hc:u'.cells.all U.aL with
   |false=>rw[hc]at h;simp at h
   |true=>
    rw[hc]at h;simp only[cond_true,ay,aO]at h;obtain⟨rfl,rfl⟩:=h;obtain⟨v,v1,v2⟩:=hk.cO hx;have v3:=(GO v2 hc).cells;obtain⟨k1,k2⟩:=hk.ou (o:=.row u'.cells) (ob:=.row v.cells) ⟨_,rfl,v3.1,fun off u y hu hv=>CR.bz ((v3.2 off u y hu hv).mono (by omega) (fun i hi=>dF _ _ (by omega)) (fun _ _ h=>h))⟩;refine⟨_,Z,ω,.row v.cells,fun n=> .ptr n 0,by simp only[Gb.er,Ai,v1],k1,TR.bz ?_,by simp[ou],k2,fun _ _ h=>h⟩;have:=hptr _ (bw σ s.h.length st.next);simpa[ou]using this
  ·simp at h
 |buildSlice w len zero parts=>
  simp only[yq]at h;cases hz:(V.cY zero).all U.aL with
  |false=>rw[hz]at h;simp at h
  |true=>
   rw[hz]at h;simp only[cond_true]at h;split at h<;>try (simp at h;done)
   rename_i cs s1 hf;obtain⟨Z1,ω1,ws,a1,a2,a3,a4,a5⟩:=hk.fill (QN (kF zero hz) len) hf;cases hb:(cs.all U.aL&&U.bX 0 cs&&Nat.beq cs.length (len*w))with
   |false=>rw[hb]at h;simp at h
   |true=>
    rw[hb]at h;simp only[cond_true,ay,aO]at h;obtain⟨rfl,rfl⟩:=h;simp only[cm]at hb;have hlen:cs.length=len*w:=bS hb.2;obtain⟨c1,c2,c3⟩:=G9 hlen;have hlu:=a3.low hb.1.2;obtain⟨ω',k1,k2⟩:=a2.EG (d:=d) (w:=w) (cap:=len) (ex:=true) (xs:=chunks w len cs) (row:=ws) (by omega) (by rw[←hlu.1,hlen];exact aM _) c3 (by
     rw[c2,c1,pI (by rw[←hlu.1,hlen];exact aM _)];exact hlu)
    rw[c1]at k2;exact⟨σ,Z1,ω',.row ws,fun n=> .slice n 0 len len w true,by simp only[Gb.er,Ai,a1],k1,⟨k2,fun i off hh=>by cases hh⟩,by rw[dL];omega,fun _ _=>rfl,a5⟩
 |makeMap=>
  simp only[yq,ay,aO]at h;obtain⟨rfl,rfl⟩:=h;obtain⟨k1,k2⟩:=hk.ou (o:=.map [] 0) (ob:=.map [] 0) ⟨[],rfl,rfl,fun j x y hx=>by simp at hx⟩;refine⟨_,Z,ω,.map [] 0,fun n=> .map n,rfl,k1,TR.bz ?_,by simp[ou],k2,fun _ _ h=>h⟩;have:UR (dM σ s.h.length st.next) Z (s.h.length+1) (.map s.h.length) (.map st.next):=by
   have:=bw σ s.h.length st.next
   conv=>rhs;rw[←this]
   exact .map (by omega)
  simpa[ou]using this
 |makeSlice w bytes zero len cap=>
  simp only[yq]at h;split at h<;>try (simp at h;done)
  rename_i ul uc hl hc;split at h<;>try (simp at h;done)
  rename_i c hcn;split at h<;>try (simp at h;done)
  rename_i l hln;cases hb:(Nat.ble (c*bytes) aW&&Nat.beq zero.length w&&U.bX 0 (V.cY zero)&&(V.cY zero).all U.aL)with
  |false=>rw[hb]at h;simp at h
  |true=>
   rw[hb]at h;simp only[cond_true,ay,aO]at h;obtain⟨rfl,rfl⟩:=h;simp only[cm]at hb;have hw:zero.length=w:=bS hb.1.1.2;obtain⟨vl,l1,l2⟩:=hk.cO hl;obtain⟨vc,c1,c2⟩:=hk.cO hc;have n1:=Ay hcn c2;have n2:=Ay hln l2;have hle:l≤c:=by
    cases vl<;>simp[asNat]at n2;omega
   obtain⟨z1,z2⟩:=Iq zero;have hlu:LU σ Z 0 (V.cY zero) (V.yU zero):=(kF (n:=0) zero hb.2);obtain⟨ω',k1,k2⟩:=hk.EG (d:=d) (w:=w) (cap:=c) (ex:=true) (xs:=jq (V.cY zero) l) (row:=dP (V.yU zero) c) (by simpa[jq]using hle) (by rw[Hz,z2,hw];exact aM _) (fun r hr=>by
    simp only[jq,List.mem_replicate]at hr;rw[hr.2,z1,hw]) (by
    have:(jq (V.cY zero) l).length*w=l*(V.yU zero).length:=by rw[z2,hw];simp[jq]
    rw[EW,this,DS hle];exact QN hlu l)
   have hrl:(jq (V.cY zero) l).length=l:=by simp[jq]
   rw[hrl]at k2;exact⟨σ,Z,ω',.row (dP (V.yU zero) c),fun n=> .slice n 0 l c w true,by simp only[Gb.er,Ai,l1,c1,n1,n2,hb.1.1.1,cond_true],k1,⟨k2,fun i off hh=>by cases hh⟩,by rw[dL];exact aM _,fun _ _=>rfl,fun _ _ h=>h⟩
 |qs x=>
  simp only[yq]at h;split at h<;>simp only[ay,aO,reduceCtorEq]at h;rename_i b hx;obtain⟨rfl,rfl⟩:=h;obtain⟨v,h1,h2⟩:=hk.cO hx;obtain rfl:=TR.str h2;obtain⟨ω',k1,k2⟩:=hk.EG (d:=d) (w:=1) (cap:=b.length) (ex:=false) (xs:=az b) (row:=b.map iM) (by simp[az]) (by simp) (Bz b) (by
   have:(b.map iM).take ((az b).length*1)=b.map iM:=pI (by simp[az]);rw[this];exact G3 b)
  have hbl:(az b).length=b.length:=by simp[az]
  rw[hbl]at k2;exact⟨σ,Z,ω',_,fun n=> .slice n 0 b.length b.length 1 false,by simp only[Gb.er,Ai,h1],k1,⟨k2,fun i off hh=>by cases hh⟩,by rw[dL];exact aM _,fun _ _=>rfl,fun _ _ h=>h⟩
end
end Go.RE
namespace Go.RE
section
variable{E:vK}{σ:Sg}{Z:Zs}{ω:Om}{s s' :Vs}{e:PT V}{st:St}{n:Nat}
theorem P7{g:Tg}(hn:pU g s):s.gI g=none:=by
 have key:∀ r:Env,Env.gI g s.e r=none:=by
  intro r
  induction r with
  |nil=>rfl
  |cons x r ih=>
   obtain⟨k,u⟩:=x;cases u with
   |own g' w' xs' =>
    simp only[Env.gI];split
    ·split
     ·rename_i g2 w2 xs2 hl;split
      ·rename_i hg;subst hg;exact absurd rfl (hn.1 _ _ hl)
      ·exact ih
     ·exact ih
    ·exact ih
   |_=>exact ih
 unfold Vs.gI;split
 ·rename_i i off;split
  ·rename_i cs hi;split
   ·rename_i w xs hc;exact absurd hc (hn.2 i off rfl cs w xs hi)
   ·rfl
  ·rfl
 ·exact key _
theorem Ok.D6(h:Ok E σ Z ω s e st){g:Tg}{I:G7}{p0:Nat×List (List U)}(hp0:s.gI g=some p0)(hg:ω g=some I){ys:List (List U)}{row' :List V}(hl:ys.length=I.xs.length)(hrl:row'.length=I.row.length)(hw:∀ r∈ys,r.length=I.w)
  (hy:LU σ Z 0 ys.flatten ((row'.drop I.off).take (ys.length*I.w))):Ok E σ Z (dM ω g (some {I with row:=row',xs:=ys})) (s.mz g I.w ys) e (st.put I.b (.row row')):=by
 have hgr:g≠.r:=fun hh=>by subst hh;rw[h.wr]at hg;cases hg
 have hsame:dM ω g (some {I with row:=row',xs:=ys}) g=some {I with row:=row',xs:=ys}:=bw _ _ _;have hne:∀ g',g'≠g→dM ω g (some {I with row:=row',xs:=ys}) g' =ω g' :=fun g' hh=>dF _ _ hh;have hor:∀ w xs v,OR σ Z ω g w xs v→OR σ Z (dM ω g (some {I with row:=row',xs:=ys})) g w ys v∧w=I.w:=fun w xs v hv=>by
  unfold OR at hv⊢;rw[hg]at hv;rw[hsame];obtain⟨rfl,⟨rfl,rfl⟩,e1,e2,e3,e4⟩:=hv;exact⟨⟨by rw[hl],⟨rfl,rfl⟩,by rw[hl];exact e1,by rw[hrl];exact e2,hw,hy⟩,rfl⟩
 have hcase:∀ x J,dM ω g (some {I with row:=row',xs:=ys}) x=some J→(x=g∧J={I with row:=row',xs:=ys})∨(x≠g∧ω x=some J):=fun x J hJ=>by
  by_cases hx:x=g
  ·subst hx;rw[hsame]at hJ;cases hJ;exact .inl ⟨rfl,rfl⟩
  ·rw[hne x hx]at hJ;exact .inr ⟨hx,hJ⟩
 have hget:∀ b,b≠I.b→(st.put I.b (.row row')).get b=st.get b:=fun b hb=>by rw[St.eE,if_neg hb]
 have hIlt:=h.lt_next (h.pW g I hg)
 -- the temporaries
 have henv:∀ t u,look (Env.mz g ys s.e) t=some u→∃ v,e.get t=some v∧TR σ Z (dM ω g (some {I with row:=row',xs:=ys})) s.h.length u v:=by
  intro t u hu;rw[Bm]at hu;cases hq:look s.e t with
  |none=>rw[hq]at hu;simp at hu
  |some x=>
   rw[hq]at hu;simp at hu;obtain⟨v,h1,h2⟩:=h.env t x hq;refine⟨v,h1,?_⟩;subst hu;cases x with
   |own g' w xs=>
    simp only[U.mz];by_cases hgg:g' =g
    ·subst hgg;rw[if_pos rfl];exact⟨(hor _ _ _ h2.1).1,h2.2⟩
    ·rw[if_neg hgg];exact⟨OR.mono (fun _ _ h=>h) (hne _ hgg) h2.1,h2.2⟩
   |cA g' i f=>
    obtain⟨⟨J,k1,k2⟩,k3⟩:=h2;by_cases hgg:g' =g
    ·subst hgg;rw[hg]at k1;cases k1;exact⟨⟨_,hsame,k2⟩,k3⟩
    ·exact⟨⟨J,by rw[hne _ hgg];exact k1,k2⟩,k3⟩
   |_=>exact h2.mono (aM _) (fun _ _=>rfl) (fun _ _ h=>h) fun g3 h3=>by simp[U.tag,U.mz]at h3
 have hob:∀ (i:Nat) o,s.h[i]? =some o→(∀ off cs w xs,g=.c i off→o=.row cs→cs[off]?≠some (.dD w xs))→
   OB σ Z (dM ω g (some {I with row:=row',xs:=ys})) s.h.length i o ((st.put I.b (.row row')).get (σ i)):=by
  intro i o ho hno;have hi:=(cz.1 ho).1;rw[hget _ (h.sw i g I hi hg)];have h1:=h.obj i o ho;cases o with
  |row cs=>
   obtain⟨cs',q1,q2,q3⟩:=h1;refine⟨cs',q1,q2,fun off u v hu hv=> ?_⟩;have h2:=q3 off u v hu hv;cases u with
   |dD w xs=>
    refine OR.mono (fun _ _ h=>h) (hne _ fun hh=> ?_) h2;exact hno off cs w xs hh.symm rfl hu
   |bad=>trivial
   |_=>exact h2
  |map es c=>exact h1
  |iter q a b c=>exact h1
  |gone=>trivial
 have hrest:∀ (s1:Vs),s1.h.length=s.h.length→(∀ (i:Nat),s.h[i]? =some Uo.gone→s1.h[i]? =some Uo.gone)→(∀ t u,look s1.e t=some u→∃ v,e.get t=some v∧TR σ Z (dM ω g (some {I with row:=row',xs:=ys})) s.h.length u v)→
   (∀ (i:Nat) o,s1.h[i]? =some o→OB σ Z (dM ω g (some {I with row:=row',xs:=ys})) s.h.length i o ((st.put I.b (.row row')).get (σ i)))→
   Ok E σ Z (dM ω g (some {I with row:=row',xs:=ys})) s1 e (st.put I.b (.row row')):=by
  intro s1 hl1 hgo h1 h2;have hgn:∀ j,E.G j→j<E.n∧s1.h[j]? =some .gone∧(st.put I.b (.row row')).get (σ j)=E.st.get (E.σ j):=fun j hj=>by
   obtain⟨q1,q2,q3⟩:=h.gn j hj;exact⟨q1,hgo j q2,by rw[hget _ (h.sw j g I (cz.1 q2).1 hg)];exact q3⟩
  refine⟨by rw[hl1];exact h1,by rw[hl1];exact h2,fun b r hb=> ?_,fun x J hJ=> ?_,fun b hb=> ?_,by rw[hl1];exact h.inj,fun x y J K hJ hK hb=> ?_,fun i x J hi hJ=> ?_,by rw[hl1];exact h.sz,fun x J hJ=> ?_,by rw[hl1];exact h.sb,by rw[hne _ (Ne.symm hgr)];exact h.wr,fun i off J hJ=> ?_,by rw[hl1];exact h.n0,h.sig,h.zz,h.nx,fun b hb hbI=> ?_,hgn⟩
  ·rw[hget b (fun hh=>by rw[hh,h.wz g I hg]at hb;cases hb)];exact h.tL b r hb
  ·rcases hcase x J hJ with⟨rfl,rfl⟩|⟨hx,hh⟩
   ·rw[St.eE,if_pos rfl]
   ·rw[hget _ (fun hb=>hx (h.jA x g J I hh hg hb))];exact h.pW x J hh
  ·have:(st.put I.b (.row row')).next=st.next:=rfl
   rw[this]at hb;rw[hget b (by omega)];exact h.fresh b hb
  ·rcases hcase x J hJ with⟨rfl,rfl⟩|⟨hx,hh⟩<;>rcases hcase y K hK with⟨rfl,rfl⟩|⟨hy,hh'⟩
   ·rfl
   ·exact absurd (h.jA _ _ _ _ hg hh' hb).symm hy
   ·exact absurd (h.jA _ _ _ _ hh hg hb) hx
   ·exact h.jA _ _ _ _ hh hh' hb
  ·rcases hcase x J hJ with⟨rfl,rfl⟩|⟨hx,hh⟩
   ·exact h.sw i x I (by omega) hg
   ·exact h.sw i x J (by omega) hh
  ·rcases hcase x J hJ with⟨rfl,rfl⟩|⟨hx,hh⟩
   ·exact h.wz x I hg
   ·exact h.wz x J hh
  ·rw[hl1];rcases hcase _ J hJ with⟨e1,rfl⟩|⟨hx,hh⟩
   ·exact h.wc i off I (by rw[e1];exact hg)
   ·exact h.wc i off J hh
  ·obtain⟨k1,k2,k3,k4⟩:=h.out b hb hbI;refine⟨by rw[hget b (fun hh=>k3 g I hg hh.symm),k1],by rw[hl1];exact k2,fun x J hJ=> ?_,k4⟩;rcases hcase x J hJ with⟨rfl,rfl⟩|⟨hx,hh⟩
   ·exact k3 x I hg
   ·exact k3 x J hh
 unfold Vs.mz;split
 ·rename_i i off;refine hrest _ ?_ (fun j hj=> ?_) henv fun j o ho=> ?_
  ·simp only;unfold setCell;split<;>simp
  ·simp only;unfold setCell;split
   ·rename_i cs hi;rw[gZ,if_neg (by rintro rfl;rw[hi]at hj;cases hj)];exact hj
   ·exact hj
  ·simp only at ho;unfold setCell at ho;split at ho
   ·rename_i cs hi;have hlt:=(cz.1 hi).1;rw[gZ]at ho;by_cases hj:i=j
    ·subst hj;rw[if_pos rfl,if_pos hlt]at ho;simp at ho;subst ho;rw[hget _ (h.sw i _ I hlt hg)];obtain⟨cs',q1,q2,q3⟩:=h.obj i _ hi;refine⟨cs',q1,by rw[List.length_set];exact q2,fun o' u v hu hv=> ?_⟩;rw[gZ]at hu;by_cases ho' :off=o'
     ·subst ho';simp only[Vs.gI,hi]at hp0;split at hp0<;>try (simp at hp0;done)
      rename_i w0 xs0 hc0;have hoff:=(cz.1 hc0).1;rw[if_pos rfl,if_pos hoff]at hu;simp at hu;subst hu;have:=hor w0 xs0 v (q3 off _ v hc0 hv);rw[this.2]at this;exact this.1
     ·rw[if_neg ho']at hu;exact(q3 o' u v hu hv).mono (aM _) (fun _ _=>rfl) (fun _ _ h=>h) (hne _ fun hh=>ho' (by simp at hh;omega))
    ·rw[if_neg hj]at ho;exact hob j o ho fun off' cs' w xs he=>by simp at he;exact absurd he.1 hj
   ·rename_i hno;exact hob j o ho fun off' cs' w xs he hoo=>by simp at he;obtain⟨rfl,rfl⟩:=he;exact absurd (hoo▸ho) (hno _)
 ·rename_i hno;exact hrest _ rfl (fun _ h=>h) henv fun i o ho=>hob i o ho fun off cs w xs he=>absurd he (hno i off)
end
end Go.RE
