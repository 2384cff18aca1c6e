/- Small operations. -/
import Derived.Test.YtmpopachilfinaaGreatPart6
set_option linter.unusedVariables false
set_option linter.unusedSimpArgs false
set_option linter.constructorNameAsVariable false
namespace Go.RE
section
variable{E:qe}{σ:Sg}{Z:Zs}{ω:Om}{s s' :Vs}{e:PT V}{st:St}{n:Nat}
mutual
theorem oz:∀ (v:V),(v.mq≠.bad)→(∀ g w xs,v.mq≠.own g w xs)→(∀ w xs,v.mq≠.bF w xs)→UR σ Z n v.mq v.er
 | .bool b,_,_,_=> .bool b
 | .int k x,_,_,_=> .int k x
 | .str s,_,_,_=> .str s
 | .bA,_,_,_=> .bA
 | .bu,_,_,_=> .bu
 | .bQ,_,_,_=> .bQ
 | .di,_,_,_=> .di
 | .cO,_,_,_=> .cO
 | .bM,h,_,_=>absurd rfl h
 | .ptr _ _,h,_,_=>absurd rfl h
 | .eD _ _,h,_,_=>absurd rfl h
 | .slice ..,h,_,_=>absurd rfl h
 | .map _,h,_,_=>absurd rfl h
 | .ag [] 0 0 w,_,_,_=> .slnil
 | .ag [] 1 0 w,_,h,_=>absurd rfl (h _ _ _)
 | .ag [] 2 0 w,_,_,h=>absurd rfl (h _ _)
 | .ag [] 3 0 w,_,_,_=> .CJ
 | .ag [] (k+4) 0 w,h,_,_=>absurd rfl h
 | .ag [] 0 (l+1) w,h,_,_=>absurd rfl h
 | .ag [] 1 (l+1) w,h,_,_=>absurd rfl h
 | .ag [] 2 (l+1) w,h,_,_=>absurd rfl h
 | .ag [] 3 (l+1) w,h,_,_=>absurd rfl h
 | .ag [] (k+4) (l+1) w,h,_,_=>absurd rfl h
 | .ag (a::r) o l w,h,_,_=>absurd rfl h
 | .func f a b,h,_,_=>by
  simp only[V.mq,V.er]at h⊢;cases hc:((V.dc a).all U.aH&&(V.dc b).all U.aH)with
  |false=>rw[hc]at h;exact absurd rfl h
  |true=>
   simp only[bC]at hc;have h1:=jo a hc.1;have h2:=jo b hc.2;simp only[hc.1,hc.2,Bool.and_self,cond_true];exact .func h1.1 h2.1 h1.2 h2.2
 | .iface t v,h,_,_=>by
  simp only[V.mq,V.er]at h⊢;cases hc:v.mq.aH with
  |false=>rw[hc]at h;exact absurd rfl h
  |true=>
   simp only[cond_true];exact .iface (oz v (fun hh=>by rw[hh]at hc;cases hc) (fun g w xs hh=>by rw[hh]at hc;cases hc) (fun w xs hh=>by rw[hh]at hc;cases hc))
 | .agg cs,h,_,_=>by
  simp only[V.mq,V.er]at h⊢;cases hc:(V.dc cs).all U.aH with
  |false=>rw[hc]at h;exact absurd rfl h
  |true=>
   have h1:=jo cs hc;simp only[cond_true];exact .agg h1.1 h1.2
 | .aV cs,h,_,_=>by
  simp only[V.mq,V.er]at h⊢;cases hc:(V.dc cs).all U.aH with
  |false=>rw[hc]at h;exact absurd rfl h
  |true=>
   have h1:=jo cs hc;simp only[cond_true];exact .aV h1.1 h1.2
theorem jo:∀ (vs:List V),(V.dc vs).all U.aH=true→LU σ Z n (V.dc vs) (V.yL vs)
 |[],_=>LU.nil
 |v::vs,h=>by
  simp only[V.dc,List.all_cons,bC]at h;exact LU.cons (oz v (fun hh=>by rw[hh]at h;cases h.1) (fun g w xs hh=>by rw[hh]at h;cases h.1) (fun w xs hh=>by rw[hh]at h;cases h.1)) (jo vs h.2)
end
theorem Kn{v:V}{u:U}(h:v.EV=some u):UR σ Z n u v.er:=by
 unfold V.EV at h;have:=oz (σ:=σ) (Z:=Z) (n:=n) v;generalize v.mq=x at h this;cases x<;>simp at h<;>subst h<;>exact this (by simp) (by simp) (by simp)
theorem NY{v:V}:∀ {g w xs},v.mq=.own g w xs→g=.r∧xs=[]∧v.er=.bu:=by
 intro g w xs h;cases v with
 |ag r o l z=>
  match r,o,l with
  |[],0,0=>simp[V.mq]at h
  |[],1,0=>simp[V.mq]at h;exact⟨h.1.symm,h.2.2,rfl⟩
  |[],2,0=>simp[V.mq]at h
  |[],3,0=>simp[V.mq]at h
  |[],k+4,0=>simp[V.mq]at h
  |[],_,l+1=>simp[V.mq]at h
  |a::r,_,_=>simp[V.mq]at h
 |func f a b=>simp only[V.mq]at h;generalize (_&&_:Bool)=c at h;cases c<;>simp at h
 |iface t v=>simp only[V.mq]at h;generalize U.aH _=c at h;cases c<;>simp at h
 |agg cs=>simp only[V.mq]at h;generalize List.all _ _=c at h;cases c<;>simp at h
 |aV cs=>simp only[V.mq]at h;generalize List.all _ _=c at h;cases c<;>simp at h
 |_=>simp[V.mq]at h
theorem Ok.cB(h:Ok E σ Z ω s e st){x:bJ}{u:U}(hu:cq s.e x=some u):∃ v,x.er.ev e=some v∧TR σ Z ω s.h.length u v:=by
 cases x with
 |t t=>exact h.env t u hu
 |c v=>
  simp only[cq,ai]at hu;refine⟨v.er,rfl,?_⟩;subst hu;have hc:=oz (σ:=σ) (Z:=Z) (n:=s.h.length) v;cases hq:v.mq with
  |bad=>trivial
  |bF w xs=>trivial
  |own g w xs=>
   obtain⟨rfl,rfl,he⟩:=NY hq;refine⟨?_,fun i off hh=>by cases hh⟩;unfold OR;rw[h.wr,he];exact⟨rfl,.inl rfl⟩
  |_=>rw[←hq];exact TR.bB (hc (by rw[hq];simp) (by rw[hq];simp) (by rw[hq];simp))
theorem TR.bool{b:Bool}{v:V}(h:TR σ Z ω n (.bool b) v):v=.bool b:=by cases h;rfl
theorem TR.int{k:IntKind}{x:Int}{v:V}(h:TR σ Z ω n (.int k x) v):v=.int k x:=by cases h;rfl
theorem TR.str{b:List UInt8}{v:V}(h:TR σ Z ω n (.str b) v):v=.str b:=by cases h;rfl
theorem TR.ptr{i off:Nat}{v:V}(h:TR σ Z ω n (.ptr i off) v):i<n∧v=.ptr (σ i) off:=by cases h;exact⟨‹_›,rfl⟩
theorem TR.map{i:Nat}{v:V}(h:TR σ Z ω n (.map i) v):i<n∧v=.map (σ i):=by cases h;exact⟨‹_›,rfl⟩
theorem TR.bQ{v:V}(h:TR σ Z ω n .bQ v):v=.bQ:=by cases h;rfl
theorem TR.cO{v:V}(h:TR σ Z ω n .cO v):v=.cO:=by cases h;rfl
theorem TR.agg{cs:List U}{v:V}(h:TR σ Z ω n (.agg cs) v):∃ cs',v=.agg cs'∧LU σ Z n cs cs' :=by cases h;exact⟨_,rfl,‹_›,‹_›⟩
theorem TR.aV{cs:List U}{v:V}(h:TR σ Z ω n (.aV cs) v):∃ cs',v=.aV cs'∧LU σ Z n cs cs' :=by cases h;exact⟨_,rfl,‹_›,‹_›⟩
theorem TR.iface{t:Nat}{u:U}{v:V}(h:TR σ Z ω n (.iface t u) v):∃ v',v=.iface t v'∧UR σ Z n u v' :=by cases h;exact⟨_,rfl,‹_›⟩
theorem TR.func{f:Nat}{a b:List U}{v:V}(h:TR σ Z ω n (.func f a b) v):∃ a' b',v=.func f a' b'∧LU σ Z n a a'∧LU σ Z n b b' :=by cases h;exact⟨_,_,rfl,⟨‹_›,‹_›⟩,⟨‹_›,‹_›⟩⟩
theorem qY{u:U}{x v:V}(hx:u.Xo=some x)(h:TR σ Z ω n u v):v=x:=by
 cases u<;>simp[U.Xo]at hx<;>subst hx
 ·exact TR.bool h
 ·exact TR.int h
 ·exact TR.str h
theorem qbc{u:U}{x:V}(hx:U.ofV x=some u):UR σ Z n u x:=by
 cases x<;>simp[U.ofV]at hx<;>subst hx
 ·exact .bool _
 ·exact .int _ _
 ·exact .str _
theorem EW{o:Option V}{u:U}(h:MD o=some u):∃ x,o=some x∧UR σ Z n u x:=by
 cases o with
 |none=>simp[MD]at h
 |some x=>exact⟨x,rfl,qbc h⟩
theorem UR.cells{u:U}{v:V}(h:UR σ Z n u v):LU σ Z n u.cells v.cells:=by
 cases h with
 |agg ha va=>exact⟨ha,va⟩
 |bool b=>exact LU.cons (.bool b) .nil
 |int k x=>exact LU.cons (.int k x) .nil
 |str b=>exact LU.cons (.str b) .nil
 |bA=>exact LU.cons .bA .nil
 |bu=>exact LU.cons .bu .nil
 |bQ=>exact LU.cons .bQ .nil
 |di=>exact LU.cons .di .nil
 |cO=>exact LU.cons .cO .nil
 |ptr h=>exact LU.cons (.ptr h) .nil
 |map h=>exact LU.cons (.map h) .nil
 |jr a b c=>exact LU.cons (.jr a b c) .nil
 |jq a b=>exact LU.cons (.jq a b) .nil
 |slnil=>exact LU.cons .slnil .nil
 |y9=>exact LU.cons .y9 .nil
 |CJ=>exact LU.cons .CJ .nil
 |Dt=>exact LU.cons .Dt .nil
 |Bf a b c d f g=>exact LU.cons (.Bf a b c d f g) .nil
 |CO a b c d=>exact LU.cons (.CO a b c d) .nil
 |func a b c d=>exact LU.cons (.func a b c d) .nil
 |iface a=>exact LU.cons (.iface a) .nil
 |aV a b=>exact LU.cons (.aV a b) .nil
theorem Ok.esc(h:Ok E σ Z ω s e st){u u' :U}{v:V}(hu:TR σ Z ω s.h.length u v)(he:esc u s=some (u',s')):
  ∃ Z' ω',Ok E σ Z' ω' s' e st∧UR σ Z' s.h.length u' v∧s'.h.length=s.h.length∧∀ b r,Z b=some r→Z' b=some r:=by
 cases u with
 |own g w xs=>
  have hga:g≠.a:=by rintro rfl;simp[RE.esc]at he
  have he:(U.sl w xs,s.lT g)=(u',s'):=by cases g<;>first|exact absurd rfl hga|simpa[RE.esc]using he
  simp only[aJ]at he;obtain⟨rfl,rfl⟩:=he;obtain⟨Z',ω',h1,h2,h3,h4,h5,h6⟩:=h.lT g hga;exact⟨Z',ω',h1,hu.1.sl h2 h5,h6,h2⟩
 |bad=>simp[RE.esc]at he
 |bF w xs=>simp[RE.esc]at he
 |bD g i f=>simp[RE.esc]at he
 |xU i o l w=>simp[RE.esc]at he
 |view g i l w=>simp[RE.esc]at he
 |cZ=>simp[RE.esc]at he
 |aV vs=>simp[RE.esc]at he
 |_=>
  simp only[RE.esc,ai,aJ]at he;obtain⟨rfl,rfl⟩:=he;exact⟨Z,ω,h,hu,rfl,fun _ _ h=>h⟩
theorem Ok.fN(h:Ok E σ Z ω s e st){x:bJ}{u' :U}(he:fN x s=some (u',s')):
  ∃ Z' ω' v,x.er.ev e=some v∧Ok E σ Z' ω' s' e st∧UR σ Z' s.h.length u' v∧s'.h.length=s.h.length∧∀ b r,Z b=some r→Z' b=some r:=by
 unfold RE.fN at he;cases hx:cq s.e x with
 |none=>rw[hx]at he;simp at he
 |some u=>
  rw[hx]at he;obtain⟨v,h1,h2⟩:=h.cB hx;obtain⟨Z',ω',h3⟩:=h.esc h2 he;exact⟨Z',ω',v,h1,h3⟩
theorem Ok.fW:∀ {xs:List bJ} {s s' :Vs} {Z:Zs} {ω:Om} {us:List U},Ok E σ Z ω s e st→fW xs s=some (us,s')→
  ∃ Z' ω' vs,Jr e (mZ xs)=some vs∧Ok E σ Z' ω' s' e st∧LU σ Z' s.h.length us vs∧s'.h.length=s.h.length∧∀ b r,Z b=some r→Z' b=some r:=by
 intro xs
 induction xs with
 |nil=>
  intro s s' Z ω us h he;simp[RE.fW]at he;obtain⟨rfl,rfl⟩:=he;exact⟨Z,ω,[],rfl,h,.nil,rfl,fun _ _ h=>h⟩
 |cons x xs ih=>
  intro s s' Z ω us h he;simp only[RE.fW]at he;cases hx:RE.fN x s with
  |none=>rw[hx]at he;simp at he
  |some r=>
   obtain⟨u,s1⟩:=r;rw[hx]at he;simp only at he;cases hr:RE.fW xs s1 with
   |none=>rw[hr]at he;simp at he
   |some r=>
    obtain⟨us',s2⟩:=r;rw[hr]at he;simp only[ai,aJ]at he;obtain⟨rfl,rfl⟩:=he;obtain⟨Z1,ω1,v,a1,a2,a3,a4,a5⟩:=h.fN hx;obtain⟨Z2,ω2,vs,b1,b2,b3,b4,b5⟩:=ih a2 hr;refine⟨Z2,ω2,v::vs,by simp only[mZ,Jr,a1,b1],b2,LU.cons (a3.mono (aq _) (fun _ _=>rfl) b5) (by rw[←a4];exact b3),by omega,fun b r hb=>b5 b r (a5 b r hb)⟩
theorem Kf{a:List U}{b:List V}{off:Nat}{us:List U}{vs:List V}(h:LU σ Z n a b)(hs:LU σ Z n us vs):LU σ Z n (gh a off us) (jQ b off vs):=by
 unfold gh jQ;rw[hs.1];exact((h.take off).append hs).append (h.drop _)
theorem Io{a:List U}{off:Nat}{us:List U}(h:off+us.length≤a.length):(gh a off us).length=a.length:=by
 simp[gh];omega
theorem Ok.fill:∀ {parts:List (Nat×Nat×bJ)} {s s' :Vs} {Z:Zs} {ω:Om} {us cs:List U} {vs:List V},Ok E σ Z ω s e st→LU σ Z s.h.length us vs→jV parts us s=some (cs,s')→
  ∃ Z' ω' ws,mH e vs (uD parts)=some ws∧Ok E σ Z' ω' s' e st∧LU σ Z' s.h.length cs ws∧s'.h.length=s.h.length∧∀ b r,Z b=some r→Z' b=some r:=by
 intro parts
 induction parts with
 |nil=>
  intro s s' Z ω us cs vs h hl he;simp[jV]at he;obtain⟨rfl,rfl⟩:=he;exact⟨Z,ω,vs,rfl,h,hl,rfl,fun _ _ h=>h⟩
 |cons p parts ih=>
  intro s s' Z ω us cs vs h hl he;obtain⟨off,size,x⟩:=p;simp only[jV]at he;cases hx:RE.fN x s with
  |none=>rw[hx]at he;simp at he
  |some r=>
   obtain⟨u,s1⟩:=r;rw[hx]at he;simp only at he;obtain⟨Z1,ω1,v,a1,a2,a3,a4,a5⟩:=h.fN hx;have hc:=a3.cells;cases hb:(Nat.beq u.cells.length size&&Nat.ble (off+u.cells.length) us.length)with
   |false=>rw[hb]at he;simp at he
   |true=>
    rw[hb]at he;simp only[cond_true]at he;have hl1:=hl.mono (aq _) (σ' :=σ) (fun _ _=>rfl) a5;obtain⟨Z2,ω2,ws,b1,b2,b3,b4,b5⟩:=ih (vs:=jQ vs off v.cells) a2 (by rw[a4];exact Kf hl1 hc) he;refine⟨Z2,ω2,ws,?_,b2,by rw[←a4];exact b3,by omega,fun b r hb=>b5 b r (a5 b r hb)⟩;simp only[uD,mH,a1];rw[hc.1,hl.1]at hb;rw[hb];exact b1
theorem zZ{u:U}{v:V}{most k:Nat}(h:fM u most=some k)(hu:TR σ Z ω n u v):asNat v most=some k:=by
 cases u<;>simp[fM]at h;rw[TR.int hu];exact h
theorem Ok.au(h:Ok E σ Z ω s e st){x:Option bJ}{d most k:Nat}(hx:bw s.e x d most=some k):au e (bG x) d most=some k:=by
 cases x with
 |none=>exact hx
 |some x=>
  simp only[bw]at hx;cases hq:cq s.e x with
  |none=>rw[hq]at hx;simp at hx
  |some u=>
   rw[hq]at hx;obtain⟨v,h1,h2⟩:=h.cB hq;simp only[bG,RE.au,h1];exact zZ hx h2
theorem yQ{cs:List U}{cs' :List V}{k:Option Nat}{off:Nat}{u:U}(h:LU σ Z n cs cs')(hl:iE k cs off=some u):∃ v,dZ k cs' off=some v∧UR σ Z n u v:=by
 cases k with
 |none=>
  simp only[iE]at hl;cases hq:cs[off]? with
  |none=>rw[hq]at hl;simp at hl
  |some x=>
   rw[hq]at hl;simp only at hl;cases hc:x.uB with
   |false=>rw[hc]at hl;simp at hl
   |true=>
    rw[hc]at hl;simp at hl;subst hl;obtain⟨v,h1,h2⟩:=h.get hq;exact⟨v,h1,h2⟩
 |some k=>
  simp only[iE]at hl;cases hb:(Nat.ble (off+k) cs.length&&((cs.drop off).take k).all U.uB)with
  |false=>rw[hb]at hl;simp at hl
  |true=>
   rw[hb]at hl;simp at hl;subst hl;simp only[bC]at hb;rw[h.1]at hb;have h1:=(h.drop off).take k;exact⟨_,by simp only[dZ,hb.1,cond_true],.agg h1.1 h1.2⟩
theorem AA{w:Nat}:∀ {xs:List (List U)},(∀ r∈xs,r.length=w)→∀ {i:Nat} {r:List U},xs[i]? =some r→i*w+w≤xs.flatten.length∧(xs.flatten.drop (i*w)).take w=r:=by
 intro xs
 induction xs with
 |nil=>intro _ i r h;simp at h
 |cons x xs ih=>
  intro hw i r h;have hx:=hw x eU;cases i with
  |zero=>
   simp at h;subst h;simp only[List.flatten_cons,Nat.zero_mul,List.drop_zero,lZ];exact⟨by omega,by rw[List.take_append_of_le_length (by omega),jU (by omega)]⟩
  |succ i=>
   simp at h;obtain⟨h1,h2⟩:=ih (fun r hr=>hw r (gB _ hr)) h;simp only[List.flatten_cons,lZ,Nat.succ_mul];refine⟨by omega,?_⟩;rw[show i*w+w=x.length+i*w by omega,←List.drop_drop,List.drop_left];exact h2
theorem dB{w:Nat}:∀ {xs:List (List U)},(∀ r∈xs,r.length=w)→xs.flatten.length=xs.length*w:=by
 intro xs
 induction xs with
 |nil=>intro _;simp
 |cons x xs ih=>
  intro hw;have hx:=hw x eU;simp only[List.flatten_cons,lZ,List.length_cons,Nat.succ_mul,ih (fun r hr=>hw r (gB _ hr))];omega
theorem rS{w:Nat}{xs:List (List U)}(hw:∀ r∈xs,r.length=w)(k:Nat):(xs.take k).flatten=xs.flatten.take (k*w):=by
 induction xs generalizing k with
 |nil=>simp
 |cons x xs ih=>
  have hx:=hw x eU;cases k with
  |zero=>simp
  |succ k=>
   simp only[List.take_succ_cons,List.flatten_cons,ih (fun r hr=>hw r (gB _ hr)),Nat.succ_mul];rw[List.take_append,jU (l:=x) (by omega),hx,Nat.add_sub_cancel]
theorem rR{w:Nat}{xs:List (List U)}(hw:∀ r∈xs,r.length=w)(k:Nat):(xs.drop k).flatten=xs.flatten.drop (k*w):=by
 induction xs generalizing k with
 |nil=>simp
 |cons x xs ih=>
  have hx:=hw x eU;cases k with
  |zero=>simp
  |succ k=>
   simp only[List.drop_succ_cons,List.flatten_cons,ih (fun r hr=>hw r (gB _ hr)),Nat.succ_mul];rw[show k*w+w=x.length+k*w by omega,←List.drop_drop,List.drop_left]
end
end Go.RE
namespace Go.RE
section
variable{E:qe}{σ:Sg}{Z:Zs}{ω:Om}{s s' :Vs}{e:PT V}{st:St}{n:Nat}
theorem W4(h:Ok E σ Z ω s e st){g:Tg}{w:Nat}{xs:List (List U)}:∀ {r:Env},Env.cc g s.e r=some (w,xs)→∃ v,OR σ Z ω g w xs v:=by
 intro r
 induction r with
 |nil=>intro h;cases h
 |cons x r ih=>
  intro hx;obtain⟨k,u⟩:=x;cases u with
  |own g' w' xs' =>
   simp only[Env.cc]at hx;split at hx
   ·split at hx
    ·rename_i g2 w2 xs2 hl;split at hx
     ·rename_i hg;subst hg;simp only[ai,aJ]at hx;obtain⟨rfl,rfl⟩:=hx;obtain⟨v,_,h2⟩:=h.env _ _ hl;exact⟨v,h2.1⟩
     ·exact ih hx
    ·exact ih hx
   ·exact ih hx
  |_=>exact ih hx
theorem yX(h:Ok E σ Z ω s e st){g:Tg}{w:Nat}{xs:List (List U)}(hx:s.cc g=some (w,xs)):∃ v,OR σ Z ω g w xs v:=by
 unfold Vs.cc at hx;split at hx
 ·rename_i i off;split at hx<;>try (cases hx;done)
  rename_i cs hi;split at hx<;>try (cases hx;done)
  rename_i w' xs' hc;simp only[ai,aJ]at hx;obtain⟨rfl,rfl⟩:=hx;obtain⟨cs',h1,h2,h3⟩:=h.obj i _ hi;have hlt:off<cs.length:=(bn.1 hc).1;exact⟨_,h3 off _ _ hc (bP (by omega))⟩
 ·exact W4 h hx
theorem Py{i off:Nat}{u:U}{v:V}(hn:u.uB=true)(h:CR σ Z ω n i off u v):UR σ Z n u v:=by
 cases u<;>first|exact h|(simp[U.uB]at hn)
theorem WU{i:Nat}{cs:List U}{cs' :List V}(hlen:cs.length=cs'.length)(hc:∀ (off:Nat) u v,cs[off]? =some u→cs'[off]? =some v→CR σ Z ω n i off u v){k:Option Nat}{off:Nat}{u:U}
  (hl:iE k cs off=some u):∃ v,dZ k cs' off=some v∧UR σ Z n u v:=by
 cases k with
 |none=>
  simp only[iE]at hl;cases hq:cs[off]? with
  |none=>rw[hq]at hl;simp at hl
  |some x=>
   rw[hq]at hl;simp only at hl;cases hx:x.uB with
   |false=>rw[hx]at hl;simp at hl
   |true=>
    rw[hx]at hl;simp at hl;subst hl;have hlt:=(bn.1 hq).1;have hv:=bP (l:=cs') (i:=off) (by omega);exact⟨_,hv,Py hx (hc off _ _ hq hv)⟩
 |some k=>
  simp only[iE]at hl;cases hb:(Nat.ble (off+k) cs.length&&((cs.drop off).take k).all U.uB)with
  |false=>rw[hb]at hl;simp at hl
  |true=>
   rw[hb]at hl;simp at hl;subst hl;simp only[bC,jD]at hb;have hle:=gu hb.1;refine⟨.agg ((cs'.drop off).take k),by simp only[dZ,oT (show off+k≤cs'.length by omega),cond_true],.agg (by simp;omega) fun j u v hu hv=> ?_⟩;have hmem:u∈(cs.drop off).take k:=List.mem_of_getElem? hu;rw[jN]at hu hv;split at hu
   ·rw[if_pos ‹_›]at hv;rw[qd]at hu hv;exact Py (hb.2 u hmem) (hc _ u v hu hv)
   ·simp at hu
theorem mQ{row:List V}{o L off:Nat}{k:Option Nat}{v:V}(ho:o+L≤row.length)(h:dZ k ((row.drop o).take L) off=some v):dZ k row (o+off)=some v:=by
 cases k with
 |none=>
  simp only[dZ]at h⊢;rw[jN]at h;split at h
  ·rw[qd]at h;exact h
  ·simp at h
 |some k=>
  simp only[dZ]at h⊢;cases hb:Nat.ble (off+k) ((row.drop o).take L).length with
  |false=>rw[hb]at h;simp at h
  |true=>
   rw[hb]at h;have hle:=gu hb;simp only[List.length_take,List.length_drop]at hle;simp only[cond_true,ai]at h;rw[oT (show o+off+k≤row.length by omega)];simp only[cond_true,ai];rw[←h];congr 1;rw[List.drop_take,List.drop_drop,List.take_take,Nat.min_eq_left (by omega)]
theorem AR(h:Ok E σ Z ω s e st){i:Nat}{cs:List U}(hi:s.h[i]? =some (.row cs)){k:Option Nat}{off:Nat}{u:U}(hl:lN i k cs off=some u):
  ∃ cs' v,st.row (σ i)=some cs'∧dZ k cs' off=some v∧TR σ Z ω s.h.length u v:=by
 have hlt:i<s.h.length:=(bn.1 hi).1;obtain⟨cs',h1,h2,h3⟩:=h.obj i _ hi;unfold lN at hl;split at hl
 ·rename_i w xs hc;simp at hl;subst hl;have hoff:off<cs.length:=(bn.1 hc).1;have hv:=bP (l:=cs') (i:=off) (by omega);exact⟨cs',_,iT h1,hv,h3 off _ _ hc hv,fun i' off' he=>by cases he;exact hlt⟩
 ·obtain⟨v,a,b⟩:=WU h2 h3 hl;exact⟨cs',v,iT h1,a,TR.bB b⟩
theorem QT(h:Ok E σ Z ω s e st){w:Nat}{xs:List (List U)}{v:V}(hv:UR σ Z n (.sl w xs) v):
  ∃ cs,bH st w v=some cs∧LU σ Z 0 xs.flatten cs∧tw v=some xs.length∧∀ r∈xs,r.length=w:=by
 cases hv with
 |slnil=>exact⟨[],rfl,.nil,rfl,fun r hr=>by cases hr⟩
 |y9=>exact⟨[],rfl,.nil,rfl,fun r hr=>by cases hr⟩
 |Bf hn hz hl hcap hr hv=>
  subst hn;refine⟨_,nS ((h.qm _ _ hz)) hr,⟨?_,hv⟩,rfl,hl⟩;rw[dB hl];simp;omega
 |CO hn hl hr hv=>
  subst hn;refine⟨_,by simp only[bH,jC,oT hr,Bool.and_self,cond_true],⟨?_,hv⟩,rfl,hl⟩;rw[dB hl];simp;omega
theorem Ox(h:Ok E σ Z ω s e st){g:Tg}{w:Nat}{xs:List (List U)}{v:V}(hv:OR σ Z ω g w xs v):
  ∃ cs,bH st w v=some cs∧LU σ Z 0 xs.flatten cs∧tw v=some xs.length∧∀ r∈xs,r.length=w:=by
 unfold OR at hv;split at hv
 ·obtain⟨rfl,rfl|rfl⟩:=hv
  ·exact⟨[],rfl,.nil,rfl,fun r hr=>by cases hr⟩
  ·exact⟨[],rfl,.nil,rfl,fun r hr=>by cases hr⟩
 ·rename_i I hg;obtain⟨rfl,h0,h1,h2,h3,h4⟩:=hv;have hle:xs.length*w≤I.cap*w:=lY _ h1;exact⟨_,nS (iT (h.lE g I hg)) (by omega),h4,rfl,h3⟩
theorem A9(h:Ok E σ Z ω s e st){w:Nat}{u:U}{xs:List (List U)}{v:V}(hx:rowsOf s w u=some xs)(hv:TR σ Z ω s.h.length u v):
  ∃ cs,bH st w v=some cs∧LU σ Z s.h.length xs.flatten cs∧tw v=some xs.length∧∀ r∈xs,r.length=w:=by
 have up:∀ {cs},LU σ Z 0 xs.flatten cs→LU σ Z s.h.length xs.flatten cs:=fun hh=>hh.mono (dW _) (fun _ _=>rfl) (fun _ _ h=>h);cases u<;>simp only[rowsOf,reduceCtorEq]at hx
 ·rename_i w' ys;cases hb:Nat.beq w' w with
  |false=>simp[hb]at hx
  |true=>
   simp[hb]at hx;subst hx;have:w' =w:=bR hb;subst this;obtain⟨cs,a,b,c,d⟩:=QT h hv;exact⟨cs,a,up b,c,d⟩
 ·rename_i w';cases hb:Nat.beq w' w with
  |false=>simp[hb]at hx
  |true=>
   simp[hb]at hx;subst hx;have hv:UR σ Z s.h.length (.nl w') v:=hv;cases hv with
   |CJ=>exact⟨[],rfl,.nil,rfl,fun r hr=>by cases hr⟩
   |Dt=>exact⟨[],rfl,.nil,rfl,fun r hr=>by cases hr⟩
 ·rename_i g w' ys;cases hb:Nat.beq w' w with
  |false=>simp[hb]at hx
  |true=>
   simp[hb]at hx;subst hx;have:w' =w:=bR hb;subst this;obtain⟨cs,a,b,c,d⟩:=Ox h hv.1;exact⟨cs,a,up b,c,d⟩
 ·rename_i i off len w';split at hx<;>try (simp at hx;done)
  rename_i cs hi;cases hb:(Nat.beq w' w&&Nat.beq w 1&&Nat.ble (off+len) cs.length&&((cs.drop off).take len).all U.uB)with
  |false=>rw[hb]at hx;simp at hx
  |true=>
   rw[hb]at hx;simp only[cond_true,ai]at hx;subst hx;simp only[bC,jD]at hb;have e1:w' =w:=bR hb.1.1.1;have e2:w=1:=bR hb.1.1.2;subst e1;subst e2;have hle:=gu hb.1.2;obtain⟨hi',cap,hcap,rfl⟩:=hv;obtain⟨cs',h1,h2,h3⟩:=h.obj i _ hi;have hfl:(List.map (fun c=>[c]) (List.take len (List.drop off cs))).flatten=(cs.drop off).take len:=by
    generalize (cs.drop off).take len=l
    induction l with
    |nil=>rfl
    |cons a l ih=>simpa using ih
   refine⟨_,nS (iT h1) (by omega),?_,by simp only[tw,List.length_map,List.length_take,List.length_drop,ai];omega,fun r hr=>by simp only[eS]at hr;obtain⟨x,_,rfl⟩:=hr;rfl⟩;rw[hfl,Nat.mul_one];refine⟨by simp;omega,fun j u v hu hv=> ?_⟩;have hmem:u∈(cs.drop off).take len:=List.mem_of_getElem? hu;rw[jN]at hu hv;split at hu
   ·rw[if_pos ‹_›]at hv;rw[qd]at hu hv;exact Py (hb.2 u hmem) (h3 _ u v hu hv)
   ·simp at hu
theorem CU:∀ {xs:List (List U)} {bs:List UInt8} {cs:List V},nU xs=some bs→LU σ Z n xs.flatten cs→bytesOf cs=some bs:=by
 intro xs
 induction xs with
 |nil=>intro bs cs h hl;simp[nU]at h;subst h;rw[hl.dY];rfl
 |cons r xs ih=>
  intro bs cs h hl;simp only[nU]at h;cases hr:D3 r with
  |none=>rw[hr]at h;simp at h
  |some b=>
   rw[hr]at h;simp only at h;cases hx:nU xs with
   |none=>rw[hx]at h;simp at h
   |some bs' =>
    rw[hx]at h;simp at h;subst h;unfold D3 at hr;split at hr<;>simp at hr;rename_i m;simp only[List.flatten_cons,List.singleton_append]at hl;obtain⟨v,vs,rfl,h1,h2⟩:=hl.bx;cases h1;simp only[bytesOf,ih hx h2,hr]
theorem uk{kk:gR}{k:U}{k' :V}(hk:TR σ Z ω n k k'):∀ {es:List (U×U×Nat)} {es' :List ME},es.length=es'.length→
  (∀ (j:Nat) x y,es[j]? =some x→es'[j]? =some y→UR σ Z n x.1 y.key∧UR σ Z n x.2.1 y.val∧y.born=x.2.2)→∀ {i:Nat} {r:Option (Nat×U)},nG kk k es i=some r→
  ∃ r',mI kk k' es' i=some r'∧(match r,r' with|none,none=>True|some (j,u),some (j',v)=>j=j'∧UR σ Z n u v|_,_=>False):=by
 intro es
 induction es with
 |nil=>
  intro es' hl _ i r h;have:es' =[]:=jT hl.symm;subst this;simp[nG]at h;subst h;exact⟨none,rfl,trivial⟩
 |cons x es ih=>
  intro es' hl hr i r h;cases es' with
  |nil=>simp at hl
  |cons y es' =>
   have h0:=hr 0 x y rfl rfl;simp only[nG]at h;simp only[mI];cases hp:fJ kk k x.1 with
   |none=>rw[hp]at h;simp at h
   |some b=>
    rw[hp]at h;have hpe:jM kk k' y.key=some b:=by
     unfold fJ at hp;split at hp
     ·rename_i a c e1 e2;rw[qY e1 hk,qY e2 (TR.bB (ω:=ω) h0.1)];exact hp
     ·simp at hp
    rw[hpe];cases b with
    |true=>simp at h;subst h;exact⟨_,rfl,rfl,h0.2.1⟩
    |false=>exact ih (by simpa using hl) (fun j a c ha hc=>hr (j+1) a c (by simpa using ha) (by simpa using hc)) h
theorem lg{kk:gR}{k:U}{k' :V}(hk:TR σ Z ω n k k')(h:dw kk k=true):plainKey kk k' =true:=by
 unfold dw at h;split at h
 ·rename_i v e1;rw[qY e1 hk];exact h
 ·cases h
theorem yT(h:Ok E σ Z ω s e st){i:Nat}{es:List (U×U×Nat)}{c:Nat}(hi:s.h[i]? =some (.map es c)):
  ∃ es',st.get (σ i)=some (.map es' c)∧es.length=es'.length∧∀ (j:Nat) x y,es[j]? =some x→es'[j]? =some y→UR σ Z s.h.length x.1 y.key∧UR σ Z s.h.length x.2.1 y.val∧y.born=x.2.2:=h.obj i _ hi
theorem On(h:Ok E σ Z ω s e st){kk:gR}{zero:U}{z' :V}{ok:Bool}{m k u:U}{m' k' :V}(hz:UR σ Z s.h.length zero z')(hm:TR σ Z ω s.h.length m m')(hk:TR σ Z ω s.h.length k k')
  (hl:fH s kk zero ok m k=some u):∃ v,pJ st kk z' ok m' k' =some v∧UR σ Z s.h.length u v:=by
 have hzz:UR σ Z s.h.length (bif ok then .aV [zero,.bool false]else zero) (if ok then .aV [z',.bool false]else z'):=by
  cases ok with
  |true=>exact .aV rfl (LU.cons hz (LU.cons (.bool _) .nil)).2
  |false=>exact hz
 cases m with
 |bQ=>
  obtain rfl:=TR.bQ hm;simp only[fH]at hl;cases hp:dw kk k with
  |false=>rw[hp]at hl;simp at hl
  |true=>
   rw[hp]at hl;simp only[cond_true,ai]at hl;subst hl;simp only[pJ,lg hk hp,cond_true];exact⟨_,rfl,hzz⟩
 |map i=>
  obtain⟨hi,rfl⟩:=TR.map hm;simp only[fH]at hl;cases hq:s.h[i]? with
  |none=>rw[hq]at hl;simp at hl
  |some o=>
   rw[hq]at hl;cases o with
   |map es c=>
    simp only at hl;cases hp:dw kk k with
    |false=>rw[hp]at hl;simp at hl
    |true=>
     rw[hp]at hl;simp only[cond_true]at hl;obtain⟨es',g1,g2,g3⟩:=yT h hq;simp only[pJ,g1,lg hk hp,cond_true];cases hf:nG kk k es 0 with
     |none=>rw[hf]at hl;simp at hl
     |some r=>
      rw[hf]at hl;obtain⟨r',f1,f2⟩:=uk hk g2 g3 hf;rw[f1];cases r with
      |none=>
       cases r' with
       |none=>simp only[ai]at hl;subst hl;exact⟨_,rfl,hzz⟩
       |some _=>exact f2.elim
      |some p=>
       cases r' with
       |none=>exact f2.elim
       |some q=>
        obtain⟨j,a⟩:=p;obtain⟨j',b⟩:=q;simp only[ai]at hl;subst hl;refine⟨_,rfl,?_⟩;cases ok with
        |true=>exact .aV rfl (LU.cons f2.2 (LU.cons (.bool _) .nil)).2
        |false=>exact f2.2
   |row _=>simp at hl
   |iter a b c d=>simp at hl
   |gone=>simp at hl
 |_=>simp[fH]at hl
theorem Hr{u:U}{v:V}(h:TR σ Z ω n u v){b:Bool}(hu:u.L8=some b):(b=false∧v=.bA)∨(b=true∧((∃ x y,v=.ptr x y)∨∃ x y,v=.eD x y)):=by
 cases u<;>simp[U.L8]at hu<;>subst hu
 ·cases h;exact .inl ⟨rfl,rfl⟩
 ·exact .inr ⟨rfl,.inl ⟨_,_,(TR.ptr h).2⟩⟩
 ·cases h
  ·exact .inr ⟨rfl,.inl ⟨_,_,rfl⟩⟩
  ·exact .inr ⟨rfl,.inr ⟨_,_,rfl⟩⟩
 ·obtain⟨⟨I,_,rfl⟩,_⟩:=h;exact .inr ⟨rfl,.inl ⟨_,_,rfl⟩⟩
theorem Hq{u:U}{v:V}(h:TR σ Z ω n u v){b:Bool}(hu:u.L6=some b):(b=false∧v=.bQ)∨(b=true∧∃ x,v=.map x):=by
 cases u<;>simp[U.L6]at hu<;>subst hu
 ·exact .inl ⟨rfl,TR.bQ h⟩
 ·exact .inr ⟨rfl,_,(TR.map h).2⟩
theorem L5{u:U}{v:V}(h:TR σ Z ω n u v){b:Bool}(hu:u.WO=some b):(b=false∧v=.di)∨(b=true∧∃ x y z,v=.func x y z):=by
 cases u<;>simp[U.WO]at hu<;>subst hu
 ·cases h;exact .inl ⟨rfl,rfl⟩
 ·obtain⟨a,b,rfl,_⟩:=TR.func h;exact .inr ⟨rfl,_,_,_,rfl⟩
theorem Ma{u:U}{v:V}(h:TR σ Z ω n u v){b:Bool}(hu:u.Er=some b):(b=false∧v=.bu)∨(b=true∧((∃ a b c d e f,v=.slice a b c d e f)∨∃ a b c d,v=.ag a b c d)):=by
 cases u with
 |bu=>simp[U.Er]at hu;subst hu;cases h;exact .inl ⟨rfl,rfl⟩
 |sl w xs=>
  cases xs with
  |nil=>simp[U.Er]at hu
  |cons a r=>
   simp[U.Er]at hu;subst hu;cases h
   ·exact .inr ⟨rfl,.inl ⟨_,_,_,_,_,_,rfl⟩⟩
   ·exact .inr ⟨rfl,.inr ⟨_,_,_,_,rfl⟩⟩
 |own g w xs=>
  cases xs with
  |nil=>simp[U.Er]at hu
  |cons a r=>
   simp[U.Er]at hu;subst hu;obtain⟨h,_⟩:=h;unfold OR at h;split at h
   ·cases h.1
   ·exact .inr ⟨rfl,.inl ⟨_,_,_,_,_,_,h.1⟩⟩
 |_=>simp[U.Er]at hu
theorem pK{a b:Option Bool}{r:Bool}(h:Ds a b=some r):∃ x y,a=some x∧b=some y∧(x=false∧r= !y∨x=true∧y=false∧r=false):=by
 unfold Ds at h;split at h<;>simp at h
 ·rename_i x;exact⟨false,x,rfl,rfl,.inl ⟨rfl,by subst h;simp⟩⟩
 ·exact⟨true,false,rfl,rfl,.inr ⟨rfl,rfl,by subst h;rfl⟩⟩
theorem J7{k:gR}{a b:U}{x y:V}{r:Bool}(h:fJ k a b=some r)(ha:TR σ Z ω n a x)(hb:TR σ Z ω n b y):jM k x y=some r:=by
 unfold fJ at h;split at h
 ·rename_i p q e1 e2;rw[qY e1 ha,qY e2 hb];exact h
 ·simp at h
theorem N9:∀ {ks:List (Nat×gR)} {a b:List U} {x y:List V} {r:Bool},rQ ks a b=some r→LU σ Z n a x→LU σ Z n b y→qE ks x y=some r:=by
 intro ks
 induction ks with
 |nil=>intro a b x y r h _ _;simpa[rQ,qE]using h
 |cons k ks ih=>
  intro a b x y r h ha hb;obtain⟨o,k⟩:=k;simp only[rQ]at h;split at h<;>try (simp at h;done)
  rename_i p q e1 e2;obtain⟨p',f1,f2⟩:=ha.get e1;obtain⟨q',g1,g2⟩:=hb.get e2;simp only[qE,f1,g1];cases hp:fJ k p q with
  |none=>rw[hp]at h;simp at h
  |some c=>
   rw[hp]at h;rw[J7 (ω:=fun _=>none) hp (TR.bB f2) (TR.bB g2)];cases c with
   |true=>exact ih h ha hb
   |false=>exact h
theorem qeh{ek:gR}{a b:U}{x y:V}{r:Bool}(h:LQ ek a b=some r)(ha:TR σ Z ω n a x)(hb:TR σ Z ω n b y):GC ek x y=some r:=by
 cases ek with
 |bool=>
  simp only[LQ]at h;split at h<;>simp at h;subst h;rw[TR.bool ha,TR.bool hb];rfl
 |bA=>
  obtain⟨p,q,h1,h2,h3⟩:=pK (by simpa only[LQ]using h);rcases Hr ha h1 with⟨rfl,rfl⟩|⟨rfl,h4⟩<;>rcases Hr hb h2 with⟨rfl,rfl⟩|⟨rfl,h5⟩
  ·simp at h3;subst h3;rfl
  ·simp at h3;subst h3;rcases h5 with⟨_,_,rfl⟩|⟨_,_,rfl⟩<;>rfl
  ·simp at h3;subst h3;rcases h4 with⟨_,_,rfl⟩|⟨_,_,rfl⟩<;>rfl
  ·simp at h3
 |bu=>
  obtain⟨p,q,h1,h2,h3⟩:=pK (by simpa only[LQ]using h);rcases Ma ha h1 with⟨rfl,rfl⟩|⟨rfl,h4⟩<;>rcases Ma hb h2 with⟨rfl,rfl⟩|⟨rfl,h5⟩
  ·simp at h3;subst h3;rfl
  ·simp at h3;subst h3;rcases h5 with⟨_,_,_,_,_,_,rfl⟩|⟨_,_,_,_,rfl⟩<;>rfl
  ·simp at h3;subst h3;rcases h4 with⟨_,_,_,_,_,_,rfl⟩|⟨_,_,_,_,rfl⟩<;>rfl
  ·simp at h3
 |bQ=>
  obtain⟨p,q,h1,h2,h3⟩:=pK (by simpa only[LQ]using h);rcases Hq ha h1 with⟨rfl,rfl⟩|⟨rfl,_,rfl⟩<;>rcases Hq hb h2 with⟨rfl,rfl⟩|⟨rfl,_,rfl⟩
  ·simp at h3;subst h3;rfl
  ·simp at h3;subst h3;rfl
  ·simp at h3;subst h3;rfl
  ·simp at h3
 |di=>
  obtain⟨p,q,h1,h2,h3⟩:=pK (by simpa only[LQ]using h);rcases L5 ha h1 with⟨rfl,rfl⟩|⟨rfl,_,_,_,rfl⟩<;>rcases L5 hb h2 with⟨rfl,rfl⟩|⟨rfl,_,_,_,rfl⟩
  ·simp at h3;subst h3;rfl
  ·simp at h3;subst h3;rfl
  ·simp at h3;subst h3;rfl
  ·simp at h3
 |iface g=>
  simp only[LQ]at h;split at h
  ·rw[TR.cO ha,TR.cO hb];cases g with
   |true=>simp at h
   |false=>simp at h;subst h;rfl
  ·simp at h;subst h;obtain⟨v',rfl,_⟩:=TR.iface hb;rw[TR.cO ha];cases g<;>rfl
  ·simp at h;subst h;obtain⟨v',rfl,_⟩:=TR.iface ha;rw[TR.cO hb];cases g<;>rfl
  ·simp at h
 |flat ks=>
  simp only[LQ]at h;split at h<;>try (simp at h;done)
  obtain⟨p,rfl,h1⟩:=TR.agg ha;obtain⟨q,rfl,h2⟩:=TR.agg hb;exact N9 h h1 h2
 |int=>simp[LQ]at h
 |str=>simp[LQ]at h
 |no=>simp[LQ]at h
end
end Go.RE
namespace Go.RE
section
variable{E:qe}{σ:Sg}{Z:Zs}{ω:Om}{s s' :Vs}{e:PT V}{st:St}{n:Nat}
theorem cW(g:Tg)(s:Vs):(s.kill g).h.length=s.h.length:=by
 unfold Vs.kill;split
 ·unfold setCell;split<;>simp
 ·rfl
theorem Ok.EC(h:Ok E σ Z ω s e st)(d:Nat):∃ ω',Ok E σ Z ω' (s.kill (.t d)) e st∧ω' (.t d)=none∧∀ g,g≠.t d→ω' g=ω g:=
 ⟨_,(h.kill (.t d)).Be (eZ _ _) (by simp) (o:=none) (fun I hI=>by cases hI),bl _ _ _,fun g hg=>cV _ _ hg⟩
theorem TR.empty{d w:Nat}{v:V}(h:ω (.t d)=none)(hv:v=.bu∨v=.bM):TR σ Z ω n (.own (.t d) w []) v:=by
 refine⟨?_,fun i off hh=>by cases hh⟩;unfold OR;rw[h];exact⟨rfl,hv⟩
theorem mh{a:List U}{row:List V}{off L i k:Nat}(h:LU σ Z n a ((row.drop off).take L))(hk:k≤L):LU σ Z n ((a.take k).drop i) ((row.drop (off+i)).take (k - i)):=by
 have e:(((row.drop off).take L).take k).drop i=(row.drop (off+i)).take (k - i):=by
  rw[List.take_take,Nat.min_eq_left hk,List.drop_take,List.drop_drop]
 rw[←e];exact(h.take k).drop i
theorem Oy(h:Ok E σ Z ω s e st){d:Nat}{g:Tg}{w:Nat}{xs:List (List U)}{v:V}(hga:g≠.a)(hv:OR σ Z ω g w xs v){l hh:Nat}(h1:l≤hh)(h2:hh≤xs.length):
  ∃ ω' v',Ok E σ Z ω' ((s.kill g).kill (.t d)) e st∧OR σ Z ω' (.t d) w ((xs.take hh).drop l) v'∧
   (match v with
   | .bu=>v' =.bu
   | .bM=>v' =.bM
   | .slice b off len cap sz ex=>v' =.slice b (off+l*sz) (hh - l) (cap - l) sz ex∧sz=w∧len=xs.length∧hh≤cap
   |_=>False):=by
 have hk1:=h.kill g;have hk2:=hk1.kill (.t d);unfold OR at hv;split at hv
 ·rename_i hg;obtain⟨rfl,hvv⟩:=hv;have hh0:hh=0:=by simpa using h2
  have hl0:l=0:=by omega
  subst hh0;subst hl0;refine⟨_,v,hk2.Be (eZ _ _) (by simp) (o:=none) (fun I hI=>by cases hI),?_,?_⟩
  ·unfold OR;rw[bl];exact⟨by simp,hvv⟩
  ·rcases hvv with rfl|rfl<;>rfl
 ·rename_i I hg;obtain⟨rfl,e0,e1,e2,e3,e4⟩:=hv
  -- the old tag is given up,the new one takes what it had
  have hgr:g≠.r:=fun hh=>by subst hh;rw[h.wr]at hg;cases hg
  have hnt:ow g ((s.kill g).kill (.t d)):=(eZ g s).kill;have hka:=hk2.Be hnt hgr (o:=none) (fun I hI=>by cases hI) hga;have hlen:((s.kill g).kill (.t d)).h.length=s.h.length:=by rw[cW,cW]
  have hwl:∀ a:Nat,I.off+a*w+(I.cap - a)*w≤I.row.length∨¬a≤I.cap:=fun a=>by
   by_cases ha:a≤I.cap
   ·left;have:a*w+(I.cap - a)*w=I.cap*w:=by rw[←Nat.add_mul];congr 1;omega
    omega
   ·exact .inr ha
  have hkb:=hka.Be (g:=.t d) (eZ _ _) (by simp) (o:=some ⟨I.b,I.off+l*w,I.cap - l,I.ex,w,I.row,(xs.take hh).drop l⟩) (fun J hJ=>by
   cases hJ;refine⟨h.lE g I hg,fun i hi=>h.sw i g I (by omega) hg,h.wz g I hg,fun g' I' hg' hI' hb=> ?_,fun b hb hbI=> ?_,fun i off hh=>by cases hh⟩
   ·by_cases hgg:g' =g
    ·subst hgg;rw[bl]at hI';cases hI'
    ·rw[cV _ _ hgg]at hI';exact hgg (h.gJ g' g I' I hI' hg hb)
   ·exact(h.out b hb hbI).2.2.1 g I hg)
  refine⟨_,_,hkb,?_,rfl,rfl,rfl,by omega⟩;unfold OR;rw[bl];have hle:((xs.take hh).drop l).length=hh - l:=by simp;omega
  refine⟨by rw[hle],⟨rfl,rfl⟩,by rw[hle];simp only;omega,?_,fun r hr=>e3 r (List.mem_of_mem_take (List.mem_of_mem_drop hr)),?_⟩
  ·rcases hwl l with hq|hq
   ·exact hq
   ·omega
  ·rw[rR (fun r hr=>e3 r (List.mem_of_mem_take hr)),rS e3,hle];rw[show(hh - l)*w=hh*w - l*w from Nat.sub_mul _ _ _];exact mh e4 (lY _ h2)
theorem Ih{d w:Nat}{lo hi mx:Option bJ}{u u' :U}{v:V}{x:bJ}(h:Ok E σ Z ω s e st)(hx:x.er.ev e=some v)(hu:TR σ Z ω s.h.length u v)(hs:ir d w lo hi mx u s=some (u',s')):
  ∃ Z' ω' v',cD e st (.slice w x.er (bG lo) (bG hi) (bG mx))=some v'∧Ok E σ Z' ω' s' e st∧TR σ Z' ω' s'.h.length u' v'∧s'.h.length=s.h.length∧∀ b r,Z b=some r→Z' b=some r:=by
 have hmx:(bG mx).isSome=mx.isSome:=by cases mx<;>rfl
 cases u with
 |sl w' xs=>
  simp only[ir]at hs;cases hb:Nat.beq w' w with
  |false=>rw[hb]at hs;simp at hs
  |true=>
   have hww:w' =w:=bR hb;subst hww;rw[hb]at hs;simp only[cond_true]at hs;cases n2:bw s.e hi xs.length xs.length with
   |none=>rw[n2]at hs;simp at hs
   |some hh=>
    rw[n2]at hs;simp only at hs;cases n1:bw s.e lo 0 hh with
    |none=>rw[n1]at hs;simp at hs
    |some l=>
     rw[n1]at hs;simp only at hs;have q2:=h.au n2;have q1:=h.au n1;have b1:l≤hh:=dm (dW _) q1;have b2:hh≤xs.length:=dm (aq _) q2
     -- what a part shows
     have part:∀ {n:Nat},UR σ Z n (.sl w' xs) v→∀ (m:Nat),hh≤m→m≤xs.length→(∀ k,au e (bG mx) k k=if mx.isSome then(if m≤k then some m else none)else some k)→
       (mx.isSome=false→m=xs.length)→(mx.isSome=true→hh=m)→
       ∃ y,cD e st (.slice w' x.er (bG lo) (bG hi) (bG mx))=some y∧((mx.isSome&&Nat.beq m 0)=false→UR σ Z n (.sl w' ((xs.take hh).drop l)) y)∧((mx.isSome&&Nat.beq m 0)=true→y=.bu∨y=.bM):=by
      intro n hur m hm1 hm2 hopt hm3 hm4;have hl0:(bG hi=none∨∀ a b,au e (bG hi) a b=au e (bG hi) b b):=by
       cases hi with
       |none=>exact .inl rfl
       |some y=>exact .inr fun a b=>rfl
      have q2m:∀ k,au e (bG hi) xs.length m=some k→k=hh:=fun k hk=>by
       cases hi with
       |none=>simp[bG,au]at hk q2;omega
       |some y=>
        simp only[bG,au]at hk q2;cases hyv:y.er.ev e with
        |none=>rw[hyv]at hk;simp at hk
        |some a=>
         rw[hyv]at hk q2;simp only at hk q2;cases a<;>simp[asNat]at hk q2;omega
      have q2' :au e (bG hi) xs.length m=some hh:=by
       cases hi with
       |none=>
        simp only[bG,au,ai]at q2⊢;cases hq:mx.isSome with
        |true=>omega
        |false=>omega
       |some y=>
        simp only[bG,au]at q2⊢;cases hyv:y.er.ev e with
        |none=>rw[hyv]at q2;simp at q2
        |some a=>
         rw[hyv]at q2;simp only at q2⊢;cases a<;>simp[asNat]at q2⊢;omega
      cases hur with
      |slnil=>
       have z1:hh=0:=by simpa using b2
       have z2:m=0:=by simpa using hm2
       have z3:l=0:=by omega
       subst z1;subst z2;subst z3;have h3:au e (bG mx) 0 0=some 0:=by rw[hopt];cases mx.isSome<;>simp
       refine⟨.bu,?_,fun _=>by simpa using UR.slnil,fun _=> .inl rfl⟩;simp only[cD,hx,h3];simp only[List.length_nil]at q2';simp only[q2',q1]
      |y9=>
       have z1:hh=0:=by simpa using b2
       have z2:m=0:=by simpa using hm2
       have z3:l=0:=by omega
       subst z1;subst z2;subst z3;have h3:au e (bG mx) 0 0=some 0:=by rw[hopt];cases mx.isSome<;>simp
       refine⟨.bM,?_,fun _=>by simpa using UR.y9,fun _=> .inr rfl⟩;simp only[cD,hx,h3];simp only[List.length_nil]at q2';simp only[q2',q1]
      |Bf hn hz hl hcap hr hv=>
       rename_i b off len cap ex row';subst hn
       -- the room
       have hM:∃ M,au e (bG mx) cap cap=some M∧m≤M∧M≤cap∧au e (bG hi) xs.length M=some hh∧(mx.isSome=true→M=m):=by
        rw[hopt];cases hq:mx.isSome with
        |true=>exact⟨m,by simp;omega,aq _,by omega,q2',fun _=>rfl⟩
        |false=>
         refine⟨cap,by simp,by omega,aq _,?_,fun hh=>by simp at hh⟩;cases hi with
         |none=>simpa[bG,au]using q2
         |some y=>
          simp only[bG,au]at q2⊢;cases hyv:y.er.ev e with
          |none=>rw[hyv]at q2;simp at q2
          |some a=>
           rw[hyv]at q2;simp only at q2⊢;cases a<;>simp[asNat]at q2⊢;omega
       obtain⟨M,m1,m2,m3,m4,m5⟩:=hM;have hev:cD e st (.slice w' x.er (bG lo) (bG hi) (bG mx))=(bif(bG mx).isSome&&Nat.beq M 0 then some .bM else some (.slice b (off+l*w') (hh - l) (M - l) w' (ex||(bG mx).isSome))):=by
        simp only[cD,hx,m1,m4,q1,jC,cond_true]
       rw[hev,hmx];cases hz0:(mx.isSome&&Nat.beq M 0)with
       |true=>
        simp only[bC]at hz0;have hMm:=m5 hz0.1;have hm0:M=0:=bR hz0.2;refine⟨.bM,rfl,fun hf=> ?_,fun _=> .inr rfl⟩;rw[hz0.1,←hMm,hz0.2]at hf;simp at hf
       |false=>
        refine⟨_,rfl,fun _=> ?_,fun ht=> ?_⟩
        ·have hle:((xs.take hh).drop l).length=hh - l:=by simp;omega
         have hmul:hh*w'≤xs.length*w' :=lY _ b2;have hsub:(hh - l)*w' =hh*w' - l*w' :=Nat.sub_mul _ _ _;have hlw:l*w'≤hh*w' :=lY _ b1;refine .Bf hle.symm hz (fun r hr=>hl r (List.mem_of_mem_take (List.mem_of_mem_drop hr))) (by omega) (by rw[hle];omega) fun j a c ha hc=> ?_;rw[rR (fun r hr=>hl r (List.mem_of_mem_take hr)),rS hl]at ha;rw[hle]at hc;have hlu:LU σ Z 0 xs.flatten ((row'.drop off).take (xs.length*w')):=⟨by rw[dB hl];simp;omega,hv⟩;exact(mh hlu hmul).2 j a c ha (by rw[←hsub];exact hc)
        ·simp only[bC]at ht;have:=m5 ht.1;rw[this,ht.1,ht.2]at hz0;simp at hz0
      |CO hn hl hr hv=>
       rename_i off len row';subst hn;have h3:au e (bG mx) xs.length xs.length=some m:=by
        rw[hopt];cases hq:mx.isSome with
        |true=>simp;omega
        |false=>simp[hm3 hq]
       have hev:cD e st (.slice w' x.er (bG lo) (bG hi) (bG mx))=(bif(bG mx).isSome&&Nat.beq m 0 then some .bM else some (.ag row' (off+l*w') (hh - l) w')):=by
        simp only[cD,hx,h3,q2',q1,jC,cond_true]
       rw[hev,hmx];cases hz0:(mx.isSome&&Nat.beq m 0)with
       |true=>exact⟨.bM,rfl,(fun hf=>by cases hf),fun _=> .inr rfl⟩
       |false=>
        refine⟨_,rfl,fun _=> ?_,fun ht=>by cases ht⟩;have hle:((xs.take hh).drop l).length=hh - l:=by simp;omega
        have hmul:hh*w'≤xs.length*w' :=lY _ b2;have hsub:(hh - l)*w' =hh*w' - l*w' :=Nat.sub_mul _ _ _;have hlw:l*w'≤hh*w' :=lY _ b1;refine .CO hle.symm (fun r hr=>hl r (List.mem_of_mem_take (List.mem_of_mem_drop hr))) (by rw[hle];omega) fun j a c ha hc=> ?_;rw[rR (fun r hr=>hl r (List.mem_of_mem_take hr)),rS hl]at ha;rw[hle]at hc;have hlu:LU σ Z 0 xs.flatten ((row'.drop off).take (xs.length*w')):=⟨by rw[dB hl];simp;omega,hv⟩;exact(mh hlu hmul).2 j a c ha (by rw[←hsub];exact hc)
     have hu0:UR σ Z s.h.length (.sl w' xs) v:=hu;cases mx with
     |none=>
      simp only[ai,aJ]at hs;obtain⟨rfl,rfl⟩:=hs;obtain⟨y,y1,y2,_⟩:=part hu0 xs.length b2 (aq _) (fun k=>by simp[bG,au]) (fun _=>rfl) (fun hh=>by simp at hh);exact⟨Z,ω,y,y1,h,TR.bB (y2 (by simp)),rfl,fun _ _ h=>h⟩
     |some mo=>
      simp only at hs;cases n3:bw s.e (some mo) xs.length xs.length with
      |none=>rw[n3]at hs;simp at hs
      |some m=>
       rw[n3]at hs;simp only at hs;have q3:=h.au n3;have b3:m≤xs.length:=dm (aq _) q3;cases hb2:Nat.beq m hh with
       |false=>rw[hb2]at hs;simp at hs
       |true=>
        have hmh:m=hh:=bR hb2;rw[hb2]at hs;simp only[cond_true]at hs;have hopt:∀ k,au e (bG (some mo)) k k=if(some mo).isSome then(if m≤k then some m else none)else some k:=fun k=>by
         simp only[bG,au]at q3⊢;cases hyv:mo.er.ev e with
         |none=>rw[hyv]at q3;simp at q3
         |some a=>
          rw[hyv]at q3;simp only at q3⊢;cases a<;>simp[asNat]at q3⊢;by_cases hk:m≤k
          ·rw[if_pos hk,if_pos (by omega)];simp;omega
          ·rw[if_neg hk,if_neg (by omega)]
        obtain⟨y,y1,y2,y3⟩:=part hu0 m (by omega) b3 hopt (fun hh=>by simp at hh) (fun _=>hmh.symm);cases hb0:Nat.beq m 0 with
        |true=>
         rw[hb0]at hs;simp only[cond_true,ai,aJ]at hs;obtain⟨rfl,rfl⟩:=hs;obtain⟨ω',k1,k2,k3⟩:=h.EC d;exact⟨Z,ω',y,y1,k1,TR.empty k2 (y3 (by simp[hb0])),rfl,fun _ _ h=>h⟩
        |false=>
         rw[hb0]at hs;simp only[cond_false,ai,aJ]at hs;obtain⟨rfl,rfl⟩:=hs;exact⟨Z,ω,y,y1,h,TR.bB (y2 (by simp[hb0])),rfl,fun _ _ h=>h⟩
 |own g w' xs=>
  simp only[ir]at hs;cases hb:Nat.beq w' w with
  |false=>rw[hb]at hs;simp at hs
  |true=>
   have hww:w' =w:=bR hb;subst hww;rw[hb]at hs;simp only[cond_true]at hs;cases mx with
   |none=>
    simp only at hs;cases n2:bw s.e hi xs.length xs.length with
    |none=>rw[n2]at hs;simp at hs
    |some hh=>
     rw[n2]at hs;simp only at hs;cases n1:bw s.e lo 0 hh with
     |none=>rw[n1]at hs;simp at hs
     |some l=>
      rw[n1]at hs;have q2:=h.au n2;have q1:=h.au n1;have b1:l≤hh:=dm (dW _) q1;have b2:hh≤xs.length:=dm (aq _) q2;cases hgl:g.HA with
      |true=>
       simp only[hgl,cond_true,ai,aJ]at hs;obtain⟨rfl,rfl⟩:=hs;have hor:=hu.1;have key:∀ {v'},cD e st (.slice w' x.er (bG lo) (bG hi) (bG none))=some v'→VW ω g l (hh - l) w' v'→∃ Z' ω' v',cD e st (.slice w' x.er (bG lo) (bG hi) (bG none))=some v'∧Ok E σ Z' ω' s e st∧
         TR σ Z' ω' s.h.length (.view g l (hh - l) w') v'∧s.h.length=s.h.length∧∀ b r,Z b=some r→Z' b=some r:=fun {v'} k1 k2=>⟨Z,ω,v',k1,h,⟨k2,hu.2⟩,rfl,fun _ _ h=>h⟩
       unfold OR at hor;split at hor
       ·rename_i hg;obtain⟨rfl,hvv⟩:=hor;simp only[List.length_nil]at q2;have z1:hh=0:=by simpa using b2
        subst z1;have z2:l=0:=by omega
        subst z2;have q3:au e (bG none) 0 0=some 0:=rfl;refine key (v' :=v) ?_ ?_
        ·rcases hvv with rfl|rfl<;>simp only[cD,hx,q3,q2,q1]
        ·unfold VW;rw[hg];exact⟨rfl,hvv⟩
       ·rename_i I hg;obtain⟨rfl,e0,e1,_⟩:=hor;have q2' :au e (bG hi) xs.length I.cap=some hh:=by
         cases hi with
         |none=>simpa[bG,au]using q2
         |some y=>
          simp only[bG,au]at q2⊢;cases hyv:y.er.ev e with
          |none=>rw[hyv]at q2;simp at q2
          |some a=>
           rw[hyv]at q2;simp only at q2⊢;cases a<;>simp[asNat]at q2⊢;omega
        have q3' :au e (bG none) I.cap I.cap=some I.cap:=rfl;refine key (v' :=.slice I.b (I.off+l*w') (hh - l) (I.cap - l) w' I.ex) ?_ ?_
        ·simp only[cD,hx,q3',q2',q1,jC,cond_true];simp[bG]
        ·unfold VW;rw[hg];exact .inl ⟨⟨_,_,rfl,by omega⟩,e0.1,by rw[e0.2];omega⟩
      |false=>
      simp only[hgl,cond_false,ai,aJ]at hs;obtain⟨rfl,rfl⟩:=hs;obtain⟨ω',v',k1,k2,k3⟩:=Oy (d:=d) h (by rintro rfl;cases hgl) hu.1 b1 b2;refine⟨Z,ω',v',?_,k1,⟨k2,fun i off hh=>by cases hh⟩,by rw[cW,cW],fun _ _ h=>h⟩;have hor:=hu.1;unfold OR at hor;split at hor
      ·obtain⟨rfl,rfl|rfl⟩:=hor
       ·simp only at k3;subst k3;simp only[List.length_nil]at q2;have z1:hh=0:=by simpa using b2
        subst z1;have q3:au e (bG none) 0 0=some 0:=rfl;simp only[cD,hx,q3,q2,q1]
       ·simp only at k3;subst k3;simp only[List.length_nil]at q2;have z1:hh=0:=by simpa using b2
        subst z1;have q3:au e (bG none) 0 0=some 0:=rfl;simp only[cD,hx,q3,q2,q1]
      ·rename_i I hg;obtain⟨rfl,_⟩:=hor;simp only at k3;obtain⟨rfl,_,_,k4⟩:=k3;have q2' :au e (bG hi) xs.length I.cap=some hh:=by
        cases hi with
        |none=>simpa[bG,au]using q2
        |some y=>
         simp only[bG,au]at q2⊢;cases hyv:y.er.ev e with
         |none=>rw[hyv]at q2;simp at q2
         |some a=>
          rw[hyv]at q2;simp only at q2⊢;cases a<;>simp[asNat]at q2⊢;omega
       have q3' :au e (bG none) I.cap I.cap=some I.cap:=rfl;simp only[cD,hx,q3',q2',q1,jC,cond_true];simp[bG]
   |some mo=>
    simp only at hs;split at hs<;>simp only[ai,aJ,reduceCtorEq]at hs;rename_i n2 n3 n1;obtain⟨rfl,rfl⟩:=hs;have q2:=h.au n2;have q3:=h.au n3;have q1:=h.au n1;obtain⟨ω',k1,k2,k3⟩:=h.EC d;have hm0:∀ k,au e (bG (some mo)) k k=some 0:=fun k=>by
     simp only[bG,au]at q3⊢;cases hyv:mo.er.ev e with
     |none=>rw[hyv]at q3;simp at q3
     |some a=>
      rw[hyv]at q3;simp only at q3⊢;cases a<;>simp[asNat]at q3⊢;omega
    have hh0:au e (bG hi) xs.length 0=some 0:=by
     cases hi with
     |none=>simpa[bG,au]using q2
     |some y=>
      simp only[bG,au]at q2⊢;cases hyv:y.er.ev e with
      |none=>rw[hyv]at q2;simp at q2
      |some a=>
       rw[hyv]at q2;simp only at q2⊢;cases a<;>simp[asNat]at q2⊢;omega
    have hor:=hu.1;unfold OR at hor;split at hor
    ·obtain⟨rfl,rfl|rfl⟩:=hor
     ·refine⟨Z,ω',.bu,?_,k1,TR.empty k2 (.inl rfl),rfl,fun _ _ h=>h⟩;simp only[List.length_nil]at hh0;simp only[cD,hx,hm0,hh0,q1]
     ·refine⟨Z,ω',.bM,?_,k1,TR.empty k2 (.inr rfl),rfl,fun _ _ h=>h⟩;simp only[List.length_nil]at hh0;simp only[cD,hx,hm0,hh0,q1]
    ·rename_i I hg;obtain⟨rfl,_⟩:=hor;refine⟨Z,ω',.bM,?_,k1,TR.empty k2 (.inr rfl),rfl,fun _ _ h=>h⟩;simp only[cD,hx,hm0,hh0,q1,jC,cond_true];rfl
 |nl w' =>
  simp only[ir]at hs;cases hb:Nat.beq w' w with
  |false=>rw[hb]at hs;simp at hs
  |true=>
   have hww:w' =w:=bR hb;subst hww;rw[hb]at hs;simp only[cond_true]at hs;split at hs<;>simp only[ai,aJ,reduceCtorEq]at hs;rename_i n2 n3 n1;obtain⟨rfl,rfl⟩:=hs;have q2:=h.au n2;have q3:=h.au n3;have q1:=h.au n1;have hur:UR σ Z s.h.length (.nl w') v:=hu;cases hur with
   |CJ=>exact⟨Z,ω,.bu,by simp only[cD,hx,q3,q2,q1],h,TR.bB .CJ,rfl,fun _ _ h=>h⟩
   |Dt=>exact⟨Z,ω,.bM,by simp only[cD,hx,q3,q2,q1],h,TR.bB .Dt,rfl,fun _ _ h=>h⟩
 |_=>simp[ir]at hs
end
end Go.RE
namespace Go.RE
section
variable{E:qe}{σ:Sg}{Z:Zs}{ω:Om}{s s' :Vs}{e:PT V}{st:St}{n:Nat}
theorem Ok.mY(h:Ok E σ Z ω s e st):∀ {xs:List bJ} {us:List U},jy s.e xs=some us→∃ vs,Jr e (mZ xs)=some vs∧us.length=vs.length∧∀ (j:Nat) u v,us[j]? =some u→vs[j]? =some v→TR σ Z ω s.h.length u v:=by
 intro xs
 induction xs with
 |nil=>intro us h;simp[jy]at h;subst h;exact⟨[],rfl,rfl,fun j u v h=>by simp at h⟩
 |cons x xs ih=>
  intro us hx;simp only[jy]at hx;cases hq:cq s.e x with
  |none=>rw[hq]at hx;simp at hx
  |some u=>
   rw[hq]at hx;simp only at hx;cases hr:jy s.e xs with
   |none=>rw[hr]at hx;simp at hx
   |some us' =>
    rw[hr]at hx;simp only[ai]at hx;subst hx;obtain⟨v,a1,a2⟩:=h.cB hq;obtain⟨vs,b1,b2,b3⟩:=ih hr;refine⟨v::vs,by simp only[mZ,Jr,a1,b1],by simp[b2],fun j p q hp hq=> ?_⟩;cases j with
    |zero=>simp at hp hq;subst hp;subst hq;exact a2
    |succ j=>simp at hp hq;exact b3 j p q hp hq
theorem LZ{f:V→V→Option V}:∀ {us:List U} {vs:List V} {a r:U} {x:V},us.length=vs.length→(∀ (j:Nat) u v,us[j]? =some u→vs[j]? =some v→TR σ Z ω n u v)→TR σ Z ω n a x→mJ (lH f) a us=some r→
  ∃ y,yb f x vs=some y∧TR σ Z ω n r y:=by
 intro us
 induction us with
 |nil=>intro vs a r x hl _ ha h;simp[mJ]at h;subst h;have:vs=[]:=jT hl.symm;subst this;exact⟨x,rfl,ha⟩
 |cons u us ih=>
  intro vs a r x hl hr ha h;cases vs with
  |nil=>simp at hl
  |cons v vs=>
   simp only[mJ]at h;cases hq:lH f a u with
   |none=>rw[hq]at h;simp at h
   |some c=>
    rw[hq]at h;simp only at h;unfold lH at hq;split at hq<;>try (simp at hq;done)
    rename_i p q e1 e2;obtain⟨y,y1,y2⟩:=EW (σ:=σ) (Z:=Z) (n:=n) hq;have hx:=qY e1 ha;have hv:=qY e2 (hr 0 u v rfl rfl);subst hx;subst hv;simp only[yb,y1];exact ih (by simpa using hl) (fun j p q hp hq=>hr (j+1) p q (by simpa using hp) (by simpa using hq)) (TR.bB y2) h
set_option maxHeartbeats 1000000 in
theorem Wo{k:Nat}:∀ {es:List (U×U×Nat)} {es' :List ME} {x:U×U×Nat},es.length=es'.length→(∀ (j:Nat) e e',es[j]? =some e→es'[j]? =some e'→UR σ Z n e.1 e'.key∧UR σ Z n e.2.1 e'.val∧e'.born=e.2.2)→
  es.find? (fun e=>Nat.beq e.2.2 k)=some x→∃ x',es'.find? (fun e=>Nat.beq e.born k)=some x'∧UR σ Z n x.1 x'.key∧UR σ Z n x.2.1 x'.val:=by
 intro es
 induction es with
 |nil=>intro es' x _ _ h;simp at h
 |cons e es ih=>
  intro es' x hl hr h;cases es' with
  |nil=>simp at hl
  |cons e' es' =>
   obtain⟨r1,r2,r3⟩:=hr 0 e e' rfl rfl;rw[List.find?_cons]at h⊢;rw[r3];cases hb:Nat.beq e.2.2 k with
   |true=>rw[hb]at h;simp at h;subst h;exact⟨e',rfl,r1,r2⟩
   |false=>
    rw[hb]at h;exact ih (by simpa using hl) (fun j a b ha hb=>hr (j+1) a b (by simpa using ha) (by simpa using hb)) h
theorem PC(h:Ok E σ Z ω s e st){q:Nat}{u:U}(hu:mF s q=some u):∃ v,Aq st (σ q)=some v∧UR σ Z s.h.length u v:=by
 unfold mF at hu;split at hu<;>try (simp at hu;done)
 rename_i m since seen last hq;split at hu<;>try (simp at hu;done)
 rename_i es clock k hm hk;obtain⟨hb,hu⟩:Nat.beq clock last=true∧_:=by
  cases hb:Nat.beq clock last with
  |false=>rw[hb]at hu;simp at hu
  |true=>rw[hb]at hu;exact⟨rfl,hu⟩
 simp only[cond_true]at hu;split at hu<;>simp only[ai,reduceCtorEq]at hu;rename_i x hx;subst hu;obtain⟨g1,g2⟩:=h.obj q _ hq;obtain⟨es',m1,m2,m3⟩:=h.obj m _ hm;obtain⟨x',f1,f2,f3⟩:=Wo m2 m3 hx;refine⟨.aV [x'.key,x'.val],?_,UR.aV rfl (LU.cons f2 (LU.cons f3 .nil)).2⟩;unfold Aq;simp only[g1,Option.map_some,m1,hk,hb,cond_true,f1]
theorem Dw{d:Nat}{o:fS}{u:U}(h:fR d s o=some (u,s'))(hk:Ok E σ Z ω s e st):
  ∃ Z' ω' v,cD e st o.er=some v∧Ok E σ Z' ω' s' e st∧TR σ Z' ω' s'.h.length u v∧s'.h.length=s.h.length∧∀ b r,Z b=some r→Z' b=some r:=by
 have same:∀ {v},cD e st o.er=some v→TR σ Z ω s.h.length u v→s' =s→∃ Z' ω' v,cD e st o.er=some v∧Ok E σ Z' ω' s' e st∧TR σ Z' ω' s'.h.length u v∧s'.h.length=s.h.length∧∀ b r,Z b=some r→Z' b=some r:=
  fun {v} h1 h2 h3=>by subst h3;exact⟨Z,ω,v,h1,hk,h2,rfl,fun _ _ h=>h⟩
 cases o with
 |bt x=>
  simp only[fR]at h;split at h
  ·rename_i w xs hx;simp only[ai,aJ]at h;obtain⟨rfl,rfl⟩:=h;obtain⟨v,h1,h2⟩:=hk.cB hx;have h3:=h2.1;unfold OR at h3;rw[hk.wr]at h3;obtain⟨rfl,h4⟩:=h3;obtain⟨ω',k1,k2,_⟩:=hk.EC d;exact⟨Z,ω',v,h1,k1,TR.empty k2 h4,rfl,fun _ _ h=>h⟩
  ·rename_i u' hno hx;simp only[ai,aJ]at h;obtain⟨rfl,rfl⟩:=h;obtain⟨v,h1,h2⟩:=hk.cB hx;exact same h1 h2 rfl
  ·simp at h
 |pick c a b=>
  simp only[fR]at h;split at h
  ·rename_i hc;split at h<;>simp only[ai,aJ,reduceCtorEq]at h;rename_i hx;obtain⟨rfl,rfl⟩:=h;obtain⟨vc,c1,c2⟩:=hk.cB hc;obtain⟨v,h1,h2⟩:=hk.cB hx;obtain rfl:=TR.bool c2;exact same (by simp only[fS.er,cD,c1,h1]) h2 rfl
  ·rename_i hc;split at h<;>simp only[ai,aJ,reduceCtorEq]at h;rename_i hx;obtain⟨rfl,rfl⟩:=h;obtain⟨vc,c1,c2⟩:=hk.cB hc;obtain⟨v,h1,h2⟩:=hk.cB hx;obtain rfl:=TR.bool c2;exact same (by simp only[fS.er,cD,c1,h1]) h2 rfl
  ·simp at h
 |load k x=>
  simp only[fR]at h;split at h
  ·rename_i i off hx;split at h<;>try (simp at h;done)
   rename_i cs hi;split at h<;>simp only[ai,aJ,reduceCtorEq]at h;rename_i v0 hl;obtain⟨rfl,rfl⟩:=h;obtain⟨v,h1,h2⟩:=hk.cB hx;obtain⟨_,rfl⟩:=TR.ptr h2;obtain⟨cs',y,y1,y2,y3⟩:=AR hk hi hl;exact same (by simp only[fS.er,cD,h1,y1,y2]) y3 rfl
  ·rename_i row off hx;split at h<;>simp only[ai,aJ,reduceCtorEq]at h;rename_i v0 hl;obtain⟨rfl,rfl⟩:=h;obtain⟨v,h1,h2⟩:=hk.cB hx;have up:∀ {y},UR σ Z 0 v0 y→TR σ Z ω s.h.length v0 y:=fun hh=>TR.bB (hh.mono (dW _) (fun _ _=>rfl) (fun _ _ h=>h));cases h2 with
   |jr hz hr hv=>
    obtain⟨y,y1,y2⟩:=yQ ⟨by simp;omega,hv⟩ hl;exact same (by simp only[fS.er,cD,h1,(hk.qm _ _ hz)];exact mQ hr y1) (up y2) rfl
   |jq hr hv=>
    obtain⟨y,y1,y2⟩:=yQ ⟨by simp;omega,hv⟩ hl;exact same (by simp only[fS.er,cD,h1];exact mQ hr y1) (up y2) rfl
  ·rename_i g i f hx;split at h<;>try (simp at h;done)
   rename_i w xs hc;split at h<;>try (simp at h;done)
   rename_i r hr;split at h<;>simp only[ai,aJ,reduceCtorEq]at h;rename_i v0 hl;obtain⟨rfl,rfl⟩:=h;obtain⟨v,h1,⟨I,hg,rfl⟩,_⟩:=hk.cB hx;obtain⟨vo,hor⟩:=yX hk hc;unfold OR at hor;rw[hg]at hor;obtain⟨rfl,e0,e1,e2,e3,e4⟩:=hor;obtain⟨f1,f2⟩:=AA e3 hr;have hlen:r.length=w:=e3 r (List.mem_of_getElem? hr);have hlu:LU σ Z 0 r ((I.row.drop (I.off+i*w)).take w):=by
    have hle:i*w+w≤xs.length*w:=by rw[dB e3]at f1;exact f1
    have:=mh (i:=i*w) (k:=i*w+w) e4 hle;rw[CX,List.drop_take,CX]at this;rw[←f2];exact this
   have hle:i*w+w≤xs.length*w:=by rw[dB e3]at f1;exact f1
   have hcap:xs.length*w≤I.cap*w:=lY _ e1;obtain⟨y,y1,y2⟩:=yQ hlu hl;refine same (v:=y) ?_ (TR.bB (y2.mono (dW _) (fun _ _=>rfl) (fun _ _ h=>h))) rfl;simp only[fS.er,cD,h1,iT (hk.lE g I hg),e0.1];exact mQ (by omega) y1
  ·simp at h
 |nilCheck x=>
  simp only[fR]at h;split at h<;>simp only[ai,aJ,reduceCtorEq]at h
  all_goals
   rename_i hx;obtain⟨rfl,rfl⟩:=h;obtain⟨v,h1,h2⟩:=hk.cB hx;refine same (v:=v) ?_ h2 rfl;simp only[fS.er,cD,h1]
  ·obtain⟨_,rfl⟩:=TR.ptr h2;rfl
  ·cases h2<;>rfl
  ·obtain⟨⟨I,_,rfl⟩,_⟩:=h2;rfl
  ·obtain⟨a,b,rfl,_⟩:=TR.func h2;rfl
  ·obtain⟨a,rfl,_⟩:=TR.iface h2;rfl
 |bin op ek x y=>
  simp only[fR]at h;split at h<;>try (simp at h;done)
  rename_i a b ha hb;split at h<;>simp only[ai,aJ,reduceCtorEq]at h;rename_i u' hr;obtain⟨rfl,rfl⟩:=h;obtain⟨va,a1,a2⟩:=hk.cB ha;obtain⟨vb,b1,b2⟩:=hk.cB hb;unfold iW at hr;split at hr
  ·obtain rfl:=TR.int a2;obtain rfl:=TR.int b2;obtain⟨r,r1,r2⟩:=EW (σ:=σ) (Z:=Z) (n:=s.h.length) hr;exact same (by simp only[fS.er,cD,a1,b1,r1]) (TR.bB r2) rfl
  ·obtain rfl:=TR.str a2;obtain rfl:=TR.str b2;obtain⟨r,r1,r2⟩:=EW (σ:=σ) (Z:=Z) (n:=s.h.length) hr;refine same (v:=r) ?_ (TR.bB r2) rfl;simp only[fS.er,cD,a1,b1];cases op<;>first|exact r1|(simp[kL]at r1)
  ·rename_i n1 n2;have key:∀ {c:Bool},LQ ek a b=some c→∀ neg:Bool,(op=.eql∧neg=false∨op=.neq∧neg=true)→jF op ek va vb=some (.bool (if neg then !c else c)):=by
    intro c hc neg hop;have hq:=qeh hc a2 b2;have hni:∀ k x j y,¬(va=.int k x∧vb=.int j y):=fun k x j y hh=>by
     obtain⟨rfl,rfl⟩:=hh;cases ek<;>simp[GC]at hq
    have hns:∀ x y,¬(va=.str x∧vb=.str y):=fun x y hh=>by
     obtain⟨rfl,rfl⟩:=hh;cases ek<;>simp[GC]at hq
    rcases hop with⟨rfl,rfl⟩|⟨rfl,rfl⟩
    all_goals
     unfold jF;split
     all_goals first
      |(exact absurd ⟨rfl,rfl⟩ (hni _ _ _ _))
      |(exact absurd ⟨rfl,rfl⟩ (hns _ _))
      |(rw[hq];rfl)
      |simp_all
   split at hr
   ·split at hr<;>simp only[ai,reduceCtorEq]at hr;rename_i c hc;subst hr;have:=key hc false (.inl ⟨rfl,rfl⟩);exact same (by simp only[fS.er,cD,a1,b1];exact this) (TR.bB (.bool _)) rfl
   ·split at hr<;>simp only[ai,reduceCtorEq]at hr;rename_i c hc;subst hr;have:=key hc true (.inr ⟨rfl,rfl⟩);exact same (by simp only[fS.er,cD,a1,b1];exact this) (TR.bB (.bool _)) rfl
   ·simp at hr
 |un op x=>
  simp only[fR]at h;split at h<;>try (simp at h;done)
  rename_i a ha;split at h<;>simp only[ai,aJ,reduceCtorEq]at h;rename_i u' hr;obtain⟨rfl,rfl⟩:=h;obtain⟨va,a1,a2⟩:=hk.cB ha;unfold unU at hr;split at hr<;>try (simp at hr;done)
  rename_i p e1;obtain rfl:=qY e1 a2;obtain⟨y,y1,y2⟩:=EW (σ:=σ) (Z:=Z) (n:=s.h.length) hr;exact same (by simp only[fS.er,cD,a1,y1]) (TR.bB y2) rfl
 |eO k x=>
  simp only[fR]at h;split at h<;>simp only[ai,aJ,reduceCtorEq]at h;rename_i kk m hx;obtain⟨rfl,rfl⟩:=h;obtain⟨v,h1,h2⟩:=hk.cB hx;obtain rfl:=TR.int h2;exact same (by simp only[fS.er,cD,h1]) (TR.bB (.int _ _)) rfl
 |th x=>
  simp only[fR]at h;split at h<;>simp only[ai,aJ,reduceCtorEq]at h;rename_i b hx;obtain⟨rfl,rfl⟩:=h;obtain⟨v,h1,h2⟩:=hk.cB hx;obtain rfl:=TR.str h2;exact same (by simp only[fS.er,cD,h1]) (TR.bB (.str _)) rfl
 |toStr x=>
  simp only[fR]at h;split at h<;>try (simp at h;done)
  rename_i a ha;split at h<;>try (simp at h;done)
  rename_i xs hxs;split at h<;>simp only[ai,aJ,reduceCtorEq]at h;rename_i bs hbs;obtain⟨rfl,rfl⟩:=h;obtain⟨v,h1,h2⟩:=hk.cB ha;obtain⟨cs,c1,c2,_⟩:=A9 hk hxs h2;exact same (by simp only[fS.er,cD,h1,c1,CU hbs c2]) (TR.bB (.str _)) rfl
 |nM t x=>
  simp only[fR]at h;split at h<;>simp only[ai,aJ,reduceCtorEq]at h;rename_i u' s1 hx;obtain⟨rfl,rfl⟩:=h;obtain⟨Z',ω',v,a1,a2,a3,a4,a5⟩:=hk.fN hx;exact⟨Z',ω',.iface t v,by simp only[fS.er,cD,a1],a2,by rw[a4];exact TR.bB (.iface a3),a4,a5⟩
 |jf f a b=>
  simp only[fR]at h;split at h<;>try (simp at h;done)
  rename_i us s1 hx;split at h<;>simp only[ai,aJ,reduceCtorEq]at h;rename_i ws s2 hy;obtain⟨rfl,rfl⟩:=h;obtain⟨Z1,ω1,v1,a1,a2,a3,a4,a5⟩:=hk.fW hx;obtain⟨Z2,ω2,v2,b1,b2,b3,b4,b5⟩:=a2.fW hy;have a3' :=a3.mono (aq _) (σ' :=σ) (fun _ _=>rfl) b5;rw[a4]at b3;exact⟨Z2,ω2,.func f v1 v2,by simp only[fS.er,cD,a1,b1],b2,by rw[b4,a4];exact TR.bB (.func a3'.1 b3.1 a3'.2 b3.2),by omega,fun b r hb=>b5 b r (a5 b r hb)⟩
 |build z p=>
  simp only[fR]at h;cases hz:(V.dc z).all U.aH with
  |false=>rw[hz]at h;simp at h
  |true=>
   rw[hz]at h;simp only[cond_true]at h;split at h<;>simp only[ai,aJ,reduceCtorEq]at h;rename_i cs s1 hf;obtain⟨rfl,rfl⟩:=h;obtain⟨Z1,ω1,ws,a1,a2,a3,a4,a5⟩:=hk.fill (jo z hz) hf;exact⟨Z1,ω1,.agg ws,by simp only[fS.er,cD,a1],a2,by rw[a4];exact TR.bB (.agg a3.1 a3.2),a4,a5⟩
 |nq x lo hi=>
  simp only[fR]at h;split at h<;>try (simp at h;done)
  rename_i b hx;split at h<;>try (simp at h;done)
  rename_i hh n2;split at h<;>simp only[ai,aJ,reduceCtorEq]at h;rename_i l n1;obtain⟨rfl,rfl⟩:=h;obtain⟨v,h1,h2⟩:=hk.cB hx;obtain rfl:=TR.str h2;exact same (by simp only[fS.er,cD,h1,hk.au n2,hk.au n1]) (TR.bB (.str _)) rfl
 |slice w x lo hi mx=>
  simp only[fR]at h;split at h<;>try (simp at h;done)
  rename_i a ha;obtain⟨v,h1,h2⟩:=hk.cB ha;exact Ih hk h1 h2 h
 |iP len w x lo hi=>
  simp only[fR]at h;split at h<;>try (simp at h;done)
  rename_i i off hx;split at h<;>try (simp at h;done)
  rename_i hh n2;split at h<;>try (simp at h;done)
  rename_i l n1;split at h<;>try (simp at h;done)
  rename_i cs hi';cases hb:Nat.ble (off+len*w) cs.length with
  |false=>rw[hb]at h;simp at h
  |true=>
   rw[hb]at h;simp only[cond_true,ai,aJ]at h;obtain⟨rfl,rfl⟩:=h;obtain⟨v,h1,h2⟩:=hk.cB hx;obtain⟨hlt,rfl⟩:=TR.ptr h2;obtain⟨cs',g1,g2,g3⟩:=hk.obj i _ hi';have q2:=hk.au n2;have q1:=hk.au n1;have b2:hh≤len:=dm (aq _) q2;rw[g2]at hb;refine same (v:=.slice (σ i) (off+l*w) (hh - l) (len - l) w true) ?_ ⟨hlt,_,by omega,rfl⟩ rfl;simp only[fS.er,cD,h1,q2,q1,iT g1,hb,cond_true]
 |fieldAddr off x=>
  simp only[fR]at h;split at h<;>simp only[ai,aJ,reduceCtorEq]at h
  ·rename_i i o hx;obtain⟨rfl,rfl⟩:=h;obtain⟨v,h1,h2⟩:=hk.cB hx;obtain⟨hlt,rfl⟩:=TR.ptr h2;exact same (by simp only[fS.er,cD,h1]) (TR.bB (.ptr hlt)) rfl
  ·rename_i row o hx;obtain⟨rfl,rfl⟩:=h;obtain⟨v,h1,h2⟩:=hk.cB hx;cases h2 with
   |jr hz hr hv=>exact same (by simp only[fS.er,cD,h1,Nat.add_assoc]) (TR.bB (.jr hz hr hv)) rfl
   |jq hr hv=>exact same (by simp only[fS.er,cD,h1,Nat.add_assoc]) (TR.bB (.jq hr hv)) rfl
  ·rename_i g i o hx;obtain⟨rfl,rfl⟩:=h;obtain⟨v,h1,⟨I,hg,rfl⟩,h3⟩:=hk.cB hx;exact same (by simp only[fS.er,cD,h1];rfl) ⟨⟨I,hg,by rw[Nat.add_assoc]⟩,h3⟩ rfl
 |field off k x=>
  simp only[fR]at h;split at h<;>try (simp at h;done)
  rename_i cs hx;split at h<;>simp only[ai,aJ,reduceCtorEq]at h;rename_i v0 hl;obtain⟨rfl,rfl⟩:=h;obtain⟨v,h1,h2⟩:=hk.cB hx;obtain⟨cs',rfl,h3⟩:=TR.agg h2;obtain⟨y,y1,y2⟩:=yQ h3 hl;exact same (by simp only[fS.er,cD,h1,y1]) (TR.bB y2) rfl
 |indexAddr w x i=>
  simp only[fR]at h;split at h
  ·rename_i w' xs k m hx hi;split at h<;>try (simp at h;done)
   rename_i hm;split at h<;>try (simp at h;done)
   rename_i r hr;cases hb:Nat.beq w' w with
   |false=>rw[hb]at h;simp at h
   |true=>
    have hww:w' =w:=bR hb;subst hww;rw[hb]at h;simp only[cond_true,ai,aJ]at h;obtain⟨rfl,rfl⟩:=h;obtain⟨v,h1,h2⟩:=hk.cB hx;obtain⟨vi,i1,i2⟩:=hk.cB hi;obtain rfl:=TR.int i2;have hlt:m.toNat<xs.length:=(bn.1 hr).1;have hlt' :m<(xs.length:Int):=by omega
    have hmem:=List.mem_of_getElem? hr;cases h2 with
    |slnil=>simp at hlt
    |y9=>simp at hlt
    |Bf hn hz hl hcap hro hv=>
     subst hn;obtain⟨f1,f2⟩:=AA hl hr;have hle:m.toNat*w'+w'≤xs.length*w' :=by rw[dB hl]at f1;exact f1
     refine same (by simp only[fS.er,cD,h1,i1,hm,hlt',and_self,if_true,jC,cond_true];rfl) (TR.bB (.jr (o:=_) (off:=0) hz ?_ ?_)) rfl
     ·rw[hl r hmem];show(_+m.toNat*w')+w'≤_;omega
     ·rw[hl r hmem];intro j u v hu hv';rw[←f2]at hu;rename_i off _ _ row';have hlu:LU σ Z 0 xs.flatten ((row'.drop off).take (xs.length*w')):=⟨by rw[dB hl];simp;omega,hv⟩;have:=mh (i:=m.toNat*w') (k:=m.toNat*w'+w') hlu hle;rw[CX,List.drop_take,CX]at this;exact this.2 j u v hu hv'
    |CO hn hl hro hv=>
     subst hn;obtain⟨f1,f2⟩:=AA hl hr;have hle:m.toNat*w'+w'≤xs.length*w' :=by rw[dB hl]at f1;exact f1
     refine same (by simp only[fS.er,cD,h1,i1,hm,hlt',and_self,if_true,jC,cond_true];rfl) (TR.bB (.jq (o:=_) (off:=0) ?_ ?_)) rfl
     ·rw[hl r hmem];show(_+m.toNat*w')+w'≤_;omega
     ·rw[hl r hmem];intro j u v hu hv';rw[←f2]at hu;rename_i off row';have hlu:LU σ Z 0 xs.flatten ((row'.drop off).take (xs.length*w')):=⟨by rw[dB hl];simp;omega,hv⟩;have:=mh (i:=m.toNat*w') (k:=m.toNat*w'+w') hlu hle;rw[CX,List.drop_take,CX]at this;exact this.2 j u v hu hv'
  ·rename_i g w' xs k m hx hi;split at h<;>try (simp at h;done)
   rename_i hm;cases hb:Nat.beq w' w with
   |false=>rw[hb]at h;simp at h
   |true=>
    have hww:w' =w:=bR hb;subst hww;rw[hb]at h;simp only[cond_true,ai,aJ]at h;obtain⟨rfl,rfl⟩:=h;obtain⟨v,h1,h2,h2c⟩:=hk.cB hx;obtain⟨vi,i1,i2⟩:=hk.cB hi;obtain rfl:=TR.int i2;unfold OR at h2;split at h2
    ·obtain⟨rfl,_⟩:=h2;exfalso;have:=hm.2;simp at this;omega
    ·rename_i I hg;obtain⟨rfl,e0,_⟩:=h2;exact same (by simp only[fS.er,cD,h1,i1,hm,and_self,if_true,jC,cond_true];rfl) ⟨⟨I,hg,by rw[e0.1];rfl⟩,h2c⟩ rfl
  ·rename_i j off len w' k m hx hi;split at h<;>try (simp at h;done)
   rename_i hm;cases hb:Nat.beq w' w with
   |false=>rw[hb]at h;simp at h
   |true=>
    have hww:w' =w:=bR hb;subst hww;rw[hb]at h;simp only[cond_true,ai,aJ]at h;obtain⟨rfl,rfl⟩:=h;obtain⟨v,h1,hlt,cap,_,rfl⟩:=hk.cB hx;obtain⟨vi,i1,i2⟩:=hk.cB hi;obtain rfl:=TR.int i2;exact same (by simp only[fS.er,cD,h1,i1,hm,and_self,if_true,jC,cond_true]) (TR.bB (.ptr hlt)) rfl
  ·rename_i g lo len w' k m hx hi;split at h<;>try (simp at h;done)
   rename_i hm;cases hb:Nat.beq w' w with
   |false=>rw[hb]at h;simp at h
   |true=>
    have hww:w' =w:=bR hb;subst hww;rw[hb]at h;simp only[cond_true,ai,aJ]at h;obtain⟨rfl,rfl⟩:=h;obtain⟨v,h1,h2,h2c⟩:=hk.cB hx;obtain⟨vi,i1,i2⟩:=hk.cB hi;obtain rfl:=TR.int i2;unfold VW at h2;split at h2
    ·obtain⟨rfl,_⟩:=h2;exfalso;omega
    ·rename_i I hg;rcases h2 with⟨⟨cap,ex,rfl,hcap⟩,e0,_⟩|⟨rfl,_⟩
     ·exact same (by simp only[fS.er,cD,h1,i1,hm,and_self,if_true,jC,cond_true];rfl) ⟨⟨I,hg,by rw[e0,Nat.add_mul];simp[Nat.add_assoc]⟩,h2c⟩ rfl
     ·exfalso;omega
  ·simp at h
 |mL len w x i=>
  simp only[fR]at h;split at h
  ·rename_i j off k m hx hi;split at h<;>simp only[ai,aJ,reduceCtorEq]at h;rename_i hm;obtain⟨rfl,rfl⟩:=h;obtain⟨v,h1,h2⟩:=hk.cB hx;obtain⟨hlt,rfl⟩:=TR.ptr h2;obtain⟨vi,i1,i2⟩:=hk.cB hi;obtain rfl:=TR.int i2;exact same (by simp only[fS.er,cD,h1,i1,hm,and_self,if_true]) (TR.bB (.ptr hlt)) rfl
  ·rename_i row off k m hx hi;split at h<;>simp only[ai,aJ,reduceCtorEq]at h;rename_i hm;obtain⟨rfl,rfl⟩:=h;obtain⟨v,h1,h2⟩:=hk.cB hx;obtain⟨vi,i1,i2⟩:=hk.cB hi;obtain rfl:=TR.int i2;cases h2 with
   |jr hz hr hv=>exact same (by simp only[fS.er,cD,h1,i1,hm,and_self,if_true,Nat.add_assoc]) (TR.bB (.jr hz hr hv)) rfl
   |jq hr hv=>exact same (by simp only[fS.er,cD,h1,i1,hm,and_self,if_true,Nat.add_assoc]) (TR.bB (.jq hr hv)) rfl
  ·simp at h
 |index x i=>
  simp only[fR]at h;split at h<;>try (simp at h;done)
  rename_i b k m hx hi;split at h<;>try (simp at h;done)
  rename_i hm;split at h<;>simp only[ai,aJ,reduceCtorEq]at h;rename_i c hc;obtain⟨rfl,rfl⟩:=h;obtain⟨v,h1,h2⟩:=hk.cB hx;obtain rfl:=TR.str h2;obtain⟨vi,i1,i2⟩:=hk.cB hi;obtain rfl:=TR.int i2;exact same (by simp only[fS.er,cD,h1,i1,hm,if_true,hc]) (TR.bB (.int _ _)) rfl
 |CB len x i=>
  simp only[fR]at h;split at h<;>try (simp at h;done)
  rename_i cs k m hx hi;split at h<;>try (simp at h;done)
  rename_i hm;split at h<;>simp only[ai,aJ,reduceCtorEq]at h;rename_i c hc;obtain⟨rfl,rfl⟩:=h;obtain⟨v,h1,h2⟩:=hk.cB hx;obtain⟨cs',rfl,h3⟩:=TR.agg h2;obtain⟨vi,i1,i2⟩:=hk.cB hi;obtain rfl:=TR.int i2;obtain⟨y,y1,y2⟩:=h3.get hc;exact same (by simp only[fS.er,cD,h1,i1,hm,and_self,if_true,y1]) (TR.bB y2) rfl
 |lookup kk z ok x i=>
  simp only[fR]at h;split at h<;>try (simp at h;done)
  rename_i z0 m k hz hm hkk;split at h<;>simp only[ai,aJ,reduceCtorEq]at h;rename_i v0 hl;obtain⟨rfl,rfl⟩:=h;obtain⟨vm,m1,m2⟩:=hk.cB hm;obtain⟨vk,k1,k2⟩:=hk.cB hkk;obtain⟨y,y1,y2⟩:=On hk (Kn hz) m2 k2 hl;exact same (by simp only[fS.er,cD,m1,k1,y1]) (TR.bB y2) rfl
 |extract i x=>
  simp only[fR]at h;split at h<;>try (simp at h;done)
  rename_i vs hx;split at h<;>simp only[ai,aJ,reduceCtorEq]at h;rename_i v0 hv;obtain⟨rfl,rfl⟩:=h;obtain⟨v,h1,h2⟩:=hk.cB hx;obtain⟨vs',rfl,h3⟩:=TR.aV h2;obtain⟨y,y1,y2⟩:=h3.get hv;exact same (by simp only[fS.er,cD,h1,y1]) (TR.bB y2) rfl
 |len k x=>
  simp only[fR]at h;split at h<;>try (simp at h;done)
  rename_i a ha;split at h<;>simp only[ai,aJ,reduceCtorEq]at h;rename_i m hl;obtain⟨rfl,rfl⟩:=h;obtain⟨v,h1,h2⟩:=hk.cB ha;have hlen:lG st k v=some m:=by
   unfold Oj at hl;split at hl
   ·obtain rfl:=TR.str h2;exact hl
   ·rename_i w xs;cases hb:Nat.beq k 1 with
    |false=>rw[hb]at hl;simp at hl
    |true=>
     rw[hb]at hl;simp at hl;subst hl;cases h2 with
     |slnil=>simp[lG,hb]
     |y9=>simp[lG,hb]
     |Bf hn=>simp[lG,hb,hn]
     |CO hn=>simp[lG,hb,hn]
   ·rename_i w;cases hb:Nat.beq k 1 with
    |false=>rw[hb]at hl;simp at hl
    |true=>
     rw[hb]at hl;simp at hl;subst hl;have h2:UR σ Z s.h.length (.nl w) v:=h2;cases h2 with
     |CJ=>simp[lG,hb]
     |Dt=>simp[lG,hb]
   ·rename_i g w xs;cases hb:Nat.beq k 1 with
    |false=>rw[hb]at hl;simp at hl
    |true=>
     rw[hb]at hl;simp at hl;subst hl;obtain⟨h2,_⟩:=h2;unfold OR at h2;split at h2
     ·obtain⟨rfl,rfl|rfl⟩:=h2<;>simp[lG,hb]
     ·obtain⟨rfl,_⟩:=h2;simp[lG,hb]
   ·rename_i i o len w;cases hb:Nat.beq k 1 with
    |false=>rw[hb]at hl;simp at hl
    |true=>
     rw[hb]at hl;simp at hl;subst hl;obtain⟨_,cap,_,rfl⟩:=h2;simp[lG,hb]
   ·rename_i g lo len w;cases hb:Nat.beq k 1 with
    |false=>rw[hb]at hl;simp at hl
    |true=>
     rw[hb]at hl;simp at hl;subst hl;obtain⟨h2,_⟩:=h2;unfold VW at h2;split at h2
     ·obtain⟨rfl,rfl|rfl⟩:=h2<;>simp[lG,hb]
     ·rcases h2 with⟨⟨cap,ex,rfl,_⟩,_⟩|⟨rfl,rfl|rfl⟩<;>simp[lG,hb]
   ·obtain rfl:=TR.bQ h2;exact hl
   ·rename_i i;obtain⟨hlt,rfl⟩:=TR.map h2;cases hb:Nat.beq k 2 with
    |false=>rw[hb]at hl;simp at hl
    |true=>
     rw[hb]at hl;simp only[cond_true]at hl;split at hl<;>simp only[ai,reduceCtorEq]at hl;rename_i es c hes;obtain⟨es',g1,g2,g3⟩:=yT hk hes;simp[lG,hb,g1,←g2,hl]
   ·simp at hl
  exact same (by simp only[fS.er,cD,h1,hlen]) (TR.bB (.int _ _)) rfl
 |cap x=>simp[fR]at h
 |entry x=>
  simp only[fR]at h;split at h<;>try (simp at h;done)
  rename_i q hx;split at h<;>simp only[ai,aJ,reduceCtorEq]at h;rename_i v0 hv0;obtain⟨rfl,rfl⟩:=h;obtain⟨vx,x1,x2⟩:=hk.cB hx;obtain⟨hlt,rfl⟩:=TR.ptr x2;obtain⟨v,k1,k2⟩:=PC hk hv0;exact same (v:=v) (by simp only[fS.er,cD,x1];exact k1) (TR.bB k2) rfl
 |max xs=>
  simp only[fR]at h;split at h<;>try (simp at h;done)
  rename_i a us hx;split at h<;>simp only[ai,aJ,reduceCtorEq]at h;rename_i v0 hf;obtain⟨rfl,rfl⟩:=h;obtain⟨vs,h1,h2,h3⟩:=hk.mY hx;cases vs with
  |nil=>simp at h2
  |cons x vs=>
   obtain⟨y,y1,y2⟩:=LZ (us:=us) (vs:=vs) (by simpa using h2) (fun j p q hp hq=>h3 (j+1) p q (by simpa using hp) (by simpa using hq)) (h3 0 a x rfl rfl) hf;exact same (by simp only[fS.er,cD,h1,y1]) y2 rfl
 |min xs=>
  simp only[fR]at h;split at h<;>try (simp at h;done)
  rename_i a us hx;split at h<;>simp only[ai,aJ,reduceCtorEq]at h;rename_i v0 hf;obtain⟨rfl,rfl⟩:=h;obtain⟨vs,h1,h2,h3⟩:=hk.mY hx;cases vs with
  |nil=>simp at h2
  |cons x vs=>
   obtain⟨y,y1,y2⟩:=LZ (us:=us) (vs:=vs) (by simpa using h2) (fun j p q hp hq=>h3 (j+1) p q (by simpa using hp) (by simpa using hq)) (h3 0 a x rfl rfl) hf;exact same (by simp only[fS.er,cD,h1,y1]) y2 rfl
 |mB t z x=>
  simp only[fR]at h;split at h
  ·rename_i z0 hz hx;simp only[ai,aJ]at h;obtain⟨rfl,rfl⟩:=h;obtain⟨v,h1,h2⟩:=hk.cB hx;obtain rfl:=TR.cO h2;exact same (by simp only[fS.er,cD,h1]) (TR.bB (.aV rfl (LU.cons (Kn hz) (LU.cons (.bool _) .nil)).2)) rfl
  ·rename_i z0 u1 v1 hz hx;simp only[ai,aJ]at h;obtain⟨rfl,rfl⟩:=h;obtain⟨v,h1,h2⟩:=hk.cB hx;obtain⟨v',rfl,h3⟩:=TR.iface h2;refine same (by simp only[fS.er,cD,h1];rfl) ?_ rfl;by_cases hq:u1=t
   ·rw[if_pos hq,if_pos hq];exact TR.bB (.aV rfl (LU.cons h3 (LU.cons (.bool _) .nil)).2)
   ·rw[if_neg hq,if_neg hq];exact TR.bB (.aV rfl (LU.cons (Kn hz) (LU.cons (.bool _) .nil)).2)
  ·simp at h
end
end Go.RE
