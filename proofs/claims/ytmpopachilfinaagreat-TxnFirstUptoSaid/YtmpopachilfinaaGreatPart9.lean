/- The floor, and the operations. -/
import Derived.Test.YtmpopachilfinaaGreatPart8
import Derived.Test.YtmpopachilfinaaGreatPart5
set_option linter.unusedVariables false
set_option linter.unusedSimpArgs false
set_option linter.constructorNameAsVariable false
namespace Go.RE
section
variable{E:qe}{σ:Sg}{Z:Zs}{ω:Om}{s s' :Vs}{e:PT V}{st:St}{n:Nat}
theorem aK{α:Type}{b:Bool}{x:Option α}{y:α}(h:(bif b then x else none)=some y):b=true∧x=some y:=by
 cases b with
 |true=>exact⟨rfl,h⟩
 |false=>simp at h
theorem P8{b:Bool}{x y u:U}{s2:Vs}{g g2:Tg}(h:(bif b then some (x,s)else some (y,(s.kill g).kill g2))=some (u,s2))(hf:Fl s):Fl s2:=by
 cases b with
 |true=>simp at h;obtain⟨_,rfl⟩:=h;exact hf
 |false=>simp at h;obtain⟨_,rfl⟩:=h;exact(hf.kill _).kill _
theorem QD{b:Bool}{x y:U}{g:Tg}(hf:Fl s):Fl (bif b then(x,s)else(y,s.lT g):U×Vs).2:=by
 cases b with
 |true=>exact hf
 |false=>exact hf.lT _
theorem OG{d w:Nat}{lo hi mx:Option bJ}{v u:U}(h:ir d w lo hi mx v s=some (u,s'))(hf:Fl s):Fl s' :=by
 unfold ir at h;split at h
 ·obtain⟨_,h⟩:=aK h;split at h<;>try (simp at h;done)
  split at h<;>try (simp at h;done)
  split at h
  ·simp at h;obtain⟨_,rfl⟩:=h;exact hf
  ·split at h<;>try (simp at h;done)
   obtain⟨_,h⟩:=aK h;rename_i m _ _ _;cases hm:Nat.beq m 0 with
   |true=>rw[hm]at h;simp at h;obtain⟨_,rfl⟩:=h;exact hf.kill _
   |false=>rw[hm]at h;simp at h;obtain⟨_,rfl⟩:=h;exact hf
 ·obtain⟨_,h⟩:=aK h;split at h
  ·split at h<;>try (simp at h;done)
   split at h<;>try (simp at h;done)
   exact P8 h hf
  ·split at h<;>try (simp at h;done)
   simp at h;obtain⟨_,rfl⟩:=h;exact hf.kill _
 ·obtain⟨_,h⟩:=aK h;split at h<;>try (simp at h;done)
  simp at h;obtain⟨_,rfl⟩:=h;exact hf
 ·simp at h
theorem Qv{d:Nat}{o:fS}{u:U}(h:fR d s o=some (u,s'))(hf:Fl s):Fl s' :=by
 cases o with
 |nM t x=>
  simp only[fR]at h;split at h<;>simp only[ai,aJ,reduceCtorEq]at h;rename_i v s1 h1;obtain⟨_,rfl⟩:=h;exact hf.fN h1
 |jf f a b=>
  simp only[fR]at h;split at h<;>try (simp at h;done)
  rename_i v s1 h1;split at h<;>simp only[ai,aJ,reduceCtorEq]at h;rename_i v2 s2 h2;obtain⟨_,rfl⟩:=h;exact(hf.fW h1).fW h2
 |build z parts=>
  simp only[fR]at h;obtain⟨_,h⟩:=aK h;split at h<;>simp only[ai,aJ,reduceCtorEq]at h;rename_i v s1 h1;obtain⟨_,rfl⟩:=h;exact hf.fill h1
 |slice w x lo hi mx=>
  simp only[fR]at h;split at h<;>try (simp at h;done)
  exact OG h hf
 |bt x=>
  simp only[fR]at h;split at h<;>simp only[ai,aJ,reduceCtorEq]at h
  ·obtain⟨_,rfl⟩:=h;exact hf.kill _
  ·obtain⟨_,rfl⟩:=h;exact hf
 |iP n w x lo hi=>
  simp only[fR]at h;split at h<;>try (simp at h;done)
  split at h<;>try (simp at h;done)
  split at h<;>try (simp at h;done)
  split at h<;>try (simp at h;done)
  obtain⟨_,h⟩:=aK h;simp only[ai,aJ]at h;obtain⟨_,rfl⟩:=h;exact hf
 |cap x=>simp[fR]at h
 |entry x=>
  simp only[fR]at h;split at h<;>try (simp at h;done)
  split at h<;>simp only[ai,aJ,reduceCtorEq]at h;obtain⟨_,rfl⟩:=h;exact hf
 |indexAddr w x i=>
  simp only[fR]at h;split at h<;>try (simp at h;done)
  ·split at h<;>try (simp at h;done)
   split at h<;>try (simp at h;done)
   obtain⟨_,h⟩:=aK h;simp only[ai,aJ]at h;obtain⟨_,rfl⟩:=h;exact hf
  ·split at h<;>try (simp at h;done)
   obtain⟨_,h⟩:=aK h;simp only[ai,aJ]at h;obtain⟨_,rfl⟩:=h;exact hf
  ·split at h<;>try (simp at h;done)
   obtain⟨_,h⟩:=aK h;simp only[ai,aJ]at h;obtain⟨_,rfl⟩:=h;exact hf
  ·split at h<;>try (simp at h;done)
   obtain⟨_,h⟩:=aK h;simp only[ai,aJ]at h;obtain⟨_,rfl⟩:=h;exact hf
 |_=>
  simp only[fR]at h
  repeat' (first|(split at h)|(simp only[ai,aJ,reduceCtorEq]at h))
  all_goals (obtain⟨_,rfl⟩:=h;exact hf)
theorem NX(v:V)(h:v.mq.aH=true)(m:Nat):v.mq.low m=true:=by
 have h1:UR (fun _=>0) (fun _=>none) 0 v.mq v.er:=oz v (fun hh=>by rw[hh]at h;simp[U.aH]at h) (fun g w xs hh=>by rw[hh]at h;simp[U.aH]at h) (fun w xs hh=>by rw[hh]at h;simp[U.aH]at h);exact ic (dW _) h1.mR
theorem Ak:∀ (vs:List V),(V.dc vs).all (fun u=>u.aH||u.oc)=true→∀ m,U.b8 m (V.dc vs)=true
 |[],_,_=>rfl
 |v::vs,h,m=>by
  simp only[V.dc,List.all_cons,bC,Bool.or_eq_true]at h;simp only[V.dc,U.b8,bC];refine⟨?_,Ak vs h.2 m⟩;rcases h.1 with hh|hh
  ·exact NX v hh m
  ·cases hv:v.mq<;>rw[hv]at hh<;>simp[U.oc]at hh;rfl
theorem wh{m:Nat}{u:U}(h:u.low m=true):U.b8 m u.cells=true:=by
 cases u<;>simp_all [U.cells,U.b8,U.low]
theorem Qr{d:Nat}{o:GB}{u:U}(h:yg d s o=some (u,s'))(hk:Ok E σ Z ω s e st)(hf:Fl s):Fl s' :=by
 cases o with
 |alloc z=>
  simp only[yg]at h;obtain⟨hc,h⟩:=aK h;simp only[ai,aJ]at h;obtain⟨_,rfl⟩:=h;exact hf.push (o:=.row (V.dc z)) (Ak z hc _) s.e
 |box x=>
  simp only[yg]at h;split at h<;>try (simp at h;done)
  ·simp only[ai,aJ]at h;obtain⟨_,rfl⟩:=h;exact hf.push (o:=.row [.bF _ _]) rfl _
  ·rename_i v _ _ _ hx;obtain⟨_,h⟩:=aK h;simp only[ai,aJ]at h;obtain⟨_,rfl⟩:=h;obtain⟨vx,_,x2⟩:=hk.cB hx;exact hf.push (o:=.row v.cells) (wh (ic (Nat.le_succ _) x2.mR)) s.e
 |buildSlice w len z parts=>
  simp only[yg]at h;split at h<;>try (simp at h;done)
  rename_i cs s1 h1;obtain⟨_,h1⟩:=aK h1;obtain⟨_,h⟩:=aK h;simp only[ai,aJ]at h;obtain⟨_,rfl⟩:=h;exact(hf.fill h1).kill _
 |makeMap=>
  simp only[yg,ai,aJ]at h;obtain⟨_,rfl⟩:=h;exact hf.push (o:=.map [] 0) rfl s.e
 |makeSlice w bytes z len cap=>
  simp only[yg]at h;split at h<;>try (simp at h;done)
  split at h<;>try (simp at h;done)
  split at h<;>try (simp at h;done)
  obtain⟨_,h⟩:=aK h;simp only[ai,aJ]at h;obtain⟨_,rfl⟩:=h;exact hf.kill _
 |lV x=>
  simp only[yg]at h;split at h<;>try (simp at h;done)
  obtain⟨_,h⟩:=aK h;simp only[ai,aJ]at h;obtain⟨_,rfl⟩:=h;exact hf
theorem OJ{k i off:Nat}{v:U}{cs:List U}(hi:s.h[i]? =some (.row cs))(h:pU s k i off v cs=some s')(hk:Ok E σ Z ω s e st)(hv:v.low s.h.length=true)(hf:Fl s):Fl s' :=by
 unfold pU at h;split at h
 ·rename_i g w xs;obtain⟨_,h⟩:=aK h;split at h<;>simp only[ai,reduceCtorEq]at h;subst h;exact hf.set (o:=.row (cs.set off (.bF w xs))) (AV (hf.ob _ _ hi) rfl) _
 ·obtain⟨_,h⟩:=aK h;simp only[ai]at h;subst h;cases hl:v.low (i+1)with
  |true=>exact hf.set (o:=.row (gh cs off v.cells)) (HG (hf.ob _ _ hi) (wh (ic (oU _ _) hl))) _
  |false=>
   refine hf.raise (by simp) fun j o ho=> ?_;rw[eN]at ho;split at ho
   ·split at ho<;>simp at ho;subst ho;exact HG (hk.Mg hi) (wh hv)
   ·exact hk.Mg ho
theorem WW{m i:Nat}{f:U×U×Nat→U×U×Nat}(hfm:∀ x,iZ m x=true→iZ m (f x)=true):∀ {es:List (U×U×Nat)} {i:Nat},es.all (iZ m)=true→(oD i f es).all (iZ m)=true:=by
 intro es
 induction es with
 |nil=>intro i h;cases i<;>rfl
 |cons x es ih=>
  intro i h;simp only[List.all_cons,bC]at h;cases i with
  |zero=>simp only[oD,List.all_cons,bC];exact⟨hfm x h.1,h.2⟩
  |succ i=>simp only[oD,List.all_cons,bC];exact⟨h.1,ih h.2⟩
theorem N4{m:Nat}:∀ {es:List (U×U×Nat)} {i:Nat},es.all (iZ m)=true→(gG i es).all (iZ m)=true:=by
 intro es
 induction es with
 |nil=>intro i h;cases i<;>rfl
 |cons x es ih=>
  intro i h;simp only[List.all_cons,bC]at h;cases i with
  |zero=>exact h.2
  |succ i=>simp only[gG,List.all_cons,bC];exact⟨h.1,ih h.2⟩
theorem Mb{kk:gR}{k:U}(h:dw kk k=true)(m:Nat):k.low m=true:=by
 unfold dw at h;cases k<;>simp[U.Xo]at h<;>rfl
theorem Qg{i:Nat}{es es' :List (U×U×Nat)}{c c' :Nat}{v:U}(hi:s.h[i]? =some (.map es c))(hk:Ok E σ Z ω s e st)(hf:Fl s)(hv:v.low s.h.length=true)
  (hm:∀ m,v.low m=true→es.all (iZ m)=true→es'.all (iZ m)=true):Fl {s with h:=s.h.set i (.map es' c'),fl:=bif v.low (i+1)then s.fl else s.h.length}:=by
 cases hl:v.low (i+1)with
 |true=>exact hf.set (o:=.map es' c') (hm _ (ic (oU _ _) hl) (hf.ob _ _ hi)) _
 |false=>
  refine hf.raise (by simp) fun j o ho=> ?_;rw[eN]at ho;split at ho
  ·split at ho<;>simp at ho;subst ho;exact hm _ hv (hk.Mg hi)
  ·exact hk.Mg ho
theorem qbi{d:Nat}{o:xT}{u:U}(h:pM d s o=some (u,s'))(hk:Ok E σ Z ω s e st)(hf:Fl s):Fl s' :=by
 cases o with
 |store k a x=>
  simp only[pM]at h;split at h<;>try (simp at h;done)
  ·rename_i i off v ha hx;split at h<;>try (simp at h;done)
   rename_i cs0 hi0;obtain⟨vx,_,x2⟩:=hk.cB hx;obtain⟨Z1,ω1,r1,r2,r3,r4⟩:=DB (off:=off) (cs:=cs0) hk x2;have rf:Fl (jg s off v cs0).2:=by
    unfold jg;split
    ·split
     ·exact QD hf
     ·exact hf
    ·exact hf
   generalize jg s off v cs0=R at h r1 r2 r3 rf;obtain⟨u1,t1⟩:=R;simp only at h r1 r2 r3 rf;split at h<;>try (simp at h;done)
   rename_i cs hi;split at h<;>simp only[ai,aJ,reduceCtorEq]at h;rename_i s1 hs;obtain⟨_,rfl⟩:=h;exact OJ hi hs r1 r2.mR rf
  ·split at h<;>try (simp at h;done)
   rename_i v s1 h1;split at h<;>try (simp at h;done)
   split at h<;>try (simp at h;done)
   obtain⟨_,h⟩:=aK h;simp only[ai,aJ]at h;obtain⟨_,rfl⟩:=h;exact(hf.esc h1).fB _ _ _
 |mapUpdate kk m k x=>
  simp only[pM]at h;split at h<;>try (simp at h;done)
  rename_i i s1 h1;split at h<;>try (simp at h;done)
  rename_i k1 s2 h2;split at h<;>try (simp at h;done)
  rename_i v s3 h3;split at h<;>try (simp at h;done)
  rename_i es clock hi;obtain⟨hpk,h⟩:=aK h;obtain⟨Z1,ω1,_,_,k1,_,e1,_⟩:=hk.fN h1;obtain⟨Z2,ω2,_,_,k2,_,e2,_⟩:=k1.fN h2;obtain⟨Z3,ω3,vv,_,k3,u3,e3,_⟩:=k2.fN h3;have hv:v.low s3.h.length=true:=by rw[e3];exact u3.mR
  have hf3:=((hf.fN h1).fN h2).fN h3;split at h<;>simp only[ai,aJ,reduceCtorEq]at h
  ·obtain⟨_,rfl⟩:=h;exact Qg hi k3 hf3 hv fun m hm hes=>WW (i:=0) (fun y hy=>by simp only[iZ,bC];exact⟨Mb hpk m,hm⟩) hes
  ·obtain⟨_,rfl⟩:=h;exact Qg hi k3 hf3 hv fun m hm hes=>by
    rw[List.all_append,hes];simp only[List.all_cons,List.all_nil,iZ,Mb hpk m,hm,Bool.and_self]
 |delete kk m k=>
  simp only[pM]at h;split at h<;>try (simp at h;done)
  ·obtain⟨_,h⟩:=aK h;simp only[ai,aJ]at h;obtain⟨_,rfl⟩:=h;exact hf
  ·split at h<;>try (simp at h;done)
   rename_i es clock hi;obtain⟨_,h⟩:=aK h;split at h<;>simp only[ai,aJ,reduceCtorEq]at h
   ·obtain⟨_,rfl⟩:=h;exact hf.set (o:=.map (gG _ es) clock) (N4 (hf.ob _ _ hi)) s.e
   ·obtain⟨_,rfl⟩:=h;exact hf
 |append w bytes str a x=>
  simp only[pM]at h;split at h<;>try (simp at h;done)
  split at h<;>try (simp at h;done)
  split at h<;>try (simp at h;done)
  ·obtain⟨_,h⟩:=aK h;simp only[ai,aJ]at h;obtain⟨_,rfl⟩:=h;exact(hf.kill _).kill _
  ·obtain⟨_,h⟩:=aK h;simp only[ai,aJ]at h;obtain⟨_,rfl⟩:=h;exact(hf.kill _).kill _
  ·obtain⟨_,h⟩:=aK h;simp only[ai,aJ]at h;obtain⟨_,rfl⟩:=h;exact hf
 |copy w str a x=>
  simp only[pM]at h;split at h<;>try (simp at h;done)
  split at h<;>try (simp at h;done)
  obtain⟨_,h⟩:=aK h;simp only[ai,aJ]at h;obtain⟨_,rfl⟩:=h;exact hf.fB _ _ _
 |clear _ _ _=>simp[pM]at h
 |range _=>simp[pM]at h
theorem Fl.dJ(h:Fl s)(d:Nat)(r:U):Fl (dJ d r s).2:=by
 unfold RE.dJ;split
 ·exact Fl.kill h (.t d)
 ·exact h
theorem Fl.aG:∀ {args:List U} {s:Vs},Fl s→Fl (aG args s):=by
 intro args
 induction args with
 |nil=>intro s h;exact h
 |cons a r ih=>
  intro s h;cases a<;>simp only[RE.aG]<;>first|exact ih h|exact ih (h.lT _)
theorem Fl.land(h:Fl s){hc:List Uo}{fc:Nat}(hh:Fl ⟨[],hc,fc⟩)(d:Nat)(r:U):Fl (qK d r hc fc s).2:=by
 unfold qK;split
 ·exact h.dJ d r
 ·refine Fl.dJ (s:={s with h:=s.h++hc.map (eL s.h.length),fl:=bif Nat.beq fc 0 then s.fl else s.h.length+fc}) ?_ d _;have hle:=h.le;have hle2:=hh.le;simp only at hle2;have hge:s.fl≤(bif Nat.beq fc 0 then s.fl else s.h.length+fc):=by
   cases Nat.beq fc 0 with
   |true=>exact aq _
   |false=>simp only[cond_false];omega
  have hge2:s.h.length+fc≤max s.h.length (bif Nat.beq fc 0 then s.fl else s.h.length+fc):=by
   cases hb:Nat.beq fc 0 with
   |true=>have:=bR hb;simp only[cond_true];omega
   |false=>simp only[cond_false];omega
  refine⟨?_,fun i o ho=> ?_⟩
  ·simp only[lZ,List.length_map];cases hb:Nat.beq fc 0 with
   |true=>simp only[cond_true];omega
   |false=>simp only[cond_false];omega
  ·simp only at ho;rcases Nat.lt_or_ge i s.h.length with hi|hi
   ·rw[cz hi]at ho;exact Uo.ic (by simp only;omega) (h.ob i o ho)
   ·rw[fh hi,List.getElem?_map]at ho;cases hq:hc[i - s.h.length]? with
    |none=>rw[hq]at ho;simp at ho
    |some x=>
     rw[hq]at ho;simp only[Option.map_some,ai]at ho;subst ho;exact Uo.ic (by simp only;omega) (Uo.mg (k:=s.h.length) (hh.ob _ x hq))
end
end Go.RE
namespace Go.RE
def RR(σ:Sg)(Z:Zs)(ω:Om)(n:Nat)(r:U)(v:V):Prop:=
 match r with
 | .own .r w xs=>OR σ Z ω (.t 0) w xs v
 | .own _ _ _=>False
 |r=>UR σ Z n r v
def fO(σ:Sg)(ω:Om)(n:Nat):Nat→Prop:=fun b=>(∃ i,i<n∧σ i=b)∨∃ g I,ω g=some I∧I.b=b
def VE(P:Nat→List V→St→(V→St→Prop)→Prop)(F:FU):Prop:=
 ∀ (f:Nat) (us:List U) (h:List Uo) (fl:Nat) (r:U) (h' :List Uo) (fl' :Nat),F f us h fl=some (r,h',fl')→
  ∀ (σ:Sg) (Z:Zs) (ω:Om) (st:St) (vs:List V),Ok ⟨h.length,σ,fO σ ω h.length,Z,st,fun i=>h[i]? =some .gone,none,jd h⟩ σ Z ω ⟨[],h,fl⟩ .e st→Fl ⟨[],h,fl⟩→(∀ d,ω (.t d)=none)→LU σ Z h.length us vs→
   P f vs st fun v st' =>Fl ⟨[],h',fl'⟩∧∃ σ' Z' ω',Ok ⟨h.length,σ,fO σ ω h.length,Z,st,fun i=>h[i]? =some .gone,none,jd h⟩ σ' Z' ω' ⟨[],h',fl'⟩ .e st'∧(∀ d,d≠0→ω' (.t d)=none)∧RR σ' Z' ω' h'.length r v
section
variable{E:qe}{σ:Sg}{Z:Zs}{ω:Om}{s s' :Vs}{e:PT V}{st:St}{n:Nat}
theorem UR.flat{Z2:Zs}{u:U}{v:V}(h:UR σ Z n u v)(hf:u.flat=true):UR σ Z2 n u v:=by
 have hl:∀ {a:List U},U.ur a=true→∀ (j:Nat) u,a[j]? =some u→u.flat=true:=by
  intro a
  induction a with
  |nil=>intro _ j u h;simp at h
  |cons x a ih=>
   intro h j u hu;simp only[U.ur,bC]at h;cases j with
   |zero=>simp at hu;subst hu;exact h.1
   |succ j=>exact ih h.2 j u (by simpa using hu)
 induction h with
 |bool b=>exact .bool b
 |int k x=>exact .int k x
 |str s=>exact .str s
 |bA=>exact .bA
 |bu=>exact .bu
 |bQ=>exact .bQ
 |di=>exact .di
 |cO=>exact .cO
 |ptr h=>exact .ptr h
 |map h=>exact .map h
 |iface h ih=>exact .iface (ih (by simpa[U.flat]using hf))
 |agg ha va ih=>exact .agg ha fun j u v h1 h2=>ih j u v h1 h2 (hl (by simpa[U.flat]using hf) j u h1)
 |aV ha va ih=>exact .aV ha fun j u v h1 h2=>ih j u v h1 h2 (hl (by simpa[U.flat]using hf) j u h1)
 |_=>simp[U.flat]at hf
theorem AB:∀ {xs:List (List U)},U.kg xs=true→∀ (j:Nat) u,xs.flatten[j]? =some u→u.flat=true:=by
 have hl:∀ {a:List U},U.ur a=true→∀ u∈a,u.flat=true:=by
  intro a
  induction a with
  |nil=>intro _ u h;cases h
  |cons x a ih=>
   intro h u hu;simp only[U.ur,bC]at h;rcases dS.1 hu with rfl|hu
   ·exact h.1
   ·exact ih h.2 u hu
 intro xs
 induction xs with
 |nil=>intro _ j u h;simp at h
 |cons x xs ih=>
  intro h j u hu;simp only[U.kg,bC]at h;have hm:=List.mem_of_getElem? hu;rw[List.flatten_cons]at hm;rcases gD.1 hm with hm|hm
  ·exact hl h.1 u hm
  ·obtain⟨i,hi,rfl⟩:=List.mem_iff_getElem.1 hm;exact ih h.2 i _ (bP hi)
theorem OR.flat{σ2:Sg}{Z2:Zs}{ω2:Om}{g g2:Tg}{w:Nat}{xs:List (List U)}{v:V}(h:OR σ Z ω g w xs v)(hω:ω2 g2=ω g)(hf:U.kg xs=true):OR σ2 Z2 ω2 g2 w xs v:=by
 unfold OR at h⊢;rw[hω];split at h
 ·exact h
 ·refine⟨h.1,h.2.1,h.2.2.1,h.2.2.2.1,h.2.2.2.2.1,h.2.2.2.2.2.1,fun j u v hu hv=> ?_⟩;exact(((h.2.2.2.2.2.2 j u v hu hv).flat (AB hf j u hu)).mono (aq 0) (fun i hi=>by omega) (fun _ _ h=>h))
theorem rJ:∀ {args us:List U},gK args=some us→∀ w xs,.own .a w xs ∉ args:=by
 intro args
 induction args with
 |nil=>intro us _ w xs hm;cases hm
 |cons a args ih=>
  intro us h w xs hm;simp only[gK]at h;split at h<;>try (simp at h;done)
  rename_i u hu;split at h<;>try (simp at h;done)
  rename_i us' hus;rcases dS.1 hm with rfl|hm
  ·simp[sP]at hu
  ·exact ih hus w xs hm
theorem pF:∀ {args:List U} {s:Vs} {Z:Zs} {ω:Om},(∀ w xs,.own .a w xs ∉ args)→Ok E σ Z ω s e st→∃ Z' ω',Ok E σ Z' ω' (aG args s) e st∧(∀ b r,Z b=some r→Z' b=some r)∧(aG args s).h.length=s.h.length∧
  (∀ g,(∀ w xs,.own g w xs ∉ args)→ω' g=ω g)∧∀ g w xs I,.own g w xs∈args→ω g=some I→Z' I.b=some I.row:=by
 intro args
 induction args with
 |nil=>intro s Z ω _ h;exact⟨Z,ω,h,fun _ _ h=>h,rfl,fun _ _=>rfl,fun g w xs I hm=>by cases hm⟩
 |cons a args ih=>
  intro s Z ω hna h;have hna' :∀ w xs,.own .a w xs ∉ args:=fun w xs hm=>hna w xs (gB _ hm);cases a with
  |own g w xs=>
   simp only[aG];obtain⟨Z1,ω1,a1,a2,a3,a4,a5,a6⟩:=h.lT g (by rintro rfl;exact hna w xs eU);obtain⟨Z2,ω2,b1,b2,b3,b4,b5⟩:=ih hna' a1;refine⟨Z2,ω2,b1,fun b r hb=>b2 b r (a2 b r hb),by omega,fun g' hg' => ?_,fun g' w' xs' I hm hI=> ?_⟩
   ·rw[b4 g' (fun w xs hm=>hg' w xs (gB _ hm)),a3 g' (fun hh=>hg' w xs (by rw[hh];exact eU))]
   ·by_cases hgg:g' =g
    ·subst hgg;exact b2 _ _ (a5 I hI)
    ·have hm' :U.own g' w' xs'∈args:=by
      rcases dS.1 hm with hh|hh
      ·cases hh;exact absurd rfl hgg
      ·exact hh
     exact b5 g' w' xs' I hm' (by rw[a3 g' hgg];exact hI)
  |_=>
   simp only[aG];obtain⟨Z2,ω2,b1,b2,b3,b4,b5⟩:=ih hna' h;refine⟨Z2,ω2,b1,b2,b3,fun g' hg' =>b4 g' (fun w xs hm=>hg' w xs (gB _ hm)),fun g' w' xs' I hm hI=> ?_⟩;rcases dS.1 hm with hh|hh
   ·cases hh
   ·exact b5 g' w' xs' I hh hI
theorem yK{Z' :Zs}(hZ:∀ b r,Z b=some r→Z' b=some r):∀ {args us:List U} {vs:List V},gK args=some us→args.length=vs.length→(∀ (j:Nat) u v,args[j]? =some u→vs[j]? =some v→TR σ Z ω n u v)→
  (∀ g w xs I,.own g w xs∈args→ω g=some I→Z' I.b=some I.row)→LU σ Z' n us vs:=by
 intro args
 induction args with
 |nil=>intro us vs h hl _ _;simp[gK]at h;subst h;have:vs=[]:=jT hl.symm;subst this;exact .nil
 |cons a args ih=>
  intro us vs h hl hr hI;cases vs with
  |nil=>simp at hl
  |cons v vs=>
   simp only[gK]at h;cases ha:sP a with
   |none=>rw[ha]at h;simp at h
   |some u=>
    rw[ha]at h;simp only at h;cases hb:gK args with
    |none=>rw[hb]at h;simp at h
    |some us' =>
     rw[hb]at h;simp only[ai]at h;subst h;refine LU.cons ?_ (ih hb (by simpa using hl) (fun j p q hp hq=>hr (j+1) p q (by simpa using hp) (by simpa using hq)) (fun g w xs I hm=>hI g w xs I (gB _ hm)));have h0:=hr 0 a v rfl rfl;cases a with
     |own g w xs=>
      have ha:U.sl w xs=u:=by cases g<;>first|(simp[sP]at ha;done)|simpa[sP]using ha
      subst ha;exact h0.1.sl hZ (fun I hg=>hI g w xs I eU hg)
     |nl w=>
      simp[sP]at ha;subst ha;have h1:UR σ Z n (.nl w) v:=h0;cases h1 with
      |CJ=>exact .slnil
      |Dt=>exact .y9
     |bad=>simp[sP]at ha
     |bF _ _=>simp[sP]at ha
     |bD _ _ _=>simp[sP]at ha
     |xU _ _ _ _=>simp[sP]at ha
     |view _ _ _ _=>simp[sP]at ha
     |cZ=>simp[sP]at ha
     |aV _=>simp[sP]at ha
     |_=>simp[sP]at ha;subst ha;exact UR.mono (aq _) (fun _ _=>rfl) hZ h0
noncomputable def oh(ω:Om)(Z:Zs):Zs:=fun b=>open Classical in if h:∃ g I,ω g=some I∧I.b=b then some h.choose_spec.choose.row else Z b
theorem Hz(h:Ok E σ Z ω s e st){g:Tg}{I:nZ}(hg:ω g=some I):oh ω Z I.b=some I.row:=by
 have hex:∃ g J,ω g=some J∧J.b=I.b:=⟨g,I,hg,rfl⟩;unfold oh;rw[dif_pos hex];obtain⟨k1,k2⟩:=hex.choose_spec.choose_spec;have key:∀ g' J,ω g' =some J→J.b=I.b→J=I:=fun g' J hJ hb=>by
  have:=h.gJ _ _ _ _ hJ hg hb;subst this;rw[hg]at hJ;cases hJ;rfl
 exact congrArg (fun J:nZ=>some J.row) (key _ _ k1 k2)
theorem P7(h:Ok E σ Z ω s e st){b:Nat}{r:List V}(hb:Z b=some r):oh ω Z b=some r:=by
 unfold oh;rw[dif_neg]
 ·exact hb
 ·rintro⟨g,I,hg,rfl⟩;rw[h.wz g I hg]at hb;cases hb
theorem AO{b:Nat}{r:List V}(hb:oh ω Z b=some r):Z b=some r∨∃ g I,ω g=some I∧I.b=b∧r=I.row:=by
 unfold oh at hb;split at hb
 ·rename_i hex;simp at hb;exact .inr ⟨_,_,hex.choose_spec.choose_spec.1,hex.choose_spec.choose_spec.2,hb.symm⟩
 ·exact .inl hb
theorem Ok.iso(h:Ok E σ Z ω s e st){Z' :Zs}(hz:∀ b r,Z' b=some r→st.row b=some r)(fl:Nat):Ok ⟨0,σ,fO σ (fun _=>none) 0,Z',st,fun i=>([]:List Uo)[i]? =some .gone,none,jd ([]:List Uo)⟩ σ Z' (fun _=>none) ⟨[],[],fl⟩ .e st:=
 ⟨fun t u hu=>by simp[look]at hu,fun i o ho=>by simp at ho,hz,fun g I hI=>by simp at hI,h.fresh,fun i j hi=>by simp at hi,fun g g' I I' hI=>by simp at hI,fun i g I hi=>by simp at hi,fun i hi=>by simp at hi,fun g I hI=>by simp at hI,fun i hi=>by simp at hi,⟨rfl,rfl⟩,fun i off I hI=>by simp at hI,aq _,fun i hi=>by simp at hi,fun b r hb=>hb,aq _,fun b hb _=>⟨rfl,fun i hi=>by simp at hi,fun g I hI=>by simp at hI,fun r hr=>hr⟩,fun i hi=>by simp at hi,fun i off cs h1=>by simp at h1⟩
theorem yo(h:List Uo)(i off:Nat)(v:U):(setCell h i off v).length=h.length:=by
 unfold setCell;split<;>simp
theorem yp{h:List Uo}{i off:Nat}{v:U}{j:Nat}{cs:List U}(hj:h[j]? =some (.row cs)):(setCell h i off v)[j]? =some (.row (if j=i then cs.set off v else cs)):=by
 unfold setCell;split
 ·rename_i ds hi;rw[eN];by_cases hji:i=j
  ·subst hji;rw[hi]at hj;simp at hj;subst hj;simp[(bn.1 hi).1]
  ·simp[hji,Ne.symm hji,hj]
 ·rename_i hno;by_cases hji:j=i
  ·subst hji;exact absurd hj (hno _)
  ·simp[hji,hj]
theorem s6{h:List Uo}{i off:Nat}{v:U}{j:Nat}(hj:∀ cs,h[j]?≠some (.row cs)):(setCell h i off v)[j]? =h[j]? :=by
 unfold setCell;split
 ·rename_i ds hi;rw[eN,if_neg];rintro rfl;exact hj _ hi
 ·rfl
theorem mc:∀ (L:List (Nat×Nat)) (h:List Uo),(eu L h).length=h.length:=by
 intro L
 induction L with
 |nil=>intro h;rfl
 |cons x L ih=>intro h;obtain⟨i,off⟩:=x;simp only[eu,ih,yo]
theorem Ol:∀ (L:List (Nat×Nat)) {h:List Uo} {i:Nat} {cs:List U},h[i]? =some (.row cs)→∃ cs',(eu L h)[i]? =some (.row cs')∧cs'.length=cs.length∧
  ∀ off,off<cs.length→cs'[off]? =if(i,off)∈L then some .cZ else cs[off]? :=by
 intro L
 induction L with
 |nil=>intro h i cs hi;exact⟨cs,hi,rfl,fun off _=>by simp⟩
 |cons x L ih=>
  intro h i cs hi;obtain⟨j,o⟩:=x;simp only[eu];obtain⟨cs',a,b,c⟩:=ih (yp (i:=j) (off:=o) (v:=.cZ) hi);refine⟨cs',a,?_,fun off hoff=> ?_⟩
  ·rw[b];split<;>simp
  ·rw[c off (by split<;>simpa using hoff)];by_cases hm:(i,off)∈L
   ·simp[hm]
   ·by_cases hij:i=j
    ·subst hij;by_cases ho:o=off
     ·subst ho;simp[hm,hoff]
     ·simp[hm,ho,Ne.symm ho]
    ·simp[hm,hij]
theorem qM:∀ (L:List (Nat×Nat)) {h:List Uo} {i:Nat},(∀ cs,h[i]?≠some (.row cs))→(eu L h)[i]? =h[i]? :=by
 intro L
 induction L with
 |nil=>intro h i hi;rfl
 |cons x L ih=>
  intro h i hi;obtain⟨j,o⟩:=x;simp only[eu];have e:=s6 (i:=j) (off:=o) (v:=.cZ) hi;rw[ih (by rw[e];exact hi),e]
theorem qL{L:List (Nat×Nat)}{h:List Uo}{i:Nat}{o:Uo}(ho:(eu L h)[i]? =some o):
  (h[i]? =some o∧∀ cs,o≠.row cs)∨∃ cs cs',h[i]? =some (.row cs)∧o=.row cs'∧cs'.length=cs.length∧∀ off,off<cs.length→cs'[off]? =if(i,off)∈L then some .cZ else cs[off]? :=by
 by_cases hr:∃ cs,h[i]? =some (.row cs)
 ·obtain⟨cs,hcs⟩:=hr;obtain⟨cs',a,b,c⟩:=Ol L hcs;rw[a]at ho;simp at ho;subst ho;exact .inr ⟨cs,cs',hcs,rfl,b,c⟩
 ·rw[qM L (fun cs hh=>hr ⟨cs,hh⟩)]at ho;exact .inl ⟨ho,fun cs hh=>hr ⟨cs,by rw[ho,hh]⟩⟩
theorem CY(h0:List Uo):∀ (L:List (Nat×Nat)) (h:List Uo),(iC h0 L h).length=h.length:=by
 intro L
 induction L with
 |nil=>intro h;rfl
 |cons x L ih=>intro h;obtain⟨i,off⟩:=x;simp only[iC,ih,yo]
theorem NO(h0:List Uo):∀ (L:List (Nat×Nat)) {h:List Uo} {i:Nat} {cs:List U},h[i]? =some (.row cs)→∃ cs',(iC h0 L h)[i]? =some (.row cs')∧cs'.length=cs.length∧
  ∀ off,off<cs.length→cs'[off]? =if(i,off)∈L then some (cellAt h0 i off)else cs[off]? :=by
 intro L
 induction L with
 |nil=>intro h i cs hi;exact⟨cs,hi,rfl,fun off _=>by simp⟩
 |cons x L ih=>
  intro h i cs hi;obtain⟨j,o⟩:=x;simp only[iC];obtain⟨cs',a,b,c⟩:=ih (yp (i:=j) (off:=o) (v:=cellAt h0 j o) hi);refine⟨cs',a,?_,fun off hoff=> ?_⟩
  ·rw[b];split<;>simp
  ·rw[c off (by split<;>simpa using hoff)];by_cases hm:(i,off)∈L
   ·simp[hm]
   ·by_cases hij:i=j
    ·subst hij;by_cases ho:o=off
     ·subst ho;simp[hm,hoff]
     ·simp[hm,ho,Ne.symm ho]
    ·simp[hm,hij]
theorem xW(h0:List Uo):∀ (L:List (Nat×Nat)) {h:List Uo} {i:Nat},(∀ cs,h[i]?≠some (.row cs))→(iC h0 L h)[i]? =h[i]? :=by
 intro L
 induction L with
 |nil=>intro h i hi;rfl
 |cons x L ih=>
  intro h i hi;obtain⟨j,o⟩:=x;simp only[iC];have e:=s6 (i:=j) (off:=o) (v:=cellAt h0 j o) hi;rw[ih (by rw[e];exact hi),e]
theorem xV{h0:List Uo}{L:List (Nat×Nat)}{h:List Uo}{i:Nat}{o:Uo}(ho:(iC h0 L h)[i]? =some o):
  (h[i]? =some o∧∀ cs,o≠.row cs)∨∃ cs cs',h[i]? =some (.row cs)∧o=.row cs'∧cs'.length=cs.length∧∀ off,off<cs.length→cs'[off]? =if(i,off)∈L then some (cellAt h0 i off)else cs[off]? :=by
 by_cases hr:∃ cs,h[i]? =some (.row cs)
 ·obtain⟨cs,hcs⟩:=hr;obtain⟨cs',a,b,c⟩:=NO h0 L hcs;rw[a]at ho;simp at ho;subst ho;exact .inr ⟨cs,cs',hcs,rfl,b,c⟩
 ·rw[xW h0 L (fun cs hh=>hr ⟨cs,hh⟩)]at ho;exact .inl ⟨ho,fun cs hh=>hr ⟨cs,by rw[ho,hh]⟩⟩
def Tg.kept(L:List (Nat×Nat)):Tg→Prop
 | .t _=>True
 | .a=>True
 | .c i o=>(i,o)∈L
 | .r=>False
open Classical in
noncomputable def oG(L:List (Nat×Nat))(ω:Om):Om:=fun g=>if g.kept L then none else ω g
theorem fP{L:List (Nat×Nat)}{g:Tg}{I:nZ}(h:oG L ω g=some I):ω g=some I∧¬g.kept L:=by
 unfold oG at h;split at h
 ·cases h
 ·exact⟨h,‹_›⟩
theorem HL{L:List (Nat×Nat)}{g:Tg}(h:¬g.kept L):oG L ω g=ω g:=if_neg h
theorem r8{L:List (Nat×Nat)}{g:Tg}(h:g.kept L):oG L ω g=none:=if_pos h
theorem Ok.shared(h:Ok E σ Z ω s e st)(L:List (Nat×Nat))(fl:Nat):
  Ok ⟨(eu L s.h).length,σ,fO σ (oG L ω) (eu L s.h).length,Z,st,fun i=>(eu L s.h)[i]? =some .gone,none,jd (eu L s.h)⟩ σ Z (oG L ω) ⟨[],eu L s.h,fl⟩ .e st:=by
 have hlen:=mc L s.h;refine⟨fun t u hu=>by simp[look]at hu,fun i o ho=> ?_,h.qm,fun g I hI=>h.lE g I (fP hI).1,h.fresh,by simp only[hlen];exact h.inj,fun g g' I I' hI hI' =>h.gJ g g' I I' (fP hI).1 (fP hI').1,fun i g I hi hI=>h.sw i g I (by simpa[hlen]using hi) (fP hI).1,by simp only[hlen];exact h.sz,fun g I hI=>h.wz g I (fP hI).1,by simp only[hlen];exact h.sb,⟨?_,by unfold WA;rw[r8 (show Tg.a.kept L from trivial)];rfl⟩,fun i off I hI=>by simp only[hlen];exact h.wc i off I (fP hI).1,aq _,fun i hi=>rfl,fun b r hb=>hb,aq _,fun b hb hbI=>⟨rfl,fun i hi hh=>hbI (.inl ⟨i,hi,hh⟩),fun g I hI hh=>hbI (.inr ⟨g,I,hI,hh⟩),fun r hr=>hr⟩,fun i hi=>⟨(bn.1 hi).1,hi,rfl⟩,fun i off cs h1 h2=> ?_⟩
 ·simp only at ho;simp only[hlen];rcases qL ho with⟨ho,hno⟩|⟨cs,cs',hcs,rfl,hl,hc⟩
  ·have h1:=h.obj i o ho;cases o with
   |row cs=>exact absurd rfl (hno cs)
   |map es c=>exact h1
   |iter q a b c=>exact h1
   |gone=>trivial
  ·obtain⟨ds,q1,q2,q3⟩:=h.obj i _ hcs;refine⟨ds,q1,by omega,fun off u v hu hv=> ?_⟩;have hlt:off<cs.length:=by have:=(bn.1 hu).1;omega
   rw[hc off hlt]at hu;split at hu
   ·simp at hu;subst hu;trivial
   ·rename_i hm;exact(q3 off u v hu hv).mono (aq _) (fun _ _=>rfl) (fun _ _ h=>h) (HL hm)
 ·by_cases hr:Tg.r.kept L
  ·exact r8 hr
  ·rw[HL hr];exact h.wr
 ·have h1' :(eu L s.h)[i]? =some (.row cs):=h1;rcases qL h1' with⟨_,hno⟩|⟨ds,cs',hcs,_,_,_⟩
  ·exact absurd rfl (hno cs)
  ·obtain⟨r,q1,_⟩:=h.obj i _ hcs;exact⟨⟨⟨cs,h1,h2⟩,(bn.1 h1).1⟩,r,r,q1,q1,rfl⟩
theorem Ok.I9(h:Ok E σ Z ω s e st){L:List (Nat×Nat)}(hL:∀ i off,(i,off)∈L→∃ cs w xs,s.h[i]? =some (.row cs)∧cs[off]? =some (.bF w xs)){σ' :Sg}{Z' :Zs}{ω' :Om}{h' :List Uo}{fl' :Nat}{st' :St}{r:U}{v:V}{d:Nat}
  (hb:Ok ⟨(eu L s.h).length,σ,fO σ (oG L ω) (eu L s.h).length,Z,st,fun i=>(eu L s.h)[i]? =some .gone,none,jd (eu L s.h)⟩ σ' Z' ω' ⟨[],h',fl'⟩ .e st') (ht:∀ d,d≠0→ω' (.t d)=none) (hr:RR σ' Z' ω' h'.length r v)
  (hbk:L.all (lF h')=true):
  ∃ ω2,Ok E σ' Z' ω2 (dJ d r {e:=Env.bS (fk L) s.e,h:=iC s.h L h',fl:=fl'}).2 e st'∧TR σ' Z' ω2 (dJ d r {e:=Env.bS (fk L) s.e,h:=iC s.h L h',fl:=fl'}).2.h.length (dJ d r {e:=Env.bS (fk L) s.e,h:=iC s.h L h',fl:=fl'}).1 v∧
   (dJ d r {e:=Env.bS (fk L) s.e,h:=iC s.h L h',fl:=fl'}).2.h=iC s.h L h' :=by
 have hlen:=mc L s.h;have hblen:(iC s.h L h').length=h'.length:=CY _ _ _;have hn0:s.h.length≤h'.length:=by have:=hb.n0;simp only[hlen]at this;exact this
 have hσ:∀ i,i<s.h.length→σ' i=σ i:=fun i hi=>hb.sig i (by simp only[hlen];exact hi);have hZ:∀ b r,Z b=some r→Z' b=some r:=hb.zz
 -- what is not handed on stays
 have hout:∀ b,b<st.next→¬fO σ (oG L ω) s.h.length b→st'.get b=st.get b∧(∀ i,i<h'.length→σ' i≠b)∧(∀ g I,ω' g=some I→I.b≠b)∧(∀ r,Z' b=some r→Z b=some r):=fun b hb1 hb2=>hb.out b hb1 (by simp only[hlen];exact hb2)
 have hT:∀ g I,g.kept L→ω g=some I→I.b<st.next∧¬fO σ (oG L ω) s.h.length I.b:=fun x I hx hI=>⟨h.lt_next (h.lE _ I hI),by
  rintro(⟨i,hi,hh⟩|⟨g,J,hJ,hh⟩)
  ·exact h.sw i _ I hi hI hh
  ·have:=h.gJ _ _ _ _ (fP hJ).1 hI hh;subst this;exact(fP hJ).2 hx⟩
 -- the tags
 classical
 let ω2:Om:=fun g=>if g.kept L then ω g else if g=.r then none else ω' g
 have hk:∀ g,g.kept L→ω2 g=ω g:=fun g hg=>if_pos hg;have hkn:∀ g,¬g.kept L→g≠.r→ω2 g=ω' g:=fun g hg hr=>by show(if g.kept L then ω g else if g=.r then none else ω' g)=_;rw[if_neg hg,if_neg hr]
 have hkr:ω2 .r=none:=by show(if Tg.r.kept L then ω .r else if Tg.r=.r then none else ω' .r)=_;rw[if_neg (show ¬Tg.kept L .r from fun h=>h),if_pos rfl]
 have hc2:∀ g I,ω2 g=some I→(g.kept L∧ω g=some I)∨(∃ i o,g=.c i o∧¬g.kept L∧ω' (.c i o)=some I):=fun g I hI=>by
  by_cases hg:g.kept L
  ·rw[hk g hg]at hI;exact .inl ⟨hg,hI⟩
  ·cases g with
   |t x=>exact absurd trivial hg
   |a=>exact absurd trivial hg
   |r=>rw[hkr]at hI;cases hI
   |c i o=>rw[hkn _ hg (by simp)]at hI;exact .inr ⟨i,o,rfl,hg,hI⟩
 have hnl:∀ g,fk L g=false→g≠.r→g.kept L:=fun g hg hr=>by
  cases g with
  |t x=>trivial
  |a=>trivial
  |r=>exact absurd rfl hr
  |c i o=>
   simp only[fk,Bool.not_eq_false',List.any_eq_true,bC]at hg;obtain⟨x,hx,h1,h2⟩:=hg;have e1:=bR h1;have e2:=bR h2;subst e1;subst e2;exact hx
 have hOk:Ok E σ' Z' ω2 {e:=Env.bS (fk L) s.e,h:=iC s.h L h',fl:=fl'} e st' :=by
  refine⟨fun t u hu=> ?_,fun i o ho=> ?_,hb.qm,fun g I hI=> ?_,hb.fresh,by simp only[hblen];exact hb.inj,fun g1 g2 I1 I2 h1 h2 hbb=> ?_,fun i g I hi hI=> ?_,by simp only[hblen];exact hb.sz,fun g I hI=> ?_,by simp only[hblen];exact hb.sb,⟨hkr,h.zT.2.up (hk .a trivial)⟩,fun i off I hI=> ?_,by simp only[hblen];exact Nat.le_trans h.n0 hn0,fun i hi=>by rw[hσ i (mb hi h.n0)];exact h.sig i hi,fun b r hbr=>hZ b r (h.zz b r hbr),Nat.le_trans h.nx hb.nx,fun b hb1 hb2=> ?_,fun i hi=> ?_,fun i off cs h1 h2=> ?_⟩
  ·rw[qN]at hu;cases hq:look s.e t with
   |none=>rw[hq]at hu;simp at hu
   |some x=>
    rw[hq]at hu;simp at hu;subst hu;obtain⟨v,h1,h2⟩:=h.env t x hq;refine⟨v,h1,?_⟩;simp only[hblen];have tag:∀ g,fk L g=false→ω2 g=ω g:=fun g hg=>by
     by_cases hgr:g=.r
     ·subst hgr;rw[hkr,h.wr]
     ·exact hk g (hnl g hg hgr)
    cases x with
    |own g w xs=>
     simp only[U.bS];cases hg:fk L g with
     |true=>trivial
     |false=>exact h2.mono hn0 hσ hZ (fun g' hg' =>by simp[U.tag]at hg';subst hg';exact tag g hg)
    |bD g i f=>
     simp only[U.bS];cases hg:fk L g with
     |true=>trivial
     |false=>exact h2.mono hn0 hσ hZ (fun g' hg' =>by simp[U.tag]at hg';subst hg';exact tag g hg)
    |view g i f l=>
     simp only[U.bS];cases hg:fk L g with
     |true=>trivial
     |false=>exact h2.mono hn0 hσ hZ (fun g' hg' =>by simp[U.tag]at hg';subst hg';exact tag g hg)
    |_=>exact h2.mono hn0 hσ hZ (fun g hg=>by simp[U.tag,U.bS]at hg)
  ·simp only at ho;simp only[hblen];rcases xV ho with⟨ho,hno⟩|⟨cs,cs',hcs,rfl,hl,hc⟩
   ·have h1:=hb.obj i o ho;cases o with
    |row cs=>exact absurd rfl (hno cs)
    |map es c=>exact h1
    |iter q a b c=>exact h1
    |gone=>trivial
   ·obtain⟨ds,q1,q2,q3⟩:=hb.obj i _ hcs;refine⟨ds,q1,by omega,fun off u v hu hv=> ?_⟩;have hlt:off<cs.length:=by have:=(bn.1 hu).1;omega
    rw[hc off hlt]at hu;split at hu
    ·rename_i hm;simp at hu;subst hu;obtain⟨es,w,xs,e1,e2⟩:=hL i off hm;have hca:cellAt s.h i off=.bF w xs:=by simp[cellAt,e1,e2]
     rw[hca]
     -- it is in use still
     have hle:cs[off]? =some .cZ:=by
      have:=jD.1 hbk _ hm;simp only[lF,hcs]at this;split at this
      ·assumption
      ·cases this
     obtain⟨⟨_,hin⟩,ra,rb,k2,k3,k4⟩:=hb.wC.2 i off cs hcs hle;have hin' :i<s.h.length:=(bn.1 e1).1;obtain⟨fs,f1,f2,f3⟩:=h.obj i _ e1;have k3' :st.get (σ i)=some (.row rb):=k3;rw[f1]at k3';simp at k3';subst k3';rw[q1]at k2;simp at k2;subst k2;have:=f3 off _ v e2 (by rw[←k4];exact hv);exact OR.mono hZ (hk (.c i off) hm) this
    ·rename_i hm;exact(q3 off u v hu hv).mono (aq _) (fun _ _=>rfl) (fun _ _ h=>h) (hkn _ hm (by simp))
  ·rcases hc2 g I hI with⟨hg,hx⟩|⟨i,o,rfl,hg,hx⟩
   ·obtain⟨k1,k2⟩:=hT g I hg hx;rw[(hout _ k1 k2).1];exact h.lE _ I hx
   ·exact hb.lE _ I hx
  ·rcases hc2 g1 I1 h1 with⟨hg,hx⟩|⟨i,o,rfl,hg,hx⟩<;>rcases hc2 g2 I2 h2 with⟨hg',hy⟩|⟨j,p,rfl,hg',hy⟩
   ·exact h.gJ _ _ _ _ hx hy hbb
   ·obtain⟨k1,k2⟩:=hT g1 I1 hg hx;exact absurd hbb.symm ((hout _ k1 k2).2.2.1 _ _ hy)
   ·obtain⟨k1,k2⟩:=hT g2 I2 hg' hy;exact absurd hbb ((hout _ k1 k2).2.2.1 _ _ hx)
   ·exact hb.gJ _ _ _ _ hx hy hbb
  ·simp only[hblen]at hi;rcases hc2 g I hI with⟨hg,hx⟩|⟨j,o,rfl,hg,hx⟩
   ·obtain⟨k1,k2⟩:=hT g I hg hx;exact(hout _ k1 k2).2.1 i hi
   ·exact hb.sw i _ I hi hx
  ·rcases hc2 g I hI with⟨hg,hx⟩|⟨j,o,rfl,hg,hx⟩
   ·obtain⟨k1,k2⟩:=hT g I hg hx;cases hz:Z' I.b with
    |none=>rfl
    |some r=>have:=(hout _ k1 k2).2.2.2 r hz;rw[h.wz _ I hx]at this;cases this
   ·exact hb.wz _ I hx
  ·simp only[hblen];rcases hc2 _ I hI with⟨hg,hx⟩|⟨j,o,he,hg,hx⟩
   ·exact mb (h.wc i off I hx) hn0
   ·cases he;exact hb.wc i off I hx
  ·obtain⟨k1,k2,k3,k4⟩:=h.out b hb1 hb2;have hni:¬fO σ (oG L ω) s.h.length b:=by
    rintro(⟨i,hi,hh⟩|⟨g,J,hJ,hh⟩)
    ·exact k2 i hi hh
    ·exact k3 g J (fP hJ).1 hh
   obtain⟨q1,q2,q3,q4⟩:=hout b (mb hb1 h.nx) hni;refine⟨by rw[q1,k1],by simp only[hblen];exact q2,fun g I hI=> ?_,fun r hr=>k4 r (q4 r hr)⟩;rcases hc2 g I hI with⟨hg,hx⟩|⟨j,o,rfl,hg,hx⟩
   ·exact k3 _ I hx
   ·exact q3 _ I hx
  ·obtain⟨k1,k2,k3⟩:=h.gn i hi;have hg0:(eu L s.h)[i]? =some .gone:=by rw[qM L (fun cs hh=>by rw[k2]at hh;cases hh)];exact k2
   obtain⟨j1,j2,j3⟩:=hb.gn i hg0;refine⟨k1,?_,j3.trans k3⟩;simp only;have j2' :h'[i]? =some .gone:=j2;rw[xW s.h L (fun cs hh=>by rw[j2']at hh;cases hh)];exact j2'
  ·simp only at h1;rcases xV h1 with⟨_,hno⟩|⟨ds,cs',hcs,hcc,hl,hc⟩
   ·exact absurd rfl (hno cs)
   ·cases hcc;have hlt:off<ds.length:=by have:=(bn.1 h2).1;omega
    rw[hc off hlt]at h2;split at h2
    ·rename_i hm;obtain⟨es,w,xs,e1,e2⟩:=hL i off hm;simp[cellAt,e1,e2]at h2
    ·rename_i hm;obtain⟨⟨hl1,hin⟩,ra,rb,k2,k3,k4⟩:=hb.wC.2 i off ds hcs h2;obtain⟨as,a1,a2⟩:=hl1;have a1' :(eu L s.h)[i]? =some (.row as):=a1;rcases qL a1' with⟨_,hno⟩|⟨bs,_,b1,hbb,b2,b3⟩
     ·exact absurd rfl (hno as)
     ·cases hbb;have hlt2:off<bs.length:=by have:=(bn.1 a2).1;omega
      rw[b3 off hlt2,if_neg hm]at a2;obtain⟨m1,rc,rd,m2,m3,m4⟩:=h.wC.2 i off bs b1 a2;have k3' :st.get (σ i)=some (.row rb):=k3;rw[m2]at k3';simp at k3';subst k3';exact⟨m1,ra,rd,k2,m3,k4.trans m4⟩
 -- what comes back
 unfold dJ;split
 ·rename_i w xs;have hor:OR σ' Z' ω' (.t 0) w xs v:=hr;have hkk:=hOk.kill (.t d);refine⟨_,hkk.Be (eZ _ _) (by simp) (o:=ω' (.t 0)) (fun J hJ=> ?_),?_,rfl⟩
  ·refine⟨hb.lE _ J hJ,fun i hi=>hb.sw i _ J (by rw[cW]at hi;simp only[hblen]at hi;exact hi) hJ,hb.wz _ J hJ,fun g' I' hg' hI' hbb=> ?_,fun b hb1 hb2=> ?_,fun i off hh=>by cases hh⟩
   ·rcases hc2 g' I' hI' with⟨hg,hx⟩|⟨j,o,rfl,hg,hx⟩
    ·obtain⟨k1,k2⟩:=hT g' I' hg hx;exact(hout _ k1 k2).2.2.1 _ _ hJ hbb.symm
    ·have:=hb.gJ _ _ _ _ hx hJ hbb;cases this
   ·obtain⟨k1,k2,k3,k4⟩:=h.out b hb1 hb2;have hni:¬fO σ (oG L ω) s.h.length b:=by
     rintro(⟨i,hi,hh⟩|⟨g,J,hJ,hh⟩)
     ·exact k2 i hi hh
     ·exact k3 g J (fP hJ).1 hh
    exact(hout b (mb hb1 h.nx) hni).2.2.1 _ _ hJ
  ·refine⟨?_,fun i off hh=>by cases hh⟩;unfold OR at hor⊢;rw[bl];exact hor
 ·rename_i hno;refine⟨ω2,hOk,?_,rfl⟩;simp only[hblen];cases r with
  |own g w xs=>
   cases g with
   |r=>exact absurd rfl (hno w xs)
   |t x=>exact hr.elim
   |c i o=>exact hr.elim
   |a=>exact hr.elim
  |_=>exact TR.bB hr
theorem JP{h:List Uo}:∀ {ev:Env} {i off:Nat},(i,off)∈gP h ev→∃ cs w xs,h[i]? =some (.row cs)∧cs[off]? =some (.bF w xs):=by
 intro ev
 induction ev with
 |nil=>intro i off h;cases h
 |cons x r ih=>
  intro i off hm;obtain⟨k,u⟩:=x;simp only[gP]at hm;split at hm
  ·split at hm
   ·split at hm
    ·rcases dS.1 hm with hh|hh
     ·cases hh;exact⟨_,_,_,‹_›,‹_›⟩
     ·exact ih hh
    ·exact ih hm
   ·exact ih hm
  ·exact ih hm
theorem Fl.oh(h:Fl s)(L:List (Nat×Nat))(E' :Env):Fl {s with e:=E',h:=eu L s.h}:=by
 have:∀ (L:List (Nat×Nat)) {s:Vs},Fl s→Fl {s with h:=eu L s.h}:=by
  intro L
  induction L with
  |nil=>intro s h;exact h
  |cons x L ih=>intro s h;obtain⟨i,off⟩:=x;exact ih (h.setCell (i:=i) (off:=off) (v:=.cZ) (fun _=>rfl) s.e)
 exact(this L h).env E'
theorem Fl.back{h0 h' :List Uo}{fl:Nat}:∀ (L:List (Nat×Nat)) {h' :List Uo},(∀ i off,(i,off)∈L→∃ cs w xs,h0[i]? =some (.row cs)∧cs[off]? =some (.bF w xs))→Fl ⟨[],h',fl⟩→Fl ⟨[],iC h0 L h',fl⟩:=by
 intro L
 induction L with
 |nil=>intro h' _ h;exact h
 |cons x L ih=>
  intro h' hL h;obtain⟨i,off⟩:=x;obtain⟨cs,w,xs,e1,e2⟩:=hL i off eU;exact ih (fun j o hm=>hL j o (gB _ hm)) (h.setCell (i:=i) (off:=off) (v:=cellAt h0 i off) (fun m=>by simp[cellAt,e1,e2];rfl) [])
end
end Go.RE
namespace Go.RE
section
variable{E:qe}{σ:Sg}{Z:Zs}{ω:Om}{s s' :Vs}{e:PT V}{st:St}{n:Nat}
theorem oF(σ:Sg)(b:Nat):¬fO σ (fun _=>none) 0 b:=by
 rintro(⟨i,hi,_⟩|⟨g,I,hI,_⟩)
 ·omega
 ·cases hI
theorem OR.to{σ2:Sg}{Z2:Zs}{ω2:Om}{g g2:Tg}{w:Nat}{xs:List (List U)}{v:V}(h:OR σ Z ω g w xs v)(hZ:∀ b r,Z b=some r→Z2 b=some r)(hω:ω2 g2=ω g):OR σ2 Z2 ω2 g2 w xs v:=by
 unfold OR at h⊢;rw[hω];split at h
 ·exact h
 ·exact⟨h.1,h.2.1,h.2.2.1,h.2.2.2.1,h.2.2.2.2.1,h.2.2.2.2.2.mono (aq 0) (fun i hi=>by omega) hZ⟩
theorem OB.shift{σ2:Sg}{ω2:Om}{k m j:Nat}(hσ:∀ i,i<n→σ2 (i+k)=σ i)(hm:n+k≤m)(hω:∀ off,ω2 (.c (j+k) off)=ω (.c j off)){o:Uo}{ob:Option Ob}(h:OB σ Z ω n j o ob):OB σ2 Z ω2 m (j+k) (eL k o) ob:=by
 cases o with
 |row cs=>
  obtain⟨cs',h1,h2,h3⟩:=h;refine⟨cs',h1,by rw[nk];exact h2,fun off u v hu hv=> ?_⟩;obtain⟨x,hx,rfl⟩:=kK hu;have:=h3 off x v hx hv;cases x with
  |bad=>trivial
  |bF w xs=>exact OR.to this (fun _ _ h=>h) (hω off)
  |ptr i o=>exact UR.shift hσ hm this
  |map i=>exact UR.shift hσ hm this
  |func f a b=>exact UR.shift hσ hm this
  |iface t v=>exact UR.shift hσ hm this
  |agg cs=>exact UR.shift hσ hm this
  |aV cs=>exact UR.shift hσ hm this
  |bool b=>exact UR.shift hσ hm this
  |int k x=>exact UR.shift hσ hm this
  |str x=>exact UR.shift hσ hm this
  |bA=>exact UR.shift hσ hm this
  |bu=>exact UR.shift hσ hm this
  |bQ=>exact UR.shift hσ hm this
  |di=>exact UR.shift hσ hm this
  |cO=>exact UR.shift hσ hm this
  |eD r o=>exact UR.shift hσ hm this
  |sl w xs=>exact UR.shift hσ hm this
  |nl w=>exact UR.shift hσ hm this
  |own g w xs=>exact UR.shift hσ hm this
  |bD g i f=>exact UR.shift hσ hm this
  |xU i o l w=>exact UR.shift hσ hm this
  |view g i l w=>exact UR.shift hσ hm this
  |cZ=>trivial
 |map es c=>
  obtain⟨es',h1,h2,h3⟩:=h;refine⟨es',h1,by simp[h2],fun q x y hx hy=> ?_⟩;rw[List.getElem?_map]at hx;cases hq:es[q]? with
  |none=>rw[hq]at hx;simp at hx
  |some z=>
   rw[hq]at hx;simp at hx;subst hx;obtain⟨k1,k2,k3⟩:=h3 q z y hq hy;exact⟨UR.shift hσ hm k1,UR.shift hσ hm k2,k3⟩
 |iter q a b c=>
  obtain⟨h1,h2⟩:=h;refine⟨?_,fun i hi=> ?_⟩
  ·rw[h1];cases q with
   |none=>rfl
   |some i=>simp only[Option.map_some,hσ i (h2 i rfl)]
  ·cases q with
   |none=>cases hi
   |some i0=>simp at hi;subst hi;have:=h2 i0 rfl;omega
 |gone=>trivial
theorem Ok.D1(h:Ok E σ Z ω s e st){σ' :Sg}{Z' :Zs}{ω' :Om}{hc:List Uo}{fc fl2:Nat}{st' :St}{r:U}{v:V}{d:Nat}
  (hb:Ok ⟨0,σ,fO σ (fun _=>none) 0,Z,st,fun i=>([]:List Uo)[i]? =some .gone,none,jd ([]:List Uo)⟩ σ' Z' ω' ⟨[],hc,fc⟩ .e st') (ht:∀ d,d≠0→ω' (.t d)=none) (hr:RR σ' Z' ω' hc.length r v):
  ∃ σ2 ω2,Ok E σ2 Z' ω2 (dJ d (r.shift s.h.length) {s with h:=s.h++hc.map (eL s.h.length),fl:=fl2}).2 e st'∧
   TR σ2 Z' ω2 (dJ d (r.shift s.h.length) {s with h:=s.h++hc.map (eL s.h.length),fl:=fl2}).2.h.length (dJ d (r.shift s.h.length) {s with h:=s.h++hc.map (eL s.h.length),fl:=fl2}).1 v∧
   (dJ d (r.shift s.h.length) {s with h:=s.h++hc.map (eL s.h.length),fl:=fl2}).2.h=s.h++hc.map (eL s.h.length)∧(∀ i,i<s.h.length→σ2 i=σ i)∧∀ b r,Z b=some r→Z' b=some r:=by
 have hZ:∀ b r,Z b=some r→Z' b=some r:=hb.zz;have hout:∀ b,b<st.next→st'.get b=st.get b∧(∀ i,i<hc.length→σ' i≠b)∧(∀ g I,ω' g=some I→I.b≠b)∧(∀ r,Z' b=some r→Z b=some r):=fun b hb1=>hb.out b hb1 (oF σ b)
 have hlt:∀ g I,ω g=some I→I.b<st.next:=fun g I hI=>h.lt_next (h.lE g I hI)
 generalize hk:s.h.length=k at*;let σ2:Sg:=fun i=>if i<k then σ i else σ' (i - k)
 let ω2:Om:=fun g=>match g with
  | .t x=>ω (.t x)
  | .c i o=>if i<k then ω (.c i o)else ω' (.c (i - k) o)
  | .r=>none
  | .a=>ω .a
 have hs1:∀ i,i<k→σ2 i=σ i:=fun i hi=>if_pos hi;have hs2:∀ i,σ2 (i+k)=σ' i:=fun i=>by
  show(if i+k<k then σ (i+k)else σ' (i+k - k))=_;rw[if_neg (by omega),Nat.add_sub_cancel]
 have hc2:∀ g I,ω2 g=some I→(ω g=some I∧(∀ i o,g=.c i o→i<k))∨(∃ i o,g=.c (i+k) o∧ω' (.c i o)=some I):=fun g I hI=>by
  cases g with
  |t x=>exact .inl ⟨hI,fun i o hh=>by cases hh⟩
  |c i o=>
   have hI' :(if i<k then ω (.c i o)else ω' (.c (i - k) o))=some I:=hI;by_cases hi:i<k
   ·rw[if_pos hi]at hI';exact .inl ⟨hI',fun i' o' hh=>by cases hh;exact hi⟩
   ·rw[if_neg hi]at hI';exact .inr ⟨i - k,o,by congr 1;omega,hI'⟩
  |r=>cases hI
  |a=>exact .inl ⟨hI,fun i o hh=>by cases hh⟩
 have hlen:(s.h++hc.map (eL k)).length=k+hc.length:=by simp[hk]
 have hcase:∀ i,i<k+hc.length→i<k∨∃ j,i=j+k∧j<hc.length:=fun i hi=>by
  by_cases h1:i<k
  ·exact .inl h1
  ·exact .inr ⟨i - k,by omega,by omega⟩
 have hOk:Ok E σ2 Z' ω2 {s with h:=s.h++hc.map (eL k),fl:=fl2} e st' :=by
  refine⟨fun t u hu=> ?_,fun i o ho=> ?_,hb.qm,fun g I hI=> ?_,hb.fresh,fun i j hi hj hij=> ?_,fun g1 g2 I1 I2 h1 h2 hbb=> ?_,fun i g I hi hI=> ?_,fun i hi=> ?_,fun g I hI=> ?_,fun i hi=> ?_,⟨rfl,h.zT.2.up rfl⟩,fun i off I hI=> ?_,?_,fun i hi=> ?_,fun b r hbr=>hZ b r (h.zz b r hbr),Nat.le_trans h.nx hb.nx,fun b hb1 hb2=> ?_,fun i hi=> ?_,fun i off cs h1 h2=> ?_⟩
  ·obtain⟨v,h1,h2⟩:=h.env t u hu;rw[hk]at h2;simp only[hlen];refine⟨v,h1,h2.mono (by omega) hs1 hZ fun g hg=> ?_⟩;cases g with
   |t x=>rfl
   |r=>exact h.wr.symm
   |a=>rfl
   |c i o=>
    show(if i<k then ω (.c i o)else ω' (.c (i - k) o))=_;rw[if_pos];cases u with
    |own g' w xs=>simp[U.tag]at hg;subst hg;exact h2.2 i o rfl
    |bD g' i' f=>simp[U.tag]at hg;subst hg;exact h2.2 i o rfl
    |view g' i' f l=>simp[U.tag]at hg;subst hg;exact h2.2 i o rfl
    |_=>simp[U.tag]at hg
  ·simp only[hlen];by_cases hi:i<k
   ·have hi' :i<s.h.length:=by omega
    simp only[cz hi']at ho;rw[hs1 i hi,(hout _ (h.sb i hi')).1];have:=h.obj i o ho;rw[hk]at this;exact this.mono (by omega) hs1 hZ fun off=>if_pos hi
   ·simp only at ho;rw[fh (by omega),List.getElem?_map,hk]at ho;cases hq:hc[i - k]? with
    |none=>rw[hq]at ho;simp at ho
    |some x=>
     rw[hq]at ho;simp at ho;subst ho;have:=hb.obj (i - k) x hq;have e1:i=(i - k)+k:=by omega
     rw[e1,hs2];refine OB.shift (n:=hc.length) (fun i hi=>hs2 i) (by omega) (fun off=> ?_) this;show(if i - k+k<k then _ else ω' (.c (i - k+k - k) off))=_;rw[if_neg (by omega),Nat.add_sub_cancel]
  ·rcases hc2 g I hI with⟨hx,_⟩|⟨i,o,rfl,hx⟩
   ·rw[(hout _ (hlt g I hx)).1];exact h.lE g I hx
   ·exact hb.lE _ I hx
  ·simp only[hlen]at hi hj;rcases hcase i hi with hi' |⟨p,rfl,hp⟩<;>rcases hcase j hj with hj' |⟨q,rfl,hq⟩
   ·rw[hs1 i hi',hs1 j hj']at hij;exact h.inj i j (by omega) (by omega) hij
   ·rw[hs1 i hi',hs2]at hij;exact absurd hij.symm ((hout _ (h.sb i (by omega))).2.1 q hq)
   ·rw[hs2,hs1 j hj']at hij;exact absurd hij ((hout _ (h.sb j (by omega))).2.1 p hp)
   ·rw[hs2,hs2]at hij;rw[hb.inj p q hp hq hij]
  ·rcases hc2 g1 I1 h1 with⟨hx,_⟩|⟨i,o,rfl,hx⟩<;>rcases hc2 g2 I2 h2 with⟨hy,_⟩|⟨j,p,rfl,hy⟩
   ·exact h.gJ _ _ _ _ hx hy hbb
   ·exact absurd hbb.symm ((hout _ (hlt g1 I1 hx)).2.2.1 _ _ hy)
   ·exact absurd hbb ((hout _ (hlt g2 I2 hy)).2.2.1 _ _ hx)
   ·have:=hb.gJ _ _ _ _ hx hy hbb;cases this;rfl
  ·simp only[hlen]at hi;rcases hcase i hi with hi' |⟨p,rfl,hp⟩<;>rcases hc2 g I hI with⟨hx,_⟩|⟨j,o,rfl,hx⟩
   ·rw[hs1 i hi'];exact h.sw i g I (by omega) hx
   ·rw[hs1 i hi'];exact fun hh=>(hout _ (h.sb i (by omega))).2.2.1 _ _ hx hh.symm
   ·rw[hs2];exact(hout _ (hlt g I hx)).2.1 p hp
   ·rw[hs2];exact hb.sw p _ I hp hx
  ·simp only[hlen]at hi;rcases hcase i hi with hi' |⟨p,rfl,hp⟩
   ·rw[hs1 i hi'];cases hz:Z' (σ i)with
    |none=>rfl
    |some r=>have:=(hout _ (h.sb i (by omega))).2.2.2 r hz;rw[h.sz i (by omega)]at this;cases this
   ·rw[hs2];exact hb.sz p hp
  ·rcases hc2 g I hI with⟨hx,_⟩|⟨j,o,rfl,hx⟩
   ·cases hz:Z' I.b with
    |none=>rfl
    |some r=>have:=(hout _ (hlt g I hx)).2.2.2 r hz;rw[h.wz g I hx]at this;cases this
   ·exact hb.wz _ I hx
  ·simp only[hlen]at hi;rcases hcase i hi with hi' |⟨p,rfl,hp⟩
   ·rw[hs1 i hi'];exact mb (h.sb i (by omega)) hb.nx
   ·rw[hs2];exact hb.sb p hp
  ·simp only[hlen];rcases hc2 (.c i off) I hI with⟨hx,hy⟩|⟨j,o,he,hx⟩
   ·have:=hy i off rfl;omega
   ·cases he;have:j<hc.length:=hb.wc j off I hx;omega
  ·simp only[hlen];have:=h.n0;omega
  ·rw[hs1 i (by have:=h.n0;omega)];exact h.sig i hi
  ·obtain⟨k1,k2,k3,k4⟩:=h.out b hb1 hb2;obtain⟨q1,q2,q3,q4⟩:=hout b (mb hb1 h.nx);refine⟨by rw[q1,k1],fun i hi=> ?_,fun g I hI=> ?_,fun r hr=>k4 r (q4 r hr)⟩
   ·simp only[hlen]at hi;rcases hcase i hi with hi' |⟨p,rfl,hp⟩
    ·rw[hs1 i hi'];exact k2 i (by omega)
    ·rw[hs2];exact q2 p hp
   ·rcases hc2 g I hI with⟨hx,_⟩|⟨j,o,rfl,hx⟩
    ·exact k3 g I hx
    ·exact q3 _ I hx
  ·obtain⟨k1,k2,k3⟩:=h.gn i hi;have hlt:=(bn.1 k2).1;exact⟨k1,by simp only[cz hlt];exact k2,by rw[hs1 i (by omega),(hout _ (h.sb i hlt)).1];exact k3⟩
  ·simp only at h1;by_cases hi:i<k
   ·have hi' :i<s.h.length:=by omega
    rw[cz hi']at h1;rw[hs1 i hi,(hout _ (h.sb i hi')).1];exact h.wC.2 i off cs h1 h2
   ·exfalso;rw[fh (by omega),List.getElem?_map,hk]at h1;cases hq:hc[i - k]? with
    |none=>rw[hq]at h1;simp at h1
    |some x=>
     rw[hq]at h1;cases x with
     |row ds=>
      simp[eL]at h1;subst h1;obtain⟨y,hy,hyl⟩:=kK h2;have:y=.cZ:=by cases y<;>simp[U.shift]at hyl⊢
      subst this;obtain⟨⟨⟨fs,f1,_⟩,_⟩,_⟩:=hb.wC.2 _ off ds hq hy;simp at f1
     |map _ _=>simp[eL]at h1
     |iter _ _ _ _=>simp[eL]at h1
     |gone=>simp[eL]at h1
 refine⟨σ2,?_⟩;have hown:∀ w xs,OR σ' Z' ω' (.t 0) w xs v→∃ ω3,Ok E σ2 Z' ω3 (({s with h:=s.h++hc.map (eL k),fl:=fl2}:Vs).kill (.t d)) e st'∧OR σ2 Z' ω3 (.t d) w xs v:=by
  intro w xs hor;refine⟨_,(hOk.kill (.t d)).Be (eZ _ _) (by simp) (o:=ω' (.t 0)) (fun J hJ=> ?_),OR.to hor (fun _ _ h=>h) (bl _ _ _)⟩;refine⟨hb.lE _ J hJ,fun i hi=> ?_,hb.wz _ J hJ,fun g' I' hg' hI' hbb=> ?_,fun b hb1 hb2=>(hout b (mb hb1 h.nx)).2.2.1 _ _ hJ,fun i off hh=>by cases hh⟩
  ·rw[cW]at hi;simp only[hlen]at hi;rcases hcase i hi with hi' |⟨p,rfl,hp⟩
   ·rw[hs1 i hi'];exact fun hh=>(hout _ (h.sb i (by omega))).2.2.1 _ _ hJ hh.symm
   ·rw[hs2];exact hb.sw p _ J hp hJ
  ·rcases hc2 g' I' hI' with⟨hx,_⟩|⟨j,o,rfl,hx⟩
   ·exact(hout _ (hlt g' I' hx)).2.2.1 _ _ hJ hbb.symm
   ·have:=hb.gJ _ _ _ _ hx hJ hbb;cases this
 have hpl:∀ u,UR σ' Z' hc.length u v→TR σ2 Z' ω2 (k+hc.length) (u.shift k) v:=fun u hu=>TR.bB (UR.shift (fun i hi=>hs2 i) (by omega) hu);have hlen' :(s.h++hc.map (eL k)).length=k+hc.length:=hlen;cases r with
 |own g w xs=>
  cases g with
  |r=>
   obtain⟨ω3,k1,k2⟩:=hown w xs hr;exact⟨ω3,k1,⟨k2,fun i off hh=>by cases hh⟩,rfl,hs1,hZ⟩
  |t x=>exact hr.elim
  |a=>exact hr.elim
  |c i o=>exact hr.elim
 |bad=>exact⟨ω2,hOk,by simp only[dJ,U.shift];trivial,rfl,hs1,hZ⟩
 |_=>exact⟨ω2,hOk,by simp only[dJ,U.shift,hlen'];exact hpl _ hr,rfl,hs1,hZ⟩
theorem Ok.O4(h:Ok E σ Z ω s e st){σ' :Sg}{Z' :Zs}{ω' :Om}{fc:Nat}{st' :St}{r:U}{v:V}{d:Nat}
  (hb:Ok ⟨0,σ,fO σ (fun _=>none) 0,oh ω Z,st,fun i=>([]:List Uo)[i]? =some .gone,none,jd ([]:List Uo)⟩ σ' Z' ω' ⟨[],[],fc⟩ .e st') (hr:RR σ' Z' ω' 0 r v) (hf:r.flat=true):
  ∃ ω2,Ok E σ Z ω2 (dJ d r s).2 e st'∧TR σ Z ω2 (dJ d r s).2.h.length (dJ d r s).1 v∧(dJ d r s).2.h=s.h:=by
 have hout:∀ b,b<st.next→st'.get b=st.get b∧(∀ g I,ω' g=some I→I.b≠b):=fun b hb1=>⟨(hb.out b hb1 (oF σ b)).1,(hb.out b hb1 (oF σ b)).2.2.1⟩
 have hOk:Ok E σ Z ω s e st' :=h.mem hb.nx hb.fresh fun b hbb=>(hout b (h.zc hbb)).1;have hur:∀ u,UR σ' Z' 0 u v→u.flat=true→TR σ Z ω s.h.length u v:=fun u hu hf=>TR.bB ((hu.flat hf).mono (dW _) (fun i hi=>by omega) (fun _ _ h=>h));cases r with
 |own g w xs=>
  cases g with
  |r=>
   have hor:OR σ' Z' ω' (.t 0) w xs v:=hr;refine⟨_,(hOk.kill (.t d)).Be (eZ _ _) (by simp) (o:=ω' (.t 0)) (fun J hJ=> ?_),⟨OR.flat hor (bl _ _ _) (by simpa[U.flat]using hf),fun i off hh=>by cases hh⟩,rfl⟩;have hge:∀ b,b<st.next→J.b≠b:=fun b hb1=>(hout b hb1).2 _ _ hJ
   refine⟨hb.lE _ J hJ,fun i hi hh=> ?_,?_,fun g' I' hg' hI' hbb=> ?_,fun b hb1 hb2=>hge b (mb hb1 h.nx),fun i off hh=>by cases hh⟩
   ·rw[cW]at hi;exact hge _ (h.sb i hi) hh.symm
   ·cases hz:Z J.b with
    |none=>rfl
    |some r=>exact absurd rfl (hge _ (h.AX (h.qm _ _ hz)))
   ·exact hge _ (h.lt_next (h.lE _ _ hI')) hbb.symm
  |t x=>exact hr.elim
  |a=>exact hr.elim
  |c i o=>exact hr.elim
 |_=>exact⟨ω,hOk,hur _ hr hf,rfl⟩
theorem Ad{P:Nat→List V→St→(V→St→Prop)→Prop}{F:FU}(hP:∀ f vs st k k',(∀ v s,k v s→k' v s)→P f vs st k→P f vs st k')(hF:VE P F){ld:Bool}{d f:Nat}{args:List U}{vs:List V}{u:U}(h:Ok E σ Z ω s e st)(hF0:Fl s)
  (hl:args.length=vs.length) (ha:∀ (j:Nat) u v,args[j]? =some u→vs[j]? =some v→TR σ Z ω s.h.length u v) (hc:jG ld F d f args s=some (u,s')):
  P f vs st fun v st' =>Fl s'∧∃ σ' Z' ω',Ok E σ' Z' ω' s' e st'∧TR σ' Z' ω' s'.h.length u v∧s.h.length≤s'.h.length∧(∀ i,i<s.h.length→σ' i=σ i)∧(∀ b r,Z b=some r→Z' b=some r)∧
   ((∀ us,gK args=some us→U.b8 0 us=true)→∀ b,b<st.next→st'.get b=st.get b):=by
 unfold jG at hc;obtain⟨us,hus⟩:∃ us,gK args=some us:=by
  cases hq:gK args with
  |none=>rw[hq]at hc;simp at hc
  |some us=>exact⟨us,rfl⟩
 ·rw[hus]at hc;simp only at hc;cases hlow:U.b8 0 us with
  |true=>
   rw[hlow]at hc;simp only[cond_true]at hc;cases hcall:F f us [] 0 with
   |none=>rw[hcall]at hc;simp at hc
   |some R=>
    obtain⟨r,hcs,fc⟩:=R;rw[hcall]at hc;simp only[ai]at hc
    -- without what is cZ
    have plain:∀ {s1:Vs} {Z1:Zs} {ω1:Om},Ok E σ Z1 ω1 s1 e st→Fl s1→s1.h.length=s.h.length→(∀ b r,Z b=some r→Z1 b=some r)→LU σ Z1 s.h.length us vs→
      qK d r hcs fc s1=(u,s')→
      P f vs st fun v st' =>Fl s'∧∃ σ' Z' ω',Ok E σ' Z' ω' s' e st'∧TR σ' Z' ω' s'.h.length u v∧s.h.length≤s'.h.length∧(∀ i,i<s.h.length→σ' i=σ i)∧(∀ b r,Z b=some r→Z' b=some r)∧
       ((∀ us,gK args=some us→U.b8 0 us=true)→∀ b,b<st.next→st'.get b=st.get b):=by
     intro s1 Z1 ω1 h1 hf1 hlen hZ hlu hfin;have hlu0:LU σ Z1 0 us vs:=hlu.low hlow;refine hP _ _ _ _ _ ?_ (hF f us [] 0 r hcs fc hcall σ Z1 (fun _=>none) st vs (h1.iso h1.qm 0) ⟨aq _,fun i o ho=>by simp at ho⟩ (fun _=>rfl) hlu0);rintro v st' ⟨k0,σ',Z',ω',k1,k2,k3⟩;have hfs:Fl s' :=by have:=hf1.land k0 d r;rw[hfin]at this;exact this
     refine⟨hfs,?_⟩;obtain⟨σ2,ω2,q1,q2,q3,q4,q5⟩:=h1.D1 (d:=d) (fl2:=bif Nat.beq fc 0 then s1.fl else s1.h.length+fc) k1 k2 k3;have hframe:∀ b,b<st.next→st'.get b=st.get b:=fun b hb=>(k1.out b hb (oF σ b)).1
     cases hcs with
     |nil=>
      simp only[qK]at hfin
      -- nothing is laid
      have hOk2:∃ σ2 ω2,Ok E σ2 Z' ω2 (dJ d r s1).2 e st'∧TR σ2 Z' ω2 (dJ d r s1).2.h.length (dJ d r s1).1 v∧(dJ d r s1).2.h=s1.h∧∀ i,i<s1.h.length→σ2 i=σ i:=by
       obtain⟨σ2,ω2,q1,q2,q3,q4,q5⟩:=h1.D1 (d:=d) (fl2:=s1.fl) k1 k2 k3;have e1:({s1 with h:=s1.h++List.map (eL s1.h.length) [],fl:=s1.fl}:Vs)=s1:=by simp
       rw[e1]at q1 q2 q3;have hpl:∀ {u:U},UR σ' Z' 0 u v→TR σ2 Z' ω2 s1.h.length u v:=fun hu=>TR.bB (hu.mono (dW _) (fun i hi=>by omega) (fun _ _ h=>h));cases r with
       |own g w xs=>
        cases g with
        |r=>exact⟨σ2,ω2,q1,q2,by simpa[dJ,U.shift]using q3,q4⟩
        |t x=>exact k3.elim
        |a=>exact k3.elim
        |c i o=>exact k3.elim
       |_=>exact⟨σ2,ω2,q1,hpl k3,rfl,q4⟩
      obtain⟨σ2,ω3,p1,p2,p3,p4⟩:=hOk2;rw[hfin]at p1 p2 p3;exact⟨σ2,Z',ω3,p1,p2,by rw[p3];omega,fun i hi=>p4 i (by omega),fun b r hb=>q5 b r (hZ b r hb),fun _=>hframe⟩
     |cons a as=>
      simp only[qK]at hfin;rw[hfin]at q1 q2 q3;exact⟨σ2,Z',ω2,q1,q2,by rw[q3];simp;omega,fun i hi=>q4 i (by omega),fun b r hb=>q5 b r (hZ b r hb),fun _=>hframe⟩
    have hOwnArgs:∀ {Z' :Zs},(∀ b r,Z b=some r→Z' b=some r)→(∀ g w xs I,.own g w xs∈args→ω g=some I→Z' I.b=some I.row)→LU σ Z' s.h.length us vs:=fun hz ho=>yK hz hus hl ha ho;cases hany:qt args with
    |false=>
     rw[hany]at hc;simp only[Bool.false_and,cond_false]at hc;have hno:∀ {args:List U},qt args=false→∀ g w xs,.own g w xs ∉ args:=by
      intro args
      induction args with
      |nil=>intro _ g w xs hm;cases hm
      |cons a args ih=>
       intro h g w xs hm;simp only[qt,Bool.or_eq_false_iff]at h;rcases dS.1 hm with hh|hh
       ·rw[←hh]at h;cases h.1
       ·exact ih h.2 g w xs hh
     exact plain h hF0 rfl (fun _ _ h=>h) (hOwnArgs (fun _ _ h=>h) fun g w xs I hm=>absurd hm (hno hany g w xs)) hc
    |true=>
     rw[hany]at hc;simp only[Bool.true_and]at hc;cases hfl:(r.flat&&hcs.isEmpty)with
     |false=>
      rw[hfl]at hc;simp only[Bool.not_false,cond_true]at hc;obtain⟨Z1,ω1,b1,b2,b3,b4,b5⟩:=pF (args:=args) (rJ hus) h;exact plain b1 hF0.aG b3 b2 (hOwnArgs b2 b5) hc
     |true=>
      rw[hfl]at hc;simp only[Bool.not_true,cond_false]at hc;simp only[bC]at hfl;have hc0:hcs=[]:=by cases hcs with|nil=>rfl|cons a as=>simp at hfl
      subst hc0;simp only[qK]at hc;have hlu0:LU σ (oh ω Z) 0 us vs:=(hOwnArgs (fun b r hb=>P7 h hb) fun g w xs I _ hg=>Hz h hg).low hlow;have hlz:∀ b r,oh ω Z b=some r→st.row b=some r:=fun b r hb=>by
       rcases AO hb with hb|⟨g,I,hg,rfl,rfl⟩
       ·exact h.qm b r hb
       ·exact iT (h.lE g I hg)
      refine hP _ _ _ _ _ ?_ (hF f us [] 0 r [] fc hcall σ (oh ω Z) (fun _=>none) st vs (h.iso hlz 0) ⟨aq _,fun i o ho=>by simp at ho⟩ (fun _=>rfl) hlu0);rintro v st' ⟨k0,σ',Z',ω',k1,k2,k3⟩;refine⟨by have:=hF0.dJ d r;rw[hc]at this;exact this,?_⟩;obtain⟨ω2,p1,p2,p3⟩:=h.O4 (d:=d) k1 k3 hfl.1;rw[hc]at p1 p2 p3;exact⟨σ,Z,ω2,p1,p2,by rw[p3];exact aq _,fun _ _=>rfl,fun _ _ h=>h,fun _ b hb=>(k1.out b hb (oF σ b)).1⟩
  |false=>
   rw[hlow]at hc;simp only[cond_false]at hc;obtain⟨Z1,ω1,b1,b2,b3,b4,b5⟩:=pF (args:=args) (rJ hus) h;have hlu:LU σ Z1 s.h.length us vs:=yK b2 hus hl ha b5;have gen:∀ (L:List (Nat×Nat)),(∀ i off,(i,off)∈L→∃ cs w xs,(aG args s).h[i]? =some (.row cs)∧cs[off]? =some (.bF w xs))→∀ r h' fl',F f us (eu L (aG args s).h) (aG args s).fl=some (r,h',fl')→L.all (lF h')=true→
     dJ d r {e:=Env.bS (fk L) (aG args s).e,h:=iC (aG args s).h L h',fl:=fl'}=(u,s')→
     P f vs st fun v st' =>Fl s'∧∃ σ' Z' ω',Ok E σ' Z' ω' s' e st'∧TR σ' Z' ω' s'.h.length u v∧s.h.length≤s'.h.length∧(∀ i,i<s.h.length→σ' i=σ i)∧(∀ b r,Z b=some r→Z' b=some r)∧
      ((∀ us,gK args=some us→U.b8 0 us=true)→∀ b,b<st.next→st'.get b=st.get b):=by
    intro L hL r h' fl' hcall hbk hc;refine hP _ _ _ _ _ ?_ (hF f us _ _ r h' fl' hcall σ Z1 (oG L ω1) st vs (b1.shared L _) (hF0.aG.oh L []) (fun _=>r8 trivial) (by rw[mc,b3];exact hlu));rintro v st' ⟨k0,σ',Z',ω',k1,k2,k3⟩;refine⟨by have:=Fl.dJ (s:={e:=Env.bS (fk L) (aG args s).e,h:=iC (aG args s).h L h',fl:=fl'}) ((Fl.back (h' :=h') L hL k0).env _) d r;rw[hc]at this;exact this,?_⟩;obtain⟨ω2,p1,p2,p3⟩:=b1.I9 (d:=d) hL k1 k2 k3 hbk;rw[hc]at p1 p2 p3;have hn0:(aG args s).h.length≤h'.length:=by have:=k1.n0;simp only[mc]at this;exact this
    exact⟨σ',Z',ω2,p1,p2,by rw[p3,CY];omega,fun i hi=>k1.sig i (by simp only[mc];omega),fun b r hb=>k1.zz b r (b2 b r hb),fun hq=>absurd (hq us hus) (by rw[hlow];simp)⟩
   cases ld with
   |true=>
    simp only[cond_true]at hc;cases hcall:F f us (eu (gP (aG args s).h (aG args s).e) (aG args s).h) (aG args s).fl with
    |none=>rw[hcall]at hc;simp at hc
    |some R=>
     obtain⟨r,h',fl'⟩:=R;rw[hcall]at hc;simp only at hc;cases hbk:(gP (aG args s).h (aG args s).e).all (lF h')with
     |false=>rw[hbk]at hc;simp at hc
     |true=>
      rw[hbk]at hc;simp only[cond_true,ai]at hc;exact gen _ (fun i off hm=>JP hm) r h' fl' hcall hbk hc
   |false=>
    simp only[cond_false]at hc;cases hcall:F f us (aG args s).h (aG args s).fl with
    |none=>rw[hcall]at hc;simp at hc
    |some R=>
     obtain⟨r,h',fl'⟩:=R;rw[hcall]at hc;simp only[ai]at hc;have e1:fk []=Tg.isC:=by funext g;cases g<;>rfl
     exact gen [] (fun i off hm=>by cases hm) r h' fl' hcall rfl (by rw[e1];exact hc)
end
end Go.RE
namespace Go.RE
variable{C:Nat→Option ck}{M:oW}
theorem Wz{Q:Nat→Nat→Prop}(hm:∀ i a b,a≤b→Q i a→Q i b):∀ {n:Nat},(∀ i,i<n→∃ m,Q i m)→∃ m,∀ i,i<n→Q i m:=by
 intro n
 induction n with
 |zero=>intro _;exact⟨0,fun i hi=>by omega⟩
 |succ n ih=>
  intro h;obtain⟨m,h1⟩:=ih fun i hi=>h i (by omega);obtain⟨k,h2⟩:=h n (by omega);refine⟨max m k,fun i hi=> ?_⟩;by_cases hin:i<n
  ·exact hm _ _ _ (oU _ _) (h1 i hin)
  ·have:i=n:=by omega
   subst this;exact hm _ _ _ (Nat.le_max_right _ _) h2
abbrev Fam:=Nat→Nat→List V→St→(V→St→Prop)→Prop
def Wb(Fn:Fam):Prop:=∀ a b,a≤b→OT (Fn a) (Fn b)
def LK(Fn:Fam)(n:Nat):Prop:=∀ f args s (K:Nat→V→St→Prop),(∀ a b v s,a≤b→K a v s→K b v s)→Fn n f args s (fun v s=>∃ m,K m v s)→∃ m,n≤m∧Fn m f args s (K m)
theorem Ou{K:Nat→V→St→Prop}(hK:∀ a b v s,a≤b→K a v s→K b v s){s:St}{b:Nat}(h:pq s b fun v s=>∃ m,K m v s):∃ m,pq s b (K m):=by
 unfold pq at h⊢;cases hs:s.get b with
 |none=>simp only[hs]at h;exact h.elim
 |some ob=>
  cases ob with
  |row cs=>simp only[hs]at h;exact h.elim
  |uK cs=>simp only[hs]at h;exact h.elim
  |map es c=>simp only[hs]at h;exact h.elim
  |dead=>simp only[hs]at h;exact h.elim
  |ga m since seen last=>
   cases m with
   |none=>simp only[hs]at h⊢;exact h
   |some mm=>
    simp only[hs]at h⊢;cases hm:s.get mm with
    |none=>simp only[hm]at h;exact h.elim
    |some ob2=>
     cases ob2 with
     |row cs=>simp only[hm]at h;exact h.elim
     |uK cs=>simp only[hm]at h;exact h.elim
     |ga a b c d=>simp only[hm]at h;exact h.elim
     |dead=>simp only[hm]at h;exact h.elim
     |map es clock=>
      simp only[hm]at h⊢;cases hst:(!seen.isEmpty&& !es.isEmpty&&es.all (fun e=>Nat.ble last e.born))with
      |true=>rw[hst]at h;exact h.elim
      |false=>
       rw[hst]at h;simp only[cond_false]at h⊢;let Q:Nat→Nat→Prop:=fun i m=>match(dV es since seen)[i]? with
        |some (some e)=>K m (.aV [.bool true,e.key,e.val]) (s.put b (.ga (some mm) since (seen++[e.born]) clock))
        |some none=>K m (.aV [.bool false]) s
        |none=>iw.fail
       have hq:=Wz (Q:=Q) (n:=(dV es since seen).length) (fun i x y hxy hh=>by
        show(match(dV es since seen)[i]? with
         |some (some e)=>K y (.aV [.bool true,e.key,e.val]) (s.put b (.ga (some mm) since (seen++[e.born]) clock))
         |some none=>K y (.aV [.bool false]) s
         |none=>iw.fail)
        have hh' :(match(dV es since seen)[i]? with
         |some (some e)=>K x (.aV [.bool true,e.key,e.val]) (s.put b (.ga (some mm) since (seen++[e.born]) clock))
         |some none=>K x (.aV [.bool false]) s
         |none=>iw.fail):=hh
        cases hc:(dV es since seen)[i]? with
        |none=>simp only[hc]at hh';exact hh'
        |some c=>
         simp only[hc]at hh';cases c with
         |none=>exact hK _ _ _ _ hxy hh'
         |some e=>exact hK _ _ _ _ hxy hh') (fun i hi=>by
        have hh:=h i hi;cases hc:(dV es since seen)[i]? with
        |none=>simp only[hc]at hh;exact hh.elim
        |some c=>
         simp only[hc]at hh;cases c with
         |none=>
          obtain⟨m,hm⟩:=hh;refine⟨m,?_⟩;show(match(dV es since seen)[i]? with
           |some (some e)=>K m (.aV [.bool true,e.key,e.val]) (s.put b (.ga (some mm) since (seen++[e.born]) clock))
           |some none=>K m (.aV [.bool false]) s
           |none=>iw.fail)
          rw[hc];exact hm
         |some e=>
          obtain⟨m,hm⟩:=hh;refine⟨m,?_⟩;show(match(dV es since seen)[i]? with
           |some (some e)=>K m (.aV [.bool true,e.key,e.val]) (s.put b (.ga (some mm) since (seen++[e.born]) clock))
           |some none=>K m (.aV [.bool false]) s
           |none=>iw.fail)
          rw[hc];exact hm)
       obtain⟨m,hm⟩:=hq;exact⟨m,hm⟩
theorem uC{Fn:Fam}{n:Nat}(hM:Wb Fn)(hF:LK Fn n){K:Nat→V→St→Prop}(hK:∀ a b v s,a≤b→K a v s→K b v s){env:PT V}{s:St}{o:jE}(h:dH M (Fn n) env s o fun v s=>∃ m,K m v s):
  ∃ m,n≤m∧dH M (Fn m) env s o (K m):=by
 have up:∀ {m:Nat} {v s},K m v s→K (max n m) v s:=fun h=>hK _ _ _ _ (Nat.le_max_right _ _) h;cases o with
 |s o=>
  simp only[dH]at h⊢;split at h
  ·obtain⟨m,hm⟩:=h;exact⟨max n m,oU _ _,up hm⟩
  ·exact h.elim
 |m o=>
  simp only[dH]at h⊢;split at h
  ·obtain⟨m,hm⟩:=h;exact⟨max n m,oU _ _,up hm⟩
  ·exact h.elim
 |h o=>
  simp only[dH]at h⊢;split at h
  ·obtain⟨m,hm⟩:=h;exact⟨max n m,oU _ _,up hm⟩
  ·exact h.elim
 |call f args=>
  simp only[dH]at h⊢;split at h
  ·exact hF _ _ _ _ hK h
  ·exact h.elim
 |invoke name x args=>
  simp only[dH]at h⊢;split at h
  ·split at h
   ·exact hF _ _ _ _ hK h
   ·exact h.elim
  ·exact h.elim
 |next x=>
  simp only[dH]at h⊢;split at h
  ·obtain⟨m,hm⟩:=Ou hK h;exact⟨max n m,oU _ _,dK (F:=Fn 0) (F' :=Fn 0) (M:=M) (env:=env) (o:=.next (.c (.ptr _ 0))) (fun f args s k k' hk h=>hM 0 0 (aq _) f args s k k' hk h) (fun v s h=>up h) (by simpa[dH,bJ.ev]using hm)⟩
  ·exact h.elim
 |bad=>exact h.elim
theorem uJ{s:St}{p:Nat}{K:Nat→Prop}:∀ {ah:fE},recheck s p ah (∃ m,K m)→∃ m,recheck s p ah (K m):=by
 intro ah
 induction ah with
 |nil=>intro h;exact h
 |cons x r ih=>
  intro h;obtain⟨i,op,env,v⟩:=x;simp only[recheck]at h⊢;cases hb:Nat.testBit p i with
  |true=>rw[hb]at h;exact ih h
  |false=>
   rw[hb]at h;simp only[cond_false]at h⊢;split at h
   ·obtain⟨m,hm⟩:=ih h.2;exact⟨m,h.1,hm⟩
   ·exact h.elim
theorem Eg{n f:Nat}{args:List V}{s:St}{k:V→St→Prop}:bW C M n f args s k=(match C f with
  |none=>False
  |some fn=>bif Nat.ble args.length fn.ntmps then fZ C M n fn.body (cu args 0 .e) s (P3 fn k)else False):=by
 unfold bW Ww;cases C f with
 |none=>rfl
 |some fn=>
  simp only;cases Nat.ble args.length fn.ntmps with
  |false=>rfl
  |true=>
   simp only[cond_true];congr 1
theorem bY{a b:Nat}(h:a≤b):OT (bW C M a) (bW C M b):=fun f args s k k' hk hc=>gZ h hk hc
theorem Ht{fn:ck}{K:Nat→V→St→Prop}{ex:Ex}{env:PT V}{s:St}(h:P3 fn (fun v s=>∃ m,K m v s) ex env s):∃ m,P3 fn (K m) ex env s:=by
 cases ex with
 |exit i=>exact h.elim
 |normal=>
  simp only[kr]at h⊢;cases hr:ct env s fn.results with
  |none=>rw[hr]at h;exact h.elim
  |some v=>rw[hr]at h;exact h
 |ret=>
  simp only[nK]at h⊢;cases hr:ct env s fn.results with
  |none=>rw[hr]at h;exact h.elim
  |some v=>rw[hr]at h;exact h
theorem Hu{fn:ck}{k k' :V→St→Prop}(hk:∀ v s,k v s→k' v s){ex:Ex}{env:PT V}{s:St}(h:P3 fn k ex env s):P3 fn k' ex env s:=by
 cases ex with
 |exit i=>exact h.elim
 |normal=>
  simp only[kr]at h⊢;cases hr:ct env s fn.results with
  |none=>rw[hr]at h;exact h.elim
  |some v=>rw[hr]at h;exact hk _ _ h
 |ret=>
  simp only[nK]at h⊢;cases hr:ct env s fn.results with
  |none=>rw[hr]at h;exact h.elim
  |some v=>rw[hr]at h;exact hk _ _ h
theorem GX:∀ {n:Nat} {c:aj} {env:PT V} {s:St} {K:Nat→Ex→PT V→St→Prop},(∀ a b e env s,a≤b→K a e env s→K b e env s)→fZ C M n c env s (fun e env s=>∃ m,K m e env s)→∃ m,n≤m∧fZ C M m c env s (K m):=by
 intro n
 induction n with
 |zero=>intro _ _ _ _ _ h;exact h.elim
 |succ n ih=>
  intro c env s K hK h;have hfam:LK (bW C M) n:=by
   intro f args s K hK h;rw[Eg]at h;cases hf:C f with
   |none=>rw[hf]at h;exact h.elim
   |some fn=>
    rw[hf]at h;simp only at h;cases hb:Nat.ble args.length fn.ntmps with
    |false=>rw[hb]at h;exact h.elim
    |true=>
     rw[hb]at h;simp only[cond_true]at h;obtain⟨m,h1,h2⟩:=ih (K:=fun m=>P3 fn (K m)) (fun a b e env s hab h=>Hu (fun v s h=>hK a b v s hab h) h) (b9 (aq n) (fun e env s h=>Ht h) h);refine⟨m,h1,?_⟩;rw[Eg,hf];simp only[hb,cond_true];exact h2
  -- one step more
  have up:∀ {m:Nat} {c env s},n≤m→fZ C M (m+1) c env s (K m)→∃ m,n+1≤m∧fZ C M m c env s (K m):=fun {m c env s} hm h=>
   ⟨m+1,by omega,b9 (aq _) (fun e env s h=>hK _ _ _ _ _ (Nat.le_succ _) h) h⟩
  have now:∀ {e env' s'},(∃ m,K m e env' s')→∃ m,n≤m∧K m e env' s' :=fun⟨m,hm⟩=>⟨max n m,oU _ _,hK _ _ _ _ _ (Nat.le_max_right _ _) hm⟩;cases c with
  |skip=>obtain⟨m,h1,h2⟩:=now h;exact up h1 (by rw[Aw];exact h2)
  |ret=>obtain⟨m,h1,h2⟩:=now h;exact up h1 (by rw[Ef];exact h2)
  |exit i=>obtain⟨m,h1,h2⟩:=now h;exact up h1 (by rw[GY];exact h2)
  |bad=>exact h.elim
  |uG p q=>
   simp only[fZ]at h;split at h
   ·rename_i vs hv;split at h
    ·rename_i v s2 hp;obtain⟨m,h1,h2⟩:=now h;refine up h1 ?_;simp only[fZ,hv,hp];exact h2
    ·exact h.elim
   ·exact h.elim
  |region ops=>
   rw[jb]at h
   -- the rest,at whatever fuel
   have key:∀ {ops:List aD} {env:PT V} {s:St},eV M (bW C M n) ops env s (fun env s=>∃ m,K m .normal env s)→∃ m,n≤m∧eV M (bW C M m) ops env s (K m .normal):=by
    intro ops
    induction ops with
    |nil=>intro env s h;exact now h
    |cons o r ih2=>
     intro env s h;simp only[eV]at h⊢;split at h
     ·have h2:dH M (bW C M n) env s o.op fun v s' =>∃ m,eV M (bW C M m) r (fq o.dst v env) s' (K m .normal):=dK (bY (aq _)) (fun v s' h=>let⟨m,_,hm⟩:=ih2 h;⟨m,hm⟩) h;exact uC (K:=fun m v s' =>eV M (bW C M m) r (fq o.dst v env) s' (K m .normal)) (fun a b hab=>bY hab) hfam (fun a b v s hab h=>mG (bY hab) (fun e s h=>hK a b _ e s hab h) h) h2
     ·exact ih2 h
     ·exact h.elim
   obtain⟨m,h1,h2⟩:=key h;exact up h1 (by rw[jb];exact h2)
  |draw ops=>
   rw[Av]at h;have key:∀ {k:Nat} {todo:List (Nat×aD)} {done:Nat} {env:PT V} {s:St} {ah:fE},eT M (bW C M n) k todo done env s ah (fun env s=>∃ m,K m .normal env s)→∃ m,n≤m∧eT M (bW C M m) k todo done env s ah (K m .normal):=by
    intro k
    induction k with
    |zero=>intro _ _ _ _ _ h;exact h.elim
    |succ k ih2=>
     intro todo done env s ah h;simp only[eT]at h⊢;split at h
     ·exact h.elim
     ·split at h
      ·split at h
       ·exact now h
       ·exact h.elim
      ·rename_i i o rest _;generalize (within o.aO _&&rest.all _)=b at h⊢;cases b with
       |false=>exact h.elim
       |true=>
        simp only[cond_true]at h⊢;split at h
        ·have h2:=dK (bY (aq n)) (k' :=fun v s' =>∃ m,recheck s' o.aO _ (eT M (bW C M m) k rest _ (fq o.dst v _) s' (dM o.aO _) (K m .normal))) (fun v s' h=>uJ (eE (fun h=>let⟨m,_,hm⟩:=ih2 h;⟨m,hm⟩) h)) h;exact uC (K:=fun m v s' =>recheck s' o.aO _ (eT M (bW C M m) k rest _ (fq o.dst v _) s' (dM o.aO _) (K m .normal))) (fun a b hab=>bY hab) hfam (fun a b v s hab h=>eE (fun h=>xZ (bY hab) (fun e s h=>hK a b _ e s hab h) h) h) h2
        ·exact ih2 h
        ·exact h.elim
   obtain⟨m,h1,h2⟩:=key h;exact up h1 (by rw[Av];exact h2)
  |cond x a b=>
   simp only[fZ]at h;split at h
   ·rename_i hx;obtain⟨m,h1,h2⟩:=ih hK h;exact up h1 (by simp only[fZ,hx];exact h2)
   ·rename_i hx;obtain⟨m,h1,h2⟩:=ih hK h;exact up h1 (by simp only[fZ,hx];exact h2)
   ·exact h.elim
  |block id b=>
   rw[rO]at h;obtain⟨m,h1,h2⟩:=ih (K:=fun m=>og id (K m)) (fun a b e env s hab h=>by
    cases e with
    |normal=>exact hK a b _ env s hab h
    |ret=>exact hK a b _ env s hab h
    |exit i=>
     simp only[ye]at h⊢;split
     ·rename_i hi;rw[if_pos hi]at h;exact hK a b _ env s hab h
     ·rename_i hi;rw[if_neg hi]at h;exact hK a b _ env s hab h) (b9 (aq n) (fun e env s h=>by
    cases e with
    |normal=>exact h
    |ret=>exact h
    |exit i=>
     simp only[ye]at h⊢;split
     ·rename_i hi;rw[if_pos hi]at h;exact h
     ·rename_i hi;rw[if_neg hi]at h;exact h) h)
   exact up h1 (by rw[rO];exact h2)
  |seq a b=>
   rw[pg]at h;obtain⟨m,h1,h2⟩:=ih (K:=fun m=>Es C M m b (K m)) (fun x y e env s hab h=>by
    cases e with
    |normal=>exact b9 hab (fun e env s h=>hK x y _ env s hab h) h
    |ret=>exact hK x y _ env s hab h
    |exit i=>exact hK x y _ env s hab h) (b9 (aq n) (fun e env s h=>by
    cases e with
    |normal=>exact let⟨m,_,hm⟩:=ih hK h;⟨m,hm⟩
    |ret=>exact h
    |exit i=>exact h) h)
   exact up h1 (by rw[pg];exact h2)
  |loop b=>
   have h' :fZ C M n b env s (Es C M n (.loop b) fun e env s=>∃ m,K m e env s):=h;obtain⟨m,h1,h2⟩:=ih (K:=fun m=>Es C M m (.loop b) (K m)) (fun x y e env s hab h=>by
    cases e with
    |normal=>exact b9 hab (fun e env s h=>hK x y _ env s hab h) h
    |ret=>exact hK x y _ env s hab h
    |exit i=>exact hK x y _ env s hab h) (b9 (aq n) (fun e env s h=>by
    cases e with
    |normal=>exact let⟨m,_,hm⟩:=ih hK h;⟨m,hm⟩
    |ret=>exact h
    |exit i=>exact h) h')
   exact up h1 h2
theorem tc{n f:Nat}{args:List V}{s:St}{K:Nat→V→St→Prop}(hK:∀ a b v s,a≤b→K a v s→K b v s)(h:bW C M n f args s (fun v s=>∃ m,K m v s)):∃ m,n≤m∧bW C M m f args s (K m):=by
 rw[Eg]at h;cases hf:C f with
 |none=>rw[hf]at h;exact h.elim
 |some fn=>
  rw[hf]at h;simp only at h;cases hb:Nat.ble args.length fn.ntmps with
  |false=>rw[hb]at h;exact h.elim
  |true=>
   rw[hb]at h;simp only[cond_true]at h;obtain⟨m,h1,h2⟩:=GX (K:=fun m=>P3 fn (K m)) (fun a b e env s hab h=>Hu (fun v s h=>hK a b v s hab h) h) (b9 (aq n) (fun e env s h=>Ht h) h);refine⟨m,h1,?_⟩;rw[Eg,hf];simp only[hb,cond_true];exact h2
end Go.RE
namespace Go.RE
def dA(C:Nat→Option ck)(M:oW):Nat→List V→St→(V→St→Prop)→Prop:=fun f vs st k=>∃ N,bW C M N f vs st k
def vX(P:Nat→List V→St→(V→St→Prop)→Prop)(f:Nat)(q:List (List U)→List U→Option (List (List U))):Prop:=
 ∀ (xs:List (List U)) (rest:List U) (ys:List (List U)),q xs rest=some ys→∀ (E:qe) (σ:Sg) (Z:Zs) (ω:Om) (s:Vs) (e:PT V) (st:St) (g:Tg) (w:Nat) (v:V) (vs:List V) (p0:Nat×List (List U)),Ok E σ Z ω s e st→s.cc g=some p0→OR σ Z ω g w xs v→rest.length=vs.length→(∀ (j:Nat) u v,rest[j]? =some u→vs[j]? =some v→TR σ Z ω s.h.length u v)→
  P f (v::vs) st fun r st' =>r=.aV []∧∃ ω',Ok E σ Z ω' (s.fB g w ys) e st'
def qdH(P:Nat→List V→St→(V→St→Prop)→Prop)(f:Nat)(q:List (List U)→List U→Option (List (List U))):Prop:=
 ∀ (xs:List (List U)) (rest:List U) (ys:List (List U)),q xs rest=some ys→∀ (E:qe) (σ:Sg) (Z:Zs) (ω:Om) (s:Vs) (e:PT V) (st:St) (g:Tg) (w:Nat) (v:V) (vs:List V) (d:Nat),Ok E σ Z ω s e st→g≠.a→lP w ys=true→uA g rest=true→OR σ Z ω g w xs v→rest.length=vs.length→(∀ (j:Nat) u v,rest[j]? =some u→vs[j]? =some v→TR σ Z ω s.h.length u v)→
  P f (v::vs) st fun r st' =>∃ ω',Ok E σ Z ω' ((s.kill g).kill (.t d)) e st'∧OR σ Z ω' (.t d) w ys r
def Z9(P:Nat→List V→St→(V→St→Prop)→Prop)(f:Nat)(q:List (List U)→List U→Option (Nat×List (List U))):Prop:=
 ∀ (xs:List (List U)) (rest:List U) (w' :Nat) (ys:List (List U)),q xs rest=some (w',ys)→∀ (E:qe) (σ:Sg) (Z:Zs) (ω:Om) (s:Vs) (e:PT V) (st:St) (g:Tg) (w:Nat) (v:V) (vs:List V) (d:Nat),Ok E σ Z ω s e st→OR σ Z ω g w xs v→rest.length=vs.length→(∀ (j:Nat) u v,rest[j]? =some u→vs[j]? =some v→TR σ Z ω s.h.length u v)→
  P f (v::vs) st fun r st' =>∃ Z' ω',Ok E σ Z' ω' (s.kill (.t d)) e st'∧OR σ Z' ω' (.t d) w' ys r∧∀ b r,Z b=some r→Z' b=some r
def QOK(P:Nat→List V→St→(V→St→Prop)→Prop)(Q:mA):Prop:=(∀ f q,Q.q f=some q→vX P f q)∧(∀ f q,Q.app f=some q→qdH P f q)∧∀ f q,Q.Jb f=some q→Z9 P f q
section
variable{C:Nat→Option ck}{M:oW}{Q:mA}{F:FU}
variable{E:qe}{σ:Sg}{Z:Zs}{ω:Om}{s s' :Vs}{e:PT V}{st:St}{n:Nat}
theorem o8{f:Nat}{vs:List V}{st:St}{k k' :V→St→Prop}(hk:∀ v s,k v s→k' v s)(h:dA C M f vs st k):dA C M f vs st k' :=let⟨N,h⟩:=h;⟨N,gZ (aq _) hk h⟩
theorem Xp(g:Tg)(w:Nat)(ys:List (List U))(s:Vs):(s.fB g w ys).h.length=s.h.length:=by
 unfold Vs.fB;split
 ·simp only;unfold setCell;split<;>simp
 ·rfl
def Op1(E:qe)(σ:Sg)(Z:Zs)(s1:Vs)(e:PT V)(st:St)(n:Nat)(u:U)(q:Bool)(v:V)(st' :St):Prop:=
 Fl s1∧∃ σ' Z' ω',Ok E σ' Z' ω' s1 e st'∧TR σ' Z' ω' s1.h.length u v∧n≤s1.h.length∧(∀ i,i<n→σ' i=σ i)∧(∀ b r,Z b=some r→Z' b=some r)∧(q=true→∀ b,b<st.next→st'.get b=st.get b)
theorem Du(hF:VE (dA C M) F)(hQ:QOK (dA C M) Q){dst:Option Nat}{o:jE}{u:U}(h:kG M Q F s dst o=some (u,s'))(hk:Ok E σ Z ω s e st)(hfl:Fl s):
  ∃ N,dH M (bW C M N) e st o.er (Op1 E σ Z s' e st s.h.length u (fu Q s o)):=by
 cases o with
 |s o=>
  simp only[kG]at h;obtain⟨Z',ω',v,h1,h2,h3,h4,h5⟩:=Dw h hk;exact⟨0,by simp only[jE.er,dH,h1];exact⟨Qv h hfl,σ,Z',ω',h2,h3,by omega,fun _ _=>rfl,h5,fun _ b _=>rfl⟩⟩
 |m o=>
  simp only[kG]at h;obtain⟨σ',Z',ω',ob,f,h1,h2,h3,h4,h5,h6⟩:=Dv h hk;exact⟨0,by simp only[jE.er,dH,h1];exact⟨Qr h hk hfl,σ',Z',ω',h2,h3,h4,h5,h6,fun hq=>by simp[fu]at hq⟩⟩
 |h o=>
  have gen:pM (dst.getD 0) s o=some (u,s')→∃ N,dH M (bW C M N) e st (jE.h o).er (Op1 E σ Z s' e st s.h.length u (fu Q s (.h o))):=fun h=>by
   obtain⟨Z',ω',v,st',h1,h2,h3,h4,h5⟩:=Ow h hk;exact⟨0,by simp only[jE.er,dH,h1];exact⟨qbi h hk hfl,σ,Z',ω',h2,h3,by omega,fun _ _=>rfl,h5,fun hq=>by simp[fu]at hq⟩⟩
  cases o with
  |range x=>
   simp only[kG]at h
   -- a new place to stand at
   have mk:∀ {m:Option Nat} {since last:Nat} {ob:Ob},ob=.ga (m.map σ) since [] last→(∀ j,m=some j→j<s.h.length)→u=.ptr s.h.length 0→s' ={s with h:=s.h++[.iter m since [] last]}→
     Op1 E σ Z s' e st s.h.length u (fu Q s (.h (.range x))) (.ptr st.next 0) (st.alloc ob):=by
    rintro m since last ob rfl hm rfl rfl;have hj:∀ j,j<s.h.length→dN σ s.h.length st.next j=σ j:=fun j hj=>cV _ _ (by omega)
    obtain⟨k1,k2⟩:=hk.mV (o:=.iter m since [] last) (ob:=.ga (m.map σ) since [] last) ⟨by
     cases m with
     |none=>rfl
     |some j=>simp only[Option.map_some,hj j (hm j rfl)],fun j hj=>by have:=hm j hj;omega⟩
    refine⟨hfl.push (o:=.iter m since [] last) (by
     cases m with
     |none=>rfl
     |some j=>simp only[Uo.low,Nat.blt,gv];have:=hm j rfl;omega) s.e,_,Z,ω,k1,?_,by simp,hj,fun _ _ h=>h,fun hq=>by simp[fu]at hq⟩
    have:=UR.ptr (σ:=dN σ s.h.length st.next) (Z:=Z) (n:=(s.h++[Uo.iter m since [] last]).length) (i:=s.h.length) (off:=0) (by simp);rw[bl]at this;exact TR.bB this
   split at h<;>try (simp at h;done)
   ·rename_i hx;simp only[ai,aJ]at h;obtain⟨rfl,rfl⟩:=h;obtain⟨vx,x1,x2⟩:=hk.cB hx;obtain rfl:=TR.bQ x2;exact⟨0,by simp only[jE.er,xT.er,dH,x8,x1];exact mk (m:=none) rfl (fun j hj=>by cases hj) rfl rfl⟩
   ·rename_i m hx;split at h<;>simp only[ai,aJ,reduceCtorEq]at h;rename_i es clock hm;obtain⟨rfl,rfl⟩:=h;obtain⟨vx,x1,x2⟩:=hk.cB hx;obtain⟨hlt,rfl⟩:=TR.map x2;obtain⟨es',m1,m2,m3⟩:=hk.obj m _ hm;exact⟨0,by simp only[jE.er,xT.er,dH,x8,x1,m1];exact mk (m:=some m) rfl (fun j hj=>by cases hj;exact hlt) rfl rfl⟩
  |_=>simp only[kG]at h;exact gen h
 |call f args=>
  simp only[kG]at h;split at h<;>try (simp at h;done)
  rename_i g first captured vs hf ha
  obtain⟨vf,f1,f2⟩:=hk.cB hf;obtain⟨first',captured',rfl,l1,l2⟩:=TR.func f2;obtain⟨vs',a1,a2,a3⟩:=hk.mY ha
  -- the arguments together
  have hall:(first++vs++captured).length=(first'++vs'++captured').length:=by simp[l1.1,l2.1,a2]
  have htr:∀ (j:Nat) u v,(first++vs++captured)[j]? =some u→(first'++vs'++captured')[j]? =some v→TR σ Z ω s.h.length u v:=by
   intro j u v hu hv;rw[kO]at hu hv;by_cases h1:j<first.length
   ·rw[cz h1]at hu;rw[cz (by rw[←l1.1];exact h1)]at hv;exact TR.bB (l1.2 j u v hu hv)
   ·rw[fh (by omega)]at hu;rw[fh (by rw[←l1.1];omega),←l1.1]at hv;by_cases h2:j - first.length<vs.length
    ·rw[cz h2]at hu;rw[cz (by omega)]at hv;exact a3 _ u v hu hv
    ·rw[fh (by omega)]at hu;rw[fh (by omega),←a2]at hv;exact TR.bB (l2.2 _ u v hu hv)
  split at h
  ·rename_i q hq;split at h<;>try (simp at h;done)
   rename_i gt w xs rest hargs;split at h<;>try (simp at h;done)
   rename_i ys hys;cases hown:(s.cc gt).isSome with
   |false=>rw[hown]at h;simp at h
   |true=>
    rw[hown]at h;simp only[cond_true,ai,aJ]at h;obtain⟨rfl,rfl⟩:=h;obtain⟨p0,hp0⟩:=Option.isSome_iff_exists.1 hown;rw[hargs]at hall htr;cases hvv:first'++vs'++captured' with
    |nil=>rw[hvv]at hall;simp at hall
    |cons v0 vr=>
     rw[hvv]at hall htr;have h0:=htr 0 _ v0 rfl rfl;obtain⟨N,hN⟩:=hQ.1 g q hq xs rest ys hys E σ Z ω s e st gt w v0 vr p0 hk hp0 h0.1 (by simpa using hall) (fun j u v hu hv=>htr (j+1) u v (by simpa using hu) (by simpa using hv));refine⟨N,?_⟩;simp only[jE.er,dH,f1,a1,hvv];refine gZ (aq _) ?_ hN;rintro v st' ⟨rfl,ω',k1⟩;exact⟨hfl.fB _ _ _,σ,Z,ω',k1,UR.aV rfl (fun j u v h=>by simp at h),by rw[Xp];exact aq _,fun _ _=>rfl,fun _ _ h=>h,fun hq' =>by simp[fu,hf,ha,hq]at hq'⟩
  ·rename_i hq;split at h
   ·rename_i q hqa;have appl:∀ {gt:Tg} {w:Nat} {xs:List (List U)} {u0:U} {rest:List U} {ys:List (List U)},first++vs++captured=u0::rest→(∀ v0,TR σ Z ω s.h.length u0 v0→OR σ Z ω gt w xs v0)→gt≠.a→lP w ys=true→uA gt rest=true→q xs rest=some ys→
      (U.own (.t (dst.getD 0)) w ys,(s.kill gt).kill (.t (dst.getD 0)))=(u,s')→∃ N,dH M (bW C M N) e st (jE.call f args).er (Op1 E σ Z s' e st s.h.length u (fu Q s (.call f args))):=by
     intro gt w xs u0 rest ys hargs hor hga hrw hnt hys h;simp only[aJ]at h;obtain⟨rfl,rfl⟩:=h;rw[hargs]at hall htr;cases hvv:first'++vs'++captured' with
     |nil=>rw[hvv]at hall;simp at hall
     |cons v0 vr=>
      rw[hvv]at hall htr;have h0:=htr 0 _ v0 rfl rfl;obtain⟨N,hN⟩:=hQ.2.1 g q hqa xs rest ys hys E σ Z ω s e st gt w v0 vr (dst.getD 0) hk hga hrw hnt (hor _ h0) (by simpa using hall) (fun j u v hu hv=>htr (j+1) u v (by simpa using hu) (by simpa using hv));refine⟨N,?_⟩;simp only[jE.er,dH,f1,a1,hvv];refine gZ (aq _) ?_ hN;rintro v st' ⟨ω',k1,k2⟩;exact⟨(hfl.kill _).kill _,σ,Z,ω',k1,⟨k2,fun i off hh=>by cases hh⟩,by rw[cW,cW];exact aq _,fun _ _=>rfl,fun _ _ h=>h,fun hq' =>by simp[fu,hf,ha,hq,hqa]at hq'⟩
    split at h<;>try (simp at h;done)
    ·rename_i gt w xs rest hargs;split at h<;>try (simp at h;done)
     rename_i ys hys;obtain⟨hown,h⟩:=aK h;simp only[ai]at h;simp only[bC]at hown;exact appl hargs (fun v0 h0=>h0.1) (by simpa using hown.1.1) hown.1.2 hown.2 hys h
    ·rename_i w rest hargs;split at h<;>try (simp at h;done)
     rename_i ys hys;obtain⟨hown,h⟩:=aK h;simp only[ai]at h;simp only[bC]at hown;refine appl hargs (gt:=.r) (xs:=[]) (fun v0 h0=> ?_) (by simp) hown.1 hown.2 hys h;have a3:UR σ Z s.h.length (.nl w) v0:=h0;unfold OR;rw[hk.wr];cases a3 with
     |CJ=>exact⟨rfl,.inl rfl⟩
     |Dt=>exact⟨rfl,.inr rfl⟩
   rename_i hqa;have plain:jG (Q.ld g) F (dst.getD 0) g (first++vs++captured) s=some (u,s')→∃ N,dH M (bW C M N) e st (jE.call f args).er (Op1 E σ Z s' e st s.h.length u (fu Q s (.call f args))):=by
    intro h;obtain⟨N,hN⟩:=Ad (P:=dA C M) (fun f vs st k k' hk h=>o8 hk h) hF hk hfl hall htr h;refine⟨N,?_⟩;simp only[jE.er,dH,f1,a1];refine gZ (aq _) ?_ hN;rintro v st' ⟨k0,σ',Z',ω',k1,k2,k3,k4,k5,k6⟩;refine⟨k0,σ',Z',ω',k1,k2,k3,k4,k5,fun hqq=>k6 fun us hus=> ?_⟩;simp only[fu,hf,ha,hq,hqa,hus,bC]at hqq;exact hqq.1
   unfold yB at h;split at h
   ·rename_i q hqb;split at h
    ·rename_i gt w xs rest hargs;split at h<;>simp only[ai,aJ,reduceCtorEq]at h;rename_i w' ys hys;obtain⟨rfl,rfl⟩:=h;rw[hargs]at hall htr;cases hvv:first'++vs'++captured' with
     |nil=>rw[hvv]at hall;simp at hall
     |cons v0 vr=>
      rw[hvv]at hall htr;have h0:=htr 0 _ v0 rfl rfl;obtain⟨N,hN⟩:=hQ.2.2 g q hqb xs rest w' ys hys E σ Z ω s e st gt w v0 vr (dst.getD 0) hk h0.1 (by simpa using hall) (fun j u v hu hv=>htr (j+1) u v (by simpa using hu) (by simpa using hv));refine⟨N,?_⟩;simp only[jE.er,dH,f1,a1,hvv];refine gZ (aq _) ?_ hN;rintro v st' ⟨Z',ω',k1,k2,k3⟩;exact⟨hfl.kill _,σ,Z',ω',k1,⟨k2,fun i off hh=>by cases hh⟩,by rw[cW];exact aq _,fun _ _=>rfl,k3,fun hq' =>by
       simp only[fu,hf,ha,hq,hqa]at hq';cases hus:gK (first++vs++captured)<;>rw[hus]at hq' <;>simp[hqb]at hq'⟩
    ·exact plain h
   ·exact plain h
 |invoke name x args=>
  simp only[kG]at h;split at h<;>try (simp at h;done)
  rename_i t u0 vs hx ha;split at h<;>try (simp at h;done)
  rename_i f hm;obtain⟨vx,x1,x2⟩:=hk.cB hx;obtain⟨v',rfl,x3⟩:=TR.iface x2;obtain⟨vs',a1,a2,a3⟩:=hk.mY ha;obtain⟨N,hN⟩:=Ad (P:=dA C M) (fun f vs st k k' hk h=>o8 hk h) hF (vs:=v' ::vs') hk hfl (by simp[a2]) (fun j u v hu hv=>by
   cases j with
   |zero=>simp at hu hv;subst hu;subst hv;exact TR.bB x3
   |succ j=>exact a3 j u v (by simpa using hu) (by simpa using hv)) h
  refine⟨N,?_⟩;simp only[jE.er,dH,x1,a1,hm];refine gZ (aq _) ?_ hN;rintro v st' ⟨k0,σ',Z',ω',k1,k2,k3,k4,k5,k6⟩;refine⟨k0,σ',Z',ω',k1,k2,k3,k4,k5,fun hqq=>k6 fun us hus=> ?_⟩;simp only[fu,hx,ha,hus]at hqq;exact hqq
 |next x=>simp[kG]at h
 |bad=>simp[kG]at h
theorem AF(h:Ok E σ Z ω s e st){g:Option (Nat×Bool)}{b:Bool}(hg:hU g s.e=some b):bU g e=some b:=by
 cases g with
 |none=>exact hg
 |some p=>
  obtain⟨t,want⟩:=p;simp only[hU]at hg;simp only[bU];split at hg<;>simp only[ai,reduceCtorEq]at hg
  ·rename_i c hc;obtain⟨v,h1,h2⟩:=h.env _ _ hc;obtain rfl:=TR.bool h2;rw[h1];simpa using hg
  ·rename_i vs hc;obtain⟨v,h1,h2⟩:=h.env _ _ hc;obtain⟨vs',rfl,_⟩:=TR.aV h2;rw[h1];simpa using hg
def Cz(E:qe)(s:Vs)(e:PT V)(st:St):Prop:=Fl s∧∃ σ Z ω,Ok E σ Z ω s e st
theorem JZ(hF:VE (dA C M) F)(hQ:QOK (dA C M) Q):∀ {ops:List aD} {σ:Sg} {Z:Zs} {ω:Om} {s s' :Vs} {e:PT V} {st:St},gy M Q F ops s=some s'→Ok E σ Z ω s e st→Fl s→
  ∃ N,eV M (bW C M N) (fI ops) e st fun e' st' =>Cz E s' e' st' :=by
 intro ops
 induction ops with
 |nil=>
  intro σ Z ω s s' e st h hk hfl;simp only[gy,ai]at h;subst h;exact⟨0,hfl,σ,Z,ω,hk⟩
 |cons o r ih=>
  intro σ Z ω s s' e st h hk hfl;simp only[gy]at h;cases hg:hU o.guard s.e with
  |none=>rw[hg]at h;simp at h
  |some b=>
   rw[hg]at h;have hgr:bU (aD.er o).guard e=some b:=AF hk hg;cases b with
   |false=>
    simp only at h;obtain⟨N,hN⟩:=ih h (hk.put (dst:=o.dst) (u:=.aV []) (v:=.aV []) (UR.aV rfl (fun j u v h=>by simp at h))) (hfl.env _);exact⟨N,by simp only[fI,eV,hgr];exact hN⟩
   |true=>
    simp only at h;cases hc:kG M Q F s o.dst o.op with
    |none=>rw[hc]at h;simp at h
    |some p=>
     obtain⟨u,s1⟩:=p;rw[hc]at h;simp only at h;obtain⟨N,hN⟩:=Du hF hQ hc hk hfl;have h2:dH M (bW C M N) e st o.op.er fun v st' =>∃ m,eV M (bW C M m) (fI r) (fq o.dst v e) st' fun e' st' =>Cz E s' e' st' :=by
      refine dK (bY (aq N)) (fun v st' hv=> ?_) hN;obtain⟨k0,σ',Z',ω',k1,k2,_⟩:=hv;exact ih h (k1.put k2) (k0.env _)
     obtain⟨m,_,hm⟩:=uC (K:=fun m v st' =>eV M (bW C M m) (fI r) (fq o.dst v e) st' fun e' st' =>Cz E s' e' st') (fun a b hab=>bY hab) (fun f args s K hK h=>tc hK h)
      (fun a b v s hab h=>mG (bY hab) (fun _ _ h=>h) h) h2
     exact⟨m,by simp only[fI,eV,hgr];exact hm⟩
end
end Go.RE
