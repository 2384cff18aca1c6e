/- A part of a proof. -/
import Derived.Test.YtmpopachilfinaaGreatPart5
set_option linter.unusedVariables false
set_option linter.unusedSimpArgs false
set_option linter.constructorNameAsVariable false
namespace Go.RE
def jF(m:Nat)(x:U×U×Nat):Bool:=x.1.low m&&x.2.1.low m
def Uo.low(m:Nat):Uo→Bool
 | .row cs=>U.bZ m cs
 | .map es _=>es.all (jF m)
 | .iter (some j) _ _ _=>Nat.blt j m
 | .iter none _ _ _=>true
 | .gone=>true
structure Fl(s:Vs):Prop where
 le:s.fl≤s.h.length
 ob:∀ (i:Nat) o,s.h[i]? =some o→o.low (max (i+1) s.fl)=true
theorem lW{m:Nat}:∀ {us:List U},U.bZ m us=true↔∀ u∈us,u.low m=true:=by
 intro us
 induction us with
 |nil=>simp[U.bZ]
 |cons a r ih=>simp[U.bZ,ih]
mutual
theorem iP{m k:Nat}(hm:m≤k):∀ {u:U},u.low m=true→u.low k=true
 | .ptr i _,h=>by simp only[U.low,Nat.blt,ez]at h⊢;omega
 | .map i,h=>by simp only[U.low,Nat.blt,ez]at h⊢;omega
 | .zw i _ _ _,h=>by simp only[U.low,Nat.blt,ez]at h⊢;omega
 | .own (.c i _) _ _,h=>by simp only[U.low,Nat.blt,ez]at h⊢;omega
 | .bI (.c i _) _ _,h=>by simp only[U.low,Nat.blt,ez]at h⊢;omega
 | .view (.c i _) _ _ _,h=>by simp only[U.low,Nat.blt,ez]at h⊢;omega
 | .func _ a b,h=>by simp only[U.low,aI]at h⊢;exact⟨tG hm h.1,tG hm h.2⟩
 | .iface _ v,h=>by simp only[U.low]at h⊢;exact iP hm h
 | .agg a,h=>by simp only[U.low]at h⊢;exact tG hm h
 | .aZ a,h=>by simp only[U.low]at h⊢;exact tG hm h
 | .bad,_=>rfl
 | .bool _,_=>rfl
 | .int _ _,_=>rfl
 | .str _,_=>rfl
 | .br,_=>rfl
 | .bB,_=>rfl
 | .bS,_=>rfl
 | .dJ,_=>rfl
 | .di,_=>rfl
 | .eR _ _,_=>rfl
 | .sl _ _,_=>rfl
 | .nl _,_=>rfl
 | .own (.t _) _ _,_=>rfl
 | .own .r _ _,_=>rfl
 | .bI (.t _) _ _,_=>rfl
 | .bI .r _ _,_=>rfl
 | .own .a _ _,_=>rfl
 | .bI .a _ _,_=>rfl
 | .view (.t _) _ _ _,_=>rfl
 | .view .r _ _ _,_=>rfl
 | .view .a _ _ _,_=>rfl
 | .dB,_=>rfl
 | .bJ _ _,_=>rfl
theorem tG{m k:Nat}(hm:m≤k):∀ {us:List U},U.bZ m us=true→U.bZ k us=true
 |[],_=>rfl
 |u::us,h=>by simp only[U.bZ,aI]at h⊢;exact⟨iP hm h.1,tG hm h.2⟩
end
mutual
theorem ng{m k:Nat}:∀ {u:U},u.low m=true→(u.shift k).low (m+k)=true
 | .ptr i _,h=>by simp only[U.shift,U.low,Nat.blt,ez]at h⊢;omega
 | .map i,h=>by simp only[U.shift,U.low,Nat.blt,ez]at h⊢;omega
 | .zw i _ _ _,h=>by simp only[U.shift,U.low,Nat.blt,ez]at h⊢;omega
 | .own (.c i _) _ _,h=>by simp only[U.shift,U.low,Nat.blt,ez]at h⊢;omega
 | .bI (.c i _) _ _,h=>by simp only[U.shift,U.low,Nat.blt,ez]at h⊢;omega
 | .view (.c i _) _ _ _,h=>by simp only[U.shift,U.low,Nat.blt,ez]at h⊢;omega
 | .func _ a b,h=>by simp only[U.shift,U.low,aI]at h⊢;exact⟨lq h.1,lq h.2⟩
 | .iface _ v,h=>by simp only[U.shift,U.low]at h⊢;exact ng h
 | .agg a,h=>by simp only[U.shift,U.low]at h⊢;exact lq h
 | .aZ a,h=>by simp only[U.shift,U.low]at h⊢;exact lq h
 | .bad,_=>rfl
 | .bool _,_=>rfl
 | .int _ _,_=>rfl
 | .str _,_=>rfl
 | .br,_=>rfl
 | .bB,_=>rfl
 | .bS,_=>rfl
 | .dJ,_=>rfl
 | .di,_=>rfl
 | .eR _ _,_=>rfl
 | .sl _ _,_=>rfl
 | .nl _,_=>rfl
 | .own (.t _) _ _,_=>rfl
 | .own .r _ _,_=>rfl
 | .bI (.t _) _ _,_=>rfl
 | .bI .r _ _,_=>rfl
 | .own .a _ _,_=>rfl
 | .bI .a _ _,_=>rfl
 | .view (.t _) _ _ _,_=>rfl
 | .view .r _ _ _,_=>rfl
 | .view .a _ _ _,_=>rfl
 | .dB,_=>rfl
 | .bJ _ _,_=>rfl
theorem lq{m k:Nat}:∀ {us:List U},U.bZ m us=true→U.bZ (m+k) (U.gi k us)=true
 |[],_=>rfl
 |u::us,h=>by simp only[U.gi,U.bZ,aI]at h⊢;exact⟨ng h.1,lq h.2⟩
end
theorem Uo.iP{m k:Nat}(hm:m≤k){o:Uo}(h:o.low m=true):o.low k=true:=by
 cases o with
 |row cs=>exact tG hm h
 |map es c=>
  simp only[Uo.low,fF,jF,aI]at h⊢;exact fun x hx=>⟨RE.iP hm (h x hx).1,RE.iP hm (h x hx).2⟩
 |iter q a b c=>
  cases q with
  |none=>rfl
  |some j=>simp only[Uo.low,Nat.blt,ez]at h⊢;omega
 |gone=>rfl
theorem Uo.ng{m k:Nat}{o:Uo}(h:o.low m=true):(eV k o).low (m+k)=true:=by
 cases o with
 |row cs=>exact lq h
 |map es c=>
  simp only[Uo.low,eV,fF,jF,aI,cD]at h⊢;rintro x ⟨y,hy,rfl⟩;exact⟨RE.ng (h y hy).1,RE.ng (h y hy).2⟩
 |iter q a b c=>
  cases q with
  |none=>rfl
  |some j=>simp only[eV,kP,Uo.low,Nat.blt,ez]at h⊢;omega
 |gone=>rfl
section
variable{E:q9}{σ:Sg}{Z:Zs}{ω:Om}{s s' :Vs}{e:PT V}{st:St}{n:Nat}
theorem AA{a:List U}{b:List V}(hab:a.length=b.length)(hh:∀ (j:Nat) u v,a[j]? =some u→b[j]? =some v→u.low n=true):U.bZ n a=true:=by
 rw[lW];intro u hu;obtain⟨j,hj,rfl⟩:=s6.1 hu;exact hh j _ _ (aQ hj) (aQ (by omega))
theorem UR.nQ{u:U}{v:V}(h:UR σ Z n u v):u.low n=true:=by
 induction h with
 |ptr h=>simp only[U.low,Nat.blt,ez];omega
 |map h=>simp only[U.low,Nat.blt,ez];omega
 |func h1 _ h2 _ ih1 ih2=>simp only[U.low,aI];exact⟨AA ‹_› ih1,AA ‹_› ih2⟩
 |iface _ ih=>exact ih
 |agg h _ ih=>exact AA h ih
 |aZ h _ ih=>exact AA h ih
 |_=>rfl
theorem TR.nQ{u:U}{v:V}(h:TR σ Z ω n u v):u.low n=true:=by
 cases u with
 |bad=>rfl
 |bJ _ _=>rfl
 |own g w xs=>
  cases g with
  |c i o=>have:=h.2 i o rfl;simp only[U.low,Nat.blt,ez];omega
  |t d=>rfl
  |r=>rfl
  |a=>rfl
 |bI g i f=>
  cases g with
  |c i o=>have:=h.2 i o rfl;simp only[U.low,Nat.blt,ez];omega
  |t d=>rfl
  |r=>rfl
  |a=>rfl
 |view g i f l=>
  cases g with
  |c i o=>have:=h.2 i o rfl;simp only[U.low,Nat.blt,ez];omega
  |t d=>rfl
  |r=>rfl
  |a=>rfl
 |dB=>rfl
 |zw i off len w=>have:=h.1;simp only[U.low,Nat.blt,ez];omega
 |_=>exact UR.nQ h
theorem CR.nQ{i off:Nat}{u:U}{v:V}(h:CR σ Z ω n i off u v):u.low n=true:=by
 cases u with
 |bad=>rfl
 |dB=>rfl
 |bJ _ _=>rfl
 |_=>exact UR.nQ h
theorem LU.nQ{us:List U}{vs:List V}(h:LU σ Z n us vs):U.bZ n us=true:=by
 rw[lW];intro u hu;obtain⟨j,hj,rfl⟩:=s6.1 hu;exact(h.2 j _ _ (aQ hj) (aQ (by have:=h.1;omega))).nQ
theorem Ok.NX(h:Ok E σ Z ω s e st){i:Nat}{o:Uo}(ho:s.h[i]? =some o):o.low s.h.length=true:=by
 have h1:=h.obj i o ho;cases o with
 |row cs=>
  obtain⟨cs',q1,q2,q3⟩:=h1;simp only[Uo.low];rw[lW];intro u hu;obtain⟨j,hj,rfl⟩:=s6.1 hu;exact(q3 j _ _ (aQ hj) (aQ (by omega))).nQ
 |map es c=>
  obtain⟨es',q1,q2,q3⟩:=h1;simp only[Uo.low,fF,jF,aI];intro u hu;obtain⟨j,hj,rfl⟩:=s6.1 hu;have:=q3 j _ _ (aQ hj) (aQ (by omega));exact⟨this.1.nQ,this.2.1.nQ⟩
 |iter q a b c=>
  cases q with
  |none=>rfl
  |some j=>simp only[Uo.low,Nat.blt,ez];exact h1.2 j rfl
 |gone=>rfl
theorem Fl.env(h:Fl s)(E' :Env):Fl {s with e:=E'}:=⟨h.le,h.ob⟩
theorem Fl.set(h:Fl s){i:Nat}{o:Uo}(ho:o.low (max (i+1) s.fl)=true)(E' :Env):Fl {s with e:=E',h:=s.h.set i o}:=by
 refine⟨by simpa using h.le,fun j x hx=> ?_⟩;simp only at hx;rw[b9]at hx;by_cases hj:i=j
 ·subst hj;rw[if_pos rfl]at hx;split at hx<;>simp at hx;subst hx;exact ho
 ·rw[if_neg hj]at hx;exact h.ob j x hx
theorem Fl.push(h:Fl s){o:Uo}(ho:o.low (s.h.length+1)=true)(E' :Env):Fl {s with e:=E',h:=s.h++[o]}:=by
 refine⟨by have:=h.le;simp;omega,fun j x hx=> ?_⟩;simp only at hx;rcases uP j s.h.length with hj|hj
 ·rw[bG hj]at hx;exact h.ob j x hx
 ·rw[dh hj]at hx;have:j=s.h.length:=by
   have:=(aH.1 hx).1;simp at this;omega
  subst this;simp at hx;subst hx;exact Uo.iP (jW _ _) ho
theorem Fl.raise(h:Fl s){E' :Env}{H:List Uo}(hl:H.length=s.h.length)(hH:∀ (i:Nat) o,H[i]? =some o→o.low s.h.length=true):Fl {e:=E',h:=H,fl:=s.h.length}:=
 ⟨by simp[hl],fun i o ho=>Uo.iP (qi _ _) (hH i o ho)⟩
theorem Ce{m off:Nat}{cs:List U}{v:U}(h:U.bZ m cs=true)(hv:v.low m=true):U.bZ m (cs.set off v)=true:=by
 rw[lW]at h⊢;intro u hu;rcases qc8 hu with hu|rfl
 ·exact h u hu
 ·exact hv
theorem Jm{m off:Nat}{cs vs:List U}(h:U.bZ m cs=true)(hv:U.bZ m vs=true):U.bZ m (gK cs off vs)=true:=by
 rw[lW]at h hv⊢;intro u hu;unfold gK at hu;simp only[eH]at hu;rcases hu with(hu|hu)|hu
 ·exact h u (ta hu)
 ·exact hv u hu
 ·exact h u (iF hu)
theorem Fl.setCell(h:Fl s){i off:Nat}{v:U}(hv:∀ m,v.low m=true)(E' :Env):Fl {s with e:=E',h:=setCell s.h i off v}:=by
 unfold RE.setCell;split
 ·rename_i cs hi;exact h.set (o:=.row (cs.set off v)) (Ce (h.ob i _ hi) (hv _)) E'
 ·exact h.env E'
theorem Fl.kill(h:Fl s)(g:Tg):Fl (s.kill g):=by
 unfold Vs.kill;split
 ·exact h.setCell (fun _=>rfl) _
 ·exact h.env _
theorem Fl.mS(h:Fl s)(g:Tg):Fl (s.mS g):=by
 unfold Vs.mS;split
 ·split
  ·split
   ·rename_i i off _ cs hi _ w xs hc;exact h.set (o:=.row (cs.set off (.sl w xs))) (Ce (h.ob _ _ hi) rfl) _
   ·exact h.env _
  ·exact h.env _
 ·exact h.env _
theorem Fl.fK(h:Fl s)(g:Tg)(w:Nat)(ys:List (List U)):Fl (s.fK g w ys):=by
 unfold Vs.fK;split
 ·exact h.setCell (fun _=>rfl) _
 ·exact h.env _
theorem Fl.esc(h:Fl s){u u' :U}(he:esc u s=some (u',s')):Fl s' :=by
 unfold RE.esc at he;split at he<;>simp only[ag,ay,reduceCtorEq]at he
 ·obtain⟨_,rfl⟩:=he;exact h.mS _
 ·obtain⟨_,rfl⟩:=he;exact h
theorem Fl.gb(h:Fl s){x:bO}{u' :U}(he:gb x s=some (u',s')):Fl s' :=by
 unfold RE.gb at he;split at he
 ·exact h.esc he
 ·simp at he
theorem Fl.gy:∀ {xs:List bO} {s s' :Vs} {us:List U},Fl s→gy xs s=some (us,s')→Fl s' :=by
 intro xs
 induction xs with
 |nil=>intro s s' us h he;simp[RE.gy]at he;obtain⟨_,rfl⟩:=he;exact h
 |cons x xs ih=>
  intro s s' us h he;simp only[RE.gy]at he;split at he
  ·rename_i v s1 h1;split at he<;>simp only[ag,ay,reduceCtorEq]at he;rename_i vs s2 h2;obtain⟨_,rfl⟩:=he;exact ih (h.gb h1) h2
  ·simp at he
theorem Fl.fill:∀ {parts:List (Nat×Nat×bO)} {s s' :Vs} {us cs:List U},Fl s→kN parts us s=some (cs,s')→Fl s' :=by
 intro parts
 induction parts with
 |nil=>intro s s' us cs h he;simp[kN]at he;obtain⟨_,rfl⟩:=he;exact h
 |cons p parts ih=>
  intro s s' us cs h he;obtain⟨off,size,x⟩:=p;simp only[kN]at he;split at he
  ·rename_i v s1 h1;cases hb:(Nat.beq v.cells.length size&&Nat.ble (off+v.cells.length) us.length)with
   |false=>rw[hb]at he;simp at he
   |true=>rw[hb]at he;exact ih (h.gb h1) he
  ·simp at he
end
end Go.RE
namespace Go.RE
section
variable{E:q9}{σ:Sg}{Z:Zs}{ω:Om}{s s' :Vs}{e:PT V}{st:St}{n:Nat}
theorem aO{α:Type}{b:Bool}{x:Option α}{y:α}(h:(bif b then x else none)=some y):b=true∧x=some y:=by
 cases b with
 |true=>exact⟨rfl,h⟩
 |false=>simp at h
theorem SL{b:Bool}{x y u:U}{s2:Vs}{g g2:Tg}(h:(bif b then some (x,s)else some (y,(s.kill g).kill g2))=some (u,s2))(hf:Fl s):Fl s2:=by
 cases b with
 |true=>simp at h;obtain⟨_,rfl⟩:=h;exact hf
 |false=>simp at h;obtain⟨_,rfl⟩:=h;exact(hf.kill _).kill _
theorem Tf{b:Bool}{x y:U}{g:Tg}(hf:Fl s):Fl (bif b then(x,s)else(y,s.mS g):U×Vs).2:=by
 cases b with
 |true=>exact hf
 |false=>exact hf.mS _
theorem Q4{d w:Nat}{lo hi mx:Option bO}{v u:U}(h:iT d w lo hi mx v s=some (u,s'))(hf:Fl s):Fl s' :=by
 unfold iT at h;split at h
 ·obtain⟨_,h⟩:=aO h;split at h<;>try (simp at h;done)
  split at h<;>try (simp at h;done)
  split at h
  ·simp at h;obtain⟨_,rfl⟩:=h;exact hf
  ·split at h<;>try (simp at h;done)
   obtain⟨_,h⟩:=aO h;rename_i m _ _ _;cases hm:Nat.beq m 0 with
   |true=>rw[hm]at h;simp at h;obtain⟨_,rfl⟩:=h;exact hf.kill _
   |false=>rw[hm]at h;simp at h;obtain⟨_,rfl⟩:=h;exact hf
 ·obtain⟨_,h⟩:=aO h;split at h
  ·split at h<;>try (simp at h;done)
   split at h<;>try (simp at h;done)
   exact SL h hf
  ·split at h<;>try (simp at h;done)
   simp at h;obtain⟨_,rfl⟩:=h;exact hf.kill _
 ·obtain⟨_,h⟩:=aO h;split at h<;>try (simp at h;done)
  simp at h;obtain⟨_,rfl⟩:=h;exact hf
 ·simp at h
theorem S7{d:Nat}{o:gv}{u:U}(h:gm d s o=some (u,s'))(hf:Fl s):Fl s' :=by
 cases o with
 |oJ t x=>
  simp only[gm]at h;split at h<;>simp only[ag,ay,reduceCtorEq]at h;rename_i v s1 h1;obtain⟨_,rfl⟩:=h;exact hf.gb h1
 |jK f a b=>
  simp only[gm]at h;split at h<;>try (simp at h;done)
  rename_i v s1 h1;split at h<;>simp only[ag,ay,reduceCtorEq]at h;rename_i v2 s2 h2;obtain⟨_,rfl⟩:=h;exact(hf.gy h1).gy h2
 |build z parts=>
  simp only[gm]at h;obtain⟨_,h⟩:=aO h;split at h<;>simp only[ag,ay,reduceCtorEq]at h;rename_i v s1 h1;obtain⟨_,rfl⟩:=h;exact hf.fill h1
 |slice w x lo hi mx=>
  simp only[gm]at h;split at h<;>try (simp at h;done)
  exact Q4 h hf
 |bn x=>
  simp only[gm]at h;split at h<;>simp only[ag,ay,reduceCtorEq]at h
  ·obtain⟨_,rfl⟩:=h;exact hf.kill _
  ·obtain⟨_,rfl⟩:=h;exact hf
 |jw n w x lo hi=>
  simp only[gm]at h;split at h<;>try (simp at h;done)
  split at h<;>try (simp at h;done)
  split at h<;>try (simp at h;done)
  split at h<;>try (simp at h;done)
  obtain⟨_,h⟩:=aO h;simp only[ag,ay]at h;obtain⟨_,rfl⟩:=h;exact hf
 |cap x=>simp[gm]at h
 |entry x=>
  simp only[gm]at h;split at h<;>try (simp at h;done)
  split at h<;>simp only[ag,ay,reduceCtorEq]at h;obtain⟨_,rfl⟩:=h;exact hf
 |indexAddr w x i=>
  simp only[gm]at h;split at h<;>try (simp at h;done)
  ·split at h<;>try (simp at h;done)
   split at h<;>try (simp at h;done)
   obtain⟨_,h⟩:=aO h;simp only[ag,ay]at h;obtain⟨_,rfl⟩:=h;exact hf
  ·split at h<;>try (simp at h;done)
   obtain⟨_,h⟩:=aO h;simp only[ag,ay]at h;obtain⟨_,rfl⟩:=h;exact hf
  ·split at h<;>try (simp at h;done)
   obtain⟨_,h⟩:=aO h;simp only[ag,ay]at h;obtain⟨_,rfl⟩:=h;exact hf
  ·split at h<;>try (simp at h;done)
   obtain⟨_,h⟩:=aO h;simp only[ag,ay]at h;obtain⟨_,rfl⟩:=h;exact hf
 |_=>
  simp only[gm]at h
  repeat' (first|(split at h)|(simp only[ag,ay,reduceCtorEq]at h))
  all_goals (obtain⟨_,rfl⟩:=h;exact hf)
theorem Qk(v:V)(h:v.nj.aL=true)(m:Nat):v.nj.low m=true:=by
 have h1:UR (fun _=>0) (fun _=>none) 0 v.nj v.er:=pL v (fun hh=>by rw[hh]at h;simp[U.aL]at h) (fun g w xs hh=>by rw[hh]at h;simp[U.aL]at h) (fun w xs hh=>by rw[hh]at h;simp[U.aL]at h);exact iP (bU _) h1.nQ
theorem BF:∀ (vs:List V),(V.dF vs).all (fun u=>u.aL||u.o8)=true→∀ m,U.bZ m (V.dF vs)=true
 |[],_,_=>rfl
 |v::vs,h,m=>by
  simp only[V.dF,kG,aI,uN]at h;simp only[V.dF,U.bZ,aI];refine⟨?_,BF vs h.2 m⟩;rcases h.1 with hh|hh
  ·exact Qk v hh m
  ·cases hv:v.nj<;>rw[hv]at hh<;>simp[U.o8]at hh;rfl
theorem x7{m:Nat}{u:U}(h:u.low m=true):U.bZ m u.cells=true:=by
 cases u<;>simp_all [U.cells,U.bZ,U.low]
theorem S6{d:Nat}{o:Io}{u:U}(h:zO d s o=some (u,s'))(hk:Ok E σ Z ω s e st)(hf:Fl s):Fl s' :=by
 cases o with
 |alloc z=>
  simp only[zO]at h;obtain⟨hc,h⟩:=aO h;simp only[ag,ay]at h;obtain⟨_,rfl⟩:=h;exact hf.push (o:=.row (V.dF z)) (BF z hc _) s.e
 |box x=>
  simp only[zO]at h;split at h<;>try (simp at h;done)
  ·simp only[ag,ay]at h;obtain⟨_,rfl⟩:=h;exact hf.push (o:=.row [.bJ _ _]) rfl _
  ·rename_i v _ _ _ hx;obtain⟨_,h⟩:=aO h;simp only[ag,ay]at h;obtain⟨_,rfl⟩:=h;obtain⟨vx,_,x2⟩:=hk.cW hx;exact hf.push (o:=.row v.cells) (x7 (iP (xQ _) x2.nQ)) s.e
 |buildSlice w len z parts=>
  simp only[zO]at h;split at h<;>try (simp at h;done)
  rename_i cs s1 h1;obtain⟨_,h1⟩:=aO h1;obtain⟨_,h⟩:=aO h;simp only[ag,ay]at h;obtain⟨_,rfl⟩:=h;exact(hf.fill h1).kill _
 |makeMap=>
  simp only[zO,ag,ay]at h;obtain⟨_,rfl⟩:=h;exact hf.push (o:=.map [] 0) rfl s.e
 |makeSlice w bytes z len cap=>
  simp only[zO]at h;split at h<;>try (simp at h;done)
  split at h<;>try (simp at h;done)
  split at h<;>try (simp at h;done)
  obtain⟨_,h⟩:=aO h;simp only[ag,ay]at h;obtain⟨_,rfl⟩:=h;exact hf.kill _
 |mV x=>
  simp only[zO]at h;split at h<;>try (simp at h;done)
  obtain⟨_,h⟩:=aO h;simp only[ag,ay]at h;obtain⟨_,rfl⟩:=h;exact hf
theorem Q7{k i off:Nat}{v:U}{cs:List U}(hi:s.h[i]? =some (.row cs))(h:qK s k i off v cs=some s')(hk:Ok E σ Z ω s e st)(hv:v.low s.h.length=true)(hf:Fl s):Fl s' :=by
 unfold qK at h;split at h
 ·rename_i g w xs;obtain⟨_,h⟩:=aO h;split at h<;>simp only[ag,reduceCtorEq]at h;subst h;exact hf.set (o:=.row (cs.set off (.bJ w xs))) (Ce (hf.ob _ _ hi) rfl) _
 ·obtain⟨_,h⟩:=aO h;simp only[ag]at h;subst h;cases hl:v.low (i+1)with
  |true=>exact hf.set (o:=.row (gK cs off v.cells)) (Jm (hf.ob _ _ hi) (x7 (iP (jW _ _) hl))) _
  |false=>
   refine hf.raise (by simp) fun j o ho=> ?_;rw[b9]at ho;split at ho
   ·split at ho<;>simp at ho;subst ho;exact Jm (hk.NX hi) (x7 hv)
   ·exact hk.NX ho
theorem ZQ{m i:Nat}{f:U×U×Nat→U×U×Nat}(hfm:∀ x,jF m x=true→jF m (f x)=true):∀ {es:List (U×U×Nat)} {i:Nat},es.all (jF m)=true→(pQ i f es).all (jF m)=true:=by
 intro es
 induction es with
 |nil=>intro i h;cases i<;>rfl
 |cons x es ih=>
  intro i h;simp only[kG,aI]at h;cases i with
  |zero=>simp only[pQ,kG,aI];exact⟨hfm x h.1,h.2⟩
  |succ i=>simp only[pQ,kG,aI];exact⟨h.1,ih h.2⟩
theorem Qq{m:Nat}:∀ {es:List (U×U×Nat)} {i:Nat},es.all (jF m)=true→(hU i es).all (jF m)=true:=by
 intro es
 induction es with
 |nil=>intro i h;cases i<;>rfl
 |cons x es ih=>
  intro i h;simp only[kG,aI]at h;cases i with
  |zero=>exact h.2
  |succ i=>simp only[hU,kG,aI];exact⟨h.1,ih h.2⟩
theorem NS{kk:iG}{k:U}(h:dL kk k=true)(m:Nat):k.low m=true:=by
 unfold dL at h;cases k<;>simp[U.toV]at h<;>rfl
theorem SU{i:Nat}{es es' :List (U×U×Nat)}{c c' :Nat}{v:U}(hi:s.h[i]? =some (.map es c))(hk:Ok E σ Z ω s e st)(hf:Fl s)(hv:v.low s.h.length=true)
  (hm:∀ m,v.low m=true→es.all (jF m)=true→es'.all (jF m)=true):Fl {s with h:=s.h.set i (.map es' c'),fl:=bif v.low (i+1)then s.fl else s.h.length}:=by
 cases hl:v.low (i+1)with
 |true=>exact hf.set (o:=.map es' c') (hm _ (iP (jW _ _) hl) (hf.ob _ _ hi)) _
 |false=>
  refine hf.raise (by simp) fun j o ho=> ?_;rw[b9]at ho;split at ho
  ·split at ho<;>simp at ho;subst ho;exact hm _ hv (hk.NX hi)
  ·exact hk.NX ho
theorem qeh{d:Nat}{o:zv}{u:U}(h:qE d s o=some (u,s'))(hk:Ok E σ Z ω s e st)(hf:Fl s):Fl s' :=by
 cases o with
 |store k a x=>
  simp only[qE]at h;split at h<;>try (simp at h;done)
  ·rename_i i off v ha hx;split at h<;>try (simp at h;done)
   rename_i cs0 hi0;obtain⟨vx,_,x2⟩:=hk.cW hx;obtain⟨Z1,ω1,r1,r2,r3,r4⟩:=E3 (off:=off) (cs:=cs0) hk x2;have rf:Fl (jL s off v cs0).2:=by
    unfold jL;split
    ·split
     ·exact Tf hf
     ·exact hf
    ·exact hf
   generalize jL s off v cs0=R at h r1 r2 r3 rf;obtain⟨u1,t1⟩:=R;simp only at h r1 r2 r3 rf;split at h<;>try (simp at h;done)
   rename_i cs hi;split at h<;>simp only[ag,ay,reduceCtorEq]at h;rename_i s1 hs;obtain⟨_,rfl⟩:=h;exact Q7 hi hs r1 r2.nQ rf
  ·split at h<;>try (simp at h;done)
   rename_i v s1 h1;split at h<;>try (simp at h;done)
   split at h<;>try (simp at h;done)
   obtain⟨_,h⟩:=aO h;simp only[ag,ay]at h;obtain⟨_,rfl⟩:=h;exact(hf.esc h1).fK _ _ _
 |mapUpdate kk m k x=>
  simp only[qE]at h;split at h<;>try (simp at h;done)
  rename_i i s1 h1;split at h<;>try (simp at h;done)
  rename_i k1 s2 h2;split at h<;>try (simp at h;done)
  rename_i v s3 h3;split at h<;>try (simp at h;done)
  rename_i es clock hi;obtain⟨hpk,h⟩:=aO h;obtain⟨Z1,ω1,_,_,k1,_,e1,_⟩:=hk.gb h1;obtain⟨Z2,ω2,_,_,k2,_,e2,_⟩:=k1.gb h2;obtain⟨Z3,ω3,vv,_,k3,u3,e3,_⟩:=k2.gb h3;have hv:v.low s3.h.length=true:=by rw[e3];exact u3.nQ
  have hf3:=((hf.gb h1).gb h2).gb h3;split at h<;>simp only[ag,ay,reduceCtorEq]at h
  ·obtain⟨_,rfl⟩:=h;exact SU hi k3 hf3 hv fun m hm hes=>ZQ (i:=0) (fun y hy=>by simp only[jF,aI];exact⟨NS hpk m,hm⟩) hes
  ·obtain⟨_,rfl⟩:=h;exact SU hi k3 hf3 hv fun m hm hes=>by
    rw[List.all_append,hes];simp only[kG,List.all_nil,jF,NS hpk m,hm,jh]
 |delete kk m k=>
  simp only[qE]at h;split at h<;>try (simp at h;done)
  ·obtain⟨_,h⟩:=aO h;simp only[ag,ay]at h;obtain⟨_,rfl⟩:=h;exact hf
  ·split at h<;>try (simp at h;done)
   rename_i es clock hi;obtain⟨_,h⟩:=aO h;split at h<;>simp only[ag,ay,reduceCtorEq]at h
   ·obtain⟨_,rfl⟩:=h;exact hf.set (o:=.map (hU _ es) clock) (Qq (hf.ob _ _ hi)) s.e
   ·obtain⟨_,rfl⟩:=h;exact hf
 |append w bytes str a x=>
  simp only[qE]at h;split at h<;>try (simp at h;done)
  split at h<;>try (simp at h;done)
  split at h<;>try (simp at h;done)
  ·obtain⟨_,h⟩:=aO h;simp only[ag,ay]at h;obtain⟨_,rfl⟩:=h;exact(hf.kill _).kill _
  ·obtain⟨_,h⟩:=aO h;simp only[ag,ay]at h;obtain⟨_,rfl⟩:=h;exact(hf.kill _).kill _
  ·obtain⟨_,h⟩:=aO h;simp only[ag,ay]at h;obtain⟨_,rfl⟩:=h;exact hf
 |copy w str a x=>
  simp only[qE]at h;split at h<;>try (simp at h;done)
  split at h<;>try (simp at h;done)
  obtain⟨_,h⟩:=aO h;simp only[ag,ay]at h;obtain⟨_,rfl⟩:=h;exact hf.fK _ _ _
 |clear _ _ _=>simp[qE]at h
 |range _=>simp[qE]at h
theorem Fl.dR(h:Fl s)(d:Nat)(r:U):Fl (dR d r s).2:=by
 unfold RE.dR;split
 ·exact Fl.kill h (.t d)
 ·exact h
theorem Fl.aJ:∀ {args:List U} {s:Vs},Fl s→Fl (aJ args s):=by
 intro args
 induction args with
 |nil=>intro s h;exact h
 |cons a r ih=>
  intro s h;cases a<;>simp only[RE.aJ]<;>first|exact ih h|exact ih (h.mS _)
theorem Fl.land(h:Fl s){hc:List Uo}{fc:Nat}(hh:Fl ⟨[],hc,fc⟩)(d:Nat)(r:U):Fl (rY d r hc fc s).2:=by
 unfold rY;split
 ·exact h.dR d r
 ·refine Fl.dR (s:={s with h:=s.h++hc.map (eV s.h.length),fl:=bif Nat.beq fc 0 then s.fl else s.h.length+fc}) ?_ d _;have hle:=h.le;have hle2:=hh.le;simp only at hle2;have hge:s.fl≤(bif Nat.beq fc 0 then s.fl else s.h.length+fc):=by
   cases Nat.beq fc 0 with
   |true=>exact ak _
   |false=>simp only[cond_false];omega
  have hge2:s.h.length+fc≤max s.h.length (bif Nat.beq fc 0 then s.fl else s.h.length+fc):=by
   cases hb:Nat.beq fc 0 with
   |true=>have:=aU hb;simp only[cond_true];omega
   |false=>simp only[cond_false];omega
  refine⟨?_,fun i o ho=> ?_⟩
  ·simp only[gX,oS];cases hb:Nat.beq fc 0 with
   |true=>simp only[cond_true];omega
   |false=>simp only[cond_false];omega
  ·simp only at ho;rcases uP i s.h.length with hi|hi
   ·rw[bG hi]at ho;exact Uo.iP (by simp only;omega) (h.ob i o ho)
   ·rw[dh hi,gE]at ho;cases hq:hc[i - s.h.length]? with
    |none=>rw[hq]at ho;simp at ho
    |some x=>
     rw[hq]at ho;simp only[kP,ag]at ho;subst ho;exact Uo.iP (by simp only;omega) (Uo.ng (k:=s.h.length) (hh.ob _ x hq))
end
end Go.RE
namespace Go.RE
def RR(σ:Sg)(Z:Zs)(ω:Om)(n:Nat)(r:U)(v:V):Prop:=
 match r with
 | .own .r w xs=>OR σ Z ω (.t 0) w xs v
 | .own _ _ _=>False
 |r=>UR σ Z n r v
def gd(σ:Sg)(ω:Om)(n:Nat):Nat→Prop:=fun b=>(∃ i,i<n∧σ i=b)∨∃ g I,ω g=some I∧I.b=b
def Yu(P:Nat→List V→St→(V→St→Prop)→Prop)(F:FU):Prop:=
 ∀ (f:Nat) (us:List U) (h:List Uo) (fl:Nat) (r:U) (h' :List Uo) (fl' :Nat),F f us h fl=some (r,h',fl')→
  ∀ (σ:Sg) (Z:Zs) (ω:Om) (st:St) (vs:List V),Ok ⟨h.length,σ,gd σ ω h.length,Z,st,fun i=>h[i]? =some .gone,none,jJ h⟩ σ Z ω ⟨[],h,fl⟩ .e st→Fl ⟨[],h,fl⟩→(∀ d,ω (.t d)=none)→LU σ Z h.length us vs→
   P f vs st fun v st' =>Fl ⟨[],h',fl'⟩∧∃ σ' Z' ω',Ok ⟨h.length,σ,gd σ ω h.length,Z,st,fun i=>h[i]? =some .gone,none,jJ h⟩ σ' Z' ω' ⟨[],h',fl'⟩ .e st'∧(∀ d,d≠0→ω' (.t d)=none)∧RR σ' Z' ω' h'.length r v
section
variable{E:q9}{σ:Sg}{Z:Zs}{ω:Om}{s s' :Vs}{e:PT V}{st:St}{n:Nat}
theorem UR.flat{Z2:Zs}{u:U}{v:V}(h:UR σ Z n u v)(hf:u.flat=true):UR σ Z2 n u v:=by
 have hl:∀ {a:List U},U.vY a=true→∀ (j:Nat) u,a[j]? =some u→u.flat=true:=by
  intro a
  induction a with
  |nil=>intro _ j u h;simp at h
  |cons x a ih=>
   intro h j u hu;simp only[U.vY,aI]at h;cases j with
   |zero=>simp at hu;subst hu;exact h.1
   |succ j=>exact ih h.2 j u (by simpa using hu)
 induction h with
 |bool b=>exact .bool b
 |int k x=>exact .int k x
 |str s=>exact .str s
 |br=>exact .br
 |bB=>exact .bB
 |bS=>exact .bS
 |dJ=>exact .dJ
 |di=>exact .di
 |ptr h=>exact .ptr h
 |map h=>exact .map h
 |iface h ih=>exact .iface (ih (by simpa[U.flat]using hf))
 |agg ha va ih=>exact .agg ha fun j u v h1 h2=>ih j u v h1 h2 (hl (by simpa[U.flat]using hf) j u h1)
 |aZ ha va ih=>exact .aZ ha fun j u v h1 h2=>ih j u v h1 h2 (hl (by simpa[U.flat]using hf) j u h1)
 |_=>simp[U.flat]at hf
theorem BU:∀ {xs:List (List U)},U.kY xs=true→∀ (j:Nat) u,xs.flatten[j]? =some u→u.flat=true:=by
 have hl:∀ {a:List U},U.vY a=true→∀ u∈a,u.flat=true:=by
  intro a
  induction a with
  |nil=>intro _ u h;cases h
  |cons x a ih=>
   intro h u hu;simp only[U.vY,aI]at h;rcases bT.1 hu with rfl|hu
   ·exact h.1
   ·exact ih h.2 u hu
 intro xs
 induction xs with
 |nil=>intro _ j u h;simp at h
 |cons x xs ih=>
  intro h j u hu;simp only[U.kY,aI]at h;have hm:=oT hu;rw[iE]at hm;rcases eH.1 hm with hm|hm
  ·exact hl h.1 u hm
  ·obtain⟨i,hi,rfl⟩:=s6.1 hm;exact ih h.2 i _ (aQ hi)
theorem OR.flat{σ2:Sg}{Z2:Zs}{ω2:Om}{g g2:Tg}{w:Nat}{xs:List (List U)}{v:V}(h:OR σ Z ω g w xs v)(hω:ω2 g2=ω g)(hf:U.kY xs=true):OR σ2 Z2 ω2 g2 w xs v:=by
 unfold OR at h⊢;rw[hω];split at h
 ·exact h
 ·refine⟨h.1,h.2.1,h.2.2.1,h.2.2.2.1,h.2.2.2.2.1,h.2.2.2.2.2.1,fun j u v hu hv=> ?_⟩;exact(((h.2.2.2.2.2.2 j u v hu hv).flat (BU hf j u hu)).mono (ak 0) (fun i hi=>by omega) (fun _ _ h=>h))
theorem tc:∀ {args us:List U},iq args=some us→∀ w xs,.own .a w xs ∉ args:=by
 intro args
 induction args with
 |nil=>intro us _ w xs hm;cases hm
 |cons a args ih=>
  intro us h w xs hm;simp only[iq]at h;split at h<;>try (simp at h;done)
  rename_i u hu;split at h<;>try (simp at h;done)
  rename_i us' hus;rcases bT.1 hm with rfl|hm
  ·simp[uv]at hu
  ·exact ih hus w xs hm
theorem qy:∀ {args:List U} {s:Vs} {Z:Zs} {ω:Om},(∀ w xs,.own .a w xs ∉ args)→Ok E σ Z ω s e st→∃ Z' ω',Ok E σ Z' ω' (aJ args s) e st∧(∀ b r,Z b=some r→Z' b=some r)∧(aJ args s).h.length=s.h.length∧
  (∀ g,(∀ w xs,.own g w xs ∉ args)→ω' g=ω g)∧∀ g w xs I,.own g w xs∈args→ω g=some I→Z' I.b=some I.row:=by
 intro args
 induction args with
 |nil=>intro s Z ω _ h;exact⟨Z,ω,h,fun _ _ h=>h,rfl,fun _ _=>rfl,fun g w xs I hm=>by cases hm⟩
 |cons a args ih=>
  intro s Z ω hna h;have hna' :∀ w xs,.own .a w xs ∉ args:=fun w xs hm=>hna w xs (eu _ hm);cases a with
  |own g w xs=>
   simp only[aJ];obtain⟨Z1,ω1,a1,a2,a3,a4,a5,a6⟩:=h.mS g (by rintro rfl;exact hna w xs cB);obtain⟨Z2,ω2,b1,b2,b3,b4,b5⟩:=ih hna' a1;refine⟨Z2,ω2,b1,fun b r hb=>b2 b r (a2 b r hb),by omega,fun g' hg' => ?_,fun g' w' xs' I hm hI=> ?_⟩
   ·rw[b4 g' (fun w xs hm=>hg' w xs (eu _ hm)),a3 g' (fun hh=>hg' w xs (by rw[hh];exact cB))]
   ·by_cases hgg:g' =g
    ·subst hgg;exact b2 _ _ (a5 I hI)
    ·have hm' :U.own g' w' xs'∈args:=by
      rcases bT.1 hm with hh|hh
      ·cases hh;exact absurd rfl hgg
      ·exact hh
     exact b5 g' w' xs' I hm' (by rw[a3 g' hgg];exact hI)
  |_=>
   simp only[aJ];obtain⟨Z2,ω2,b1,b2,b3,b4,b5⟩:=ih hna' h;refine⟨Z2,ω2,b1,b2,b3,fun g' hg' =>b4 g' (fun w xs hm=>hg' w xs (eu _ hm)),fun g' w' xs' I hm hI=> ?_⟩;rcases bT.1 hm with hh|hh
   ·cases hh
   ·exact b5 g' w' xs' I hh hI
theorem Aq{Z' :Zs}(hZ:∀ b r,Z b=some r→Z' b=some r):∀ {args us:List U} {vs:List V},iq args=some us→args.length=vs.length→(∀ (j:Nat) u v,args[j]? =some u→vs[j]? =some v→TR σ Z ω n u v)→
  (∀ g w xs I,.own g w xs∈args→ω g=some I→Z' I.b=some I.row)→LU σ Z' n us vs:=by
 intro args
 induction args with
 |nil=>intro us vs h hl _ _;simp[iq]at h;subst h;have:vs=[]:=fT hl.symm;subst this;exact .nil
 |cons a args ih=>
  intro us vs h hl hr hI;cases vs with
  |nil=>simp at hl
  |cons v vs=>
   simp only[iq]at h;cases ha:uv a with
   |none=>rw[ha]at h;simp at h
   |some u=>
    rw[ha]at h;simp only at h;cases hb:iq args with
    |none=>rw[hb]at h;simp at h
    |some us' =>
     rw[hb]at h;simp only[ag]at h;subst h;refine LU.cons ?_ (ih hb (by simpa using hl) (fun j p q hp hq=>hr (j+1) p q (by simpa using hp) (by simpa using hq)) (fun g w xs I hm=>hI g w xs I (eu _ hm)));have h0:=hr 0 a v rfl rfl;cases a with
     |own g w xs=>
      have ha:U.sl w xs=u:=by cases g<;>first|(simp[uv]at ha;done)|simpa[uv]using ha
      subst ha;exact h0.1.sl hZ (fun I hg=>hI g w xs I cB hg)
     |nl w=>
      simp[uv]at ha;subst ha;have h1:UR σ Z n (.nl w) v:=h0;cases h1 with
      |Ec=>exact .slnil
      |EU=>exact .Ak
     |bad=>simp[uv]at ha
     |bJ _ _=>simp[uv]at ha
     |bI _ _ _=>simp[uv]at ha
     |zw _ _ _ _=>simp[uv]at ha
     |view _ _ _ _=>simp[uv]at ha
     |dB=>simp[uv]at ha
     |aZ _=>simp[uv]at ha
     |_=>simp[uv]at ha;subst ha;exact UR.mono (ak _) (fun _ _=>rfl) hZ h0
noncomputable def mF(ω:Om)(Z:Zs):Zs:=fun b=>open Classical in if h:∃ g I,ω g=some I∧I.b=b then some h.choose_spec.choose.row else Z b
theorem B8(h:Ok E σ Z ω s e st){g:Tg}{I:oW}(hg:ω g=some I):mF ω Z I.b=some I.row:=by
 have hex:∃ g J,ω g=some J∧J.b=I.b:=⟨g,I,hg,rfl⟩;unfold mF;rw[dif_pos hex];obtain⟨k1,k2⟩:=hex.choose_spec.choose_spec;have key:∀ g' J,ω g' =some J→J.b=I.b→J=I:=fun g' J hJ hb=>by
  have:=h.ic _ _ _ _ hJ hg hb;subst this;rw[hg]at hJ;cases hJ;rfl
 exact congrArg (fun J:oW=>some J.row) (key _ _ k1 k2)
theorem SK(h:Ok E σ Z ω s e st){b:Nat}{r:List V}(hb:Z b=some r):mF ω Z b=some r:=by
 unfold mF;rw[dif_neg]
 ·exact hb
 ·rintro⟨g,I,hg,rfl⟩;rw[h.wz g I hg]at hb;cases hb
theorem u9{b:Nat}{r:List V}(hb:mF ω Z b=some r):Z b=some r∨∃ g I,ω g=some I∧I.b=b∧r=I.row:=by
 unfold mF at hb;split at hb
 ·rename_i hex;simp at hb;exact .inr ⟨_,_,hex.choose_spec.choose_spec.1,hex.choose_spec.choose_spec.2,hb.symm⟩
 ·exact .inl hb
theorem Ok.iso(h:Ok E σ Z ω s e st){Z' :Zs}(hz:∀ b r,Z' b=some r→st.row b=some r)(fl:Nat):Ok ⟨0,σ,gd σ (fun _=>none) 0,Z',st,fun i=>([]:List Uo)[i]? =some .gone,none,jJ ([]:List Uo)⟩ σ Z' (fun _=>none) ⟨[],[],fl⟩ .e st:=
 ⟨fun t u hu=>by simp[look]at hu,fun i o ho=>by simp at ho,hz,fun g I hI=>by simp at hI,h.fresh,fun i j hi=>by simp at hi,fun g g' I I' hI=>by simp at hI,fun i g I hi=>by simp at hi,fun i hi=>by simp at hi,fun g I hI=>by simp at hI,fun i hi=>by simp at hi,⟨rfl,rfl⟩,fun i off I hI=>by simp at hI,ak _,fun i hi=>by simp at hi,fun b r hb=>hb,ak _,fun b hb _=>⟨rfl,fun i hi=>by simp at hi,fun g I hI=>by simp at hI,fun r hr=>hr⟩,fun i hi=>by simp at hi,fun i off cs h1=>by simp at h1⟩
theorem zR(h:List Uo)(i off:Nat)(v:U):(setCell h i off v).length=h.length:=by
 unfold setCell;split<;>simp
theorem zS{h:List Uo}{i off:Nat}{v:U}{j:Nat}{cs:List U}(hj:h[j]? =some (.row cs)):(setCell h i off v)[j]? =some (.row (if j=i then cs.set off v else cs)):=by
 unfold setCell;split
 ·rename_i ds hi;rw[b9];by_cases hji:i=j
  ·subst hji;rw[hi]at hj;simp at hj;subst hj;simp[(aH.1 hi).1]
  ·simp[hji,cc hji,hj]
 ·rename_i hno;by_cases hji:j=i
  ·subst hji;exact absurd hj (hno _)
  ·simp[hji,hj]
theorem uH{h:List Uo}{i off:Nat}{v:U}{j:Nat}(hj:∀ cs,h[j]?≠some (.row cs)):(setCell h i off v)[j]? =h[j]? :=by
 unfold setCell;split
 ·rename_i ds hi;rw[b9,if_neg];rintro rfl;exact hj _ hi
 ·rfl
theorem nc:∀ (L:List (Nat×Nat)) (h:List Uo),(eN L h).length=h.length:=by
 intro L
 induction L with
 |nil=>intro h;rfl
 |cons x L ih=>intro h;obtain⟨i,off⟩:=x;simp only[eN,ih,zR]
theorem QI:∀ (L:List (Nat×Nat)) {h:List Uo} {i:Nat} {cs:List U},h[i]? =some (.row cs)→∃ cs',(eN L h)[i]? =some (.row cs')∧cs'.length=cs.length∧
  ∀ off,off<cs.length→cs'[off]? =if(i,off)∈L then some .dB else cs[off]? :=by
 intro L
 induction L with
 |nil=>intro h i cs hi;exact⟨cs,hi,rfl,fun off _=>by simp⟩
 |cons x L ih=>
  intro h i cs hi;obtain⟨j,o⟩:=x;simp only[eN];obtain⟨cs',a,b,c⟩:=ih (zS (i:=j) (off:=o) (v:=.dB) hi);refine⟨cs',a,?_,fun off hoff=> ?_⟩
  ·rw[b];split<;>simp
  ·rw[c off (by split<;>simpa using hoff)];by_cases hm:(i,off)∈L
   ·simp[hm]
   ·by_cases hij:i=j
    ·subst hij;by_cases ho:o=off
     ·subst ho;simp[hm,hoff]
     ·simp[hm,ho,cc ho]
    ·simp[hm,hij]
theorem r7:∀ (L:List (Nat×Nat)) {h:List Uo} {i:Nat},(∀ cs,h[i]?≠some (.row cs))→(eN L h)[i]? =h[i]? :=by
 intro L
 induction L with
 |nil=>intro h i hi;rfl
 |cons x L ih=>
  intro h i hi;obtain⟨j,o⟩:=x;simp only[eN];have e:=uH (i:=j) (off:=o) (v:=.dB) hi;rw[ih (by rw[e];exact hi),e]
theorem rZ{L:List (Nat×Nat)}{h:List Uo}{i:Nat}{o:Uo}(ho:(eN L h)[i]? =some o):
  (h[i]? =some o∧∀ cs,o≠.row cs)∨∃ cs cs',h[i]? =some (.row cs)∧o=.row cs'∧cs'.length=cs.length∧∀ off,off<cs.length→cs'[off]? =if(i,off)∈L then some .dB else cs[off]? :=by
 by_cases hr:∃ cs,h[i]? =some (.row cs)
 ·obtain⟨cs,hcs⟩:=hr;obtain⟨cs',a,b,c⟩:=QI L hcs;rw[a]at ho;simp at ho;subst ho;exact .inr ⟨cs,cs',hcs,rfl,b,c⟩
 ·rw[r7 L (fun cs hh=>hr ⟨cs,hh⟩)]at ho;exact .inl ⟨ho,fun cs hh=>hr ⟨cs,by rw[ho,hh]⟩⟩
theorem Ep(h0:List Uo):∀ (L:List (Nat×Nat)) (h:List Uo),(jd h0 L h).length=h.length:=by
 intro L
 induction L with
 |nil=>intro h;rfl
 |cons x L ih=>intro h;obtain⟨i,off⟩:=x;simp only[jd,ih,zR]
theorem P8(h0:List Uo):∀ (L:List (Nat×Nat)) {h:List Uo} {i:Nat} {cs:List U},h[i]? =some (.row cs)→∃ cs',(jd h0 L h)[i]? =some (.row cs')∧cs'.length=cs.length∧
  ∀ off,off<cs.length→cs'[off]? =if(i,off)∈L then some (cellAt h0 i off)else cs[off]? :=by
 intro L
 induction L with
 |nil=>intro h i cs hi;exact⟨cs,hi,rfl,fun off _=>by simp⟩
 |cons x L ih=>
  intro h i cs hi;obtain⟨j,o⟩:=x;simp only[jd];obtain⟨cs',a,b,c⟩:=ih (zS (i:=j) (off:=o) (v:=cellAt h0 j o) hi);refine⟨cs',a,?_,fun off hoff=> ?_⟩
  ·rw[b];split<;>simp
  ·rw[c off (by split<;>simpa using hoff)];by_cases hm:(i,off)∈L
   ·simp[hm]
   ·by_cases hij:i=j
    ·subst hij;by_cases ho:o=off
     ·subst ho;simp[hm,hoff]
     ·simp[hm,ho,cc ho]
    ·simp[hm,hij]
theorem zA(h0:List Uo):∀ (L:List (Nat×Nat)) {h:List Uo} {i:Nat},(∀ cs,h[i]?≠some (.row cs))→(jd h0 L h)[i]? =h[i]? :=by
 intro L
 induction L with
 |nil=>intro h i hi;rfl
 |cons x L ih=>
  intro h i hi;obtain⟨j,o⟩:=x;simp only[jd];have e:=uH (i:=j) (off:=o) (v:=cellAt h0 j o) hi;rw[ih (by rw[e];exact hi),e]
theorem zy{h0:List Uo}{L:List (Nat×Nat)}{h:List Uo}{i:Nat}{o:Uo}(ho:(jd h0 L h)[i]? =some o):
  (h[i]? =some o∧∀ cs,o≠.row cs)∨∃ cs cs',h[i]? =some (.row cs)∧o=.row cs'∧cs'.length=cs.length∧∀ off,off<cs.length→cs'[off]? =if(i,off)∈L then some (cellAt h0 i off)else cs[off]? :=by
 by_cases hr:∃ cs,h[i]? =some (.row cs)
 ·obtain⟨cs,hcs⟩:=hr;obtain⟨cs',a,b,c⟩:=P8 h0 L hcs;rw[a]at ho;simp at ho;subst ho;exact .inr ⟨cs,cs',hcs,rfl,b,c⟩
 ·rw[zA h0 L (fun cs hh=>hr ⟨cs,hh⟩)]at ho;exact .inl ⟨ho,fun cs hh=>hr ⟨cs,by rw[ho,hh]⟩⟩
def Tg.kept(L:List (Nat×Nat)):Tg→Prop
 | .t _=>True
 | .a=>True
 | .c i o=>(i,o)∈L
 | .r=>False
open Classical in
noncomputable def pU(L:List (Nat×Nat))(ω:Om):Om:=fun g=>if g.kept L then none else ω g
theorem gh{L:List (Nat×Nat)}{g:Tg}{I:oW}(h:pU L ω g=some I):ω g=some I∧¬g.kept L:=by
 unfold pU at h;split at h
 ·cases h
 ·exact⟨h,‹_›⟩
theorem Js{L:List (Nat×Nat)}{g:Tg}(h:¬g.kept L):pU L ω g=ω g:=if_neg h
theorem tJ{L:List (Nat×Nat)}{g:Tg}(h:g.kept L):pU L ω g=none:=if_pos h
theorem Ok.shared(h:Ok E σ Z ω s e st)(L:List (Nat×Nat))(fl:Nat):
  Ok ⟨(eN L s.h).length,σ,gd σ (pU L ω) (eN L s.h).length,Z,st,fun i=>(eN L s.h)[i]? =some .gone,none,jJ (eN L s.h)⟩ σ Z (pU L ω) ⟨[],eN L s.h,fl⟩ .e st:=by
 have hlen:=nc L s.h;refine⟨fun t u hu=>by simp[look]at hu,fun i o ho=> ?_,h.qZ,fun g I hI=>h.mq g I (gh hI).1,h.fresh,by simp only[hlen];exact h.inj,fun g g' I I' hI hI' =>h.ic g g' I I' (gh hI).1 (gh hI').1,fun i g I hi hI=>h.sw i g I (by simpa[hlen]using hi) (gh hI).1,by simp only[hlen];exact h.sz,fun g I hI=>h.wz g I (gh hI).1,by simp only[hlen];exact h.sb,⟨?_,by unfold WA;rw[tJ (show Tg.a.kept L from trivial)];rfl⟩,fun i off I hI=>by simp only[hlen];exact h.wc i off I (gh hI).1,ak _,fun i hi=>rfl,fun b r hb=>hb,ak _,fun b hb hbI=>⟨rfl,fun i hi hh=>hbI (.inl ⟨i,hi,hh⟩),fun g I hI hh=>hbI (.inr ⟨g,I,hI,hh⟩),fun r hr=>hr⟩,fun i hi=>⟨(aH.1 hi).1,hi,rfl⟩,fun i off cs h1 h2=> ?_⟩
 ·simp only at ho;simp only[hlen];rcases rZ ho with⟨ho,hno⟩|⟨cs,cs',hcs,rfl,hl,hc⟩
  ·have h1:=h.obj i o ho;cases o with
   |row cs=>exact absurd rfl (hno cs)
   |map es c=>exact h1
   |iter q a b c=>exact h1
   |gone=>trivial
  ·obtain⟨ds,q1,q2,q3⟩:=h.obj i _ hcs;refine⟨ds,q1,by omega,fun off u v hu hv=> ?_⟩;have hlt:off<cs.length:=by have:=(aH.1 hu).1;omega
   rw[hc off hlt]at hu;split at hu
   ·simp at hu;subst hu;trivial
   ·rename_i hm;exact(q3 off u v hu hv).mono (ak _) (fun _ _=>rfl) (fun _ _ h=>h) (Js hm)
 ·by_cases hr:Tg.r.kept L
  ·exact tJ hr
  ·rw[Js hr];exact h.wr
 ·have h1' :(eN L s.h)[i]? =some (.row cs):=h1;rcases rZ h1' with⟨_,hno⟩|⟨ds,cs',hcs,_,_,_⟩
  ·exact absurd rfl (hno cs)
  ·obtain⟨r,q1,_⟩:=h.obj i _ hcs;exact⟨⟨⟨cs,h1,h2⟩,(aH.1 h1).1⟩,r,r,q1,q1,rfl⟩
theorem Ok.KQ(h:Ok E σ Z ω s e st){L:List (Nat×Nat)}(hL:∀ i off,(i,off)∈L→∃ cs w xs,s.h[i]? =some (.row cs)∧cs[off]? =some (.bJ w xs)){σ' :Sg}{Z' :Zs}{ω' :Om}{h' :List Uo}{fl' :Nat}{st' :St}{r:U}{v:V}{d:Nat}
  (hb:Ok ⟨(eN L s.h).length,σ,gd σ (pU L ω) (eN L s.h).length,Z,st,fun i=>(eN L s.h)[i]? =some .gone,none,jJ (eN L s.h)⟩ σ' Z' ω' ⟨[],h',fl'⟩ .e st') (ht:∀ d,d≠0→ω' (.t d)=none) (hr:RR σ' Z' ω' h'.length r v)
  (hbk:L.all (mD h')=true):
  ∃ ω2,Ok E σ' Z' ω2 (dR d r {e:=Env.bV (fG L) s.e,h:=jd s.h L h',fl:=fl'}).2 e st'∧TR σ' Z' ω2 (dR d r {e:=Env.bV (fG L) s.e,h:=jd s.h L h',fl:=fl'}).2.h.length (dR d r {e:=Env.bV (fG L) s.e,h:=jd s.h L h',fl:=fl'}).1 v∧
   (dR d r {e:=Env.bV (fG L) s.e,h:=jd s.h L h',fl:=fl'}).2.h=jd s.h L h' :=by
 have hlen:=nc L s.h;have hblen:(jd s.h L h').length=h'.length:=Ep _ _ _;have hn0:s.h.length≤h'.length:=by have:=hb.n0;simp only[hlen]at this;exact this
 have hσ:∀ i,i<s.h.length→σ' i=σ i:=fun i hi=>hb.sig i (by simp only[hlen];exact hi);have hZ:∀ b r,Z b=some r→Z' b=some r:=hb.zz
 -- what is not handed on stays
 have hout:∀ b,b<st.next→¬gd σ (pU L ω) s.h.length b→st'.get b=st.get b∧(∀ i,i<h'.length→σ' i≠b)∧(∀ g I,ω' g=some I→I.b≠b)∧(∀ r,Z' b=some r→Z b=some r):=fun b hb1 hb2=>hb.out b hb1 (by simp only[hlen];exact hb2)
 have hT:∀ g I,g.kept L→ω g=some I→I.b<st.next∧¬gd σ (pU L ω) s.h.length I.b:=fun x I hx hI=>⟨h.lt_next (h.mq _ I hI),by
  rintro(⟨i,hi,hh⟩|⟨g,J,hJ,hh⟩)
  ·exact h.sw i _ I hi hI hh
  ·have:=h.ic _ _ _ _ (gh hJ).1 hI hh;subst this;exact(gh hJ).2 hx⟩
 -- the tags
 classical
 let ω2:Om:=fun g=>if g.kept L then ω g else if g=.r then none else ω' g
 have hk:∀ g,g.kept L→ω2 g=ω g:=fun g hg=>if_pos hg;have hkn:∀ g,¬g.kept L→g≠.r→ω2 g=ω' g:=fun g hg hr=>by show(if g.kept L then ω g else if g=.r then none else ω' g)=_;rw[if_neg hg,if_neg hr]
 have hkr:ω2 .r=none:=by show(if Tg.r.kept L then ω .r else if Tg.r=.r then none else ω' .r)=_;rw[if_neg (show ¬Tg.kept L .r from fun h=>h),if_pos rfl]
 have hc2:∀ g I,ω2 g=some I→(g.kept L∧ω g=some I)∨(∃ i o,g=.c i o∧¬g.kept L∧ω' (.c i o)=some I):=fun g I hI=>by
  by_cases hg:g.kept L
  ·rw[hk g hg]at hI;exact .inl ⟨hg,hI⟩
  ·cases g with
   |t x=>exact absurd trivial hg
   |a=>exact absurd trivial hg
   |r=>rw[hkr]at hI;cases hI
   |c i o=>rw[hkn _ hg (by simp)]at hI;exact .inr ⟨i,o,rfl,hg,hI⟩
 have hnl:∀ g,fG L g=false→g≠.r→g.kept L:=fun g hg hr=>by
  cases g with
  |t x=>trivial
  |a=>trivial
  |r=>exact absurd rfl hr
  |c i o=>
   simp only[fG,FB,List.any_eq_true,aI]at hg;obtain⟨x,hx,h1,h2⟩:=hg;have e1:=aU h1;have e2:=aU h2;subst e1;subst e2;exact hx
 have hOk:Ok E σ' Z' ω2 {e:=Env.bV (fG L) s.e,h:=jd s.h L h',fl:=fl'} e st' :=by
  refine⟨fun t u hu=> ?_,fun i o ho=> ?_,hb.qZ,fun g I hI=> ?_,hb.fresh,by simp only[hblen];exact hb.inj,fun g1 g2 I1 I2 h1 h2 hbb=> ?_,fun i g I hi hI=> ?_,by simp only[hblen];exact hb.sz,fun g I hI=> ?_,by simp only[hblen];exact hb.sb,⟨hkr,h.Bn.2.up (hk .a trivial)⟩,fun i off I hI=> ?_,by simp only[hblen];exact j0 h.n0 hn0,fun i hi=>by rw[hσ i (iC hi h.n0)];exact h.sig i hi,fun b r hbr=>hZ b r (h.zz b r hbr),j0 h.nx hb.nx,fun b hb1 hb2=> ?_,fun i hi=> ?_,fun i off cs h1 h2=> ?_⟩
  ·rw[r8]at hu;cases hq:look s.e t with
   |none=>rw[hq]at hu;simp at hu
   |some x=>
    rw[hq]at hu;simp at hu;subst hu;obtain⟨v,h1,h2⟩:=h.env t x hq;refine⟨v,h1,?_⟩;simp only[hblen];have tag:∀ g,fG L g=false→ω2 g=ω g:=fun g hg=>by
     by_cases hgr:g=.r
     ·subst hgr;rw[hkr,h.wr]
     ·exact hk g (hnl g hg hgr)
    cases x with
    |own g w xs=>
     simp only[U.bV];cases hg:fG L g with
     |true=>trivial
     |false=>exact h2.mono hn0 hσ hZ (fun g' hg' =>by simp[U.tag]at hg';subst hg';exact tag g hg)
    |bI g i f=>
     simp only[U.bV];cases hg:fG L g with
     |true=>trivial
     |false=>exact h2.mono hn0 hσ hZ (fun g' hg' =>by simp[U.tag]at hg';subst hg';exact tag g hg)
    |view g i f l=>
     simp only[U.bV];cases hg:fG L g with
     |true=>trivial
     |false=>exact h2.mono hn0 hσ hZ (fun g' hg' =>by simp[U.tag]at hg';subst hg';exact tag g hg)
    |_=>exact h2.mono hn0 hσ hZ (fun g hg=>by simp[U.tag,U.bV]at hg)
  ·simp only at ho;simp only[hblen];rcases zy ho with⟨ho,hno⟩|⟨cs,cs',hcs,rfl,hl,hc⟩
   ·have h1:=hb.obj i o ho;cases o with
    |row cs=>exact absurd rfl (hno cs)
    |map es c=>exact h1
    |iter q a b c=>exact h1
    |gone=>trivial
   ·obtain⟨ds,q1,q2,q3⟩:=hb.obj i _ hcs;refine⟨ds,q1,by omega,fun off u v hu hv=> ?_⟩;have hlt:off<cs.length:=by have:=(aH.1 hu).1;omega
    rw[hc off hlt]at hu;split at hu
    ·rename_i hm;simp at hu;subst hu;obtain⟨es,w,xs,e1,e2⟩:=hL i off hm;have hca:cellAt s.h i off=.bJ w xs:=by simp[cellAt,e1,e2]
     rw[hca]
     -- it is in use still
     have hle:cs[off]? =some .dB:=by
      have:=fF.1 hbk _ hm;simp only[mD,hcs]at this;split at this
      ·assumption
      ·cases this
     obtain⟨⟨_,hin⟩,ra,rb,k2,k3,k4⟩:=hb.yg.2 i off cs hcs hle;have hin' :i<s.h.length:=(aH.1 e1).1;obtain⟨fs,f1,f2,f3⟩:=h.obj i _ e1;have k3' :st.get (σ i)=some (.row rb):=k3;rw[f1]at k3';simp at k3';subst k3';rw[q1]at k2;simp at k2;subst k2;have:=f3 off _ v e2 (by rw[←k4];exact hv);exact OR.mono hZ (hk (.c i off) hm) this
    ·rename_i hm;exact(q3 off u v hu hv).mono (ak _) (fun _ _=>rfl) (fun _ _ h=>h) (hkn _ hm (by simp))
  ·rcases hc2 g I hI with⟨hg,hx⟩|⟨i,o,rfl,hg,hx⟩
   ·obtain⟨k1,k2⟩:=hT g I hg hx;rw[(hout _ k1 k2).1];exact h.mq _ I hx
   ·exact hb.mq _ I hx
  ·rcases hc2 g1 I1 h1 with⟨hg,hx⟩|⟨i,o,rfl,hg,hx⟩<;>rcases hc2 g2 I2 h2 with⟨hg',hy⟩|⟨j,p,rfl,hg',hy⟩
   ·exact h.ic _ _ _ _ hx hy hbb
   ·obtain⟨k1,k2⟩:=hT g1 I1 hg hx;exact absurd hbb.symm ((hout _ k1 k2).2.2.1 _ _ hy)
   ·obtain⟨k1,k2⟩:=hT g2 I2 hg' hy;exact absurd hbb ((hout _ k1 k2).2.2.1 _ _ hx)
   ·exact hb.ic _ _ _ _ hx hy hbb
  ·simp only[hblen]at hi;rcases hc2 g I hI with⟨hg,hx⟩|⟨j,o,rfl,hg,hx⟩
   ·obtain⟨k1,k2⟩:=hT g I hg hx;exact(hout _ k1 k2).2.1 i hi
   ·exact hb.sw i _ I hi hx
  ·rcases hc2 g I hI with⟨hg,hx⟩|⟨j,o,rfl,hg,hx⟩
   ·obtain⟨k1,k2⟩:=hT g I hg hx;cases hz:Z' I.b with
    |none=>rfl
    |some r=>have:=(hout _ k1 k2).2.2.2 r hz;rw[h.wz _ I hx]at this;cases this
   ·exact hb.wz _ I hx
  ·simp only[hblen];rcases hc2 _ I hI with⟨hg,hx⟩|⟨j,o,he,hg,hx⟩
   ·exact iC (h.wc i off I hx) hn0
   ·cases he;exact hb.wc i off I hx
  ·obtain⟨k1,k2,k3,k4⟩:=h.out b hb1 hb2;have hni:¬gd σ (pU L ω) s.h.length b:=by
    rintro(⟨i,hi,hh⟩|⟨g,J,hJ,hh⟩)
    ·exact k2 i hi hh
    ·exact k3 g J (gh hJ).1 hh
   obtain⟨q1,q2,q3,q4⟩:=hout b (iC hb1 h.nx) hni;refine⟨by rw[q1,k1],by simp only[hblen];exact q2,fun g I hI=> ?_,fun r hr=>k4 r (q4 r hr)⟩;rcases hc2 g I hI with⟨hg,hx⟩|⟨j,o,rfl,hg,hx⟩
   ·exact k3 _ I hx
   ·exact q3 _ I hx
  ·obtain⟨k1,k2,k3⟩:=h.gn i hi;have hg0:(eN L s.h)[i]? =some .gone:=by rw[r7 L (fun cs hh=>by rw[k2]at hh;cases hh)];exact k2
   obtain⟨j1,j2,j3⟩:=hb.gn i hg0;refine⟨k1,?_,j3.trans k3⟩;simp only;have j2' :h'[i]? =some .gone:=j2;rw[zA s.h L (fun cs hh=>by rw[j2']at hh;cases hh)];exact j2'
  ·simp only at h1;rcases zy h1 with⟨_,hno⟩|⟨ds,cs',hcs,hcc,hl,hc⟩
   ·exact absurd rfl (hno cs)
   ·cases hcc;have hlt:off<ds.length:=by have:=(aH.1 h2).1;omega
    rw[hc off hlt]at h2;split at h2
    ·rename_i hm;obtain⟨es,w,xs,e1,e2⟩:=hL i off hm;simp[cellAt,e1,e2]at h2
    ·rename_i hm;obtain⟨⟨hl1,hin⟩,ra,rb,k2,k3,k4⟩:=hb.yg.2 i off ds hcs h2;obtain⟨as,a1,a2⟩:=hl1;have a1' :(eN L s.h)[i]? =some (.row as):=a1;rcases rZ a1' with⟨_,hno⟩|⟨bs,_,b1,hbb,b2,b3⟩
     ·exact absurd rfl (hno as)
     ·cases hbb;have hlt2:off<bs.length:=by have:=(aH.1 a2).1;omega
      rw[b3 off hlt2,if_neg hm]at a2;obtain⟨m1,rc,rd,m2,m3,m4⟩:=h.yg.2 i off bs b1 a2;have k3' :st.get (σ i)=some (.row rb):=k3;rw[m2]at k3';simp at k3';subst k3';exact⟨m1,ra,rd,k2,m3,k4.trans m4⟩
 -- what comes back
 unfold dR;split
 ·rename_i w xs;have hor:OR σ' Z' ω' (.t 0) w xs v:=hr;have hkk:=hOk.kill (.t d);refine⟨_,hkk.Cw (fD _ _) (by simp) (o:=ω' (.t 0)) (fun J hJ=> ?_),?_,rfl⟩
  ·refine⟨hb.mq _ J hJ,fun i hi=>hb.sw i _ J (by rw[dA]at hi;simp only[hblen]at hi;exact hi) hJ,hb.wz _ J hJ,fun g' I' hg' hI' hbb=> ?_,fun b hb1 hb2=> ?_,fun i off hh=>by cases hh⟩
   ·rcases hc2 g' I' hI' with⟨hg,hx⟩|⟨j,o,rfl,hg,hx⟩
    ·obtain⟨k1,k2⟩:=hT g' I' hg hx;exact(hout _ k1 k2).2.2.1 _ _ hJ hbb.symm
    ·have:=hb.ic _ _ _ _ hx hJ hbb;cases this
   ·obtain⟨k1,k2,k3,k4⟩:=h.out b hb1 hb2;have hni:¬gd σ (pU L ω) s.h.length b:=by
     rintro(⟨i,hi,hh⟩|⟨g,J,hJ,hh⟩)
     ·exact k2 i hi hh
     ·exact k3 g J (gh hJ).1 hh
    exact(hout b (iC hb1 h.nx) hni).2.2.1 _ _ hJ
  ·refine⟨?_,fun i off hh=>by cases hh⟩;unfold OR at hor⊢;rw[bt];exact hor
 ·rename_i hno;refine⟨ω2,hOk,?_,rfl⟩;simp only[hblen];cases r with
  |own g w xs=>
   cases g with
   |r=>exact absurd rfl (hno w xs)
   |t x=>exact hr.elim
   |c i o=>exact hr.elim
   |a=>exact hr.elim
  |_=>exact TR.bE hr
theorem LB{h:List Uo}:∀ {ev:Env} {i off:Nat},(i,off)∈iy h ev→∃ cs w xs,h[i]? =some (.row cs)∧cs[off]? =some (.bJ w xs):=by
 intro ev
 induction ev with
 |nil=>intro i off h;cases h
 |cons x r ih=>
  intro i off hm;obtain⟨k,u⟩:=x;simp only[iy]at hm;split at hm
  ·split at hm
   ·split at hm
    ·rcases bT.1 hm with hh|hh
     ·cases hh;exact⟨_,_,_,‹_›,‹_›⟩
     ·exact ih hh
    ·exact ih hm
   ·exact ih hm
  ·exact ih hm
theorem Fl.mF(h:Fl s)(L:List (Nat×Nat))(E' :Env):Fl {s with e:=E',h:=eN L s.h}:=by
 have:∀ (L:List (Nat×Nat)) {s:Vs},Fl s→Fl {s with h:=eN L s.h}:=by
  intro L
  induction L with
  |nil=>intro s h;exact h
  |cons x L ih=>intro s h;obtain⟨i,off⟩:=x;exact ih (h.setCell (i:=i) (off:=off) (v:=.dB) (fun _=>rfl) s.e)
 exact(this L h).env E'
theorem Fl.back{h0 h' :List Uo}{fl:Nat}:∀ (L:List (Nat×Nat)) {h' :List Uo},(∀ i off,(i,off)∈L→∃ cs w xs,h0[i]? =some (.row cs)∧cs[off]? =some (.bJ w xs))→Fl ⟨[],h',fl⟩→Fl ⟨[],jd h0 L h',fl⟩:=by
 intro L
 induction L with
 |nil=>intro h' _ h;exact h
 |cons x L ih=>
  intro h' hL h;obtain⟨i,off⟩:=x;obtain⟨cs,w,xs,e1,e2⟩:=hL i off cB;exact ih (fun j o hm=>hL j o (eu _ hm)) (h.setCell (i:=i) (off:=off) (v:=cellAt h0 i off) (fun m=>by simp[cellAt,e1,e2];rfl) [])
end
end Go.RE
namespace Go.RE
section
variable{E:q9}{σ:Sg}{Z:Zs}{ω:Om}{s s' :Vs}{e:PT V}{st:St}{n:Nat}
theorem pS(σ:Sg)(b:Nat):¬gd σ (fun _=>none) 0 b:=by
 rintro(⟨i,hi,_⟩|⟨g,I,hI,_⟩)
 ·omega
 ·cases hI
theorem OR.to{σ2:Sg}{Z2:Zs}{ω2:Om}{g g2:Tg}{w:Nat}{xs:List (List U)}{v:V}(h:OR σ Z ω g w xs v)(hZ:∀ b r,Z b=some r→Z2 b=some r)(hω:ω2 g2=ω g):OR σ2 Z2 ω2 g2 w xs v:=by
 unfold OR at h⊢;rw[hω];split at h
 ·exact h
 ·exact⟨h.1,h.2.1,h.2.2.1,h.2.2.2.1,h.2.2.2.2.1,h.2.2.2.2.2.mono (ak 0) (fun i hi=>by omega) hZ⟩
theorem OB.shift{σ2:Sg}{ω2:Om}{k m j:Nat}(hσ:∀ i,i<n→σ2 (i+k)=σ i)(hm:n+k≤m)(hω:∀ off,ω2 (.c (j+k) off)=ω (.c j off)){o:Uo}{ob:Option Ob}(h:OB σ Z ω n j o ob):OB σ2 Z ω2 m (j+k) (eV k o) ob:=by
 cases o with
 |row cs=>
  obtain⟨cs',h1,h2,h3⟩:=h;refine⟨cs',h1,by rw[og];exact h2,fun off u v hu hv=> ?_⟩;obtain⟨x,hx,rfl⟩:=lD hu;have:=h3 off x v hx hv;cases x with
  |bad=>trivial
  |bJ w xs=>exact OR.to this (fun _ _ h=>h) (hω off)
  |ptr i o=>exact UR.shift hσ hm this
  |map i=>exact UR.shift hσ hm this
  |func f a b=>exact UR.shift hσ hm this
  |iface t v=>exact UR.shift hσ hm this
  |agg cs=>exact UR.shift hσ hm this
  |aZ cs=>exact UR.shift hσ hm this
  |bool b=>exact UR.shift hσ hm this
  |int k x=>exact UR.shift hσ hm this
  |str x=>exact UR.shift hσ hm this
  |br=>exact UR.shift hσ hm this
  |bB=>exact UR.shift hσ hm this
  |bS=>exact UR.shift hσ hm this
  |dJ=>exact UR.shift hσ hm this
  |di=>exact UR.shift hσ hm this
  |eR r o=>exact UR.shift hσ hm this
  |sl w xs=>exact UR.shift hσ hm this
  |nl w=>exact UR.shift hσ hm this
  |own g w xs=>exact UR.shift hσ hm this
  |bI g i f=>exact UR.shift hσ hm this
  |zw i o l w=>exact UR.shift hσ hm this
  |view g i l w=>exact UR.shift hσ hm this
  |dB=>trivial
 |map es c=>
  obtain⟨es',h1,h2,h3⟩:=h;refine⟨es',h1,by simp[h2],fun q x y hx hy=> ?_⟩;rw[gE]at hx;cases hq:es[q]? with
  |none=>rw[hq]at hx;simp at hx
  |some z=>
   rw[hq]at hx;simp at hx;subst hx;obtain⟨k1,k2,k3⟩:=h3 q z y hq hy;exact⟨UR.shift hσ hm k1,UR.shift hσ hm k2,k3⟩
 |iter q a b c=>
  obtain⟨h1,h2⟩:=h;refine⟨?_,fun i hi=> ?_⟩
  ·rw[h1];cases q with
   |none=>rfl
   |some i=>simp only[kP,hσ i (h2 i rfl)]
  ·cases q with
   |none=>cases hi
   |some i0=>simp at hi;subst hi;have:=h2 i0 rfl;omega
 |gone=>trivial
theorem Ok.FK(h:Ok E σ Z ω s e st){σ' :Sg}{Z' :Zs}{ω' :Om}{hc:List Uo}{fc fl2:Nat}{st' :St}{r:U}{v:V}{d:Nat}
  (hb:Ok ⟨0,σ,gd σ (fun _=>none) 0,Z,st,fun i=>([]:List Uo)[i]? =some .gone,none,jJ ([]:List Uo)⟩ σ' Z' ω' ⟨[],hc,fc⟩ .e st') (ht:∀ d,d≠0→ω' (.t d)=none) (hr:RR σ' Z' ω' hc.length r v):
  ∃ σ2 ω2,Ok E σ2 Z' ω2 (dR d (r.shift s.h.length) {s with h:=s.h++hc.map (eV s.h.length),fl:=fl2}).2 e st'∧
   TR σ2 Z' ω2 (dR d (r.shift s.h.length) {s with h:=s.h++hc.map (eV s.h.length),fl:=fl2}).2.h.length (dR d (r.shift s.h.length) {s with h:=s.h++hc.map (eV s.h.length),fl:=fl2}).1 v∧
   (dR d (r.shift s.h.length) {s with h:=s.h++hc.map (eV s.h.length),fl:=fl2}).2.h=s.h++hc.map (eV s.h.length)∧(∀ i,i<s.h.length→σ2 i=σ i)∧∀ b r,Z b=some r→Z' b=some r:=by
 have hZ:∀ b r,Z b=some r→Z' b=some r:=hb.zz;have hout:∀ b,b<st.next→st'.get b=st.get b∧(∀ i,i<hc.length→σ' i≠b)∧(∀ g I,ω' g=some I→I.b≠b)∧(∀ r,Z' b=some r→Z b=some r):=fun b hb1=>hb.out b hb1 (pS σ b)
 have hlt:∀ g I,ω g=some I→I.b<st.next:=fun g I hI=>h.lt_next (h.mq g I hI)
 generalize hk:s.h.length=k at*;let σ2:Sg:=fun i=>if i<k then σ i else σ' (i - k)
 let ω2:Om:=fun g=>match g with
  | .t x=>ω (.t x)
  | .c i o=>if i<k then ω (.c i o)else ω' (.c (i - k) o)
  | .r=>none
  | .a=>ω .a
 have hs1:∀ i,i<k→σ2 i=σ i:=fun i hi=>if_pos hi;have hs2:∀ i,σ2 (i+k)=σ' i:=fun i=>by
  show(if i+k<k then σ (i+k)else σ' (i+k - k))=_;rw[if_neg (by omega),Kz]
 have hc2:∀ g I,ω2 g=some I→(ω g=some I∧(∀ i o,g=.c i o→i<k))∨(∃ i o,g=.c (i+k) o∧ω' (.c i o)=some I):=fun g I hI=>by
  cases g with
  |t x=>exact .inl ⟨hI,fun i o hh=>by cases hh⟩
  |c i o=>
   have hI' :(if i<k then ω (.c i o)else ω' (.c (i - k) o))=some I:=hI;by_cases hi:i<k
   ·rw[if_pos hi]at hI';exact .inl ⟨hI',fun i' o' hh=>by cases hh;exact hi⟩
   ·rw[if_neg hi]at hI';exact .inr ⟨i - k,o,by congr 1;omega,hI'⟩
  |r=>cases hI
  |a=>exact .inl ⟨hI,fun i o hh=>by cases hh⟩
 have hlen:(s.h++hc.map (eV k)).length=k+hc.length:=by simp[hk]
 have hcase:∀ i,i<k+hc.length→i<k∨∃ j,i=j+k∧j<hc.length:=fun i hi=>by
  by_cases h1:i<k
  ·exact .inl h1
  ·exact .inr ⟨i - k,by omega,by omega⟩
 have hOk:Ok E σ2 Z' ω2 {s with h:=s.h++hc.map (eV k),fl:=fl2} e st' :=by
  refine⟨fun t u hu=> ?_,fun i o ho=> ?_,hb.qZ,fun g I hI=> ?_,hb.fresh,fun i j hi hj hij=> ?_,fun g1 g2 I1 I2 h1 h2 hbb=> ?_,fun i g I hi hI=> ?_,fun i hi=> ?_,fun g I hI=> ?_,fun i hi=> ?_,⟨rfl,h.Bn.2.up rfl⟩,fun i off I hI=> ?_,?_,fun i hi=> ?_,fun b r hbr=>hZ b r (h.zz b r hbr),j0 h.nx hb.nx,fun b hb1 hb2=> ?_,fun i hi=> ?_,fun i off cs h1 h2=> ?_⟩
  ·obtain⟨v,h1,h2⟩:=h.env t u hu;rw[hk]at h2;simp only[hlen];refine⟨v,h1,h2.mono (by omega) hs1 hZ fun g hg=> ?_⟩;cases g with
   |t x=>rfl
   |r=>exact h.wr.symm
   |a=>rfl
   |c i o=>
    show(if i<k then ω (.c i o)else ω' (.c (i - k) o))=_;rw[if_pos];cases u with
    |own g' w xs=>simp[U.tag]at hg;subst hg;exact h2.2 i o rfl
    |bI g' i' f=>simp[U.tag]at hg;subst hg;exact h2.2 i o rfl
    |view g' i' f l=>simp[U.tag]at hg;subst hg;exact h2.2 i o rfl
    |_=>simp[U.tag]at hg
  ·simp only[hlen];by_cases hi:i<k
   ·have hi' :i<s.h.length:=by omega
    simp only[bG hi']at ho;rw[hs1 i hi,(hout _ (h.sb i hi')).1];have:=h.obj i o ho;rw[hk]at this;exact this.mono (by omega) hs1 hZ fun off=>if_pos hi
   ·simp only at ho;rw[dh (by omega),gE,hk]at ho;cases hq:hc[i - k]? with
    |none=>rw[hq]at ho;simp at ho
    |some x=>
     rw[hq]at ho;simp at ho;subst ho;have:=hb.obj (i - k) x hq;have e1:i=(i - k)+k:=by omega
     rw[e1,hs2];refine OB.shift (n:=hc.length) (fun i hi=>hs2 i) (by omega) (fun off=> ?_) this;show(if i - k+k<k then _ else ω' (.c (i - k+k - k) off))=_;rw[if_neg (by omega),Kz]
  ·rcases hc2 g I hI with⟨hx,_⟩|⟨i,o,rfl,hx⟩
   ·rw[(hout _ (hlt g I hx)).1];exact h.mq g I hx
   ·exact hb.mq _ I hx
  ·simp only[hlen]at hi hj;rcases hcase i hi with hi' |⟨p,rfl,hp⟩<;>rcases hcase j hj with hj' |⟨q,rfl,hq⟩
   ·rw[hs1 i hi',hs1 j hj']at hij;exact h.inj i j (by omega) (by omega) hij
   ·rw[hs1 i hi',hs2]at hij;exact absurd hij.symm ((hout _ (h.sb i (by omega))).2.1 q hq)
   ·rw[hs2,hs1 j hj']at hij;exact absurd hij ((hout _ (h.sb j (by omega))).2.1 p hp)
   ·rw[hs2,hs2]at hij;rw[hb.inj p q hp hq hij]
  ·rcases hc2 g1 I1 h1 with⟨hx,_⟩|⟨i,o,rfl,hx⟩<;>rcases hc2 g2 I2 h2 with⟨hy,_⟩|⟨j,p,rfl,hy⟩
   ·exact h.ic _ _ _ _ hx hy hbb
   ·exact absurd hbb.symm ((hout _ (hlt g1 I1 hx)).2.2.1 _ _ hy)
   ·exact absurd hbb ((hout _ (hlt g2 I2 hy)).2.2.1 _ _ hx)
   ·have:=hb.ic _ _ _ _ hx hy hbb;cases this;rfl
  ·simp only[hlen]at hi;rcases hcase i hi with hi' |⟨p,rfl,hp⟩<;>rcases hc2 g I hI with⟨hx,_⟩|⟨j,o,rfl,hx⟩
   ·rw[hs1 i hi'];exact h.sw i g I (by omega) hx
   ·rw[hs1 i hi'];exact fun hh=>(hout _ (h.sb i (by omega))).2.2.1 _ _ hx hh.symm
   ·rw[hs2];exact(hout _ (hlt g I hx)).2.1 p hp
   ·rw[hs2];exact hb.sw p _ I hp hx
  ·simp only[hlen]at hi;rcases hcase i hi with hi' |⟨p,rfl,hp⟩
   ·rw[hs1 i hi'];cases hz:Z' (σ i)with
    |none=>rfl
    |some r=>have:=(hout _ (h.sb i (by omega))).2.2.2 r hz;rw[h.sz i (by omega)]at this;cases this
   ·rw[hs2];exact hb.sz p hp
  ·rcases hc2 g I hI with⟨hx,_⟩|⟨j,o,rfl,hx⟩
   ·cases hz:Z' I.b with
    |none=>rfl
    |some r=>have:=(hout _ (hlt g I hx)).2.2.2 r hz;rw[h.wz g I hx]at this;cases this
   ·exact hb.wz _ I hx
  ·simp only[hlen]at hi;rcases hcase i hi with hi' |⟨p,rfl,hp⟩
   ·rw[hs1 i hi'];exact iC (h.sb i (by omega)) hb.nx
   ·rw[hs2];exact hb.sb p hp
  ·simp only[hlen];rcases hc2 (.c i off) I hI with⟨hx,hy⟩|⟨j,o,he,hx⟩
   ·have:=hy i off rfl;omega
   ·cases he;have:j<hc.length:=hb.wc j off I hx;omega
  ·simp only[hlen];have:=h.n0;omega
  ·rw[hs1 i (by have:=h.n0;omega)];exact h.sig i hi
  ·obtain⟨k1,k2,k3,k4⟩:=h.out b hb1 hb2;obtain⟨q1,q2,q3,q4⟩:=hout b (iC hb1 h.nx);refine⟨by rw[q1,k1],fun i hi=> ?_,fun g I hI=> ?_,fun r hr=>k4 r (q4 r hr)⟩
   ·simp only[hlen]at hi;rcases hcase i hi with hi' |⟨p,rfl,hp⟩
    ·rw[hs1 i hi'];exact k2 i (by omega)
    ·rw[hs2];exact q2 p hp
   ·rcases hc2 g I hI with⟨hx,_⟩|⟨j,o,rfl,hx⟩
    ·exact k3 g I hx
    ·exact q3 _ I hx
  ·obtain⟨k1,k2,k3⟩:=h.gn i hi;have hlt:=(aH.1 k2).1;exact⟨k1,by simp only[bG hlt];exact k2,by rw[hs1 i (by omega),(hout _ (h.sb i hlt)).1];exact k3⟩
  ·simp only at h1;by_cases hi:i<k
   ·have hi' :i<s.h.length:=by omega
    rw[bG hi']at h1;rw[hs1 i hi,(hout _ (h.sb i hi')).1];exact h.yg.2 i off cs h1 h2
   ·exfalso;rw[dh (by omega),gE,hk]at h1;cases hq:hc[i - k]? with
    |none=>rw[hq]at h1;simp at h1
    |some x=>
     rw[hq]at h1;cases x with
     |row ds=>
      simp[eV]at h1;subst h1;obtain⟨y,hy,hyl⟩:=lD h2;have:y=.dB:=by cases y<;>simp[U.shift]at hyl⊢
      subst this;obtain⟨⟨⟨fs,f1,_⟩,_⟩,_⟩:=hb.yg.2 _ off ds hq hy;simp at f1
     |map _ _=>simp[eV]at h1
     |iter _ _ _ _=>simp[eV]at h1
     |gone=>simp[eV]at h1
 refine⟨σ2,?_⟩;have hown:∀ w xs,OR σ' Z' ω' (.t 0) w xs v→∃ ω3,Ok E σ2 Z' ω3 (({s with h:=s.h++hc.map (eV k),fl:=fl2}:Vs).kill (.t d)) e st'∧OR σ2 Z' ω3 (.t d) w xs v:=by
  intro w xs hor;refine⟨_,(hOk.kill (.t d)).Cw (fD _ _) (by simp) (o:=ω' (.t 0)) (fun J hJ=> ?_),OR.to hor (fun _ _ h=>h) (bt _ _ _)⟩;refine⟨hb.mq _ J hJ,fun i hi=> ?_,hb.wz _ J hJ,fun g' I' hg' hI' hbb=> ?_,fun b hb1 hb2=>(hout b (iC hb1 h.nx)).2.2.1 _ _ hJ,fun i off hh=>by cases hh⟩
  ·rw[dA]at hi;simp only[hlen]at hi;rcases hcase i hi with hi' |⟨p,rfl,hp⟩
   ·rw[hs1 i hi'];exact fun hh=>(hout _ (h.sb i (by omega))).2.2.1 _ _ hJ hh.symm
   ·rw[hs2];exact hb.sw p _ J hp hJ
  ·rcases hc2 g' I' hI' with⟨hx,_⟩|⟨j,o,rfl,hx⟩
   ·exact(hout _ (hlt g' I' hx)).2.2.1 _ _ hJ hbb.symm
   ·have:=hb.ic _ _ _ _ hx hJ hbb;cases this
 have hpl:∀ u,UR σ' Z' hc.length u v→TR σ2 Z' ω2 (k+hc.length) (u.shift k) v:=fun u hu=>TR.bE (UR.shift (fun i hi=>hs2 i) (by omega) hu);have hlen' :(s.h++hc.map (eV k)).length=k+hc.length:=hlen;cases r with
 |own g w xs=>
  cases g with
  |r=>
   obtain⟨ω3,k1,k2⟩:=hown w xs hr;exact⟨ω3,k1,⟨k2,fun i off hh=>by cases hh⟩,rfl,hs1,hZ⟩
  |t x=>exact hr.elim
  |a=>exact hr.elim
  |c i o=>exact hr.elim
 |bad=>exact⟨ω2,hOk,by simp only[dR,U.shift];trivial,rfl,hs1,hZ⟩
 |_=>exact⟨ω2,hOk,by simp only[dR,U.shift,hlen'];exact hpl _ hr,rfl,hs1,hZ⟩
theorem Ok.It(h:Ok E σ Z ω s e st){σ' :Sg}{Z' :Zs}{ω' :Om}{fc:Nat}{st' :St}{r:U}{v:V}{d:Nat}
  (hb:Ok ⟨0,σ,gd σ (fun _=>none) 0,mF ω Z,st,fun i=>([]:List Uo)[i]? =some .gone,none,jJ ([]:List Uo)⟩ σ' Z' ω' ⟨[],[],fc⟩ .e st') (hr:RR σ' Z' ω' 0 r v) (hf:r.flat=true):
  ∃ ω2,Ok E σ Z ω2 (dR d r s).2 e st'∧TR σ Z ω2 (dR d r s).2.h.length (dR d r s).1 v∧(dR d r s).2.h=s.h:=by
 have hout:∀ b,b<st.next→st'.get b=st.get b∧(∀ g I,ω' g=some I→I.b≠b):=fun b hb1=>⟨(hb.out b hb1 (pS σ b)).1,(hb.out b hb1 (pS σ b)).2.2.1⟩
 have hOk:Ok E σ Z ω s e st' :=h.mem hb.nx hb.fresh fun b hbb=>(hout b (h.AN hbb)).1;have hur:∀ u,UR σ' Z' 0 u v→u.flat=true→TR σ Z ω s.h.length u v:=fun u hu hf=>TR.bE ((hu.flat hf).mono (bU _) (fun i hi=>by omega) (fun _ _ h=>h));cases r with
 |own g w xs=>
  cases g with
  |r=>
   have hor:OR σ' Z' ω' (.t 0) w xs v:=hr;refine⟨_,(hOk.kill (.t d)).Cw (fD _ _) (by simp) (o:=ω' (.t 0)) (fun J hJ=> ?_),⟨OR.flat hor (bt _ _ _) (by simpa[U.flat]using hf),fun i off hh=>by cases hh⟩,rfl⟩;have hge:∀ b,b<st.next→J.b≠b:=fun b hb1=>(hout b hb1).2 _ _ hJ
   refine⟨hb.mq _ J hJ,fun i hi hh=> ?_,?_,fun g' I' hg' hI' hbb=> ?_,fun b hb1 hb2=>hge b (iC hb1 h.nx),fun i off hh=>by cases hh⟩
   ·rw[dA]at hi;exact hge _ (h.sb i hi) hh.symm
   ·cases hz:Z J.b with
    |none=>rfl
    |some r=>exact absurd rfl (hge _ (h.Cg (h.qZ _ _ hz)))
   ·exact hge _ (h.lt_next (h.mq _ _ hI')) hbb.symm
  |t x=>exact hr.elim
  |a=>exact hr.elim
  |c i o=>exact hr.elim
 |_=>exact⟨ω,hOk,hur _ hr hf,rfl⟩
theorem BA{P:Nat→List V→St→(V→St→Prop)→Prop}{F:FU}(hP:∀ f vs st k k',(∀ v s,k v s→k' v s)→P f vs st k→P f vs st k')(hF:Yu P F){ld:Bool}{d f:Nat}{args:List U}{vs:List V}{u:U}(h:Ok E σ Z ω s e st)(hF0:Fl s)
  (hl:args.length=vs.length) (ha:∀ (j:Nat) u v,args[j]? =some u→vs[j]? =some v→TR σ Z ω s.h.length u v) (hc:j9 ld F d f args s=some (u,s')):
  P f vs st fun v st' =>Fl s'∧∃ σ' Z' ω',Ok E σ' Z' ω' s' e st'∧TR σ' Z' ω' s'.h.length u v∧s.h.length≤s'.h.length∧(∀ i,i<s.h.length→σ' i=σ i)∧(∀ b r,Z b=some r→Z' b=some r)∧
   ((∀ us,iq args=some us→U.bZ 0 us=true)→∀ b,b<st.next→st'.get b=st.get b):=by
 unfold j9 at hc;obtain⟨us,hus⟩:∃ us,iq args=some us:=by
  cases hq:iq args with
  |none=>rw[hq]at hc;simp at hc
  |some us=>exact⟨us,rfl⟩
 ·rw[hus]at hc;simp only at hc;cases hlow:U.bZ 0 us with
  |true=>
   rw[hlow]at hc;simp only[cond_true]at hc;cases hcall:F f us [] 0 with
   |none=>rw[hcall]at hc;simp at hc
   |some R=>
    obtain⟨r,hcs,fc⟩:=R;rw[hcall]at hc;simp only[ag]at hc
    -- without what is dB
    have plain:∀ {s1:Vs} {Z1:Zs} {ω1:Om},Ok E σ Z1 ω1 s1 e st→Fl s1→s1.h.length=s.h.length→(∀ b r,Z b=some r→Z1 b=some r)→LU σ Z1 s.h.length us vs→
      rY d r hcs fc s1=(u,s')→
      P f vs st fun v st' =>Fl s'∧∃ σ' Z' ω',Ok E σ' Z' ω' s' e st'∧TR σ' Z' ω' s'.h.length u v∧s.h.length≤s'.h.length∧(∀ i,i<s.h.length→σ' i=σ i)∧(∀ b r,Z b=some r→Z' b=some r)∧
       ((∀ us,iq args=some us→U.bZ 0 us=true)→∀ b,b<st.next→st'.get b=st.get b):=by
     intro s1 Z1 ω1 h1 hf1 hlen hZ hlu hfin;have hlu0:LU σ Z1 0 us vs:=hlu.low hlow;refine hP _ _ _ _ _ ?_ (hF f us [] 0 r hcs fc hcall σ Z1 (fun _=>none) st vs (h1.iso h1.qZ 0) ⟨ak _,fun i o ho=>by simp at ho⟩ (fun _=>rfl) hlu0);rintro v st' ⟨k0,σ',Z',ω',k1,k2,k3⟩;have hfs:Fl s' :=by have:=hf1.land k0 d r;rw[hfin]at this;exact this
     refine⟨hfs,?_⟩;obtain⟨σ2,ω2,q1,q2,q3,q4,q5⟩:=h1.FK (d:=d) (fl2:=bif Nat.beq fc 0 then s1.fl else s1.h.length+fc) k1 k2 k3;have hframe:∀ b,b<st.next→st'.get b=st.get b:=fun b hb=>(k1.out b hb (pS σ b)).1
     cases hcs with
     |nil=>
      simp only[rY]at hfin
      -- nothing is laid
      have hOk2:∃ σ2 ω2,Ok E σ2 Z' ω2 (dR d r s1).2 e st'∧TR σ2 Z' ω2 (dR d r s1).2.h.length (dR d r s1).1 v∧(dR d r s1).2.h=s1.h∧∀ i,i<s1.h.length→σ2 i=σ i:=by
       obtain⟨σ2,ω2,q1,q2,q3,q4,q5⟩:=h1.FK (d:=d) (fl2:=s1.fl) k1 k2 k3;have e1:({s1 with h:=s1.h++List.map (eV s1.h.length) [],fl:=s1.fl}:Vs)=s1:=by simp
       rw[e1]at q1 q2 q3;have hpl:∀ {u:U},UR σ' Z' 0 u v→TR σ2 Z' ω2 s1.h.length u v:=fun hu=>TR.bE (hu.mono (bU _) (fun i hi=>by omega) (fun _ _ h=>h));cases r with
       |own g w xs=>
        cases g with
        |r=>exact⟨σ2,ω2,q1,q2,by simpa[dR,U.shift]using q3,q4⟩
        |t x=>exact k3.elim
        |a=>exact k3.elim
        |c i o=>exact k3.elim
       |_=>exact⟨σ2,ω2,q1,hpl k3,rfl,q4⟩
      obtain⟨σ2,ω3,p1,p2,p3,p4⟩:=hOk2;rw[hfin]at p1 p2 p3;exact⟨σ2,Z',ω3,p1,p2,by rw[p3];omega,fun i hi=>p4 i (by omega),fun b r hb=>q5 b r (hZ b r hb),fun _=>hframe⟩
     |cons a as=>
      simp only[rY]at hfin;rw[hfin]at q1 q2 q3;exact⟨σ2,Z',ω2,q1,q2,by rw[q3];simp;omega,fun i hi=>q4 i (by omega),fun b r hb=>q5 b r (hZ b r hb),fun _=>hframe⟩
    have hOwnArgs:∀ {Z' :Zs},(∀ b r,Z b=some r→Z' b=some r)→(∀ g w xs I,.own g w xs∈args→ω g=some I→Z' I.b=some I.row)→LU σ Z' s.h.length us vs:=fun hz ho=>Aq hz hus hl ha ho;cases hany:rL args with
    |false=>
     rw[hany]at hc;simp only[Yn,cond_false]at hc;have hno:∀ {args:List U},rL args=false→∀ g w xs,.own g w xs ∉ args:=by
      intro args
      induction args with
      |nil=>intro _ g w xs hm;cases hm
      |cons a args ih=>
       intro h g w xs hm;simp only[rL,DT]at h;rcases bT.1 hm with hh|hh
       ·rw[←hh]at h;cases h.1
       ·exact ih h.2 g w xs hh
     exact plain h hF0 rfl (fun _ _ h=>h) (hOwnArgs (fun _ _ h=>h) fun g w xs I hm=>absurd hm (hno hany g w xs)) hc
    |true=>
     rw[hany]at hc;simp only[PJ]at hc;cases hfl:(r.flat&&hcs.isEmpty)with
     |false=>
      rw[hfl]at hc;simp only[KH,cond_true]at hc;obtain⟨Z1,ω1,b1,b2,b3,b4,b5⟩:=qy (args:=args) (tc hus) h;exact plain b1 hF0.aJ b3 b2 (hOwnArgs b2 b5) hc
     |true=>
      rw[hfl]at hc;simp only[xR,cond_false]at hc;simp only[aI]at hfl;have hc0:hcs=[]:=by cases hcs with|nil=>rfl|cons a as=>simp at hfl
      subst hc0;simp only[rY]at hc;have hlu0:LU σ (mF ω Z) 0 us vs:=(hOwnArgs (fun b r hb=>SK h hb) fun g w xs I _ hg=>B8 h hg).low hlow;have hlz:∀ b r,mF ω Z b=some r→st.row b=some r:=fun b r hb=>by
       rcases u9 hb with hb|⟨g,I,hg,rfl,rfl⟩
       ·exact h.qZ b r hb
       ·exact iZ (h.mq g I hg)
      refine hP _ _ _ _ _ ?_ (hF f us [] 0 r [] fc hcall σ (mF ω Z) (fun _=>none) st vs (h.iso hlz 0) ⟨ak _,fun i o ho=>by simp at ho⟩ (fun _=>rfl) hlu0);rintro v st' ⟨k0,σ',Z',ω',k1,k2,k3⟩;refine⟨by have:=hF0.dR d r;rw[hc]at this;exact this,?_⟩;obtain⟨ω2,p1,p2,p3⟩:=h.It (d:=d) k1 k3 hfl.1;rw[hc]at p1 p2 p3;exact⟨σ,Z,ω2,p1,p2,by rw[p3];exact ak _,fun _ _=>rfl,fun _ _ h=>h,fun _ b hb=>(k1.out b hb (pS σ b)).1⟩
  |false=>
   rw[hlow]at hc;simp only[cond_false]at hc;obtain⟨Z1,ω1,b1,b2,b3,b4,b5⟩:=qy (args:=args) (tc hus) h;have hlu:LU σ Z1 s.h.length us vs:=Aq b2 hus hl ha b5;have gen:∀ (L:List (Nat×Nat)),(∀ i off,(i,off)∈L→∃ cs w xs,(aJ args s).h[i]? =some (.row cs)∧cs[off]? =some (.bJ w xs))→∀ r h' fl',F f us (eN L (aJ args s).h) (aJ args s).fl=some (r,h',fl')→L.all (mD h')=true→
     dR d r {e:=Env.bV (fG L) (aJ args s).e,h:=jd (aJ args s).h L h',fl:=fl'}=(u,s')→
     P f vs st fun v st' =>Fl s'∧∃ σ' Z' ω',Ok E σ' Z' ω' s' e st'∧TR σ' Z' ω' s'.h.length u v∧s.h.length≤s'.h.length∧(∀ i,i<s.h.length→σ' i=σ i)∧(∀ b r,Z b=some r→Z' b=some r)∧
      ((∀ us,iq args=some us→U.bZ 0 us=true)→∀ b,b<st.next→st'.get b=st.get b):=by
    intro L hL r h' fl' hcall hbk hc;refine hP _ _ _ _ _ ?_ (hF f us _ _ r h' fl' hcall σ Z1 (pU L ω1) st vs (b1.shared L _) (hF0.aJ.mF L []) (fun _=>tJ trivial) (by rw[nc,b3];exact hlu));rintro v st' ⟨k0,σ',Z',ω',k1,k2,k3⟩;refine⟨by have:=Fl.dR (s:={e:=Env.bV (fG L) (aJ args s).e,h:=jd (aJ args s).h L h',fl:=fl'}) ((Fl.back (h' :=h') L hL k0).env _) d r;rw[hc]at this;exact this,?_⟩;obtain⟨ω2,p1,p2,p3⟩:=b1.KQ (d:=d) hL k1 k2 k3 hbk;rw[hc]at p1 p2 p3;have hn0:(aJ args s).h.length≤h'.length:=by have:=k1.n0;simp only[nc]at this;exact this
    exact⟨σ',Z',ω2,p1,p2,by rw[p3,Ep];omega,fun i hi=>k1.sig i (by simp only[nc];omega),fun b r hb=>k1.zz b r (b2 b r hb),fun hq=>absurd (hq us hus) (by rw[hlow];simp)⟩
   cases ld with
   |true=>
    simp only[cond_true]at hc;cases hcall:F f us (eN (iy (aJ args s).h (aJ args s).e) (aJ args s).h) (aJ args s).fl with
    |none=>rw[hcall]at hc;simp at hc
    |some R=>
     obtain⟨r,h',fl'⟩:=R;rw[hcall]at hc;simp only at hc;cases hbk:(iy (aJ args s).h (aJ args s).e).all (mD h')with
     |false=>rw[hbk]at hc;simp at hc
     |true=>
      rw[hbk]at hc;simp only[cond_true,ag]at hc;exact gen _ (fun i off hm=>LB hm) r h' fl' hcall hbk hc
   |false=>
    simp only[cond_false]at hc;cases hcall:F f us (aJ args s).h (aJ args s).fl with
    |none=>rw[hcall]at hc;simp at hc
    |some R=>
     obtain⟨r,h',fl'⟩:=R;rw[hcall]at hc;simp only[ag]at hc;have e1:fG []=Tg.isC:=by funext g;cases g<;>rfl
     exact gen [] (fun i off hm=>by cases hm) r h' fl' hcall rfl (by rw[e1];exact hc)
end
end Go.RE
namespace Go.RE
variable{C:Nat→Option cq}{M:qn}
theorem Zu{Q:Nat→Nat→Prop}(hm:∀ i a b,a≤b→Q i a→Q i b):∀ {n:Nat},(∀ i,i<n→∃ m,Q i m)→∃ m,∀ i,i<n→Q i m:=by
 intro n
 induction n with
 |zero=>intro _;exact⟨0,fun i hi=>by omega⟩
 |succ n ih=>
  intro h;obtain⟨m,h1⟩:=ih fun i hi=>h i (by omega);obtain⟨k,h2⟩:=h n (by omega);refine⟨max m k,fun i hi=> ?_⟩;by_cases hin:i<n
  ·exact hm _ _ _ (jW _ _) (h1 i hin)
  ·have:i=n:=by omega
   subst this;exact hm _ _ _ (qi _ _) h2
abbrev Fam:=Nat→Nat→List V→St→(V→St→Prop)→Prop
def YZ(Fn:Fam):Prop:=∀ a b,a≤b→Rm (Fn a) (Fn b)
def Nz(Fn:Fam)(n:Nat):Prop:=∀ f args s (K:Nat→V→St→Prop),(∀ a b v s,a≤b→K a v s→K b v s)→Fn n f args s (fun v s=>∃ m,K m v s)→∃ m,n≤m∧Fn m f args s (K m)
theorem QN{K:Nat→V→St→Prop}(hK:∀ a b v s,a≤b→K a v s→K b v s){s:St}{b:Nat}(h:qw s b fun v s=>∃ m,K m v s):∃ m,qw s b (K m):=by
 unfold qw at h⊢;cases hs:s.get b with
 |none=>simp only[hs]at h;exact h.elim
 |some ob=>
  cases ob with
  |row cs=>simp only[hs]at h;exact h.elim
  |wG cs=>simp only[hs]at h;exact h.elim
  |map es c=>simp only[hs]at h;exact h.elim
  |dead=>simp only[hs]at h;exact h.elim
  |gA m since seen last=>
   cases m with
   |none=>simp only[hs]at h⊢;exact h
   |some mm=>
    simp only[hs]at h⊢;cases hm:s.get mm with
    |none=>simp only[hm]at h;exact h.elim
    |some ob2=>
     cases ob2 with
     |row cs=>simp only[hm]at h;exact h.elim
     |wG cs=>simp only[hm]at h;exact h.elim
     |gA a b c d=>simp only[hm]at h;exact h.elim
     |dead=>simp only[hm]at h;exact h.elim
     |map es clock=>
      simp only[hm]at h⊢;cases hst:(!seen.isEmpty&& !es.isEmpty&&es.all (fun e=>Nat.ble last e.born))with
      |true=>rw[hst]at h;exact h.elim
      |false=>
       rw[hst]at h;simp only[cond_false]at h⊢;let Q:Nat→Nat→Prop:=fun i m=>match(ep es since seen)[i]? with
        |some (some e)=>K m (.aZ [.bool true,e.key,e.val]) (s.put b (.gA (some mm) since (seen++[e.born]) clock))
        |some none=>K m (.aZ [.bool false]) s
        |none=>iW.fail
       have hq:=Zu (Q:=Q) (n:=(ep es since seen).length) (fun i x y hxy hh=>by
        show(match(ep es since seen)[i]? with
         |some (some e)=>K y (.aZ [.bool true,e.key,e.val]) (s.put b (.gA (some mm) since (seen++[e.born]) clock))
         |some none=>K y (.aZ [.bool false]) s
         |none=>iW.fail)
        have hh' :(match(ep es since seen)[i]? with
         |some (some e)=>K x (.aZ [.bool true,e.key,e.val]) (s.put b (.gA (some mm) since (seen++[e.born]) clock))
         |some none=>K x (.aZ [.bool false]) s
         |none=>iW.fail):=hh
        cases hc:(ep es since seen)[i]? with
        |none=>simp only[hc]at hh';exact hh'
        |some c=>
         simp only[hc]at hh';cases c with
         |none=>exact hK _ _ _ _ hxy hh'
         |some e=>exact hK _ _ _ _ hxy hh') (fun i hi=>by
        have hh:=h i hi;cases hc:(ep es since seen)[i]? with
        |none=>simp only[hc]at hh;exact hh.elim
        |some c=>
         simp only[hc]at hh;cases c with
         |none=>
          obtain⟨m,hm⟩:=hh;refine⟨m,?_⟩;show(match(ep es since seen)[i]? with
           |some (some e)=>K m (.aZ [.bool true,e.key,e.val]) (s.put b (.gA (some mm) since (seen++[e.born]) clock))
           |some none=>K m (.aZ [.bool false]) s
           |none=>iW.fail)
          rw[hc];exact hm
         |some e=>
          obtain⟨m,hm⟩:=hh;refine⟨m,?_⟩;show(match(ep es since seen)[i]? with
           |some (some e)=>K m (.aZ [.bool true,e.key,e.val]) (s.put b (.gA (some mm) since (seen++[e.born]) clock))
           |some none=>K m (.aZ [.bool false]) s
           |none=>iW.fail)
          rw[hc];exact hm)
       obtain⟨m,hm⟩:=hq;exact⟨m,hm⟩
theorem wq{Fn:Fam}{n:Nat}(hM:YZ Fn)(hF:Nz Fn n){K:Nat→V→St→Prop}(hK:∀ a b v s,a≤b→K a v s→K b v s){env:PT V}{s:St}{o:j7}(h:dN M (Fn n) env s o fun v s=>∃ m,K m v s):
  ∃ m,n≤m∧dN M (Fn m) env s o (K m):=by
 have up:∀ {m:Nat} {v s},K m v s→K (max n m) v s:=fun h=>hK _ _ _ _ (qi _ _) h;cases o with
 |s o=>
  simp only[dN]at h⊢;split at h
  ·obtain⟨m,hm⟩:=h;exact⟨max n m,jW _ _,up hm⟩
  ·exact h.elim
 |m o=>
  simp only[dN]at h⊢;split at h
  ·obtain⟨m,hm⟩:=h;exact⟨max n m,jW _ _,up hm⟩
  ·exact h.elim
 |h o=>
  simp only[dN]at h⊢;split at h
  ·obtain⟨m,hm⟩:=h;exact⟨max n m,jW _ _,up hm⟩
  ·exact h.elim
 |call f args=>
  simp only[dN]at h⊢;split at h
  ·exact hF _ _ _ _ hK h
  ·exact h.elim
 |invoke name x args=>
  simp only[dN]at h⊢;split at h
  ·split at h
   ·exact hF _ _ _ _ hK h
   ·exact h.elim
  ·exact h.elim
 |next x=>
  simp only[dN]at h⊢;split at h
  ·obtain⟨m,hm⟩:=QN hK h;exact⟨max n m,jW _ _,dS (F:=Fn 0) (F' :=Fn 0) (M:=M) (env:=env) (o:=.next (.c (.ptr _ 0))) (fun f args s k k' hk h=>hM 0 0 (ak _) f args s k k' hk h) (fun v s h=>up h) (by simpa[dN,bO.ev]using hm)⟩
  ·exact h.elim
 |bad=>exact h.elim
theorem wF{s:St}{p:Nat}{K:Nat→Prop}:∀ {aj:fN},recheck s p aj (∃ m,K m)→∃ m,recheck s p aj (K m):=by
 intro aj
 induction aj with
 |nil=>intro h;exact h
 |cons x r ih=>
  intro h;obtain⟨i,op,env,v⟩:=x;simp only[recheck]at h⊢;cases hb:Nat.testBit p i with
  |true=>rw[hb]at h;exact ih h
  |false=>
   rw[hb]at h;simp only[cond_false]at h⊢;split at h
   ·obtain⟨m,hm⟩:=ih h.2;exact⟨m,h.1,hm⟩
   ·exact h.elim
theorem FV{n f:Nat}{args:List V}{s:St}{k:V→St→Prop}:bY C M n f args s k=(match C f with
  |none=>False
  |some fn=>bif Nat.ble args.length fn.ntmps then gz C M n fn.body (cK args 0 .e) s (SG fn k)else False):=by
 unfold bY Zp;cases C f with
 |none=>rfl
 |some fn=>
  simp only;cases Nat.ble args.length fn.ntmps with
  |false=>rfl
  |true=>
   simp only[cond_true];congr 1
theorem cg{a b:Nat}(h:a≤b):Rm (bY C M a) (bY C M b):=fun f args s k k' hk hc=>iN h hk hc
theorem Jb{fn:cq}{K:Nat→V→St→Prop}{ex:Ex}{env:PT V}{s:St}(h:SG fn (fun v s=>∃ m,K m v s) ex env s):∃ m,SG fn (K m) ex env s:=by
 cases ex with
 |exit i=>exact h.elim
 |normal=>
  simp only[k8]at h⊢;cases hr:cI env s fn.results with
  |none=>rw[hr]at h;exact h.elim
  |some v=>rw[hr]at h;exact h
 |ret=>
  simp only[oH]at h⊢;cases hr:cI env s fn.results with
  |none=>rw[hr]at h;exact h.elim
  |some v=>rw[hr]at h;exact h
theorem Jc{fn:cq}{k k' :V→St→Prop}(hk:∀ v s,k v s→k' v s){ex:Ex}{env:PT V}{s:St}(h:SG fn k ex env s):SG fn k' ex env s:=by
 cases ex with
 |exit i=>exact h.elim
 |normal=>
  simp only[k8]at h⊢;cases hr:cI env s fn.results with
  |none=>rw[hr]at h;exact h.elim
  |some v=>rw[hr]at h;exact hk _ _ h
 |ret=>
  simp only[oH]at h⊢;cases hr:cI env s fn.results with
  |none=>rw[hr]at h;exact h.elim
  |some v=>rw[hr]at h;exact hk _ _ h
theorem IG:∀ {n:Nat} {c:aq} {env:PT V} {s:St} {K:Nat→Ex→PT V→St→Prop},(∀ a b e env s,a≤b→K a e env s→K b e env s)→gz C M n c env s (fun e env s=>∃ m,K m e env s)→∃ m,n≤m∧gz C M m c env s (K m):=by
 intro n
 induction n with
 |zero=>intro _ _ _ _ _ h;exact h.elim
 |succ n ih=>
  intro c env s K hK h;have hfam:Nz (bY C M) n:=by
   intro f args s K hK h;rw[FV]at h;cases hf:C f with
   |none=>rw[hf]at h;exact h.elim
   |some fn=>
    rw[hf]at h;simp only at h;cases hb:Nat.ble args.length fn.ntmps with
    |false=>rw[hb]at h;exact h.elim
    |true=>
     rw[hb]at h;simp only[cond_true]at h;obtain⟨m,h1,h2⟩:=ih (K:=fun m=>SG fn (K m)) (fun a b e env s hab h=>Jc (fun v s h=>hK a b v s hab h) h) (cu (ak n) (fun e env s h=>Jb h) h);refine⟨m,h1,?_⟩;rw[FV,hf];simp only[hb,cond_true];exact h2
  -- one step more
  have up:∀ {m:Nat} {c env s},n≤m→gz C M (m+1) c env s (K m)→∃ m,n+1≤m∧gz C M m c env s (K m):=fun {m c env s} hm h=>
   ⟨m+1,by omega,cu (ak _) (fun e env s h=>hK _ _ _ _ _ (xQ _) h) h⟩
  have now:∀ {e env' s'},(∃ m,K m e env' s')→∃ m,n≤m∧K m e env' s' :=fun⟨m,hm⟩=>⟨max n m,jW _ _,hK _ _ _ _ _ (qi _ _) hm⟩;cases c with
  |skip=>obtain⟨m,h1,h2⟩:=now h;exact up h1 (by rw[BO];exact h2)
  |ret=>obtain⟨m,h1,h2⟩:=now h;exact up h1 (by rw[FT];exact h2)
  |exit i=>obtain⟨m,h1,h2⟩:=now h;exact up h1 (by rw[II];exact h2)
  |bad=>exact h.elim
  |wB p q=>
   simp only[gz]at h;split at h
   ·rename_i vs hv;split at h
    ·rename_i v s2 hp;obtain⟨m,h1,h2⟩:=now h;refine up h1 ?_;simp only[gz,hv,hp];exact h2
    ·exact h.elim
   ·exact h.elim
  |region ops=>
   rw[jH]at h
   -- the rest,at whatever fuel
   have key:∀ {ops:List aG} {env:PT V} {s:St},fm M (bY C M n) ops env s (fun env s=>∃ m,K m .normal env s)→∃ m,n≤m∧fm M (bY C M m) ops env s (K m .normal):=by
    intro ops
    induction ops with
    |nil=>intro env s h;exact now h
    |cons o r ih2=>
     intro env s h;simp only[fm]at h⊢;split at h
     ·have h2:dN M (bY C M n) env s o.op fun v s' =>∃ m,fm M (bY C M m) r (fI o.dst v env) s' (K m .normal):=dS (cg (ak _)) (fun v s' h=>let⟨m,_,hm⟩:=ih2 h;⟨m,hm⟩) h;exact wq (K:=fun m v s' =>fm M (bY C M m) r (fI o.dst v env) s' (K m .normal)) (fun a b hab=>cg hab) hfam (fun a b v s hab h=>nD (cg hab) (fun e s h=>hK a b _ e s hab h) h) h2
     ·exact ih2 h
     ·exact h.elim
   obtain⟨m,h1,h2⟩:=key h;exact up h1 (by rw[jH];exact h2)
  |draw ops=>
   rw[BN]at h;have key:∀ {k:Nat} {todo:List (Nat×aG)} {done:Nat} {env:PT V} {s:St} {aj:fN},fk M (bY C M n) k todo done env s aj (fun env s=>∃ m,K m .normal env s)→∃ m,n≤m∧fk M (bY C M m) k todo done env s aj (K m .normal):=by
    intro k
    induction k with
    |zero=>intro _ _ _ _ _ h;exact h.elim
    |succ k ih2=>
     intro todo done env s aj h;simp only[fk]at h⊢;split at h
     ·exact h.elim
     ·split at h
      ·split at h
       ·exact now h
       ·exact h.elim
      ·rename_i i o rest _;generalize (within o.aT _&&rest.all _)=b at h⊢;cases b with
       |false=>exact h.elim
       |true=>
        simp only[cond_true]at h⊢;split at h
        ·have h2:=dS (cg (ak n)) (k' :=fun v s' =>∃ m,recheck s' o.aT _ (fk M (bY C M m) k rest _ (fI o.dst v _) s' (dV o.aT _) (K m .normal))) (fun v s' h=>wF (eS (fun h=>let⟨m,_,hm⟩:=ih2 h;⟨m,hm⟩) h)) h;exact wq (K:=fun m v s' =>recheck s' o.aT _ (fk M (bY C M m) k rest _ (fI o.dst v _) s' (dV o.aT _) (K m .normal))) (fun a b hab=>cg hab) hfam (fun a b v s hab h=>eS (fun h=>zF (cg hab) (fun e s h=>hK a b _ e s hab h) h) h) h2
        ·exact ih2 h
        ·exact h.elim
   obtain⟨m,h1,h2⟩:=key h;exact up h1 (by rw[BN];exact h2)
  |cond x a b=>
   simp only[gz]at h;split at h
   ·rename_i hx;obtain⟨m,h1,h2⟩:=ih hK h;exact up h1 (by simp only[gz,hx];exact h2)
   ·rename_i hx;obtain⟨m,h1,h2⟩:=ih hK h;exact up h1 (by simp only[gz,hx];exact h2)
   ·exact h.elim
  |block id b=>
   rw[tj]at h;obtain⟨m,h1,h2⟩:=ih (K:=fun m=>pe id (K m)) (fun a b e env s hab h=>by
    cases e with
    |normal=>exact hK a b _ env s hab h
    |ret=>exact hK a b _ env s hab h
    |exit i=>
     simp only[zM]at h⊢;split
     ·rename_i hi;rw[if_pos hi]at h;exact hK a b _ env s hab h
     ·rename_i hi;rw[if_neg hi]at h;exact hK a b _ env s hab h) (cu (ak n) (fun e env s h=>by
    cases e with
    |normal=>exact h
    |ret=>exact h
    |exit i=>
     simp only[zM]at h⊢;split
     ·rename_i hi;rw[if_pos hi]at h;exact h
     ·rename_i hi;rw[if_neg hi]at h;exact h) h)
   exact up h1 (by rw[tj];exact h2)
  |seq a b=>
   rw[qv]at h;obtain⟨m,h1,h2⟩:=ih (K:=fun m=>Gd C M m b (K m)) (fun x y e env s hab h=>by
    cases e with
    |normal=>exact cu hab (fun e env s h=>hK x y _ env s hab h) h
    |ret=>exact hK x y _ env s hab h
    |exit i=>exact hK x y _ env s hab h) (cu (ak n) (fun e env s h=>by
    cases e with
    |normal=>exact let⟨m,_,hm⟩:=ih hK h;⟨m,hm⟩
    |ret=>exact h
    |exit i=>exact h) h)
   exact up h1 (by rw[qv];exact h2)
  |loop b=>
   have h' :gz C M n b env s (Gd C M n (.loop b) fun e env s=>∃ m,K m e env s):=h;obtain⟨m,h1,h2⟩:=ih (K:=fun m=>Gd C M m (.loop b) (K m)) (fun x y e env s hab h=>by
    cases e with
    |normal=>exact cu hab (fun e env s h=>hK x y _ env s hab h) h
    |ret=>exact hK x y _ env s hab h
    |exit i=>exact hK x y _ env s hab h) (cu (ak n) (fun e env s h=>by
    cases e with
    |normal=>exact let⟨m,_,hm⟩:=ih hK h;⟨m,hm⟩
    |ret=>exact h
    |exit i=>exact h) h')
   exact up h1 h2
theorem uS{n f:Nat}{args:List V}{s:St}{K:Nat→V→St→Prop}(hK:∀ a b v s,a≤b→K a v s→K b v s)(h:bY C M n f args s (fun v s=>∃ m,K m v s)):∃ m,n≤m∧bY C M m f args s (K m):=by
 rw[FV]at h;cases hf:C f with
 |none=>rw[hf]at h;exact h.elim
 |some fn=>
  rw[hf]at h;simp only at h;cases hb:Nat.ble args.length fn.ntmps with
  |false=>rw[hb]at h;exact h.elim
  |true=>
   rw[hb]at h;simp only[cond_true]at h;obtain⟨m,h1,h2⟩:=IG (K:=fun m=>SG fn (K m)) (fun a b e env s hab h=>Jc (fun v s h=>hK a b v s hab h) h) (cu (ak n) (fun e env s h=>Jb h) h);refine⟨m,h1,?_⟩;rw[FV,hf];simp only[hb,cond_true];exact h2
end Go.RE
namespace Go.RE
def dz(C:Nat→Option cq)(M:qn):Nat→List V→St→(V→St→Prop)→Prop:=fun f vs st k=>∃ N,bY C M N f vs st k
def xU(P:Nat→List V→St→(V→St→Prop)→Prop)(f:Nat)(q:List (List U)→List U→Option (List (List U))):Prop:=
 ∀ (xs:List (List U)) (rest:List U) (ys:List (List U)),q xs rest=some ys→∀ (E:q9) (σ:Sg) (Z:Zs) (ω:Om) (s:Vs) (e:PT V) (st:St) (g:Tg) (w:Nat) (v:V) (vs:List V) (p0:Nat×List (List U)),Ok E σ Z ω s e st→s.cw g=some p0→OR σ Z ω g w xs v→rest.length=vs.length→(∀ (j:Nat) u v,rest[j]? =some u→vs[j]? =some v→TR σ Z ω s.h.length u v)→
  P f (v::vs) st fun r st' =>r=.aZ []∧∃ ω',Ok E σ Z ω' (s.fK g w ys) e st'
def qgF(P:Nat→List V→St→(V→St→Prop)→Prop)(f:Nat)(q:List (List U)→List U→Option (List (List U))):Prop:=
 ∀ (xs:List (List U)) (rest:List U) (ys:List (List U)),q xs rest=some ys→∀ (E:q9) (σ:Sg) (Z:Zs) (ω:Om) (s:Vs) (e:PT V) (st:St) (g:Tg) (w:Nat) (v:V) (vs:List V) (d:Nat),Ok E σ Z ω s e st→g≠.a→mM w ys=true→wm g rest=true→OR σ Z ω g w xs v→rest.length=vs.length→(∀ (j:Nat) u v,rest[j]? =some u→vs[j]? =some v→TR σ Z ω s.h.length u v)→
  P f (v::vs) st fun r st' =>∃ ω',Ok E σ Z ω' ((s.kill g).kill (.t d)) e st'∧OR σ Z ω' (.t d) w ys r
def Rr(P:Nat→List V→St→(V→St→Prop)→Prop)(f:Nat)(q:Nat→List (List U)→List U→Option (Nat×List (List U))):Prop:=
 ∀ (w:Nat) (xs:List (List U)) (rest:List U) (w' :Nat) (ys:List (List U)),q w xs rest=some (w',ys)→∀ (E:q9) (σ:Sg) (Z:Zs) (ω:Om) (s:Vs) (e:PT V) (st:St) (g:Tg) (v:V) (vs:List V) (d:Nat),Ok E σ Z ω s e st→OR σ Z ω g w xs v→rest.length=vs.length→(∀ (j:Nat) u v,rest[j]? =some u→vs[j]? =some v→TR σ Z ω s.h.length u v)→
  P f (v::vs) st fun r st' =>∃ Z' ω',Ok E σ Z' ω' (s.kill (.t d)) e st'∧OR σ Z' ω' (.t d) w' ys r∧∀ b r,Z b=some r→Z' b=some r
def QOK(P:Nat→List V→St→(V→St→Prop)→Prop)(Q:nu):Prop:=(∀ f q,Q.q f=some q→xU P f q)∧(∀ f q,Q.app f=some q→qgF P f q)∧∀ f q,Q.KT f=some q→Rr P f q
section
variable{C:Nat→Option cq}{M:qn}{Q:nu}{F:FU}
variable{E:q9}{σ:Sg}{Z:Zs}{ω:Om}{s s' :Vs}{e:PT V}{st:St}{n:Nat}
theorem nw{f:Nat}{vs:List V}{st:St}{k k' :V→St→Prop}(hk:∀ v s,k v s→k' v s)(h:dz C M f vs st k):dz C M f vs st k' :=let⟨N,h⟩:=h;⟨N,iN (ak _) hk h⟩
theorem qaq(g:Tg)(w:Nat)(ys:List (List U))(s:Vs):(s.fK g w ys).h.length=s.h.length:=by
 unfold Vs.fK;split
 ·simp only;unfold setCell;split<;>simp
 ·rfl
def Op1(E:q9)(σ:Sg)(Z:Zs)(s1:Vs)(e:PT V)(st:St)(n:Nat)(u:U)(q:Bool)(v:V)(st' :St):Prop:=
 Fl s1∧∃ σ' Z' ω',Ok E σ' Z' ω' s1 e st'∧TR σ' Z' ω' s1.h.length u v∧n≤s1.h.length∧(∀ i,i<n→σ' i=σ i)∧(∀ b r,Z b=some r→Z' b=some r)∧(q=true→∀ b,b<st.next→st'.get b=st.get b)
theorem EV(hF:Yu (dz C M) F)(hQ:QOK (dz C M) Q){dst:Option Nat}{o:j7}{u:U}(h:lu M Q F s dst o=some (u,s'))(hk:Ok E σ Z ω s e st)(hfl:Fl s):
  ∃ N,dN M (bY C M N) e st o.er (Op1 E σ Z s' e st s.h.length u (fJ Q s o)):=by
 cases o with
 |s o=>
  simp only[lu]at h;obtain⟨Z',ω',v,h1,h2,h3,h4,h5⟩:=EX h hk;exact⟨0,by simp only[j7.er,dN,h1];exact⟨S7 h hfl,σ,Z',ω',h2,h3,by omega,fun _ _=>rfl,h5,fun _ b _=>rfl⟩⟩
 |m o=>
  simp only[lu]at h;obtain⟨σ',Z',ω',ob,f,h1,h2,h3,h4,h5,h6⟩:=EW h hk;exact⟨0,by simp only[j7.er,dN,h1];exact⟨S6 h hk hfl,σ',Z',ω',h2,h3,h4,h5,h6,fun hq=>by simp[fJ]at hq⟩⟩
 |h o=>
  have gen:qE (dst.getD 0) s o=some (u,s')→∃ N,dN M (bY C M N) e st (j7.h o).er (Op1 E σ Z s' e st s.h.length u (fJ Q s (.h o))):=fun h=>by
   obtain⟨Z',ω',v,st',h1,h2,h3,h4,h5⟩:=QS h hk;exact⟨0,by simp only[j7.er,dN,h1];exact⟨qeh h hk hfl,σ,Z',ω',h2,h3,by omega,fun _ _=>rfl,h5,fun hq=>by simp[fJ]at hq⟩⟩
  cases o with
  |range x=>
   simp only[lu]at h
   -- a new place to stand at
   have mk:∀ {m:Option Nat} {since last:Nat} {ob:Ob},ob=.gA (m.map σ) since [] last→(∀ j,m=some j→j<s.h.length)→u=.ptr s.h.length 0→s' ={s with h:=s.h++[.iter m since [] last]}→
     Op1 E σ Z s' e st s.h.length u (fJ Q s (.h (.range x))) (.ptr st.next 0) (st.alloc ob):=by
    rintro m since last ob rfl hm rfl rfl;have hj:∀ j,j<s.h.length→dW σ s.h.length st.next j=σ j:=fun j hj=>dy _ _ (by omega)
    obtain⟨k1,k2⟩:=hk.nT (o:=.iter m since [] last) (ob:=.gA (m.map σ) since [] last) ⟨by
     cases m with
     |none=>rfl
     |some j=>simp only[kP,hj j (hm j rfl)],fun j hj=>by have:=hm j hj;omega⟩
    refine⟨hfl.push (o:=.iter m since [] last) (by
     cases m with
     |none=>rfl
     |some j=>simp only[Uo.low,Nat.blt,ez];have:=hm j rfl;omega) s.e,_,Z,ω,k1,?_,by simp,hj,fun _ _ h=>h,fun hq=>by simp[fJ]at hq⟩
    have:=UR.ptr (σ:=dW σ s.h.length st.next) (Z:=Z) (n:=(s.h++[Uo.iter m since [] last]).length) (i:=s.h.length) (off:=0) (by simp);rw[bt]at this;exact TR.bE this
   split at h<;>try (simp at h;done)
   ·rename_i hx;simp only[ag,ay]at h;obtain⟨rfl,rfl⟩:=h;obtain⟨vx,x1,x2⟩:=hk.cW hx;obtain rfl:=TR.bS x2;exact⟨0,by simp only[j7.er,zv.er,dN,zH,x1];exact mk (m:=none) rfl (fun j hj=>by cases hj) rfl rfl⟩
   ·rename_i m hx;split at h<;>simp only[ag,ay,reduceCtorEq]at h;rename_i es clock hm;obtain⟨rfl,rfl⟩:=h;obtain⟨vx,x1,x2⟩:=hk.cW hx;obtain⟨hlt,rfl⟩:=TR.map x2;obtain⟨es',m1,m2,m3⟩:=hk.obj m _ hm;exact⟨0,by simp only[j7.er,zv.er,dN,zH,x1,m1];exact mk (m:=some m) rfl (fun j hj=>by cases hj;exact hlt) rfl rfl⟩
  |_=>simp only[lu]at h;exact gen h
 |call f args=>
  simp only[lu]at h;split at h<;>try (simp at h;done)
  rename_i g first captured vs hf ha
  obtain⟨vf,f1,f2⟩:=hk.cW hf;obtain⟨first',captured',rfl,l1,l2⟩:=TR.func f2;obtain⟨vs',a1,a2,a3⟩:=hk.nW ha
  -- the arguments together
  have hall:(first++vs++captured).length=(first'++vs'++captured').length:=by simp[l1.1,l2.1,a2]
  have htr:∀ (j:Nat) u v,(first++vs++captured)[j]? =some u→(first'++vs'++captured')[j]? =some v→TR σ Z ω s.h.length u v:=by
   intro j u v hu hv;rw[gD]at hu hv;by_cases h1:j<first.length
   ·rw[bG h1]at hu;rw[bG (by rw[←l1.1];exact h1)]at hv;exact TR.bE (l1.2 j u v hu hv)
   ·rw[dh (by omega)]at hu;rw[dh (by rw[←l1.1];omega),←l1.1]at hv;by_cases h2:j - first.length<vs.length
    ·rw[bG h2]at hu;rw[bG (by omega)]at hv;exact a3 _ u v hu hv
    ·rw[dh (by omega)]at hu;rw[dh (by omega),←a2]at hv;exact TR.bE (l2.2 _ u v hu hv)
  split at h
  ·rename_i q hq;split at h<;>try (simp at h;done)
   rename_i gt w xs rest hargs;split at h<;>try (simp at h;done)
   rename_i ys hys;cases hown:(s.cw gt).isSome with
   |false=>rw[hown]at h;simp at h
   |true=>
    rw[hown]at h;simp only[cond_true,ag,ay]at h;obtain⟨rfl,rfl⟩:=h;obtain⟨p0,hp0⟩:=Option.isSome_iff_exists.1 hown;rw[hargs]at hall htr;cases hvv:first'++vs'++captured' with
    |nil=>rw[hvv]at hall;simp at hall
    |cons v0 vr=>
     rw[hvv]at hall htr;have h0:=htr 0 _ v0 rfl rfl;obtain⟨N,hN⟩:=hQ.1 g q hq xs rest ys hys E σ Z ω s e st gt w v0 vr p0 hk hp0 h0.1 (by simpa using hall) (fun j u v hu hv=>htr (j+1) u v (by simpa using hu) (by simpa using hv));refine⟨N,?_⟩;simp only[j7.er,dN,f1,a1,hvv];refine iN (ak _) ?_ hN;rintro v st' ⟨rfl,ω',k1⟩;exact⟨hfl.fK _ _ _,σ,Z,ω',k1,UR.aZ rfl (fun j u v h=>by simp at h),by rw[qaq];exact ak _,fun _ _=>rfl,fun _ _ h=>h,fun hq' =>by simp[fJ,hf,ha,hq]at hq'⟩
  ·rename_i hq;split at h
   ·rename_i q hqa;have appl:∀ {gt:Tg} {w:Nat} {xs:List (List U)} {u0:U} {rest:List U} {ys:List (List U)},first++vs++captured=u0::rest→(∀ v0,TR σ Z ω s.h.length u0 v0→OR σ Z ω gt w xs v0)→gt≠.a→mM w ys=true→wm gt rest=true→q xs rest=some ys→
      (U.own (.t (dst.getD 0)) w ys,(s.kill gt).kill (.t (dst.getD 0)))=(u,s')→∃ N,dN M (bY C M N) e st (j7.call f args).er (Op1 E σ Z s' e st s.h.length u (fJ Q s (.call f args))):=by
     intro gt w xs u0 rest ys hargs hor hga hrw hnt hys h;simp only[ay]at h;obtain⟨rfl,rfl⟩:=h;rw[hargs]at hall htr;cases hvv:first'++vs'++captured' with
     |nil=>rw[hvv]at hall;simp at hall
     |cons v0 vr=>
      rw[hvv]at hall htr;have h0:=htr 0 _ v0 rfl rfl;obtain⟨N,hN⟩:=hQ.2.1 g q hqa xs rest ys hys E σ Z ω s e st gt w v0 vr (dst.getD 0) hk hga hrw hnt (hor _ h0) (by simpa using hall) (fun j u v hu hv=>htr (j+1) u v (by simpa using hu) (by simpa using hv));refine⟨N,?_⟩;simp only[j7.er,dN,f1,a1,hvv];refine iN (ak _) ?_ hN;rintro v st' ⟨ω',k1,k2⟩;exact⟨(hfl.kill _).kill _,σ,Z,ω',k1,⟨k2,fun i off hh=>by cases hh⟩,by rw[dA,dA];exact ak _,fun _ _=>rfl,fun _ _ h=>h,fun hq' =>by simp[fJ,hf,ha,hq,hqa]at hq'⟩
    split at h<;>try (simp at h;done)
    ·rename_i gt w xs rest hargs;split at h<;>try (simp at h;done)
     rename_i ys hys;obtain⟨hown,h⟩:=aO h;simp only[ag]at h;simp only[aI]at hown;exact appl hargs (fun v0 h0=>h0.1) (by simpa using hown.1.1) hown.1.2 hown.2 hys h
    ·rename_i w rest hargs;split at h<;>try (simp at h;done)
     rename_i ys hys;obtain⟨hown,h⟩:=aO h;simp only[ag]at h;simp only[aI]at hown;refine appl hargs (gt:=.r) (xs:=[]) (fun v0 h0=> ?_) (by simp) hown.1 hown.2 hys h;have a3:UR σ Z s.h.length (.nl w) v0:=h0;unfold OR;rw[hk.wr];cases a3 with
     |Ec=>exact⟨rfl,.inl rfl⟩
     |EU=>exact⟨rfl,.inr rfl⟩
   rename_i hqa;have plain:j9 (Q.ld g) F (dst.getD 0) g (first++vs++captured) s=some (u,s')→∃ N,dN M (bY C M N) e st (j7.call f args).er (Op1 E σ Z s' e st s.h.length u (fJ Q s (.call f args))):=by
    intro h;obtain⟨N,hN⟩:=BA (P:=dz C M) (fun f vs st k k' hk h=>nw hk h) hF hk hfl hall htr h;refine⟨N,?_⟩;simp only[j7.er,dN,f1,a1];refine iN (ak _) ?_ hN;rintro v st' ⟨k0,σ',Z',ω',k1,k2,k3,k4,k5,k6⟩;refine⟨k0,σ',Z',ω',k1,k2,k3,k4,k5,fun hqq=>k6 fun us hus=> ?_⟩;simp only[fJ,hf,ha,hq,hqa,hus,aI]at hqq;exact hqq.1
   unfold Ag at h;split at h
   ·rename_i q hqb;split at h
    ·rename_i gt w xs rest hargs;split at h<;>simp only[ag,ay,reduceCtorEq]at h;rename_i w' ys hys;obtain⟨rfl,rfl⟩:=h;rw[hargs]at hall htr;cases hvv:first'++vs'++captured' with
     |nil=>rw[hvv]at hall;simp at hall
     |cons v0 vr=>
      rw[hvv]at hall htr;have h0:=htr 0 _ v0 rfl rfl;obtain⟨N,hN⟩:=hQ.2.2 g q hqb w xs rest w' ys hys E σ Z ω s e st gt v0 vr (dst.getD 0) hk h0.1 (by simpa using hall) (fun j u v hu hv=>htr (j+1) u v (by simpa using hu) (by simpa using hv));refine⟨N,?_⟩;simp only[j7.er,dN,f1,a1,hvv];refine iN (ak _) ?_ hN;rintro v st' ⟨Z',ω',k1,k2,k3⟩;exact⟨hfl.kill _,σ,Z',ω',k1,⟨k2,fun i off hh=>by cases hh⟩,by rw[dA];exact ak _,fun _ _=>rfl,k3,fun hq' =>by
       simp only[fJ,hf,ha,hq,hqa]at hq';cases hus:iq (first++vs++captured)<;>rw[hus]at hq' <;>simp[hqb]at hq'⟩
    ·exact plain h
   ·exact plain h
 |invoke name x args=>
  simp only[lu]at h;split at h<;>try (simp at h;done)
  rename_i t u0 vs hx ha;split at h<;>try (simp at h;done)
  rename_i f hm;obtain⟨vx,x1,x2⟩:=hk.cW hx;obtain⟨v',rfl,x3⟩:=TR.iface x2;obtain⟨vs',a1,a2,a3⟩:=hk.nW ha;obtain⟨N,hN⟩:=BA (P:=dz C M) (fun f vs st k k' hk h=>nw hk h) hF (vs:=v' ::vs') hk hfl (by simp[a2]) (fun j u v hu hv=>by
   cases j with
   |zero=>simp at hu hv;subst hu;subst hv;exact TR.bE x3
   |succ j=>exact a3 j u v (by simpa using hu) (by simpa using hv)) h
  refine⟨N,?_⟩;simp only[j7.er,dN,x1,a1,hm];refine iN (ak _) ?_ hN;rintro v st' ⟨k0,σ',Z',ω',k1,k2,k3,k4,k5,k6⟩;refine⟨k0,σ',Z',ω',k1,k2,k3,k4,k5,fun hqq=>k6 fun us hus=> ?_⟩;simp only[fJ,hx,ha,hus]at hqq;exact hqq
 |next x=>simp[lu]at h
 |bad=>simp[lu]at h
theorem BX(h:Ok E σ Z ω s e st){g:Option (Nat×Bool)}{b:Bool}(hg:iO g s.e=some b):bW g e=some b:=by
 cases g with
 |none=>exact hg
 |some p=>
  obtain⟨t,want⟩:=p;simp only[iO]at hg;simp only[bW];split at hg<;>simp only[ag,reduceCtorEq]at hg
  ·rename_i c hc;obtain⟨v,h1,h2⟩:=h.env _ _ hc;obtain rfl:=TR.bool h2;rw[h1];simpa using hg
  ·rename_i vs hc;obtain⟨v,h1,h2⟩:=h.env _ _ hc;obtain⟨vs',rfl,_⟩:=TR.aZ h2;rw[h1];simpa using hg
def DY(E:q9)(s:Vs)(e:PT V)(st:St):Prop:=Fl s∧∃ σ Z ω,Ok E σ Z ω s e st
theorem LM(hF:Yu (dz C M) F)(hQ:QOK (dz C M) Q):∀ {ops:List aG} {σ:Sg} {Z:Zs} {ω:Om} {s s' :Vs} {e:PT V} {st:St},gU M Q F ops s=some s'→Ok E σ Z ω s e st→Fl s→
  ∃ N,fm M (bY C M N) (fR ops) e st fun e' st' =>DY E s' e' st' :=by
 intro ops
 induction ops with
 |nil=>
  intro σ Z ω s s' e st h hk hfl;simp only[gU,ag]at h;subst h;exact⟨0,hfl,σ,Z,ω,hk⟩
 |cons o r ih=>
  intro σ Z ω s s' e st h hk hfl;simp only[gU]at h;cases hg:iO o.guard s.e with
  |none=>rw[hg]at h;simp at h
  |some b=>
   rw[hg]at h;have hgr:bW (aG.er o).guard e=some b:=BX hk hg;cases b with
   |false=>
    simp only at h;obtain⟨N,hN⟩:=ih h (hk.put (dst:=o.dst) (u:=.aZ []) (v:=.aZ []) (UR.aZ rfl (fun j u v h=>by simp at h))) (hfl.env _);exact⟨N,by simp only[fR,fm,hgr];exact hN⟩
   |true=>
    simp only at h;cases hc:lu M Q F s o.dst o.op with
    |none=>rw[hc]at h;simp at h
    |some p=>
     obtain⟨u,s1⟩:=p;rw[hc]at h;simp only at h;obtain⟨N,hN⟩:=EV hF hQ hc hk hfl;have h2:dN M (bY C M N) e st o.op.er fun v st' =>∃ m,fm M (bY C M m) (fR r) (fI o.dst v e) st' fun e' st' =>DY E s' e' st' :=by
      refine dS (cg (ak N)) (fun v st' hv=> ?_) hN;obtain⟨k0,σ',Z',ω',k1,k2,_⟩:=hv;exact ih h (k1.put k2) (k0.env _)
     obtain⟨m,_,hm⟩:=wq (K:=fun m v st' =>fm M (bY C M m) (fR r) (fI o.dst v e) st' fun e' st' =>DY E s' e' st') (fun a b hab=>cg hab) (fun f args s K hK h=>uS hK h)
      (fun a b v s hab h=>nD (cg hab) (fun _ _ h=>h) h) h2
     exact⟨m,by simp only[fR,fm,hgr];exact hm⟩
end
end Go.RE
namespace Go.RE
def Rs(F:Nat→List V→St→(V→St→Prop)→Prop):Prop:=
 ∀ f args s (k k' :V→St→Prop),F f args s k→F f args s k'→F f args s fun v s=>k v s∧k' v s
variable{M:qn}{F:Nat→List V→St→(V→St→Prop)→Prop}
theorem BQ(hF:Rs F){env:PT V}{s:St}{o:j7}{k k' :V→St→Prop}(h:dN M F env s o k)(h' :dN M F env s o k'):dN M F env s o fun v s=>k v s∧k' v s:=by
 cases o with
 |s o=>
  simp only[dN]at h h'⊢;cases hq:cZ env s o with
  |none=>rw[hq]at h;exact h.elim
  |some v=>rw[hq]at h h';exact⟨h,h'⟩
 |m o=>
  simp only[dN]at h h'⊢;cases hq:BP env o with
  |none=>rw[hq]at h;exact h.elim
  |some v=>rw[hq]at h h';exact⟨h,h'⟩
 |h o=>
  simp only[dN]at h h'⊢;cases hq:zH env s o with
  |none=>rw[hq]at h;exact h.elim
  |some v=>rw[hq]at h h';exact⟨h,h'⟩
 |call f args=>
  simp only[dN]at h h'⊢;split at h
  ·rename_i e1 e2;simp only[e1,e2]at h';exact hF _ _ _ _ _ h h'
  ·exact h.elim
 |invoke name x args=>
  simp only[dN]at h h'⊢;split at h
  ·rename_i e1 e2;simp only[e1,e2]at h';split at h
   ·rename_i e3;simp only[e3]at h';exact hF _ _ _ _ _ h h'
   ·exact h.elim
  ·exact h.elim
 |next x=>
  simp only[dN]at h h'⊢;split at h
  ·rename_i e1;simp only[e1]at h';unfold qw at h h'⊢;split at h
   ·rename_i e2;simp only[e2]at h';exact⟨h,h'⟩
   ·rename_i e2;simp only[e2]at h';split at h
    ·rename_i es clock e3;simp only[e3]at h';generalize (!_&& !_&&_)=b at h h'⊢;cases b with
     |true=>exact h.elim
     |false=>
      intro i hi;have h1:=h i hi;have h2:=h' i hi;dsimp only at h1 h2⊢;split at h1
      ·rename_i e4;rw[e4]at h2;exact⟨h1,h2⟩
      ·rename_i e4;rw[e4]at h2;exact⟨h1,h2⟩
      ·exact h1.elim
    ·exact h.elim
   ·exact h.elim
  ·exact h.elim
 |bad=>exact h.elim
theorem Qw(hF:Rs F)(hM:Rm F F):∀ {ops:List aG} {env:PT V} {s:St} {k k' :PT V→St→Prop},fm M F ops env s k→fm M F ops env s k'→fm M F ops env s fun e s=>k e s∧k' e s:=by
 intro ops
 induction ops with
 |nil=>intro env s k k' h h';exact⟨h,h'⟩
 |cons o r ih=>
  intro env s k k' h h';simp only[fm]at h h'⊢;split at h
  ·rename_i e1;simp only[e1]at h';exact dS hM (fun v s hh=>ih hh.1 hh.2) (BQ hF h h')
  ·rename_i e1;simp only[e1]at h';exact ih h h'
  ·exact h.elim
theorem Jz{s:St}{p:Nat}:∀ {aj:fN} {a b:Prop},recheck s p aj a→recheck s p aj b→recheck s p aj (a∧b):=by
 intro aj
 induction aj with
 |nil=>intro a b h h';exact⟨h,h'⟩
 |cons x r ih=>
  intro a b h h';obtain⟨i,op,env,v⟩:=x;simp only[recheck]at h h'⊢;cases hb:Nat.testBit p i with
  |true=>rw[hb]at h h';exact ih h h'
  |false=>
   rw[hb]at h h';simp only[cond_false]at h h'⊢;cases hq:cZ env s op with
   |none=>rw[hq]at h;exact h.elim
   |some u=>rw[hq]at h h';exact⟨h.1,ih h.2 h'.2⟩
theorem K9(hF:Rs F)(hM:Rm F F):∀ {n:Nat} {todo:List (Nat×aG)} {done:Nat} {env:PT V} {s:St} {aj:fN} {k k' :PT V→St→Prop},fk M F n todo done env s aj k→fk M F n todo done env s aj k'→fk M F n todo done env s aj fun e s=>k e s∧k' e s:=by
 intro n
 induction n with
 |zero=>intro _ _ _ _ _ _ _ h;exact h.elim
 |succ n ih=>
  intro todo done env s aj k k' h h';simp only[fk]at h h'⊢;cases ha:jD todo done env s [] aj with
  |none=>rw[ha]at h;exact h.elim
  |some q=>
   obtain⟨todo,done,env,s,aj⟩:=q;rw[ha]at h h';simp only at h h'⊢;cases hs:eW [] todo with
   |none=>
    rw[hs]at h h';simp only at h h'⊢;cases todo with
    |nil=>exact⟨h,h'⟩
    |cons a b=>exact h.elim
   |some q=>
    obtain⟨i,o,rest⟩:=q;rw[hs]at h h';simp only at h h'⊢;generalize (within o.aT _&&rest.all _)=b at h h'⊢;cases b with
    |false=>exact h.elim
    |true=>
     simp only[cond_true]at h h'⊢;cases hg:bW o.guard env with
     |none=>rw[hg]at h;exact h.elim
     |some b=>
      rw[hg]at h h';cases b with
      |true=>exact dS hM (fun v s hh=>eS (fun h=>ih h.1 h.2) (Jz hh.1 hh.2)) (BQ hF h h')
      |false=>exact ih h h'
variable{C:Nat→Option cq}
theorem Zo:∀ {n:Nat} {c:aq} {env:PT V} {s:St} {k k' :Ex→PT V→St→Prop},gz C M n c env s k→gz C M n c env s k'→gz C M n c env s fun ex e s=>k ex e s∧k' ex e s:=by
 intro n
 induction n with
 |zero=>intro c env s k k' h;exact h.elim
 |succ n ih=>
  intro c env s k k' h h';have hM:Rm (fun f args s (k:V→St→Prop)=>match C f with
   |none=>iW.fail
   |some fn=>
    bif Nat.ble args.length fn.ntmps then
     gz C M n fn.body (cK args 0 .e) s fun e env s=>match e with
      | .exit _=>iW.fail
      |_=>(match cI env s fn.results with|some v=>k v s|none=>iW.fail)
    else iW.fail) (fun f args s (k:V→St→Prop)=>match C f with
   |none=>iW.fail
   |some fn=>
    bif Nat.ble args.length fn.ntmps then
     gz C M n fn.body (cK args 0 .e) s fun e env s=>match e with
      | .exit _=>iW.fail
      |_=>(match cI env s fn.results with|some v=>k v s|none=>iW.fail)
    else iW.fail):=by
   intro f args s k k' hk h;split at h
   ·exact h.elim
   ·rename_i fn _;generalize Nat.ble _ _=b at h⊢;cases b with
    |false=>exact h.elim
    |true=>
     refine cu (ak _) (fun e env s hh=> ?_) h;cases e with
     |exit i=>exact hh
     |normal=>simp only at hh⊢;cases hr:cI env s fn.results with
      |none=>rw[hr]at hh;exact hh
      |some v=>rw[hr]at hh;exact hk _ _ hh
     |ret=>simp only at hh⊢;cases hr:cI env s fn.results with
      |none=>rw[hr]at hh;exact hh
      |some v=>rw[hr]at hh;exact hk _ _ hh
  have hF:Rs (fun f args s (k:V→St→Prop)=>match C f with
   |none=>iW.fail
   |some fn=>
    bif Nat.ble args.length fn.ntmps then
     gz C M n fn.body (cK args 0 .e) s fun e env s=>match e with
      | .exit _=>iW.fail
      |_=>(match cI env s fn.results with|some v=>k v s|none=>iW.fail)
    else iW.fail):=by
   intro f args s k k' h h';simp only at h h'⊢;cases hc:C f with
   |none=>rw[hc]at h;exact h.elim
   |some fn=>
    rw[hc]at h h';simp only at h h'⊢;generalize Nat.ble _ _=b at h h'⊢;cases b with
    |false=>exact h.elim
    |true=>
     refine cu (ak _) (fun e env s hh=> ?_) (ih h h');cases e with
     |exit i=>exact hh.1
     |normal=>simp only at hh⊢;cases hr:cI env s fn.results with
      |none=>rw[hr]at hh;exact hh.1
      |some v=>rw[hr]at hh;exact hh
     |ret=>simp only at hh⊢;cases hr:cI env s fn.results with
      |none=>rw[hr]at hh;exact hh.1
      |some v=>rw[hr]at hh;exact hh
  cases c with
  |skip=>exact⟨h,h'⟩
  |ret=>exact⟨h,h'⟩
  |exit i=>exact⟨h,h'⟩
  |bad=>exact h.elim
  |region ops=>exact Qw hF hM h h'
  |draw ops=>exact K9 hF hM h h'
  |seq a b=>
   simp only[gz]at h h'⊢;refine cu (ak _) (fun e env s hh=> ?_) (ih h h');cases e with
   |normal=>exact ih hh.1 hh.2
   |exit i=>exact hh
   |ret=>exact hh
  |cond x a b=>
   simp only[gz]at h h'⊢;split at h
   ·rename_i e1;simp only[e1]at h';exact ih h h'
   ·rename_i e1;simp only[e1]at h';exact ih h h'
   ·exact h.elim
  |block id b=>
   simp only[gz]at h h'⊢;refine cu (ak _) (fun e env s hh=> ?_) (ih h h');cases e with
   |normal=>exact hh
   |exit i=>
    simp only at hh⊢;cases hb:Nat.beq i id with
    |true=>rw[hb]at hh;exact hh
    |false=>rw[hb]at hh;exact hh
   |ret=>exact hh
  |loop b=>
   simp only[gz]at h h'⊢;refine cu (ak _) (fun e env s hh=> ?_) (ih h h');cases e with
   |normal=>exact ih hh.1 hh.2
   |exit i=>exact hh
   |ret=>exact hh
  |wB m p=>
   simp only[gz]at h h'⊢;split at h
   ·rename_i e1;simp only[e1]at h';split at h
    ·rename_i e2;simp only[e2]at h';exact⟨h,h'⟩
    ·exact h.elim
   ·exact h.elim
theorem Ew{n:Nat}:Rs (bY C M n):=by
 intro f args s k k' h h';unfold bY Zp at h h'⊢;cases hc:C f with
 |none=>rw[hc]at h;exact h.elim
 |some fn=>
  rw[hc]at h h';simp only at h h'⊢;generalize Nat.ble _ _=b at h h'⊢;cases b with
  |false=>exact h.elim
  |true=>
   refine cu (ak _) (fun e env s hh=> ?_) (Zo h h');cases e with
   |exit i=>exact hh.1
   |normal=>simp only at hh⊢;cases hr:cI env s fn.results with
    |none=>rw[hr]at hh;exact hh.1
    |some v=>rw[hr]at hh;exact hh
   |ret=>simp only at hh⊢;cases hr:cI env s fn.results with
    |none=>rw[hr]at hh;exact hh.1
    |some v=>rw[hr]at hh;exact hh
end Go.RE
