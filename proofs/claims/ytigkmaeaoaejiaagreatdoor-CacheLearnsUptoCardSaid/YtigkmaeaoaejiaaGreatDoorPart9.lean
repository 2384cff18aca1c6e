/- What stays: liveness, and the end of a call. -/
import Derived.Test.YtigkmaeaoaejiaaGreatDoorPart8
set_option linter.unusedVariables false
set_option linter.unusedSimpArgs false
set_option linter.constructorNameAsVariable false
namespace Go.RE
section
variable{E:vK}{σ:Sg}{Z:Zs}{ω ω' :Om}{s s' :Vs}{e e2:PT V}{st:St}{n m:Nat}
theorem Ok.reω(h:Ok E σ Z ω s e st){bk:Tg→Tg}(hb:∀ g I,ω' g=some I→ω (bk g)=some I)(hi:∀ g g' I I',ω' g=some I→ω' g' =some I'→bk g=bk g'→g=g')
  (hr:ω' .r=none) (hc:∀ i off,ω' (.c i off)=ω (.c i off)) {E' :Env} (he:∀ t u,look E' t=some u→∃ v,e2.get t=some v∧TR σ Z ω' s.h.length u v):Ok E σ Z ω' {s with e:=E'} e2 st:=
 ⟨he,fun i o ho=>(h.obj i o ho).mono (aM _) (fun _ _=>rfl) (fun _ _ h=>h) (fun off=>hc i off),h.tL,fun g I hI=>h.pW _ I (hb g I hI),h.fresh,h.inj,fun g g' I I' h1 h2 hbb=>hi g g' I I' h1 h2 (h.jA _ _ _ _ (hb g I h1) (hb g' I' h2) hbb),fun i g I hi hI=>h.sw i _ I hi (hb g I hI),h.sz,fun g I hI=>h.wz _ I (hb g I hI),h.sb,hr,fun i off I hI=>h.wc i off I (by rw[←hc];exact hI),h.n0,h.sig,h.zz,h.nx,fun b hb1 hb2=>by
   obtain⟨k1,k2,k3,k4⟩:=h.out b hb1 hb2;exact⟨k1,k2,fun g I hI=>k3 _ I (hb g I hI),k4⟩,h.gn⟩
theorem UR.cut{u:U}{v:V}(h:UR σ Z n u v)(hl:u.low m=true):UR σ Z m u v:=by
 have hls:∀ {a:List U},U.bX m a=true→∀ (j:Nat) u,a[j]? =some u→u.low m=true:=fun h j u hu=>mq.1 h u (List.mem_of_getElem? hu)
 induction h with
 |bool b=>exact .bool b
 |int k x=>exact .int k x
 |str s=>exact .str s
 |aT=>exact .aT
 |bu=>exact .bu
 |bK=>exact .bK
 |cZ=>exact .cZ
 |aK=>exact .aK
 |ptr h=>exact .ptr (by simp only[U.low,Nat.blt,jC]at hl;omega)
 |map h=>exact .map (by simp only[U.low,Nat.blt,jC]at hl;omega)
 |kn h1 h2 h3 _=>exact .kn h1 h2 h3
 |kq h1 h2 _=>exact .kq h1 h2
 |slnil=>exact .slnil
 |zW=>exact .zW
 |Ge=>exact .Ge
 |Ho=>exact .Ho
 |Cs h1 h2 h3 h4 h5 h6 _=>exact .Cs h1 h2 h3 h4 h5 h6
 |Cn h1 h2 h3 h4 _=>exact .Cn h1 h2 h3 h4
 |func h1 h2 h3 h4 i1 i2=>
  simp only[U.low,cm]at hl;exact .func h1 h2 (fun j u v a b=>i1 j u v a b (hls hl.1 j u a)) (fun j u v a b=>i2 j u v a b (hls hl.2 j u a))
 |iface h ih=>exact .iface (ih hl)
 |agg h1 h2 ih=>exact .agg h1 fun j u v a b=>ih j u v a b (hls (by simpa only[U.low]using hl) j u a)
 |aP h1 h2 ih=>exact .aP h1 fun j u v a b=>ih j u v a b (hls (by simpa only[U.low]using hl) j u a)
theorem TR.cut{u:U}{v:V}(h:TR σ Z ω n u v)(hl:u.low m=true)(hω:∀ g,u.tag=some g→ω' g=ω g):TR σ Z ω' m u v:=by
 cases u with
 |bad=>trivial
 |dD _ _=>trivial
 |own g w xs=>exact⟨h.1.mono (fun _ _ h=>h) (hω g rfl),fun i off e=>by subst e;simp only[U.low,Nat.blt,jC]at hl;omega⟩
 |cA g i f=>
  obtain⟨⟨I,h1,h2⟩,h3⟩:=h;exact⟨⟨I,by rw[hω g rfl];exact h1,h2⟩,fun i off e=>by subst e;simp only[U.low,Nat.blt,jC]at hl;omega⟩
 |xX i off len w=>obtain⟨h1,cap,h2,h3⟩:=h;exact⟨by simp only[U.low,Nat.blt,jC]at hl;omega,cap,h2,h3⟩
 |_=>exact UR.cut h hl
theorem CR.cut{i off:Nat}{u:U}{v:V}(h:CR σ Z ω n i off u v)(hl:u.low m=true)(hω:ω' (.c i off)=ω (.c i off)):CR σ Z ω' m i off u v:=by
 cases u with
 |bad=>trivial
 |dD w xs=>exact OR.mono (fun _ _ h=>h) hω h
 |_=>exact UR.cut h hl
theorem OB.cut{i:Nat}{o:Uo}{ob:Option Ob}(h:OB σ Z ω n i o ob)(hl:o.low m=true)(hω:∀ off,ω' (.c i off)=ω (.c i off)):OB σ Z ω' m i o ob:=by
 cases o with
 |row cs=>
  obtain⟨cs',h1,h2,h3⟩:=h;exact⟨cs',h1,h2,fun off u v a b=>(h3 off u v a b).cut (mq.1 hl u (List.mem_of_getElem? a)) (hω off)⟩
 |map es c=>
  obtain⟨es',h1,h2,h3⟩:=h;refine⟨es',h1,h2,fun j x y a b=> ?_⟩;simp only[Uo.low,qd,jY,cm]at hl;have:=hl x (List.mem_of_getElem? a);exact⟨(h3 j x y a b).1.cut this.1,(h3 j x y a b).2.1.cut this.2,(h3 j x y a b).2.2⟩
 |iter q a b c=>exact⟨h.1,fun j hj=>by subst hj;simp only[Uo.low,Nat.blt,jC]at hl;omega⟩
 |gone=>trivial
def below(m:Nat)(ω:Om):Om:=fun g=>match g with
 | .c i off=>if i<m then ω (.c i off)else none
 |g=>ω g
theorem lG{g:Tg}{I:G7}(h:below m ω g=some I):ω g=some I:=by
 unfold below at h;split at h
 ·split at h
  ·exact h
  ·cases h
 ·exact h
theorem PO:∀ {ev:Env},HM n ev=true→∀ t u,look ev t=some u→u.low n=true:=by
 intro ev
 induction ev with
 |nil=>intro _ t u h;simp[look]at h
 |cons x r ih=>
  intro h t u hu;obtain⟨k,v⟩:=x;simp only[HM,cm]at h;simp only[look]at hu;cases hb:Nat.beq k t with
  |true=>rw[hb]at hu;simp at hu;subst hu;exact h.1
  |false=>rw[hb]at hu;exact ih h.2 t u hu
theorem Fl.cut(h:Fl s)(n:Nat):Fl {s with h:=RE.cut n s.fl s.h}:=by
 refine⟨?_,fun i o ho=> ?_⟩
 ·have:=h.le;simp only[RE.cut,List.length_take];omega
 ·simp only[RE.cut]at ho;rw[o3]at ho;split at ho
  ·exact h.ob i o ho
  ·cases ho
theorem Ok.cut(h:Ok E σ Z ω s e st)(hf:Fl s)(hn:E.n≤n)(hl:∀ t u,look s.e t=some u→u.low n=true):∃ ω',Ok E σ Z ω' {s with h:=RE.cut n s.fl s.h} e st∧(∀ d,ω' (.t d)=ω (.t d))∧∀ i off,i<(RE.cut n s.fl s.h).length→ω' (.c i off)=ω (.c i off):=by
 by_cases hle:s.h.length≤max n s.fl
 ·have e1:RE.cut n s.fl s.h=s.h:=by unfold RE.cut;exact pI hle
  refine⟨ω,?_,fun _=>rfl,fun _ _ _=>rfl⟩;rw[e1];exact h
 ·have hlen:(RE.cut n s.fl s.h).length=max n s.fl:=by simp only[RE.cut,List.length_take];omega
  generalize hm:max n s.fl=m at hlen hle;have hmn:n≤m:=by omega
  have hget:∀ (i:Nat) o,(RE.cut n s.fl s.h)[i]? =some o→s.h[i]? =some o:=fun i o ho=>by
   unfold RE.cut at ho;rw[o3]at ho;split at ho
   ·exact ho
   ·cases ho
  refine⟨below m ω,⟨fun t u hu=> ?_,fun i o ho=> ?_,h.tL,fun g I hI=>h.pW g I (lG hI),h.fresh,fun i j hi hj=>h.inj i j (by rw[hlen]at hi;omega) (by rw[hlen]at hj;omega),fun g g' I I' h1 h2=>h.jA g g' I I' (lG h1) (lG h2),fun i g I hi hI=>h.sw i g I (by rw[hlen]at hi;omega) (lG hI),fun i hi=>h.sz i (by rw[hlen]at hi;omega),fun g I hI=>h.wz g I (lG hI),fun i hi=>h.sb i (by rw[hlen]at hi;omega),h.wr,fun i off I hI=> ?_,?_,h.sig,h.zz,h.nx,fun b hb1 hb2=> ?_,fun i hi=> ?_⟩,fun _=>rfl,fun i off hi=> ?_⟩
  ·obtain⟨v,h1,h2⟩:=h.env t u hu;have hlow:=gE hmn (hl t u hu);refine⟨v,h1,?_⟩;rw[hlen];refine h2.cut hlow fun g hg=> ?_;unfold below;split
   ·rename_i i off;rw[if_pos];cases u with
    |own g w xs=>simp[U.tag]at hg;subst hg;simp only[U.low,Nat.blt,jC]at hlow;omega
    |cA g a b=>simp[U.tag]at hg;subst hg;simp only[U.low,Nat.blt,jC]at hlow;omega
    |_=>simp[U.tag]at hg
   ·rfl
  ·have hi:i<m:=by have:=(cz.1 ho).1;rw[hlen]at this;exact this
   rw[hlen];refine(h.obj i o (hget i o ho)).cut (Uo.gE (by omega) (hf.ob i o (hget i o ho))) fun off=> ?_;simp only[below,if_pos hi]
  ·rw[hlen];simp only[below]at hI;split at hI
   ·assumption
   ·cases hI
  ·rw[hlen];have:=h.n0;omega
  ·obtain⟨k1,k2,k3,k4⟩:=h.out b hb1 hb2;exact⟨k1,fun i hi=>k2 i (by rw[hlen]at hi;omega),fun g I hI=>k3 g I (lG hI),k4⟩
  ·obtain⟨k1,k2,k3⟩:=h.gn i hi;exact⟨k1,by unfold RE.cut;rw[o3,if_pos (by omega)];exact k2,k3⟩
  ·rw[hlen]at hi;simp only[below,if_pos hi]
def Pa(ω:Om)(κ:Nat→Option Nat):Om:=fun g=>match g with
 | .c i off=>ω (.c i off)
 | .t x=>(match κ x with|some y=>ω (.t y)|none=>none)
 | .r=>none
theorem Jq{ω:Om}(hr:ω .r=none):∀ {L:List Nat} {ev:Env},(∀ t u,look ev t=some u→∃ v,e.get t=some v∧TR σ Z ω n u v)→
  ∃ κ:Nat→Option Nat,(∀ t t' y,κ t=some y→κ t' =some y→t=t')∧(∀ t y,κ t=some y→∃ x w xs,look ev x=some (.own (.t y) w xs))∧
   ∀ t u,look (eg L ev) t=some u→(∀ g,u.tag=some g→g=.t t∨∃ i off,g=.c i off)∧∃ v,e.get t=some v∧TR σ Z (Pa ω κ) n u v:=by
 intro L
 induction L with
 |nil=>intro ev h;exact⟨fun _=>none,fun t t' y hh _=>by simp at hh,fun t y hh=>by simp at hh,fun t u hu=>by simp[eg,look]at hu⟩
 |cons t ts ih=>
  intro ev h;have hkill:∀ g,∀ x u,look (Env.kill g ev) x=some u→∃ v,e.get x=some v∧TR σ Z ω n u v:=fun g x u hu=>by
   rw[lW]at hu;cases hq:look ev x with
   |none=>rw[hq]at hu;simp at hu
   |some y=>
    rw[hq]at hu;simp at hu;obtain⟨v,h1,h2⟩:=h x y hq;rcases(nH hu).2 with rfl|rfl
    ·exact⟨v,h1,h2⟩
    ·exact⟨v,h1,trivial⟩
  -- one that has no tag of its own
  have other:∀ u0,look ev t=some u0→∀ u1 ev',(∀ v,TR σ Z ω n u0 v→∀ κ,κ t=none→TR σ Z (Pa ω κ) n u1 v)→(∀ g,u1.tag=some g→g=.t t∨∃ i off,g=.c i off)→(∀ x u,look ev' x=some u→∃ v,e.get x=some v∧TR σ Z ω n u v)→
    (∀ x u,look ev' x=some u→u.tag.isSome=true→look ev x=some u)→
    ∃ κ:Nat→Option Nat,(∀ t t' y,κ t=some y→κ t' =some y→t=t')∧(∀ t y,κ t=some y→∃ x w xs,look ev x=some (.own (.t y) w xs))∧
     ∀ x u,look ((t,u1)::eg ts ev') x=some u→(∀ g,u.tag=some g→g=.t x∨∃ i off,g=.c i off)∧∃ v,e.get x=some v∧TR σ Z (Pa ω κ) n u v:=by
   intro u0 h0 u1 ev' htr htag hev hsub;obtain⟨κ,a1,a2,a3⟩:=ih hev;refine⟨fun x=>if x=t then none else κ x,fun x x' y hx hx' => ?_,fun x y hx=> ?_,fun x u hu=> ?_⟩
   ·have hx:(if x=t then none else κ x)=some y:=hx;have hx' :(if x' =t then none else κ x')=some y:=hx';split at hx
    ·cases hx
    split at hx'
    ·cases hx'
    exact a1 x x' y hx hx'
   ·have hx:(if x=t then none else κ x)=some y:=hx;split at hx
    ·cases hx
    obtain⟨z,w,xs,hz⟩:=a2 x y hx;exact⟨z,w,xs,hsub z _ hz rfl⟩
   ·simp only[look]at hu;cases hb:Nat.beq t x with
    |true=>
     rw[hb]at hu;simp at hu;subst hu;have:=bS hb;subst this;obtain⟨v,h1,h2⟩:=h t u0 h0;exact⟨htag,v,h1,htr v h2 _ (by simp)⟩
    |false=>
     rw[hb]at hu;obtain⟨b1,v,b2,b3⟩:=a3 x u hu;have hne:x≠t:=fun hh=>by subst hh;simp at hb
     refine⟨b1,v,b2,b3.mono (aM _) (fun _ _=>rfl) (fun _ _ h=>h) fun g hg=> ?_⟩;rcases b1 g hg with rfl|⟨i,off,rfl⟩
     ·simp only[Pa,if_neg hne]
     ·rfl
  have hself:∀ x u,look ev x=some u→u.tag.isSome=true→look ev x=some u:=fun _ _ h _=>h;have hselfk:∀ g x u,look (Env.kill g ev) x=some u→u.tag.isSome=true→look ev x=some u:=fun g x u hu ht=>by
   rw[lW]at hu;cases hq:look ev x with
   |none=>rw[hq]at hu;simp at hu
   |some y=>
    rw[hq]at hu;simp at hu;rcases(nH hu).2 with rfl|rfl
    ·rfl
    ·simp[U.tag]at ht
  cases h0:look ev t with
  |none=>
   obtain⟨κ,a1,a2,a3⟩:=ih h;exact⟨κ,a1,a2,fun x u hu=>a3 x u (by simpa only[eg,h0]using hu)⟩
  |some u0=>
   cases u0 with
   |own g w xs=>
    cases g with
    |t g=>
     simp only[eg,h0];obtain⟨κ,a1,a2,a3⟩:=ih (hkill (.t g));have hnog:∀ x,κ x≠some g:=fun x hx=>by
      obtain⟨z,w,xs,hz⟩:=a2 x g hx;rw[lW]at hz;cases hq:look ev z with
      |none=>rw[hq]at hz;simp at hz
      |some y=>
       rw[hq]at hz;simp at hz;exact(nH hz).1 rfl
     refine⟨fun x=>if x=t then some g else κ x,fun x x' y hx hx' => ?_,fun x y hx=> ?_,fun x u hu=> ?_⟩
     ·simp only at hx hx';by_cases h1:x=t<;>by_cases h2:x' =t
      ·rw[h1,h2]
      ·rw[if_pos h1]at hx;rw[if_neg h2]at hx';cases hx;exact absurd hx' (hnog x')
      ·rw[if_neg h1]at hx;rw[if_pos h2]at hx';cases hx';exact absurd hx (hnog x)
      ·rw[if_neg h1]at hx;rw[if_neg h2]at hx';exact a1 x x' y hx hx'
     ·simp only at hx;split at hx
      ·cases hx;exact⟨t,w,xs,h0⟩
      ·obtain⟨z,w,xs,hz⟩:=a2 x y hx;exact⟨z,w,xs,hselfk _ z _ hz rfl⟩
     ·simp only[look]at hu;cases hb:Nat.beq t x with
      |true=>
       rw[hb]at hu;simp at hu;subst hu;have:=bS hb;subst this;obtain⟨v,h1,h2⟩:=h t _ h0;refine⟨fun g' hg' =>by simp[U.tag]at hg';exact .inl hg'.symm,v,h1,OR.to h2.1 (fun _ _ h=>h) ?_,fun i off hh=>by cases hh⟩;simp only[Pa,if_true]
      |false=>
       rw[hb]at hu;obtain⟨b1,v,b2,b3⟩:=a3 x u hu;have hne:x≠t:=fun hh=>by subst hh;simp at hb
       refine⟨b1,v,b2,b3.mono (aM _) (fun _ _=>rfl) (fun _ _ h=>h) fun g hg=> ?_⟩;rcases b1 g hg with rfl|⟨i,off,rfl⟩
       ·simp only[Pa,if_neg hne]
       ·rfl
    |r=>
     simp only[eg,h0];refine other _ h0 _ _ (fun v hv κ hκ=>⟨OR.to hv.1 (fun _ _ h=>h) ?_,fun i off hh=>by cases hh⟩) (fun g' hg' =>by simp[U.tag]at hg';exact .inl hg'.symm) (hkill .r) (hselfk .r);simp only[Pa,hκ];exact hr.symm
    |c i off=>
     simp only[eg,h0];exact other _ h0 _ _ (fun v hv κ hκ=>TR.mono (aM _) (fun _ _=>rfl) (fun _ _ h=>h) (fun g hg=>by simp[U.tag]at hg;subst hg;rfl) hv) (fun g' hg' =>by simp[U.tag]at hg';exact .inr ⟨i,off,hg'.symm⟩) h hself
   |cA g i f=>
    cases g with
    |t g=>
     simp only[eg,h0];exact other _ h0 _ _ (fun v hv κ hκ=>trivial) (fun g' hg' =>by simp[U.tag]at hg') h hself
    |r=>
     simp only[eg,h0];exact other _ h0 _ _ (fun v hv κ hκ=>trivial) (fun g' hg' =>by simp[U.tag]at hg') h hself
    |c j off=>
     simp only[eg,h0];exact other _ h0 _ _ (fun v hv κ hκ=>TR.mono (aM _) (fun _ _=>rfl) (fun _ _ h=>h) (fun g hg=>by simp[U.tag]at hg;subst hg;rfl) hv) (fun g' hg' =>by simp[U.tag]at hg';exact .inr ⟨j,off,hg'.symm⟩) h hself
   |_=>
    simp only[eg,h0];exact other _ h0 _ _ (fun v hv κ hκ=>TR.mono (aM _) (fun _ _=>rfl) (fun _ _ h=>h) (fun g hg=>by simp[U.tag]at hg) hv) (fun g' hg' =>by simp[U.tag]at hg') h hself
theorem Zm(hf:Fl s)(h:Ok E σ Z ω s e st)(hn:E.n≤n)(L:List Nat):Cj E (keep L n s) e st:=by
 obtain⟨κ,a1,a2,a3⟩:=Jq (L:=L) h.wr h.env;have h1:Ok E σ Z (Pa ω κ) {s with e:=eg L s.e} e st:=by
  refine h.reω (ω' :=Pa ω κ) (E' :=eg L s.e) (bk:=fun g=>match g with| .t x=>(match κ x with|some y=> .t y|none=> .r)|g=>g) (fun g I hI=> ?_) (fun g g' I I' h1 h2 hbb=> ?_) rfl (fun _ _=>rfl) (fun t u hu=>(a3 t u hu).2)
  ·cases g with
   |t x=>
    simp only[Pa]at hI⊢;cases hx:κ x with
    |none=>rw[hx]at hI;cases hI
    |some y=>rw[hx]at hI;exact hI
   |c i off=>exact hI
   |r=>cases hI
  ·cases g with
   |t x=>
    simp only[Pa]at h1;cases hx:κ x with
    |none=>rw[hx]at h1;cases h1
    |some y=>
     simp only[hx]at hbb;cases g' with
     |t x' =>
      simp only[Pa]at h2;cases hx' :κ x' with
      |none=>rw[hx']at h2;cases h2
      |some y' =>
       simp only[hx']at hbb;cases hbb;rw[a1 x x' y hx hx']
     |c i off=>cases hbb
     |r=>cases hbb
   |c i off=>
    cases g' with
    |t x' =>
     simp only[Pa]at h2;cases hx' :κ x' with
     |none=>rw[hx']at h2;cases h2
     |some y' =>simp only[hx']at hbb;cases hbb
    |c j o=>simpa using hbb
    |r=>cases h2
   |r=>cases h1
 have hf1:Fl {s with e:=eg L s.e}:=hf.env _;unfold keep;simp only;cases hl:HM n (eg L s.e)with
 |false=>exact⟨hf1,σ,Z,_,h1⟩
 |true=>
  simp only[cond_true];obtain⟨ω',k1,_⟩:=h1.cut hf1 hn (PO hl);exact⟨hf1.cut n,σ,Z,ω',k1⟩
end
end Go.RE
namespace Go.RE
section
variable{E:vK}{σ:Sg}{Z:Zs}{ω ω' :Om}{s s' :Vs}{e e2:PT V}{st:St}{n m:Nat}
theorem Y0(h:Ok E σ Z ω s e st){r:uH}{u:U}(hr:Io s r=some u):∃ v,Eb e st r=some v∧TR σ Z ω s.h.length u v:=by
 cases r with
 |t k=>exact h.env k u hr
 |cell a k=>
  simp only[Io]at hr;split at hr<;>try (simp at hr;done)
  rename_i i off ha;split at hr<;>try (simp at hr;done)
  rename_i cs hi;obtain⟨va,h1,h2⟩:=h.env a _ ha;obtain⟨_,rfl⟩:=TR.ptr h2;obtain⟨cs',v,w1,w2,w3⟩:=Ba h hi hr;exact⟨v,by simp only[Eb,h1,w1];exact w2,w3⟩
theorem GY(h:Ok E σ Z ω s e st):∀ {rs:List uH} {us:List U},qJ s rs=some us→∃ vs,uT e st rs=some vs∧us.length=vs.length∧∀ (j:Nat) u v,us[j]? =some u→vs[j]? =some v→TR σ Z ω s.h.length u v:=by
 intro rs
 induction rs with
 |nil=>intro us hr;simp[qJ]at hr;subst hr;exact⟨[],rfl,rfl,fun j u v hu=>by simp at hu⟩
 |cons r rs ih=>
  intro us hr;simp only[qJ]at hr;split at hr<;>try (simp at hr;done)
  rename_i u hu;split at hr<;>simp only[ay,reduceCtorEq]at hr;rename_i us' hus;subst hr;obtain⟨v,h1,h2⟩:=Y0 h hu;obtain⟨vs,k1,k2,k3⟩:=ih hus;refine⟨v::vs,by simp only[uT,h1,k1],by simp[k2],fun j x y hx hy=> ?_⟩;cases j with
  |zero=>simp at hx hy;subst hx;subst hy;exact h2
  |succ j=>exact k3 j x y (by simpa using hx) (by simpa using hy)
theorem M7(H:List Uo)(fl:Nat):(cut n fl H).length=min (max n fl) H.length:=by simp only[cut,List.length_take]
theorem N4{u:U}{a b:Nat}(ha:u.low a=true)(hb:u.low b=true){c:Nat}(hc:a≤c∨b≤c):u.low c=true:=by
 rcases hc with hc|hc
 ·exact gE hc ha
 ·exact gE hc hb
theorem Ok.Lo{H:List Uo}{fl:Nat}(h:Ok E σ Z ω ⟨[],H,fl⟩ .e st)(hf:Fl ⟨[],H,fl⟩)(hn:E.n≤n)(b:Bool):
  ∃ ω',Ok E σ Z ω' ⟨[],bif b then RE.cut n fl H else H,fl⟩ .e st∧(∀ d,ω' (.t d)=ω (.t d))∧Fl ⟨[],bif b then RE.cut n fl H else H,fl⟩:=by
 cases b with
 |false=>exact⟨ω,h,fun _=>rfl,hf⟩
 |true=>
  obtain⟨ω',k1,k2,_⟩:=h.cut hf hn (fun t u hu=>by simp[look]at hu);exact⟨ω',k1,k2,hf.cut n⟩
theorem qeS{H:List Uo}{fl:Nat}{u:U}(hu:u.low H.length=true):u.low (bif u.low n then cut n fl H else H).length=true:=by
 cases hl:u.low n with
 |false=>exact hu
 |true=>
  simp only[cond_true,M7];exact N4 hl hu (by omega)
theorem qae{H:List Uo}{fl:Nat}{us:List U}(hu:U.bX H.length us=true):U.bX (bif U.bX n us then cut n fl H else H).length us=true:=by
 cases hl:U.bX n us with
 |false=>exact hu
 |true=>
  simp only[cond_true,M7];rw[mq]at hu hl⊢;exact fun u hm=>N4 (hl u hm) (hu u hm) (by omega)
def Yr(ω:Om)(g:Option Tg):Om:=fun x=>match x with
 | .c i off=>ω (.c i off)
 | .t 0=>(match g with|some g=>ω g|none=>none)
 |_=>none
theorem Ok.UT(h:Ok E σ Z ω s e st){g:Option Tg}(hg:∀ i off,g≠some (.c i off)):Ok E σ Z (Yr ω g) ⟨[],s.h,s.fl⟩ .e st:=by
 refine h.reω (ω' :=Yr ω g) (E' :=[]) (bk:=fun x=>match x with| .t 0=>(match g with|some g=>g|none=> .r)|x=>x) (fun x I hI=> ?_) (fun x y I J hI hJ hb=> ?_) rfl (fun _ _=>rfl) (fun t u hu=>by simp[look]at hu)
 ·cases x with
  |c i off=>exact hI
  |r=>cases hI
  |t d=>
   cases d with
   |zero=>
    simp only[Yr]at hI⊢;cases g with
    |none=>cases hI
    |some g=>exact hI
   |succ d=>cases hI
 ·cases x with
  |r=>cases hI
  |c i off=>
   cases y with
   |r=>cases hJ
   |c j o=>simpa using hb
   |t d=>
    cases d with
    |zero=>
     cases g with
     |none=>cases hJ
     |some g=>simp only at hb;exact absurd (by rw[hb]) (hg i off)
    |succ d=>cases hJ
  |t d=>
   cases d with
   |succ d=>cases hI
   |zero=>
    cases y with
    |r=>cases hJ
    |t d2=>
     cases d2 with
     |zero=>rfl
     |succ d2=>cases hJ
    |c j o=>
     cases g with
     |none=>cases hI
     |some g=>simp only at hb;exact absurd (by rw[hb]) (hg j o)
theorem Lp(g:Option Tg):∀ d,d≠0→Yr ω g (.t d)=none:=by
 intro d hd;cases d with
 |zero=>exact absurd rfl hd
 |succ d=>rfl
theorem Ke:∀ {vs us:List U},tn false vs=some us→kj vs=some us∧∀ i off w xs,.own (.c i off) w xs ∉ vs:=by
 intro vs
 induction vs with
 |nil=>intro us h;simp[tn]at h;subst h;exact⟨rfl,fun i off w xs hm=>by cases hm⟩
 |cons v vs ih=>
  intro us h;simp only[tn]at h;split at h<;>try (simp at h;done)
  rename_i u hu;split at h<;>simp only[ay,reduceCtorEq]at h;rename_i us' hus;subst h;obtain⟨k1,k2⟩:=ih hus;have hv:ye v=some u∧∀ i off w xs,v≠.own (.c i off) w xs:=by
   cases v with
   |own g w xs=>cases g<;>simp[U.oh]at hu<;>subst hu<;>exact⟨rfl,fun i off w xs hh=>by cases hh⟩
   |bad=>simp[U.oh]at hu
   |dD _ _=>simp[U.oh]at hu
   |cA _ _ _=>simp[U.oh]at hu
   |xX _ _ _ _=>simp[U.oh]at hu
   |aP _=>simp[U.oh]at hu
   |_=>simp[U.oh]at hu;subst hu;exact⟨rfl,fun i off w xs hh=>by cases hh⟩
  refine⟨by simp only[kj,hv.1,k1],fun i off w xs hm=> ?_⟩;rcases eB.1 hm with hh|hh
  ·exact hv.2 i off w xs hh.symm
  ·exact k2 i off w xs hh
theorem qbz{g:Tg}(hg:∀ i off,g≠.c i off):(s.oB g).h=s.h∧(s.oB g).fl=s.fl:=by
 cases g with
 |c i off=>exact absurd rfl (hg i off)
 |t d=>exact⟨rfl,rfl⟩
 |r=>exact⟨rfl,rfl⟩
theorem PW:∀ {vs:List U} {s:Vs},(∀ i off w xs,.own (.c i off) w xs ∉ vs)→(bp vs s).h=s.h∧(bp vs s).fl=s.fl:=by
 intro vs
 induction vs with
 |nil=>intro s _;exact⟨rfl,rfl⟩
 |cons v vs ih=>
  intro s h;have h2:∀ i off w xs,.own (.c i off) w xs ∉ vs:=fun i off w xs hm=>h i off w xs (ki _ hm);cases v with
  |own g w xs=>
   simp only[bp];have hg:∀ i off,g≠.c i off:=fun i off hh=>by subst hh;exact h i off w xs k7
   obtain⟨a,b⟩:=ih (s:=s.oB g) h2;obtain⟨c,d⟩:=qbz (s:=s) hg;exact⟨a.trans c,b.trans d⟩
  |_=>simp only[bp];exact ih h2
theorem FG(n:Nat)(h:List Uo):(EP n h).length=h.length:=by
 unfold EP;simp only[oC,List.length_take,List.length_map,List.length_dropLast,List.length_drop];have:((h.drop n).getLast?.toList).length=if h.length≤n then 0 else 1:=by
  cases hd:h.drop n with
  |nil=>
   have:=congrArg List.length hd;simp at this;rw[if_pos (by omega)];rfl
  |cons a r=>
   have:=congrArg List.length hd;simp at this;rw[if_neg (by omega),List.getLast?_cons];rfl
 rw[this];split<;>omega
theorem DY(n:Nat)(h:List Uo)(i:Nat)(o:Uo)(ho:(EP n h)[i]? =some o):o=.gone∨h[i]? =some o:=by
 unfold EP at ho;rw[ow]at ho;by_cases hi:i<(h.take n).length
 ·rw[gD hi,o3]at ho;split at ho
  ·exact .inr ho
  ·cases ho
 ·rw[gf (by omega)]at ho;by_cases hj:i - (h.take n).length<((h.drop n).dropLast.map fun _=>Uo.gone).length
  ·rw[gD hj,List.getElem?_map]at ho;cases hx:(h.drop n).dropLast[i - (h.take n).length]? with
   |none=>rw[hx]at ho;simp at ho
   |some x=>rw[hx]at ho;simp at ho;exact .inl ho.symm
  ·rw[gf (by omega)]at ho;cases hd:h.drop n with
   |nil=>rw[hd]at ho;simp at ho
   |cons a r=>
    have hlen:=congrArg List.length hd;simp at hlen;rw[hd,List.getLast?_cons]at ho;simp only[List.length_map,List.length_dropLast,hd,List.length_cons,List.length_take]at hj ho;have hmin:min n h.length=n:=by omega
    rw[hmin]at hj ho;rw[List.length_take,hmin]at hi;have hz:i - n - (r.length+1 - 1)=0:=by
     cases hk:i - n - (r.length+1 - 1)with
     |zero=>rfl
     |succ k=>rw[hk]at ho;simp at ho
    rw[hz]at ho;simp at ho;right;have hi2:i=n+r.length:=by omega
    have h1:h[i]? =(h.drop n)[r.length]? :=by rw[td,hi2]
    rw[h1,hd,←ho];cases r with
    |nil=>rfl
    |cons b r' =>simp[List.getLastD_eq_getLast?,List.getLast?_eq_getElem?]
theorem Ok.gc{h:List Uo}{fl:Nat}{e:PT V}(n:Nat)(hk:Ok E σ Z ω ⟨[],h,fl⟩ e st):Ok E σ Z ω ⟨[],EP n h,fl⟩ e st:=by
 have hl:=FG n h;refine⟨fun t u hu=>by simp[look]at hu,fun i o ho=> ?_,hk.tL,hk.pW,hk.fresh,fun i j hi hj=>hk.inj i j (by simpa[hl]using hi) (by simpa[hl]using hj),hk.jA,fun i g I hi=>hk.sw i g I (by simpa[hl]using hi),fun i hi=>hk.sz i (by simpa[hl]using hi),hk.wz,fun i hi=>hk.sb i (by simpa[hl]using hi),hk.wr,fun i off I hI=>by have:=hk.wc i off I hI;simpa[hl]using this,by have:=hk.n0;simpa[hl]using this,hk.sig,hk.zz,hk.nx,fun b hb hI=> ?_,fun i hG=> ?_⟩
 ·rcases DY n h i o ho with rfl|h1
  ·trivial
  ·have:=hk.obj i o h1;simpa[hl]using this
 ·obtain⟨a,b2,c,d⟩:=hk.out b hb hI;exact⟨a,fun i hi=>b2 i (by simpa[hl]using hi),c,d⟩
 ·obtain⟨a,b,c⟩:=hk.gn i hG;refine⟨a,?_,c⟩;have hlt:i<(EP n h).length:=by rw[hl];exact(cz.1 b).1
  have hs:(EP n h)[i]? =some (EP n h)[i]:=dm hlt;rcases DY n h i _ hs with h1|h1
  ·show(EP n h)[i]? =_;rw[hs,h1]
  ·have b' :h[i]? =some .gone:=b;rw[b']at h1;show(EP n h)[i]? =_;rw[hs];exact h1.symm
theorem Fl.gc{h:List Uo}{fl:Nat}(n:Nat)(hf:Fl ⟨[],h,fl⟩):Fl ⟨[],EP n h,fl⟩:=by
 refine⟨by have:=hf.le;simpa[FG]using this,fun i o ho=> ?_⟩;rcases DY n h i o ho with rfl|h1
 ·rfl
 ·exact hf.ob i o h1
theorem sQ{fn:aA}{r:U}{h' :List Uo}{fl' :Nat}(h:Ok E σ Z ω s e st)(hf:Fl s)(hn:E.n≤n)(hr:Cq n fn s=some (r,h',fl')):
  ∃ v,cV e st fn.results=some v∧Fl ⟨[],h',fl'⟩∧∃ σ' Z' ω',Ok E σ' Z' ω' ⟨[],h',fl'⟩ .e st∧(∀ d,d≠0→ω' (.t d)=none)∧RR σ' Z' ω' h'.length r v:=by
 unfold Cq at hr;split at hr
 ·rename_i u0 hu0;obtain⟨vs,v1,v2,v3⟩:=GY h hu0;have:∃ v,vs=[v]:=by
   cases vs with
   |nil=>simp at v2
   |cons v vs=>cases vs with|nil=>exact⟨v,rfl⟩|cons a b=>simp at v2
  obtain⟨v,rfl⟩:=this;have htr:=v3 0 u0 v rfl rfl;have hres:cV e st fn.results=some v:=by simp only[cV,v1]
  refine⟨v,hres,?_⟩;split at hr<;>simp only[ay,aO,reduceCtorEq]at hr;rename_i r0 hg;obtain⟨rfl,rfl,rfl⟩:=hr
  -- what has no tag
  have plain:∀ {s1:Vs} {Z1:Zs} {ω1:Om},Ok E σ Z1 ω1 s1 e st→s1.h=s.h→s1.fl=s.fl→UR σ Z1 s.h.length r0 v→(∀ w xs,r0≠.own .r w xs)→
    Fl ⟨[],bif r0.low n then cut n s.fl s.h else s.h,s.fl⟩∧∃ σ' Z' ω',Ok E σ' Z' ω' ⟨[],bif r0.low n then cut n s.fl s.h else s.h,s.fl⟩ .e st∧(∀ d,d≠0→ω' (.t d)=none)∧RR σ' Z' ω' (bif r0.low n then cut n s.fl s.h else s.h).length r0 v:=by
   intro s1 Z1 ω1 h1 e1 e2 hur hno;have h2:=h1.UT (g:=none) (fun _ _ hh=>by cases hh);rw[e1,e2]at h2;obtain⟨ω3,k1,k2,k3⟩:=h2.Lo (hf.env []) hn (r0.low n);refine⟨k3,σ,Z1,ω3,k1,fun d hd=>by rw[k2];exact Lp _ d hd,?_⟩;have hcut:=hur.cut (qeS (n:=n) (fl:=s.fl) hur.mP);cases r0 with
   |own g w xs=>cases hur
   |_=>exact hcut
  cases u0 with
  |own g w xs=>
   have hgc:∀ i off,g≠.c i off:=fun i off hh=>by subst hh;simp[U.oh]at hg
   have hgg:some (bif fn.own then U.own .r w xs else .sl w xs)=some r0:=by
    cases g with
    |c i off=>exact absurd rfl (hgc i off)
    |t d=>simpa[U.oh]using hg
    |r=>simpa[U.oh]using hg
   simp only[ay]at hgg;cases how:fn.own with
   |true=>
    rw[how]at hgg;simp only[cond_true]at hgg;subst hgg;have h2:=h.UT (g:=some g) (fun i off hh=>by cases hh;exact absurd rfl (hgc i off));obtain⟨ω3,k1,k2,k3⟩:=h2.Lo (hf.env []) hn ((U.own .r w xs).low n);refine⟨k3,σ,Z,ω3,k1,fun d hd=>by rw[k2];exact Lp _ d hd,?_⟩;exact OR.to htr.1 (fun _ _ h=>h) (k2 0)
   |false=>
    rw[how]at hgg;simp only[cond_false]at hgg;subst hgg;obtain⟨Z',ω2,k1,k2,k3,k4,k5,k6⟩:=h.oB g;obtain⟨e1,e2⟩:=qbz (s:=s) hgc;exact plain k1 e1 e2 (htr.1.sl k2 k5) (fun w xs hh=>by cases hh)
  |bad=>simp[U.oh]at hg
  |dD _ _=>simp[U.oh]at hg
  |cA _ _ _=>simp[U.oh]at hg
  |xX _ _ _ _=>simp[U.oh]at hg
  |aP _=>simp[U.oh]at hg
  |nl w=>
   simp[U.oh]at hg;subst hg;have h1:UR σ Z s.h.length (.nl w) v:=htr;exact plain h rfl rfl (by cases h1 with|Ge=>exact .slnil|Ho=>exact .zW) (fun w xs hh=>by cases hh)
  |_=>
   simp[U.oh]at hg;subst hg;exact plain h rfl rfl htr (fun w xs hh=>by cases hh)
 ·rename_i us hno hus;obtain⟨vs,v1,v2,v3⟩:=GY h hus;have hres:cV e st fn.results=some (.aP vs):=by
   simp only[cV,v1];cases vs with
   |nil=>rfl
   |cons v vs=>
    cases vs with
    |nil=>
     cases us with
     |nil=>simp at v2
     |cons u us=>cases us with|nil=>exact absurd rfl (hno u)|cons a b=>simp at v2
    |cons a b=>rfl
  refine⟨_,hres,?_⟩;split at hr<;>simp only[ay,aO,reduceCtorEq]at hr;rename_i ys hg;obtain⟨rfl,rfl,rfl⟩:=hr;obtain⟨g1,g2⟩:=Ke hg;obtain⟨Z1,ω1,b1,b2,b3,b4,b5⟩:=qH (args:=us) h;obtain⟨e1,e2⟩:=PW (s:=s) g2;have hlu:LU σ Z1 s.h.length ys vs:=yX b2 g1 v2 v3 b5;have h2:=b1.UT (g:=none) (fun _ _ hh=>by cases hh);rw[e1,e2]at h2;obtain⟨ω3,k1,k2,k3⟩:=h2.Lo (hf.env []) hn (U.bX n ys);have hur:UR σ Z1 s.h.length (.aP ys) (.aP vs):=UR.aP hlu.1 hlu.2;have hcut:=hur.cut (by simp only[U.low];exact qae (n:=n) (fl:=s.fl) hlu.mP);have hom:∀ d,d≠0→ω3 (.t d)=none:=fun d hd=>by rw[k2];exact Lp _ d hd
  cases hlo:U.bX n ys with
  |true=>
   rw[hlo]at k1 k3 hcut;exact⟨k3,σ,Z1,ω3,k1,hom,hcut⟩
  |false=>
   rw[hlo]at k1 k3 hcut;cases fn.own with
   |true=>exact⟨k3,σ,Z1,ω3,k1,hom,hcut⟩
   |false=>
    simp only[cond_false]at k1 k3 hcut⊢;refine⟨k3.gc n,σ,Z1,ω3,k1.gc n,hom,?_⟩;rw[FG];exact hcut
 ·simp at hr
end
end Go.RE
namespace Go.RE
def qdQ(P:Nat→List V→St→(V→St→Prop)→Prop)(f:Nat)(p:List U→List Uo→Nat→Option (U×List Uo×Nat)):Prop:=
 ∀ (us:List U) (h:List Uo) (fl:Nat) (r:U) (h' :List Uo) (fl' :Nat),p us h fl=some (r,h',fl')→
  ∀ (σ:Sg) (Z:Zs) (ω:Om) (st:St) (vs:List V),Ok ⟨h.length,σ,gq σ ω h.length,Z,st,fun i=>h[i]? =some .gone⟩ σ Z ω ⟨[],h,fl⟩ .e st→Fl ⟨[],h,fl⟩→(∀ d,ω (.t d)=none)→LU σ Z h.length us vs→
   P f vs st fun v st' =>Fl ⟨[],h',fl'⟩∧∃ σ' Z' ω',Ok ⟨h.length,σ,gq σ ω h.length,Z,st,fun i=>h[i]? =some .gone⟩ σ' Z' ω' ⟨[],h',fl'⟩ .e st'∧(∀ d,d≠0→ω' (.t d)=none)∧RR σ' Z' ω' h'.length r v
structure Z9(C:Nat→Option dW)(M:eA)(VF:Nat→Option aA)(Q:fq)(Pm:gU):Prop where
 code:∀ f fn,VF f=some fn→C f=some ⟨fn.ntmps,fn.results,fn.body.er⟩
 muts:QOK (ie C M) Q
 xO:∀ f p,Pm f=some p→qdQ (ie C M) f p
section
variable{C:Nat→Option dW}{M:eA}{VF:Nat→Option aA}{Q:fq}{Pm:gU}
variable{E:vK}{σ:Sg}{Z:Zs}{ω:Om}{s s' :Vs}{e:PT V}{st:St}{n m:Nat}
def Yp(E:vK)(K:Ex→Vs→Prop):Ex→PT V→St→Prop:=fun ex e' st' =>∃ s',K ex s'∧Cj E s' e' st'
theorem CK{α:Type}{P:α→Prop}{x:α}(h:pick P=some x):P x:=by
 unfold pick at h;split at h
 ·rename_i hh;simp only[ay]at h;subst h;exact hh.choose_spec
 ·cases h
theorem Da{N:Nat}{c:ag}{K1:Ex→PT V→St→Prop}{K:Nat→Ex→PT V→St→Prop}(hK:∀ a b e env s,a≤b→K a e env s→K b e env s)(h:fR C M N c e st K1)(h2:∀ ex e' st',K1 ex e' st'→∃ m,K m ex e' st'):∃ m,fR C M m c e st (K m):=by
 obtain⟨m,_,hm⟩:=GQ hK (cK (aM N) h2 h);exact⟨m,hm⟩
theorem Cj.keep{E:vK}{s:Vs}(h:Cj E s e st)(L:List Nat)(hn:E.n≤n):Cj E (keep L n s) e st:=by
 obtain⟨hf,σ,Z,ω,hk⟩:=h;exact Zm hf hk hn L
theorem OU:∀ {us:List U} {i t:Nat} {u:U},look (su us i) t=some u→i≤t∧us[t - i]? =some u:=by
 intro us
 induction us with
 |nil=>intro i t u h;simp[su,look]at h
 |cons a r ih=>
  intro i t u h;simp only[su,look]at h;cases hb:Nat.beq i t with
  |true=>
   rw[hb]at h;have:=bS hb;subst this;simp at h;subst h;exact⟨aM _,by simp⟩
  |false=>
   rw[hb]at h;obtain⟨h1,h2⟩:=ih h;refine⟨by omega,?_⟩;rw[show t - i=(t - (i+1))+1 by omega];simpa using h2
theorem Vi{es:List (U×U×Nat)}{es' :List ME}(hl:es.length=es'.length)(hr:∀ (j:Nat) e e',es[j]? =some e→es'[j]? =some e'→UR σ Z n e.1 e'.key∧UR σ Z n e.2.1 e'.val∧e'.born=e.2.2){since:Nat}{seen:List Nat}:
  ∀ (i:Nat) (c:Option ME),(dz es' since seen)[i]? =some c→∃ c0,c0∈qk es since seen∧(match c0,c with
   |none,none=>True
   |some a,some b=>UR σ Z n a.1 b.key∧UR σ Z n a.2.1 b.val∧b.born=a.2.2
   |_,_=>False):=by
 -- the lists,side by side
 have pair:∀ {es:List (U×U×Nat)} {es' :List ME},es.length=es'.length→(∀ (j:Nat) e e',es[j]? =some e→es'[j]? =some e'→UR σ Z n e.1 e'.key∧UR σ Z n e.2.1 e'.val∧e'.born=e.2.2)→∀ p:Nat→Bool,(es.filter fun e=>p e.2.2).length=(es'.filter fun e=>p e.born).length∧∀ (j:Nat) e e',(es.filter fun e=>p e.2.2)[j]? =some e→(es'.filter fun e=>p e.born)[j]? =some e'→UR σ Z n e.1 e'.key∧UR σ Z n e.2.1 e'.val∧e'.born=e.2.2:=by
  intro es
  induction es with
  |nil=>
   intro es' hl _ p;have:es' =[]:=pQ hl.symm;subst this;exact⟨rfl,fun j e e' he=>by simp at he⟩
  |cons a es ih=>
   intro es' hl hr p;cases es' with
   |nil=>simp at hl
   |cons a' es' =>
    have h0:=hr 0 a a' rfl rfl;obtain⟨i1,i2⟩:=ih (by simpa using hl) (fun j x y hx hy=>hr (j+1) x y (by simpa using hx) (by simpa using hy)) p;rw[List.filter_cons,List.filter_cons,h0.2.2];cases p a.2.2 with
    |false=>exact⟨i1,i2⟩
    |true=>
     refine⟨by simp[i1],fun j x y hx hy=> ?_⟩;cases j with
     |zero=>simp at hx hy;subst hx;subst hy;exact h0
     |succ j=>exact i2 j x y (by simpa using hx) (by simpa using hy)
 obtain⟨a1,a2⟩:=pair hl hr (fun b=> !seen.contains b);obtain⟨b1,b2⟩:=pair a1 a2 (fun b=>Nat.blt b since);obtain⟨c1,c2⟩:=pair a1 a2 (fun b=>Nat.ble since b);intro i c hc;unfold dz at hc;unfold qk;simp only at hc⊢;have hm:=List.mem_of_getElem? hc;rw[ic]at hm;rcases hm with hm|hm
 ·have he:(List.filter (fun e=>Nat.blt e.born since) (List.filter (fun e=> !seen.contains e.born) es')).isEmpty=true:=by
   cases hq:(List.filter (fun e=>Nat.blt e.born since) (List.filter (fun e=> !seen.contains e.born) es')).isEmpty with
   |true=>rfl
   |false=>rw[hq]at hm;simp at hm
  rw[he]at hm;simp at hm;subst hm;refine⟨none,List.mem_append_left _ ?_,trivial⟩;have:(List.filter (fun e=>Nat.blt e.2.2 since) (List.filter (fun e=> !seen.contains e.2.2) es)).isEmpty=true:=by
   rw[List.isEmpty_iff_length_eq_zero,b1,←List.isEmpty_iff_length_eq_zero];exact he
  rw[this];simp
 ·rw[fh]at hm;obtain⟨x,hx,rfl⟩:=hm;rw[ic]at hx;have get:∀ {A:List (U×U×Nat)} {B:List ME},A.length=B.length→(∀ (j:Nat) e e',A[j]? =some e→B[j]? =some e'→UR σ Z n e.1 e'.key∧UR σ Z n e.2.1 e'.val∧e'.born=e.2.2)→x∈B→∃ a∈A,UR σ Z n a.1 x.key∧UR σ Z n a.2.1 x.val∧x.born=a.2.2:=by
   intro A B hAB hr hx;obtain⟨j,hj,rfl⟩:=List.mem_iff_getElem.1 hx;exact⟨A[j]'(by omega),List.getElem_mem _,hr j _ _ (dm (by omega)) (dm hj)⟩
  rcases hx with hx|hx
  ·obtain⟨a,ha,hr⟩:=get b1 b2 hx;exact⟨some a,List.mem_append_right _ (fh.2 ⟨a,List.mem_append_left _ ha,rfl⟩),hr⟩
  ·obtain⟨a,ha,hr⟩:=get c1 c2 hx;exact⟨some a,List.mem_append_right _ (fh.2 ⟨a,List.mem_append_right _ ha,rfl⟩),hr⟩
theorem JP{dst:Option Nat}{x:bB}{k:Vs→Prop}{F:Nat→List V→St→(V→St→Prop)→Prop}(hok:Cj E s e st)(h:gz s dst x k):
  dw M F e st (.next x.er) fun v st' =>∃ t,k t∧Cj E t (fB dst v e) st' :=by
 obtain⟨hf,σ,Z,ω,hk⟩:=hok;unfold gz at h;split at h<;>try exact h.elim
 rename_i q hx;obtain⟨vx,x1,x2⟩:=hk.cO hx;obtain⟨hlt,rfl⟩:=TR.ptr x2;have hfalse:TR σ Z ω s.h.length (.aP [.bool false]) (.aP [.bool false]):=UR.aP rfl (LU.cons (.bool false) .nil).2;simp only[dw,x1];split at h<;>try exact h.elim
 ·rename_i since seen last hq;obtain⟨g1,g2⟩:=hk.obj q _ hq;simp only[qD,g1,Option.map_none];exact⟨_,h,hf.env _,σ,Z,ω,hk.put hfalse⟩
 ·rename_i j since seen last hq;split at h<;>try exact h.elim
  rename_i es clock hj;obtain⟨hst,hall⟩:=h;obtain⟨g1,g2⟩:=hk.obj q _ hq;obtain⟨es',m1,m2,m3⟩:=hk.obj j _ hj;have hst' :(!seen.isEmpty&& !es'.isEmpty&&es'.all (fun e=>Nat.ble last e.born))=false:=by
   have e1:es'.isEmpty=es.isEmpty:=by cases es<;>cases es' <;>simp at m2⊢
   have e2:es'.all (fun e=>Nat.ble last e.born)=es.all (fun e=>Nat.ble last e.2.2):=by
    clear hst hall hj m1
    induction es generalizing es' with
    |nil=>have:es' =[]:=pQ m2.symm;subst this;rfl
    |cons a es ih=>
     cases es' with
     |nil=>simp at m2
     |cons a' es' =>
      simp only[List.all_cons];rw[(m3 0 a a' rfl rfl).2.2,ih es' (by simpa using m2) (fun j x y hx hy=>m3 (j+1) x y (by simpa using hx) (by simpa using hy)) (by cases es<;>cases es' <;>simp at m2⊢)]
   rw[e1,e2];exact hst
  simp only[qD,g1,Option.map_some,m1,hst',cond_false];intro i hi;have hc:=dm hi;rw[hc];obtain⟨c0,c1,c2⟩:=Vi m2 m3 i _ hc;have hk0:=hall c0 c1;generalize (dz es' since seen)[i]=c at c2;cases c with
  |none=>
   cases c0 with
   |some a=>exact c2.elim
   |none=>exact⟨_,hk0,hf.env _,σ,Z,ω,hk.put hfalse⟩
  |some b=>
   cases c0 with
   |none=>exact c2.elim
   |some a=>
    obtain⟨r1,r2,r3⟩:=c2;have hput:=hk.BG (i:=q) (o:=.iter (some j) since (seen++[a.2.2]) clock) (ob:=.fS (some (σ j)) since (seen++[b.born]) clock) hlt (by rw[hq];intro hh;cases hh) ⟨by rw[r3];rfl,fun j' hj' =>by cases hj';exact g2 j rfl⟩;refine⟨_,hk0,hf.set (o:=.iter (some j) since (seen++[a.2.2]) clock) ?_ _,σ,Z,ω,hput.put (UR.aP rfl (LU.cons (.bool true) (LU.cons ?_ (LU.cons ?_ .nil))).2)⟩
    ·have:=hf.ob q _ hq;simpa only[Uo.low]using this
    ·simpa using r1
    ·simpa using r2
theorem sound(T:Z9 C M VF Q Pm):∀ n,Zt (ie C M) (vF VF M Q Pm n)∧
  (∀ {fn:aA} {c:ag} {E:vK} {s:Vs} {K:Ex→Vs→Prop} {e:PT V} {st:St},vC VF M Q Pm n fn c s K→Cj E s e st→∃ N,fR C M N c.er e st (Yp E K))∧
  (∀ {fn:aA} {id:Nat} {b:ag} {m:Nat} {E:vK} {s:Vs} {K:Ex→Vs→Prop} {e:PT V} {st:St},vL VF M Q Pm n fn id b m s K→E.n≤m→Cj E s e st→∃ N,fR C M N (.loop b.er) e st (o5 id (Yp E K))):=by
 intro n
 induction n with
 |zero=>
  refine⟨fun f us h fl r h' fl' hh=> ?_,fun hh=> ?_,fun hh=> ?_⟩
  ·simp[vF]at hh
  ·simp[vC]at hh
  ·simp[vL]at hh
 |succ n ih=>
  obtain⟨ihF,ihC,ihL⟩:=ih;refine⟨?_,?_,?_⟩
  ·-- a function
   intro f us h fl r h' fl' hh σ Z ω st vs hk hfl ht hlu;simp only[vF]at hh;split at hh
   ·rename_i p hp;exact T.xO f p hp us h fl r h' fl' hh σ Z ω st vs hk hfl ht hlu
   ·split at hh<;>try (simp at hh;done)
    rename_i fn hfn;obtain⟨hb,hh⟩:=bG hh;have hc:=CK hh;have hlen:vs.length≤fn.ntmps:=by have:=ja hb;have:=hlu.1;omega
    have hinit:Cj ⟨h.length,σ,gq σ ω h.length,Z,st,fun i=>h[i]? =some .gone⟩ ⟨su us 0,h,fl⟩ (cT vs 0 .e) st:=by
     refine⟨hfl.env _,σ,Z,ω,hk.setEnv fun t u hu=> ?_⟩;obtain⟨_,hu2⟩:=OU hu;simp only[Nat.sub_zero]at hu2;obtain⟨ht1,_⟩:=cz.1 hu2;have hv:=dm (l:=vs) (i:=t) (by have:=hlu.1;omega);refine⟨_,?_,TR.bz (hlu.2 t u _ hu2 hv)⟩;rw[mj,if_pos ⟨kN _,by have:=hlu.1;omega⟩];exact hv
    obtain⟨N,hN⟩:=ihC hc hinit;refine⟨N,?_⟩;rw[Bg (T.code f fn hfn) (by exact hlen)];refine cK (aM _) ?_ hN;rintro ex' e' st' ⟨s',hK,hf',σ',Z',ω',hk'⟩;cases ex' with
    |exit i=>exact hK.elim
    |normal=>
     obtain⟨v,r1,r2,r3⟩:=sQ hk' hf' (aM _) hK;rw[qo];simp only[r1];exact⟨r2,r3⟩
    |ret=>
     obtain⟨v,r1,r2,r3⟩:=sQ hk' hf' (aM _) hK;rw[sE];simp only[r1];exact⟨r2,r3⟩
  ·-- code
   intro fn c E s K e st hh hok;have hn0:E.n≤s.h.length:=by obtain⟨_,σ,Z,ω,hk⟩:=hok;exact hk.n0
   -- a block of any code
   have blk:∀ {id:Nat} {b:ag},vC VF M Q Pm n fn b s (kB fn id s.h.length K)→∃ N,fR C M N (ag.block id b.er) e st (Yp E K):=by
    intro id b hh;obtain⟨N,hN⟩:=ihC hh hok;refine⟨N+1,?_⟩;rw[sY];refine cK (aM _) ?_ hN;rintro ex' e' st' ⟨t,hK,h2⟩;cases ex' with
    |normal=>exact⟨_,hK,h2.keep _ hn0⟩
    |ret=>exact⟨_,hK,h2⟩
    |exit i=>
     unfold o5;simp only[kB]at hK;cases hb:Nat.beq i id with
     |true=>rw[hb]at hK;simp only[hb,cond_true];exact⟨_,hK,h2.keep _ hn0⟩
     |false=>rw[hb]at hK;simp only[hb,cond_false];exact⟨_,hK,h2⟩
   cases c with
   |skip=>exact⟨1,by rw[ag.er,Bi];exact⟨s,hh,hok⟩⟩
   |ret=>exact⟨1,by rw[ag.er,F3];exact⟨s,hh,hok⟩⟩
   |exit i=>exact⟨1,by rw[ag.er,GX];exact⟨s,hh,hok⟩⟩
   |region ops=>
    have hh:k9 M Q (vF VF M Q Pm n) s K ops:=hh;have plain:∀ {ops:List aH} {s:Vs} {e:PT V} {st:St},Cj E s e st→iH K (gw M Q (vF VF M Q Pm n) ops s)→∃ N,eR M (ct C M N) (fG ops) e st fun e' st' =>Yp E K .normal e' st' :=by
     intro ops s e st hok hh;obtain⟨hfl,σ,Z,ω,hk⟩:=hok;cases hs:gw M Q (vF VF M Q Pm n) ops s with
     |none=>rw[hs]at hh;exact hh.elim
     |some s1=>
      rw[hs]at hh;obtain⟨N,hN⟩:=K3 ihF T.muts hs hk hfl;exact⟨N,oy (cc (aM _)) (fun e s h=>⟨s1,hh,h⟩) hN⟩
    unfold k9 at hh;split at hh
    ·rename_i dst x p ops _;have h1:=JP (M:=M) (F:=ct C M 0) hok hh;have h2:dw M (ct C M 0) e st (.next x.er) fun v st' =>∃ m,eR M (ct C M m) (fG ops) (fB dst v e) st' fun e' st' =>Yp E K .normal e' st' :=by
      refine dh (cc (aM 0)) (fun v st' ⟨t,ht,hokt⟩=> ?_) h1;exact plain hokt ht
     obtain⟨m,_,hm⟩:=uj (K:=fun m v st' =>eR M (ct C M m) (fG ops) (fB dst v e) st' fun e' st' =>Yp E K .normal e' st') (fun a b hab=>cc hab) (fun f args s K hK h=>tK hK h)
      (fun a b v s hab h=>oy (cc hab) (fun _ _ h=>h) h) h2
     refine⟨m+1,?_⟩;rw[ag.er,jV];simp only[fG,eR,aH.er,lH.er,bZ];exact hm
    ·obtain⟨N,hN⟩:=plain hok hh;exact⟨N+1,by rw[ag.er,jV];exact hN⟩
   |draw ops=>
    have hh:l8 M Q (vF VF M Q Pm n) s K (sched (ops.length+1) (aC ops 0) 0):=hh;cases hl:sched (ops.length+1) (aC ops 0) 0 with
    |none=>rw[hl]at hh;exact hh.elim
    |some l=>
     rw[hl]at hh;simp only[l8]at hh;obtain⟨hfl,σ,Z,ω,hk⟩:=hok;cases hs:b7 M Q (vF VF M Q Pm n) l s []with
     |none=>rw[hs]at hh;exact hh.elim
     |some s1=>
      rw[hs]at hh;obtain⟨N,hN⟩:=Ic ihF T.muts hl hs hk hfl;refine⟨N,cK (aM _) ?_ hN⟩;rintro ex e' st' ⟨rfl,h2⟩;exact⟨s1,hh,h2⟩
   |seq a b=>
    have hh:vC VF M Q Pm n fn a s (fun ex s=>match ex with
     | .normal=>vC VF M Q Pm n fn b s K
     |ex=>K ex s):=hh
    obtain⟨N,hN⟩:=ihC hh hok;obtain⟨m,hm⟩:=Da (K:=fun m=>Ey C M m b.er (Yp E K)) (fun x y ex e s hxy h=>by
     cases ex with
     |normal=>exact cK hxy (fun _ _ _ h=>h) h
     |ret=>exact h
     |exit i=>exact h) hN (by
     rintro ex' e' st' ⟨t,hK,h2⟩;cases ex' with
     |normal=>exact ihC hK h2
     |exit i=>exact⟨0,t,hK,h2⟩
     |ret=>exact⟨0,t,hK,h2⟩)
    exact⟨m+1,by rw[ag.er,qq];exact hm⟩
   |cond x a b=>
    simp only[vC]at hh;split at hh<;>try exact hh.elim
    ·rename_i hx;obtain⟨N,hN⟩:=ihC hh hok;obtain⟨hfl,σ,Z,ω,hk⟩:=hok;obtain⟨vx,x1,x2⟩:=hk.cO hx;obtain rfl:=TR.bool x2;exact⟨N+1,by rw[ag.er,zN x1,if_pos rfl];exact hN⟩
    ·rename_i hx;obtain⟨N,hN⟩:=ihC hh hok;obtain⟨hfl,σ,Z,ω,hk⟩:=hok;obtain⟨vx,x1,x2⟩:=hk.cO hx;obtain rfl:=TR.bool x2;exact⟨N+1,by rw[ag.er,zN x1,if_neg (by simp)];exact hN⟩
   |block id b=>
    cases b with
    |loop b=>
     simp only[vC]at hh;obtain⟨N,hN⟩:=ihL hh hn0 (hok.keep _ hn0);exact⟨N+1,by rw[ag.er,sY,ag.er];exact hN⟩
    |_=>simp only[vC]at hh;exact blk hh
   |loop b=>simp[vC]at hh
   |bad=>simp[vC]at hh
   |uh a b=>simp[vC]at hh
  ·-- a loop
   intro fn id b m E s K e st hh hm hok;simp only[vL]at hh;obtain⟨N,hN⟩:=ihC hh hok;obtain⟨k,hkk⟩:=Da (K:=fun k=>Ey C M k (.loop b.er) (o5 id (Yp E K))) (fun x y ex e s hxy h=>by
    cases ex with
    |normal=>exact cK hxy (fun _ _ _ h=>h) h
    |ret=>exact h
    |exit i=>exact h) hN (by
    rintro ex' e' st' ⟨t,hK,h2⟩;cases ex' with
    |normal=>exact ihL hK hm (h2.keep _ hm)
    |ret=>exact⟨0,t,hK,h2⟩
    |exit i=>
     refine⟨0,?_⟩;show o5 id (Yp E K) (.exit i) e' st';unfold o5;simp only[kB]at hK;cases hb:Nat.beq i id with
     |true=>rw[hb]at hK;simp only[hb,cond_true];exact⟨_,hK,h2.keep _ hm⟩
     |false=>rw[hb]at hK;simp only[hb,cond_false];exact⟨t,hK,h2⟩)
   exact⟨k+1,hkk⟩
end
end Go.RE
namespace Go.RE
open Classical in
noncomputable def sup{α:Type}(a:Nat→Option α):Option α:=if h:∃ x n,a n=some x then some h.choose else none
def Up{α:Type}(a:Nat→Option α):Prop:=∀ n m x,n≤m→a n=some x→a m=some x
theorem Y9{α:Type}{a:Nat→Option α}(hm:Up a){x:α}:sup a=some x↔∃ n,a n=some x:=by
 unfold sup;constructor
 ·intro h;split at h
  ·rename_i hh;simp only[ay]at h;obtain⟨n,hn⟩:=hh.choose_spec;exact⟨n,by rw[←h];exact hn⟩
  ·cases h
 ·rintro⟨n,hn⟩;have hh:∃ x n,a n=some x:=⟨x,n,hn⟩;rw[dif_pos hh];obtain⟨m,h2⟩:=hh.choose_spec;have h3:=hm n (max n m) x (oE _ _) hn;have h4:=hm m (max n m) _ (Nat.le_max_right _ _) h2;rw[h3]at h4;exact h4.symm
def yc(F F' :FU):Prop:=∀ f us h fl R,F f us h fl=some R→F' f us h fl=some R
section
variable{M:eA}{Q:fq}{F F' :FU}{s:Vs}
theorem GS(hF:yc F F'){d f:Nat}{args:List U}{x:U×Vs}(h:mO F d f args s=some x):mO F' d f args s=some x:=by
 unfold mO at h⊢;split at h
 ·rename_i us hus;simp only;cases hl:U.bX 0 us with
  |true=>
   rw[hl]at h;simp only[cond_true]at h⊢;cases hc:F f us [] 0 with
   |none=>rw[hc]at h;cases h
   |some R=>rw[hc]at h;rw[hF _ _ _ _ _ hc];exact h
  |false=>
   rw[hl]at h;simp only[cond_false]at h⊢;cases hc:F f us (bp args s).h (bp args s).fl with
   |none=>rw[hc]at h;cases h
   |some R=>rw[hc]at h;rw[hF _ _ _ _ _ hc];exact h
 ·cases h
theorem wG(hF:yc F F'){dst:Option Nat}{o:lH}{x:U×Vs}(h:lg M Q F s dst o=some x):lg M Q F' s dst o=some x:=by
 cases o with
 |call f args=>
  simp only[lg]at h⊢;split at h
  ·split at h
   ·rename_i q hq;(try simp only[hq]);exact h
   ·rename_i hq;(try simp only[hq]);exact GS hF h
  ·cases h
 |invoke name y args=>
  simp only[lg]at h⊢;split at h
  ·split at h
   ·rename_i q hq;(try simp only[hq]);exact GS hF h
   ·cases h
  ·cases h
 |h o=>cases o<;>exact h
 |_=>exact h
theorem y6(hF:yc F F'):∀ {ops:List aH} {s s' :Vs},gw M Q F ops s=some s'→gw M Q F' ops s=some s' :=by
 intro ops
 induction ops with
 |nil=>intro s s' h;exact h
 |cons o r ih=>
  intro s s' h;simp only[gw]at h⊢;split at h
  ·split at h
   ·rename_i v s1 hc;rw[wG hF hc];exact ih h
   ·cases h
  ·exact ih h
  ·cases h
theorem Gh(hF:yc F F'){f:Nat}{args:List U}{hid:List Nat}(h:mT F f args s hid=true):mT F' f args s hid=true:=by
 unfold mT at h⊢;split at h
 ·rename_i us hus
  try simp only
  obtain⟨R,hR⟩:=Option.isSome_iff_exists.1 h;rw[hF _ _ _ _ _ hR];rfl
 ·cases h
theorem Dk(hF:yc F F'){t:Vs}{o:lH}{p:Nat}{recs:List (Nat×Rk)}(h:gG M Q F s t o p recs=true):gG M Q F' s t o p recs=true:=by
 unfold gG at h⊢;split at h
 ·rename_i hid hh
  try simp only[hh]
  split at h
  ·split at h
   ·split at h
    ·rename_i hq;(try simp only[hq]);exact Gh hF h
    ·cases h
   ·cases h
  ·split at h
   ·split at h
    ·rename_i hm;(try simp only[hm]);exact Gh hF h
    ·cases h
   ·cases h
  ·cases h
 ·cases h
theorem SD{a b c:Bool}(hab:a=true→b=true)(h:(c||a)=true):(c||b)=true:=by
 cases c with
 |true=>rfl
 |false=>exact hab h
theorem wQ(hF:yc F F'):∀ {l:List Step} {s s' :Vs} {recs:List (Nat×Rk)},b7 M Q F l s recs=some s'→b7 M Q F' l s recs=some s' :=by
 intro l
 induction l with
 |nil=>intro s s' recs h;exact h
 |cons x r ih=>
  intro s s' recs h;cases x with
  |small i o=>
   simp only[b7]at h⊢;split at h
   ·split at h
    ·rename_i v s1 hc;rw[wG hF hc];simp only;split at h
     ·exact ih h
     ·exact ih h
     ·cases h
    ·cases h
   ·exact ih h
   ·cases h
  |aW i o=>
   simp only[b7]at h⊢;split at h
   ·split at h
    ·rename_i v s1 hc;rw[wG hF hc];simp only;obtain⟨hb,h⟩:=bG h;rw[SD (Dk hF) hb];exact ih h
    ·cases h
   ·exact ih h
   ·cases h
structure B1(Fn:Nat→FU)(G:FU):Prop where
 up:∀ n m,n≤m→yc (Fn n) (Fn m)
 lim:∀ f us h fl R,G f us h fl=some R↔∃ n,Fn n f us h fl=some R
variable{Fn:Nat→FU}{G:FU}
theorem B1.le(hG:B1 Fn G)(n:Nat):yc (Fn n) G:=fun f us h fl R hh=>(hG.lim f us h fl R).2 ⟨n,hh⟩
theorem Df(hG:B1 Fn G){d f:Nat}{args:List U}{x:U×Vs}(h:mO G d f args s=some x):∃ n,mO (Fn n) d f args s=some x:=by
 unfold mO at h⊢;split at h
 ·rename_i us hus;simp only;cases hl:U.bX 0 us with
  |true=>
   rw[hl]at h;simp only[cond_true]at h⊢;cases hc:G f us [] 0 with
   |none=>rw[hc]at h;cases h
   |some R=>
    rw[hc]at h;obtain⟨n,hn⟩:=(hG.lim _ _ _ _ _).1 hc;exact⟨n,by rw[hn];exact h⟩
  |false=>
   rw[hl]at h;simp only[cond_false]at h⊢;cases hc:G f us (bp args s).h (bp args s).fl with
   |none=>rw[hc]at h;cases h
   |some R=>
    rw[hc]at h;obtain⟨n,hn⟩:=(hG.lim _ _ _ _ _).1 hc;exact⟨n,by rw[hn];exact h⟩
 ·cases h
theorem E1(hG:B1 Fn G){dst:Option Nat}{o:lH}{x:U×Vs}(h:lg M Q G s dst o=some x):∃ n,lg M Q (Fn n) s dst o=some x:=by
 cases o with
 |call f args=>
  simp only[lg]at h⊢;split at h
  ·split at h
   ·rename_i q hq;(try simp only[hq]);exact⟨0,h⟩
   ·rename_i hq;(try simp only[hq]);exact Df hG h
  ·cases h
 |invoke name y args=>
  simp only[lg]at h⊢;split at h
  ·split at h
   ·rename_i q hq;(try simp only[hq]);exact Df hG h
   ·cases h
  ·cases h
 |h o=>cases o<;>exact⟨0,h⟩
 |_=>exact⟨0,h⟩
theorem Dg(hG:B1 Fn G){f:Nat}{args:List U}{hid:List Nat}(h:mT G f args s hid=true):∃ n,mT (Fn n) f args s hid=true:=by
 unfold mT at h⊢;split at h
 ·rename_i us hus
  try simp only
  obtain⟨R,hR⟩:=Option.isSome_iff_exists.1 h;obtain⟨n,hn⟩:=(hG.lim _ _ _ _ _).1 hR;exact⟨n,by rw[hn];rfl⟩
 ·cases h
theorem KE(hG:B1 Fn G){t:Vs}{o:lH}{p:Nat}{recs:List (Nat×Rk)}(h:gG M Q G s t o p recs=true):∃ n,gG M Q (Fn n) s t o p recs=true:=by
 unfold gG at h⊢;split at h
 ·rename_i hid hh
  try simp only[hh]
  split at h
  ·split at h
   ·split at h
    ·rename_i hq;(try simp only[hq]);exact Dg hG h
    ·cases h
   ·cases h
  ·split at h
   ·split at h
    ·rename_i hm;(try simp only[hm]);exact Dg hG h
    ·cases h
   ·cases h
  ·cases h
 ·cases h
theorem Y8(hG:B1 Fn G){t:Vs}{o:lH}{p:Nat}{recs:List (Nat×Rk)}{c:Bool}(h:(c||gG M Q G s t o p recs)=true):∃ n,(c||gG M Q (Fn n) s t o p recs)=true:=by
 cases c with
 |true=>exact⟨0,rfl⟩
 |false=>exact KE hG h
theorem Us(hG:B1 Fn G):∀ {ops:List aH} {s s' :Vs},gw M Q G ops s=some s'→∃ n,gw M Q (Fn n) ops s=some s' :=by
 intro ops
 induction ops with
 |nil=>intro s s' h;exact⟨0,h⟩
 |cons o r ih=>
  intro s s' h;simp only[gw]at h⊢;split at h
  ·split at h
   ·rename_i v s1 hc;obtain⟨a,ha⟩:=E1 hG hc;obtain⟨b,hb⟩:=ih h;refine⟨max a b,?_⟩;rw[wG (hG.up _ _ (oE a b)) ha];exact y6 (hG.up _ _ (Nat.le_max_right a b)) hb
   ·cases h
  ·exact ih h
  ·cases h
theorem IJ(hG:B1 Fn G):∀ {l:List Step} {s s' :Vs} {recs:List (Nat×Rk)},b7 M Q G l s recs=some s'→∃ n,b7 M Q (Fn n) l s recs=some s' :=by
 intro l
 induction l with
 |nil=>intro s s' recs h;exact⟨0,h⟩
 |cons x r ih=>
  intro s s' recs h;cases x with
  |small i o=>
   simp only[b7]at h⊢;split at h
   ·split at h
    ·rename_i v s1 hc;obtain⟨a,ha⟩:=E1 hG hc;have fin:∀ {s2:Vs} {recs:List (Nat×Rk)},b7 M Q G r s2 recs=some s'→∃ n,lg M Q (Fn n) s o.dst o.op=some (v,s1)∧b7 M Q (Fn n) r s2 recs=some s' :=fun h=>by
      obtain⟨b,hb⟩:=ih h;exact⟨max a b,wG (hG.up _ _ (oE a b)) ha,wQ (hG.up _ _ (Nat.le_max_right a b)) hb⟩
     split at h
     ·obtain⟨n,h1,h2⟩:=fin h;exact⟨n,by rw[h1];exact h2⟩
     ·obtain⟨n,h1,h2⟩:=fin h;exact⟨n,by rw[h1];exact h2⟩
     ·cases h
    ·cases h
   ·exact ih h
   ·cases h
  |aW i o=>
   simp only[b7]at h⊢;split at h
   ·split at h
    ·rename_i v s1 hc;obtain⟨hb,h⟩:=bG h;obtain⟨a,ha⟩:=E1 hG hc;obtain⟨b,hb2⟩:=ih h;obtain⟨c,hc2⟩:=Y8 hG hb;refine⟨max (max a b) c,?_⟩;rw[wG (hG.up _ _ (Nat.le_trans (oE a b) (oE (max a b) c))) ha];simp only[SD (Dk (hG.up _ _ (Nat.le_max_right (max a b) c))) hc2,cond_true];exact wQ (hG.up _ _ (Nat.le_trans (Nat.le_max_right a b) (oE (max a b) c))) hb2
    ·cases h
   ·exact ih h
   ·cases h
end
section
variable{VF:Nat→Option aA}{M:eA}{Q:fq}{Pm:gU}
theorem sH{K K' :Ex→Vs→Prop}(hK:∀ ex t,K ex t→K' ex t){o:Option Vs}(h:iH K o):iH K' o:=by
 cases o with
 |none=>exact h
 |some t=>exact hK _ _ h
theorem y8{K:Ex→Vs→Prop}{o o' :Option Vs}(ho:∀ t,o=some t→o' =some t)(h:iH K o):iH K o' :=by
 cases o with
 |none=>exact h.elim
 |some t=>rw[ho t rfl];exact h
theorem zg{s:Vs}{dst:Option Nat}{q j since:Nat}{seen:List Nat}{clock:Nat}{k k' :Vs→Prop}(hk:∀ t,k t→k' t){c:Option (U×U×Nat)}(h:Bp s dst q j since seen clock k c):Bp s dst q j since seen clock k' c:=by
 cases c<;>exact hk _ h
theorem nD{s:Vs}{dst:Option Nat}{x:bB}{k k' :Vs→Prop}(hk:∀ t,k t→k' t)(h:gz s dst x k):gz s dst x k' :=by
 unfold gz at h⊢;split at h<;>try exact h.elim
 split at h<;>try exact h.elim
 ·exact hk _ h
 ·split at h<;>try exact h.elim
  exact⟨h.1,fun c hc=>zg hk (h.2 c hc)⟩
theorem Pn{s:Vs}{dst:Option Nat}{x:bB}{k k' :Vs→Prop}(h:gz s dst x k)(h' :gz s dst x k'):gz s dst x fun t=>k t∧k' t:=by
 unfold gz at h h'⊢;split at h<;>try exact h.elim
 rename_i q hx;simp only[hx]at h';split at h<;>try exact h.elim
 ·rename_i hq;simp only[hq]at h';exact⟨h,h'⟩
 ·rename_i hq;simp only[hq]at h';split at h<;>try exact h.elim
  rename_i hm;simp only[hm]at h';refine⟨h.1,fun c hc=> ?_⟩;have a:=h.2 c hc;have b:=h'.2 c hc;cases c<;>exact⟨a,b⟩
theorem RO(es:List (U×U×Nat))(since:Nat)(seen:List Nat):∃ c,c∈qk es since seen:=by
 unfold qk;simp only;cases h:(List.filter (fun e=>Nat.blt e.2.2 since) (List.filter (fun e=> !seen.contains e.2.2) es))with
 |nil=>exact⟨none,by simp⟩
 |cons a r=>exact⟨some a,by simp⟩
theorem U2{s:Vs}{dst:Option Nat}{x:bB}{k:Vs→Prop}(h:gz s dst x k):∃ t,k t:=by
 unfold gz at h;split at h<;>try exact h.elim
 split at h<;>try exact h.elim
 ·exact⟨_,h⟩
 ·split at h<;>try exact h.elim
  rename_i j since seen last _ _ es clock _;obtain⟨c,hc⟩:=RO es since seen;have:=h.2 c hc;cases c<;>exact⟨_,this⟩
theorem SQ{α:Type}{Q:α→Nat→Prop}(hm:∀ i a b,a≤b→Q i a→Q i b):∀ {l:List α},(∀ i∈l,∃ m,Q i m)→∃ m,∀ i∈l,Q i m:=by
 intro l
 induction l with
 |nil=>intro _;exact⟨0,fun i hi=>by cases hi⟩
 |cons a l ih=>
  intro h;obtain⟨m,h1⟩:=ih fun i hi=>h i (ki _ hi);obtain⟨k,h2⟩:=h a k7;refine⟨max m k,fun i hi=> ?_⟩;rcases eB.1 hi with rfl|hi
  ·exact hm _ _ _ (Nat.le_max_right _ _) h2
  ·exact hm _ _ _ (oE _ _) (h1 i hi)
theorem Bd{s:Vs}{dst:Option Nat}{x:bB}{k:Nat→Vs→Prop}(hk:∀ a b t,a≤b→k a t→k b t)(h:gz s dst x fun t=>∃ m,k m t):∃ m,gz s dst x (k m):=by
 unfold gz at h;split at h<;>try exact h.elim
 rename_i q hx;split at h<;>try exact h.elim
 ·rename_i since seen last hq;obtain⟨m,hm⟩:=h;exact⟨m,by unfold gz;simp only[hx,hq];exact hm⟩
 ·rename_i j since seen last hq;split at h<;>try exact h.elim
  rename_i es clock hj;obtain⟨h1,h2⟩:=h;obtain⟨m,hm⟩:=SQ (Q:=fun c m=>Bp s dst q j since seen clock (k m) c) (fun c a b hab hh=>zg (fun t ht=>hk a b t hab ht) hh) (fun c hc=>by
   have:=h2 c hc;cases c with
   |none=>exact this
   |some e=>exact this)
  exact⟨m,by unfold gz;simp only[hx,hq,hj];exact⟨h1,hm⟩⟩
theorem yR{F F' :FU}(hF:yc F F'){K K' :Ex→Vs→Prop}(hK:∀ ex t,K ex t→K' ex t){s:Vs}{ops:List aH}(h:k9 M Q F s K ops):k9 M Q F' s K' ops:=by
 unfold k9 at h⊢;split at h
 ·exact nD (fun t ht=>sH hK (y8 (fun t h=>y6 hF h) ht)) h
 ·exact sH hK (y8 (fun t h=>y6 hF h) h)
theorem u9{F F' :FU}(hF:yc F F'){K K' :Ex→Vs→Prop}(hK:∀ ex t,K ex t→K' ex t){s:Vs}{l:Option (List Step)}(h:l8 M Q F s K l):l8 M Q F' s K' l:=by
 cases l with
 |none=>exact h.elim
 |some l=>exact sH hK (y8 (fun t h=>wQ hF h) h)
theorem oG{fn:aA}{id n:Nat}{K K' :Ex→Vs→Prop}(hK:∀ ex t,K ex t→K' ex t){ex:Ex}{t:Vs}(h:kB fn id n K ex t):kB fn id n K' ex t:=by
 cases ex with
 |normal=>exact hK _ _ h
 |ret=>exact hK _ _ h
 |exit i=>
  simp only[kB]at h⊢;cases hb:Nat.beq i id with
  |true=>rw[hb]at h;exact hK _ _ h
  |false=>rw[hb]at h;exact hK _ _ h
theorem I3{fn:aA}{id n:Nat}{K K' :Ex→Vs→Prop}{ex:Ex}{t:Vs}(h:kB fn id n K ex t)(h' :kB fn id n K' ex t):kB fn id n (fun ex t=>K ex t∧K' ex t) ex t:=by
 cases ex with
 |normal=>exact⟨h,h'⟩
 |ret=>exact⟨h,h'⟩
 |exit i=>
  simp only[kB]at h h'⊢;cases hb:Nat.beq i id with
  |true=>rw[hb]at h h';exact⟨h,h'⟩
  |false=>rw[hb]at h h';exact⟨h,h'⟩
theorem T8{fn:aA}{id n:Nat}{K:Ex→Vs→Prop}{ex:Ex}{t:Vs}(h:kB fn id n K ex t):∃ ex t,K ex t:=by
 cases ex with
 |normal=>exact⟨_,_,h⟩
 |ret=>exact⟨_,_,h⟩
 |exit i=>
  simp only[kB]at h;cases hb:Nat.beq i id with
  |true=>rw[hb]at h;exact⟨_,_,h⟩
  |false=>rw[hb]at h;exact⟨_,_,h⟩
theorem TP{fn:aA}{id n:Nat}{K:Nat→Ex→Vs→Prop}{ex:Ex}{t:Vs}(h:kB fn id n (fun ex t=>∃ m,K m ex t) ex t):∃ m,kB fn id n (K m) ex t:=by
 cases ex with
 |normal=>exact h
 |ret=>exact h
 |exit i=>
  simp only[kB]at h⊢;cases hb:Nat.beq i id with
  |true=>rw[hb]at h;exact h
  |false=>rw[hb]at h;exact h
theorem QA{F:FU}{K K' :Ex→Vs→Prop}{s:Vs}{ops:List aH}(h:k9 M Q F s K ops)(h' :k9 M Q F s K' ops):k9 M Q F s (fun ex t=>K ex t∧K' ex t) ops:=by
 have key:∀ o:Option Vs,iH K o→iH K' o→iH (fun ex t=>K ex t∧K' ex t) o:=fun o h h' =>by
  cases o with
  |none=>exact h.elim
  |some u=>exact⟨h,h'⟩
 cases ops with
 |nil=>exact key (gw M Q F [] s) h h'
 |cons o r=>
  obtain⟨dst,op,g,p⟩:=o;cases op with
  |next x=>
   cases g with
   |none=>
    have h1:gz s dst x fun t=>iH K (gw M Q F r t):=h;have h2:gz s dst x fun t=>iH K' (gw M Q F r t):=h';have h3:gz s dst x fun t=>iH (fun ex t=>K ex t∧K' ex t) (gw M Q F r t):=nD (fun t ht=>key _ ht.1 ht.2) (Pn h1 h2);exact h3
   |some g=>exact key _ h h'
  |_=>exact key _ h h'
theorem kg:∀ n,(∀ {fn:aA} {c:ag} {s:Vs} {K K' :Ex→Vs→Prop},(∀ ex t,K ex t→K' ex t)→vC VF M Q Pm n fn c s K→vC VF M Q Pm n fn c s K')∧
  ∀ {fn:aA} {id:Nat} {b:ag} {m:Nat} {s:Vs} {K K' :Ex→Vs→Prop},(∀ ex t,K ex t→K' ex t)→vL VF M Q Pm n fn id b m s K→vL VF M Q Pm n fn id b m s K' :=by
 intro n
 induction n with
 |zero=>exact⟨fun _ h=>by simp[vC]at h,fun _ h=>by simp[vL]at h⟩
 |succ n ih=>
  obtain⟨ihC,ihL⟩:=ih;refine⟨fun {fn c s K K'} hK h=> ?_,fun {fn id b m s K K'} hK h=> ?_⟩
  ·cases c with
   |skip=>exact hK _ _ h
   |ret=>exact hK _ _ h
   |exit i=>exact hK _ _ h
   |region ops=>exact yR (fun _ _ _ _ _ h=>h) hK h
   |draw ops=>exact u9 (fun _ _ _ _ _ h=>h) hK h
   |seq a b=>
    simp only[vC]at h⊢;refine ihC (fun ex t ht=> ?_) h;cases ex with
    |normal=>exact ihC hK ht
    |ret=>exact hK _ _ ht
    |exit i=>exact hK _ _ ht
   |cond x a b=>
    simp only[vC]at h⊢;split at h<;>try exact h.elim
    ·rename_i hx;(try simp only[hx]);exact ihC hK h
    ·rename_i hx;(try simp only[hx]);exact ihC hK h
   |block id b=>
    cases b with
    |loop b=>simp only[vC]at h⊢;exact ihL hK h
    |_=>simp only[vC]at h⊢;exact ihC (fun ex t ht=>oG hK ht) h
   |loop b=>simp[vC]at h
   |bad=>simp[vC]at h
   |uh a b=>simp[vC]at h
  ·simp only[vL]at h⊢;refine ihC (fun ex t ht=> ?_) h;cases ex with
   |normal=>exact ihL hK ht
   |ret=>exact oG hK ht
   |exit i=>exact oG hK ht
theorem qhZ:∀ n,(∀ {fn:aA} {c:ag} {s:Vs} {K K' :Ex→Vs→Prop},vC VF M Q Pm n fn c s K→vC VF M Q Pm n fn c s K'→vC VF M Q Pm n fn c s fun ex t=>K ex t∧K' ex t)∧
  ∀ {fn:aA} {id:Nat} {b:ag} {m:Nat} {s:Vs} {K K' :Ex→Vs→Prop},vL VF M Q Pm n fn id b m s K→vL VF M Q Pm n fn id b m s K'→vL VF M Q Pm n fn id b m s fun ex t=>K ex t∧K' ex t:=by
 intro n
 induction n with
 |zero=>exact⟨fun h _=>by simp[vC]at h,fun h _=>by simp[vL]at h⟩
 |succ n ih=>
  obtain⟨ihC,ihL⟩:=ih;have mC:=fun {fn c s K K'}=>(kg (VF:=VF) (M:=M) (Q:=Q) (Pm:=Pm) n).1 (fn:=fn) (c:=c) (s:=s) (K:=K) (K' :=K');refine⟨fun {fn c s K K'} h h' => ?_,fun {fn id b m s K K'} h h' => ?_⟩
  ·cases c with
   |skip=>exact⟨h,h'⟩
   |ret=>exact⟨h,h'⟩
   |exit i=>exact⟨h,h'⟩
   |region ops=>
    have h:k9 M Q (vF VF M Q Pm n) s K ops:=h;have h' :k9 M Q (vF VF M Q Pm n) s K' ops:=h';exact QA h h'
   |draw ops=>
    have h:l8 M Q (vF VF M Q Pm n) s K (sched (ops.length+1) (aC ops 0) 0):=h;have h' :l8 M Q (vF VF M Q Pm n) s K' (sched (ops.length+1) (aC ops 0) 0):=h';show l8 M Q (vF VF M Q Pm n) s _ (sched (ops.length+1) (aC ops 0) 0);generalize sched (ops.length+1) (aC ops 0) 0=l at h h'⊢;cases l with
    |none=>exact h.elim
    |some l=>
     simp only[l8]at h h'⊢;generalize b7 M Q (vF VF M Q Pm n) l s []=o at h h'⊢;cases o with
     |none=>exact h.elim
     |some u=>exact⟨h,h'⟩
   |seq a b=>
    simp only[vC]at h h'⊢;refine mC (fun ex t ht=> ?_) (ihC h h');cases ex with
    |normal=>exact ihC ht.1 ht.2
    |ret=>exact ht
    |exit i=>exact ht
   |cond x a b=>
    simp only[vC]at h h'⊢;split at h<;>try exact h.elim
    ·rename_i hx;(try simp only[hx]at h');(try simp only[hx]);exact ihC h h'
    ·rename_i hx;(try simp only[hx]at h');(try simp only[hx]);exact ihC h h'
   |block id b=>
    cases b with
    |loop b=>simp only[vC]at h h'⊢;exact ihL h h'
    |_=>simp only[vC]at h h'⊢;exact mC (fun ex t ht=>I3 ht.1 ht.2) (ihC h h')
   |loop b=>simp[vC]at h
   |bad=>simp[vC]at h
   |uh a b=>simp[vC]at h
  ·simp only[vL]at h h'⊢;refine mC (fun ex t ht=> ?_) (ihC h h');cases ex with
   |normal=>exact ihL ht.1 ht.2
   |ret=>exact I3 ht.1 ht.2
   |exit i=>exact I3 ht.1 ht.2
theorem qks:∀ n,(∀ {fn:aA} {c:ag} {s:Vs} {K:Ex→Vs→Prop},vC VF M Q Pm n fn c s K→∃ ex t,K ex t)∧
  ∀ {fn:aA} {id:Nat} {b:ag} {m:Nat} {s:Vs} {K:Ex→Vs→Prop},vL VF M Q Pm n fn id b m s K→∃ ex t,K ex t:=by
 intro n
 induction n with
 |zero=>exact⟨fun h=>by simp[vC]at h,fun h=>by simp[vL]at h⟩
 |succ n ih=>
  obtain⟨ihC,ihL⟩:=ih;have reg:∀ {K:Ex→Vs→Prop} {o:Option Vs},iH K o→∃ ex t,K ex t:=fun {K o} h=>by
   cases o with
   |none=>exact h.elim
   |some u=>exact⟨_,_,h⟩
  refine⟨fun {fn c s K} h=> ?_,fun {fn id b m s K} h=> ?_⟩
  ·cases c with
   |skip=>exact⟨_,_,h⟩
   |ret=>exact⟨_,_,h⟩
   |exit i=>exact⟨_,_,h⟩
   |region ops=>
    have h:k9 M Q (vF VF M Q Pm n) s K ops:=h;unfold k9 at h;split at h
    ·obtain⟨t,ht⟩:=U2 h;exact reg ht
    ·exact reg h
   |draw ops=>
    have h:l8 M Q (vF VF M Q Pm n) s K (sched (ops.length+1) (aC ops 0) 0):=h;generalize sched (ops.length+1) (aC ops 0) 0=l at h;cases l with
    |none=>exact h.elim
    |some l=>exact reg h
   |seq a b=>
    simp only[vC]at h;obtain⟨ex,t,ht⟩:=ihC h;cases ex with
    |normal=>exact ihC ht
    |ret=>exact⟨_,_,ht⟩
    |exit i=>exact⟨_,_,ht⟩
   |cond x a b=>
    simp only[vC]at h;split at h<;>try exact h.elim
    ·exact ihC h
    ·exact ihC h
   |block id b=>
    cases b with
    |loop b=>simp only[vC]at h;exact ihL h
    |_=>simp only[vC]at h;obtain⟨ex,t,ht⟩:=ihC h;exact T8 ht
   |loop b=>simp[vC]at h
   |bad=>simp[vC]at h
   |uh a b=>simp[vC]at h
  ·simp only[vL]at h;obtain⟨ex,t,ht⟩:=ihC h;cases ex with
   |normal=>exact ihL ht
   |ret=>exact T8 ht
   |exit i=>exact T8 ht
theorem Rx{n:Nat}{fn:aA}{c:ag}{s:Vs}{k:Nat}{R R' :U×List Uo×Nat}(h:vC VF M Q Pm n fn c s (kE k fn R))(h' :vC VF M Q Pm n fn c s (kE k fn R')):R=R' :=by
 obtain⟨ex,t,h1,h2⟩:=(qks n).1 ((qhZ n).1 h h');cases ex with
 |exit i=>exact h1.elim
 |normal=>simp only[kE]at h1 h2;rw[h1]at h2;simpa using h2
 |ret=>simp only[kE]at h1 h2;rw[h1]at h2;simpa using h2
theorem OI{α:Type}{P:α→Prop}{x:α}(hx:P x)(hu:∀ y,P y→x=y):pick P=some x:=by
 unfold pick;have hh:∃ x,P x:=⟨x,hx⟩;rw[dif_pos hh];exact congrArg some (hu _ hh.choose_spec).symm
theorem Li:∀ n,yc (vF VF M Q Pm n) (vF VF M Q Pm (n+1))∧(∀ {fn:aA} {c:ag} {s:Vs} {K:Ex→Vs→Prop},vC VF M Q Pm n fn c s K→vC VF M Q Pm (n+1) fn c s K)∧
  ∀ {fn:aA} {id:Nat} {b:ag} {m:Nat} {s:Vs} {K:Ex→Vs→Prop},vL VF M Q Pm n fn id b m s K→vL VF M Q Pm (n+1) fn id b m s K:=by
 intro n
 induction n with
 |zero=>exact⟨fun f us h fl R hh=>by simp[vF]at hh,fun h=>by simp[vC]at h,fun h=>by simp[vL]at h⟩
 |succ n ih=>
  obtain⟨ihF,ihC,ihL⟩:=ih;refine⟨fun f us h fl R hh=> ?_,fun {fn c s K} h=> ?_,fun {fn id b m s K} h=> ?_⟩
  ·rw[vF]at hh⊢;split at hh
   ·rename_i p hp;(try simp only[hp]);exact hh
   ·rename_i hp
    (try simp only[hp])
    split at hh
    ·cases hh
    ·rename_i fn hfn
     (try simp only[hfn])
     obtain⟨hb,hh⟩:=bG hh;rw[hb];simp only[cond_true];have h1:=ihC (CK (P:=fun R=>vC VF M Q Pm n fn fn.body ⟨su us 0,h,fl⟩ (kE h.length fn R)) hh);exact OI h1 fun y hy=>Rx h1 hy
  ·cases c with
   |skip=>exact h
   |ret=>exact h
   |exit i=>exact h
   |region ops=>exact yR ihF (fun _ _ h=>h) h
   |draw ops=>exact u9 ihF (fun _ _ h=>h) h
   |seq a b=>
    rw[vC]at h⊢;refine ihC ((kg n).1 (fun ex t ht=> ?_) h);cases ex with
    |normal=>exact ihC ht
    |ret=>exact ht
    |exit i=>exact ht
   |cond x a b=>
    rw[vC]at h⊢;split at h<;>try exact h.elim
    ·rename_i hx;(try simp only[hx]);exact ihC h
    ·rename_i hx;(try simp only[hx]);exact ihC h
   |block id b=>
    cases b with
    |loop b=>simp only[vC]at h⊢;exact ihL h
    |_=>simp only[vC]at h;first|(simp only[vC]at h⊢;exact ihC h)|exact ihC h
   |loop b=>simp[vC]at h
   |bad=>simp[vC]at h
   |uh a b=>simp[vC]at h
  ·rw[vL]at h⊢;refine ihC ((kg n).1 (fun ex t ht=> ?_) h);cases ex with
   |normal=>exact ihL ht
   |ret=>exact ht
   |exit i=>exact ht
theorem HX{n m:Nat}(h:n≤m):yc (vF VF M Q Pm n) (vF VF M Q Pm m):=by
 induction h with
 |refl=>exact fun _ _ _ _ _ h=>h
 |step _ ih=>exact fun f us h fl R hh=>(Li _).1 _ _ _ _ _ (ih _ _ _ _ _ hh)
theorem qaJ{n m:Nat}(h:n≤m){fn:aA}{c:ag}{s:Vs}{K:Ex→Vs→Prop}(hx:vC VF M Q Pm n fn c s K):vC VF M Q Pm m fn c s K:=by
 induction h with
 |refl=>exact hx
 |step _ ih=>exact(Li _).2.1 ih
theorem qbr{n m:Nat}(h:n≤m){fn:aA}{id:Nat}{b:ag}{k:Nat}{s:Vs}{K:Ex→Vs→Prop}(hx:vL VF M Q Pm n fn id b k s K):vL VF M Q Pm m fn id b k s K:=by
 induction h with
 |refl=>exact hx
 |step _ ih=>exact(Li _).2.2 ih
theorem Xd:∀ n,(∀ {fn:aA} {c:ag} {s:Vs} {K:Nat→Ex→Vs→Prop},(∀ a b ex t,a≤b→K a ex t→K b ex t)→vC VF M Q Pm n fn c s (fun ex t=>∃ m,K m ex t)→∃ m,n≤m∧vC VF M Q Pm m fn c s (K m))∧
  ∀ {fn:aA} {id:Nat} {b:ag} {k:Nat} {s:Vs} {K:Nat→Ex→Vs→Prop},(∀ a b ex t,a≤b→K a ex t→K b ex t)→vL VF M Q Pm n fn id b k s (fun ex t=>∃ m,K m ex t)→∃ m,n≤m∧vL VF M Q Pm m fn id b k s (K m):=by
 intro n
 induction n with
 |zero=>exact⟨fun _ h=>by simp[vC]at h,fun _ h=>by simp[vL]at h⟩
 |succ n ih=>
  obtain⟨ihC,ihL⟩:=ih;refine⟨fun {fn c s K} hK h=> ?_,fun {fn id b k s K} hK h=> ?_⟩
  ·have up:∀ {m:Nat},n≤m→vC VF M Q Pm (m+1) fn c s (K m)→∃ m,n+1≤m∧vC VF M Q Pm m fn c s (K m):=fun {m} hm h=>
    ⟨m+1,by omega,(kg _).1 (fun ex t ht=>hK _ _ _ _ (Nat.le_succ _) ht) h⟩
   have now:∀ {ex t},(∃ m,K m ex t)→∃ m,n≤m∧K m ex t:=fun⟨m,hm⟩=>⟨max n m,oE _ _,hK _ _ _ _ (Nat.le_max_right _ _) hm⟩;have reg:∀ {o:Option Vs},iH (fun ex t=>∃ m,K m ex t) o→∃ m,n≤m∧iH (K m) o:=fun {o} h=>by
    cases o with
    |none=>exact h.elim
    |some u=>exact now h
   have regm:∀ a b (o:Option Vs),a≤b→iH (K a) o→iH (K b) o:=fun a b o hab h=>sH (fun ex t ht=>hK a b ex t hab ht) h;cases c with
   |skip=>obtain⟨m,h1,h2⟩:=now h;exact up h1 h2
   |ret=>obtain⟨m,h1,h2⟩:=now h;exact up h1 h2
   |exit i=>obtain⟨m,h1,h2⟩:=now h;exact up h1 h2
   |region ops=>
    have h:k9 M Q (vF VF M Q Pm n) s (fun ex t=>∃ m,K m ex t) ops:=h;have key:∃ m,n≤m∧k9 M Q (vF VF M Q Pm n) s (K m) ops:=by
     unfold k9 at h⊢;split at h
     ·obtain⟨m,hm⟩:=Bd (k:=fun m t=>iH (K m) (gw M Q (vF VF M Q Pm n) _ t)) (fun a b t hab ht=>regm a b _ hab ht) (nD (fun t ht=>let⟨m,_,hm⟩:=reg ht;⟨m,hm⟩) h);exact⟨max n m,oE _ _,nD (fun t ht=>regm _ _ _ (Nat.le_max_right _ _) ht) hm⟩
     ·rename_i hno;obtain⟨m,h1,h2⟩:=reg h;exact⟨m,h1,h2⟩
    obtain⟨m,h1,h2⟩:=key;exact up h1 (yR (HX h1) (fun _ _ h=>h) h2)
   |draw ops=>
    have h:l8 M Q (vF VF M Q Pm n) s (fun ex t=>∃ m,K m ex t) (sched (ops.length+1) (aC ops 0) 0):=h;have key:∃ m,n≤m∧l8 M Q (vF VF M Q Pm n) s (K m) (sched (ops.length+1) (aC ops 0) 0):=by
     generalize sched (ops.length+1) (aC ops 0) 0=l at h⊢;cases l with
     |none=>exact h.elim
     |some l=>exact reg h
    obtain⟨m,h1,h2⟩:=key;exact up h1 (u9 (HX h1) (fun _ _ h=>h) h2)
   |seq a b=>
    rw[vC]at h;obtain⟨m,h1,h2⟩:=ihC (K:=fun m ex t=>match ex with| .normal=>vC VF M Q Pm m fn b t (K m)|ex=>K m ex t) (fun x y ex t hxy ht=>by
     cases ex with
     |normal=>exact(kg _).1 (fun ex t ht=>hK _ _ _ _ hxy ht) (qaJ hxy ht)
     |ret=>exact hK _ _ _ _ hxy ht
     |exit i=>exact hK _ _ _ _ hxy ht) ((kg n).1 (fun ex t ht=>by
     cases ex with
     |normal=>obtain⟨m,_,hm⟩:=ihC hK ht;exact⟨m,hm⟩
     |ret=>exact ht
     |exit i=>exact ht) h)
    exact up h1 (by rw[vC];exact h2)
   |cond x a b=>
    rw[vC]at h;split at h<;>try exact h.elim
    ·rename_i hx;obtain⟨m,h1,h2⟩:=ihC hK h;exact up h1 (by rw[vC];simp only[hx];exact h2)
    ·rename_i hx;obtain⟨m,h1,h2⟩:=ihC hK h;exact up h1 (by rw[vC];simp only[hx];exact h2)
   |block id b=>
    have blk:∀ {b:ag},vC VF M Q Pm n fn b s (kB fn id s.h.length fun ex t=>∃ m,K m ex t)→∃ m,n≤m∧vC VF M Q Pm m fn b s (kB fn id s.h.length (K m)):=fun {b} h=>
     ihC (K:=fun m=>kB fn id s.h.length (K m)) (fun x y ex t hxy ht=>oG (fun ex t ht=>hK _ _ _ _ hxy ht) ht) ((kg n).1 (fun ex t ht=>TP ht) h)
    cases b with
    |loop b=>simp only[vC]at h;obtain⟨m,h1,h2⟩:=ihL hK h;exact up h1 (by simp only[vC];exact h2)
    |_=>simp only[vC]at h;obtain⟨m,h1,h2⟩:=blk h;exact up h1 (by simp only[vC];exact h2)
   |loop b=>simp[vC]at h
   |bad=>simp[vC]at h
   |uh a b=>simp[vC]at h
  ·rw[vL]at h;obtain⟨m,h1,h2⟩:=ihC (K:=fun m ex t=>match ex with| .normal=>vL VF M Q Pm m fn id b k (keep (fn.head id) k t) (K m)|ex=>kB fn id k (K m) ex t) (fun x y ex t hxy ht=>by
    cases ex with
    |normal=>exact(kg _).2 (fun ex t ht=>hK _ _ _ _ hxy ht) (qbr hxy ht)
    |ret=>exact oG (fun ex t ht=>hK _ _ _ _ hxy ht) ht
    |exit i=>exact oG (fun ex t ht=>hK _ _ _ _ hxy ht) ht) ((kg n).1 (fun ex t ht=>by
    cases ex with
    |normal=>obtain⟨m,_,hm⟩:=ihL hK ht;exact⟨m,hm⟩
    |ret=>exact TP ht
    |exit i=>exact TP ht) h)
   exact⟨m+1,by omega,by rw[vL];exact(kg _).1 (fun ex t ht=>by
    cases ex with
    |normal=>exact(kg _).2 (fun ex t ht=>hK _ _ _ _ (Nat.le_succ _) ht) ht
    |ret=>exact oG (fun ex t ht=>hK _ _ _ _ (Nat.le_succ _) ht) ht
    |exit i=>exact oG (fun ex t ht=>hK _ _ _ _ (Nat.le_succ _) ht) ht) h2⟩
variable(VF M Q Pm)
noncomputable def gF:FU:=fun f us h fl=>sup fun n=>vF VF M Q Pm n f us h fl
def gC(fn:aA)(c:ag)(s:Vs)(K:Ex→Vs→Prop):Prop:=∃ n,vC VF M Q Pm n fn c s K
def gL(fn:aA)(id:Nat)(b:ag)(k:Nat)(s:Vs)(K:Ex→Vs→Prop):Prop:=∃ n,vL VF M Q Pm n fn id b k s K
variable{VF M Q Pm}
theorem Ij:B1 (vF VF M Q Pm) (gF VF M Q Pm):=⟨fun n m h=>HX h,fun f us h fl R=>Y9 (fun n m x hnm hx=>HX hnm _ _ _ _ _ hx)⟩
theorem qg2{C:Nat→Option dW}(T:Z9 C M VF Q Pm):Zt (ie C M) (gF VF M Q Pm):=by
 intro f us h fl r h' fl' hh;obtain⟨n,hn⟩:=(Ij.lim _ _ _ _ _).1 hh;exact(sound T n).1 f us h fl r h' fl' hn
variable{fn:aA}{s:Vs}{K:Ex→Vs→Prop}
@[simp] theorem qjv:gC VF M Q Pm fn .skip s K=K .normal s:=propext ⟨fun⟨n,h⟩=>by cases n with|zero=>simp[vC]at h|succ n=>exact h,fun h=>⟨1,h⟩⟩
@[simp] theorem ql1:gC VF M Q Pm fn .ret s K=K .ret s:=propext ⟨fun⟨n,h⟩=>by cases n with|zero=>simp[vC]at h|succ n=>exact h,fun h=>⟨1,h⟩⟩
@[simp] theorem qjz{i:Nat}:gC VF M Q Pm fn (.exit i) s K=K (.exit i) s:=propext ⟨fun⟨n,h⟩=>by cases n with|zero=>simp[vC]at h|succ n=>exact h,fun h=>⟨1,h⟩⟩
theorem H9{ops:List aH}(h:iH K (gw M Q (gF VF M Q Pm) ops s)):∃ n,iH K (gw M Q (vF VF M Q Pm n) ops s):=by
 cases ho:gw M Q (gF VF M Q Pm) ops s with
 |none=>rw[ho]at h;exact h.elim
 |some t=>rw[ho]at h;obtain⟨n,hn⟩:=Us Ij ho;exact⟨n,by rw[hn];exact h⟩
theorem PY{ops:List aH}:gC VF M Q Pm fn (.region ops) s K=k9 M Q (gF VF M Q Pm) s K ops:=by
 refine propext ⟨fun⟨n,h⟩=> ?_,fun h=> ?_⟩
 ·cases n with
  |zero=>simp[vC]at h
  |succ n=>exact yR (Ij.le n) (fun _ _ h=>h) h
 ·have key:∃ n,k9 M Q (vF VF M Q Pm n) s K ops:=by
   unfold k9 at h⊢;split at h
   ·exact Bd (k:=fun m t=>iH K (gw M Q (vF VF M Q Pm m) _ t)) (fun a b t hab ht=>y8 (fun t h=>y6 (HX hab) h) ht) (nD (fun t ht=>H9 ht) h)
   ·exact H9 h
  obtain⟨n,hn⟩:=key;exact⟨n+1,hn⟩
theorem YL{ops:List aH}:gC VF M Q Pm fn (.draw ops) s K=l8 M Q (gF VF M Q Pm) s K (sched (ops.length+1) (aC ops 0) 0):=by
 refine propext ⟨fun⟨n,h⟩=> ?_,fun h=> ?_⟩
 ·cases n with
  |zero=>simp[vC]at h
  |succ n=>exact u9 (Ij.le n) (fun _ _ h=>h) h
 ·have key:∃ n,l8 M Q (vF VF M Q Pm n) s K (sched (ops.length+1) (aC ops 0) 0):=by
   generalize sched (ops.length+1) (aC ops 0) 0=l at h⊢;cases l with
   |none=>exact h.elim
   |some l=>
    simp only[l8]at h⊢;cases ho:b7 M Q (gF VF M Q Pm) l s []with
    |none=>rw[ho]at h;exact h.elim
    |some t=>rw[ho]at h;obtain⟨n,hn⟩:=IJ Ij ho;exact⟨n,by rw[hn];exact h⟩
  obtain⟨n,hn⟩:=key;exact⟨n+1,hn⟩
variable(VF M Q Pm)in
def l9(fn:aA)(b:ag)(K:Ex→Vs→Prop)(ex:Ex)(t:Vs):Prop:=
 match ex with
 | .normal=>gC VF M Q Pm fn b t K
 |ex=>K ex t
theorem qcB{a b:ag}:gC VF M Q Pm fn (.seq a b) s K=gC VF M Q Pm fn a s (l9 VF M Q Pm fn b K):=by
 refine propext ⟨fun⟨n,h⟩=> ?_,fun⟨n,h⟩=> ?_⟩
 ·cases n with
  |zero=>simp[vC]at h
  |succ n=>
   rw[vC]at h;refine⟨n,(kg n).1 (fun ex t ht=> ?_) h⟩;cases ex with
   |normal=>exact⟨n,ht⟩
   |ret=>exact ht
   |exit i=>exact ht
 ·obtain⟨m,_,hm⟩:=(Xd n).1 (K:=fun m ex t=>match ex with| .normal=>vC VF M Q Pm m fn b t K|ex=>K ex t) (fun x y ex t hxy ht=>by
   cases ex with
   |normal=>exact qaJ hxy ht
   |ret=>exact ht
   |exit i=>exact ht) ((kg n).1 (fun ex t ht=>by
   cases ex with
   |normal=>exact ht
   |ret=>exact⟨0,ht⟩
   |exit i=>exact⟨0,ht⟩) h)
  exact⟨m+1,by rw[vC];exact hm⟩
variable(VF M Q Pm)in
def RP(fn:aA)(a b:ag)(s:Vs)(K:Ex→Vs→Prop):Option U→Prop
 |some (.bool true)=>gC VF M Q Pm fn a s K
 |some (.bool false)=>gC VF M Q Pm fn b s K
 |_=>False
theorem ZI{x:bB}{a b:ag}:gC VF M Q Pm fn (.cond x a b) s K=RP VF M Q Pm fn a b s K (ck s.e x):=by
 refine propext ⟨fun⟨n,h⟩=> ?_,fun h=> ?_⟩
 ·cases n with
  |zero=>simp[vC]at h
  |succ n=>
   rw[vC]at h;split at h<;>try exact h.elim
   ·rename_i hx;(try rw[hx]);exact⟨n,h⟩
   ·rename_i hx;(try rw[hx]);exact⟨n,h⟩
 ·unfold RP at h;split at h<;>try exact h.elim
  ·rename_i hx;obtain⟨n,h⟩:=h;exact⟨n+1,by rw[vC];(try simp only[hx]);exact h⟩
  ·rename_i hx;obtain⟨n,h⟩:=h;exact⟨n+1,by rw[vC];(try simp only[hx]);exact h⟩
theorem qaa{id:Nat}{b:ag}:gC VF M Q Pm fn (.block id (.loop b)) s K=gL VF M Q Pm fn id b s.h.length (keep (fn.head id) s.h.length s) K:=by
 refine propext ⟨fun⟨n,h⟩=> ?_,fun⟨n,h⟩=>⟨n+1,by simp only[vC];exact h⟩⟩;cases n with
 |zero=>simp[vC]at h
 |succ n=>simp only[vC]at h;exact⟨n,h⟩
def ag.IK:ag→Bool
 | .loop _=>true
 |_=>false
theorem GL{n id:Nat}{b:ag}(hb:b.IK=false):vC VF M Q Pm (n+1) fn (.block id b) s K=vC VF M Q Pm n fn b s (kB fn id s.h.length K):=by
 cases b with
 |loop b=>simp[ag.IK]at hb
 |_=>simp only[vC]
theorem zw{id:Nat}{b:ag}(hb:b.IK=false):gC VF M Q Pm fn (.block id b) s K=gC VF M Q Pm fn b s (kB fn id s.h.length K):=by
 refine propext ⟨fun⟨n,h⟩=> ?_,fun⟨n,h⟩=>⟨n+1,by rw[GL hb];exact h⟩⟩;cases n with
 |zero=>simp[vC]at h
 |succ n=>rw[GL hb]at h;exact⟨n,h⟩
variable(VF M Q Pm)in
def qan(fn:aA)(id:Nat)(b:ag)(k:Nat)(K:Ex→Vs→Prop)(ex:Ex)(t:Vs):Prop:=
 match ex with
 | .normal=>gL VF M Q Pm fn id b k (keep (fn.head id) k t) K
 |ex=>kB fn id k K ex t
theorem aq{id k:Nat}{b b' :ag}(hb:b=b'):gL VF M Q Pm fn id b k s K=gC VF M Q Pm fn b' s (qan VF M Q Pm fn id b k K):=by
 subst hb;refine propext ⟨fun⟨n,h⟩=> ?_,fun⟨n,h⟩=> ?_⟩
 ·cases n with
  |zero=>simp[vL]at h
  |succ n=>
   rw[vL]at h;refine⟨n,(kg n).1 (fun ex t ht=> ?_) h⟩;cases ex with
   |normal=>exact⟨n,ht⟩
   |ret=>exact ht
   |exit i=>exact ht
 ·obtain⟨m,_,hm⟩:=(Xd n).1 (K:=fun m ex t=>match ex with| .normal=>vL VF M Q Pm m fn id b k (keep (fn.head id) k t) K|ex=>kB fn id k K ex t) (fun x y ex t hxy ht=>by
   cases ex with
   |normal=>exact qbr hxy ht
   |ret=>exact ht
   |exit i=>exact ht) ((kg n).1 (fun ex t ht=>by
   cases ex with
   |normal=>exact ht
   |ret=>exact⟨0,ht⟩
   |exit i=>exact⟨0,ht⟩) h)
  exact⟨m+1,by rw[vL];exact hm⟩
theorem Du{f:Nat}{us:List U}{h:List Uo}{fl:Nat}{R:U×List Uo×Nat}(hp:Pm f=none)(hf:VF f=some fn)(ha:Nat.ble us.length fn.ntmps=true)(hR:gC VF M Q Pm fn fn.body ⟨su us 0,h,fl⟩ (kE h.length fn R)):gF VF M Q Pm f us h fl=some R:=by
 obtain⟨n,hn⟩:=hR;refine(Ij.lim _ _ _ _ _).2 ⟨n+1,?_⟩;rw[vF,hp];simp only[hf,ha,cond_true];exact OI hn fun y hy=>Rx hn hy
theorem On{f:Nat}{us:List U}{h:List Uo}{fl:Nat}{p:List U→List Uo→Nat→Option (U×List Uo×Nat)}(hp:Pm f=some p):gF VF M Q Pm f us h fl=p us h fl:=by
 ext x;constructor
 ·intro hh;obtain⟨n,hn⟩:=(Ij.lim _ _ _ _ _).1 hh;cases n with
  |zero=>simp[vF]at hn
  |succ n=>rw[vF,hp]at hn;exact hn
 ·intro hh;exact(Ij.lim _ _ _ _ _).2 ⟨1,by rw[vF,hp];exact hh⟩
end
end Go.RE
