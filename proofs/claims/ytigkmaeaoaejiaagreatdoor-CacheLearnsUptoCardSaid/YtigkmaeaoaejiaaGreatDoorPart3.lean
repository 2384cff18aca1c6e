/- Operations that write memory do what the evaluator says. -/
import Derived.Test.YtigkmaeaoaejiaaGreatDoorPart2
import Derived.Laws.IdiomCopy
import Derived.Deep.Upon
set_option linter.unusedVariables false
set_option linter.unusedSimpArgs false
namespace Go.RE
section
variable{P:Program}{w0:World}{ρ:Ren}{s s' :St}{w:World}{env:PT V}{e:Operand→Value}
theorem Gy(h:Array Obj)(b:Nat)(x:Obj)(hb:h[b]? =some x):h.setIfInBounds b x=h:=by
 apply Array.ext_getElem?;intro i;rw[BI];split
 ·rename_i hi;subst hi;split
  ·exact hb.symm
  ·rename_i hlt;rw[zo (by omega)]
 ·rfl
theorem sr(b:Nat)(t:TypeId)(fr:Nat×Nat):∀ (vs:List Value) (o:Nat) (w:World) (c:Array Value),w.heap[b]? =some (.cells c t fr)→
  ∃ c',w.setCells b o vs={w with heap:=w.heap.setIfInBounds b (.cells c' t fr)}∧c'.size=c.size∧∀ j,c'[j]? =if o≤j∧j<o+vs.length∧j<c.size then vs[j - o]? else c[j]? :=by
 intro vs
 induction vs with
 |nil=>intro o w c h;exact⟨c,by simp[World.setCells,Gy _ _ _ h],rfl,fun j=>by rw[if_neg (by simp;omega)]⟩
 |cons v vs ih=>
  intro o w c h;have hset:w.setCell ⟨b,o,none⟩ v={w with heap:=w.heap.setIfInBounds b (.cells (c.setIfInBounds o v) t fr)}:=by
   unfold World.setCell;congr 1;apply Array.ext_getElem?;intro i;rw[Array.getElem?_modify,BI];by_cases hi:b=i
   ·subst hi;rw[if_pos rfl,if_pos rfl,h];have:b<w.heap.size:=by
     rcases Nat.lt_or_ge b w.heap.size with h' |h'
     ·exact h'
     ·rw[zo h']at h;simp at h
    rw[if_pos this];simp
   ·rw[if_neg hi,if_neg hi]
  have hlt:b<w.heap.size:=by
   rcases Nat.lt_or_ge b w.heap.size with h' |h'
   ·exact h'
   ·rw[zo h']at h;simp at h
  obtain⟨c',h1,h2,h3⟩:=ih (o+1) (w.setCell ⟨b,o,none⟩ v) (c.setIfInBounds o v) (by rw[hset];exact Array.getElem?_setIfInBounds_self_of_lt hlt);refine⟨c',?_,by simpa using h2,fun j=> ?_⟩
  ·simp only[World.setCells];rw[h1,hset];simp
  ·rw[h3,BI];simp only[Array.size_setIfInBounds,List.length_cons];by_cases hj:o+1≤j∧j<o+1+vs.length∧j<c.size
   ·rw[if_pos hj,if_pos (by omega),show j - o=(j - (o+1))+1 from by omega];simp
   ·rw[if_neg hj];by_cases hk:o=j
    ·subst hk;by_cases hs:o<c.size
     ·rw[if_pos rfl,if_pos hs,if_pos (by omega)];simp
     ·rw[if_pos rfl,if_neg hs,if_neg (by omega),zo (by omega)]
    ·rw[if_neg hk,if_neg (by omega)]
theorem UH{vs:List V}{xs:List Value}(h:aX w0 ρ vs xs)(h1:vs.all V.one=true):∀ x∈xs,x.oneCell' =true:=by
 intro x hx;obtain⟨i,hi,rfl⟩:=List.mem_iff_getElem.1 hx;have hi' :i<vs.length:=by rw[h.1];exact hi
 have hv:=h.2 i hi' hi;have ho:vs[i].one=true:=qd.1 h1 _ (List.getElem_mem hi');obtain⟨a,b⟩:=hv.one ho;generalize xs[i]=y at*;cases y<;>first|rfl|exact absurd rfl (a _)|exact absurd rfl (b _)
theorem O6{b off:Nat}{vs:List V}(h:s.write b off vs=some s'):∃ cs,s.get b=some (.row cs)∧off+vs.length≤cs.length∧vs.all V.one=true∧s' =s.put b (.row (kT cs off vs)):=by
 unfold St.write at h;cases hs:s.row b with
 |none=>simp[hs]at h
 |some cs=>
  simp only[hs]at h;cases hb:(Nat.ble (off+vs.length) cs.length&&vs.all V.one)with
  |false=>simp[hb]at h
  |true=>
   simp only[hb,cond_true,ay]at h;simp only[cm]at hb;refine⟨cs,?_,ja hb.1,hb.2,h.symm⟩;unfold St.row at hs;split at hs<;>simp at hs;rename_i hg;subst hs;exact hg
theorem q8{b off r o lim:Nat}{vs:List V}{xs:List Value}(h:s.write b off vs=some s')(hR:Rel w0 ρ s w)(hρ:ρ b=some (r,o,lim))(hx:aX w0 ρ vs xs):
  (storeCells ⟨r,o+off,none⟩ xs).run P w=.ok () (w.setCells r (o+off) xs)∧Rel w0 ρ s' (w.setCells r (o+off) xs)∧kK ρ s w ρ s' (w.setCells r (o+off) xs)∧
   (∀ j,j<xs.length→(w.cell? ⟨r,o+off+j,none⟩).isSome=true)∧(∀ j,j<xs.length→w.frozen? ⟨r,o+off+j,none⟩=false)∧(∀ x∈xs,x.oneCell' =true):=by
 obtain⟨cs,hg,hl,h1,rfl⟩:=O6 h;have ho:=hR.ob b r o lim hρ;rw[hg]at ho;obtain⟨c,t,fr,e1,e2,e3,e4,e5⟩:=ho;have hlen:=hx.1;have hc:∀ j,j<xs.length→(w.cell? ⟨r,o+off+j,none⟩).isSome=true:=fun j hj=>by
  simp only[World.cell?,e1,Option.isSome_none,mF,if_false];rw[vS (by omega)];rfl
 have hf:∀ j,j<xs.length→w.frozen? ⟨r,o+off+j,none⟩=false:=fun j hj=>by
  obtain⟨lo,hi⟩:=fr;simp only[World.frozen?,e1];have:=e4 (o+off+j) (by omega);simp at this⊢;omega
 have ho1:=UH hx h1;obtain⟨c',g1,g2,g3⟩:=sr r t fr xs (o+off) w c e1;have hput:=hR.put hρ (by rw[hg];trivial) (ob:=.row (kT cs off vs)) (obj:=.cells c' t fr) ⟨c',t,fr,rfl,by omega,by rw[rV _ _ _ hl];exact e3,e4,fun i hi=>by
  rw[rV _ _ _ hl]at hi;have hget:=MY cs off vs hl i;rw[dm (by rw[rV _ _ _ hl];exact hi)]at hget;rw[g3];by_cases c1:i<off
  ·rw[if_pos c1,dm hi]at hget;simp only[ay]at hget;rw[if_neg (by omega),hget];exact e5 i hi
  ·rw[if_neg c1]at hget;by_cases c2:i<off+vs.length
   ·rw[if_pos c2,dm (by omega)]at hget;simp only[ay]at hget;rw[if_pos (by omega),hget];obtain⟨x,a1,a2⟩:=hx.get (dm (show i - off<vs.length by omega));exact⟨x,by rw[←a1];congr 1;omega,a2⟩
   ·rw[if_neg c2,dm hi]at hget;simp only[ay]at hget;rw[if_neg (by omega),hget];exact e5 i hi⟩
 have hrun:=run_storeCells_cells (P:=P) r (o+off) xs 0 w (by simpa using hc) (by simpa using hf) ho1;simp only[Nat.add_zero]at hrun;rw[←g1]at hput;exact⟨hrun,hput.1,hput.2,hc,hf,ho1⟩
def qiR(P:Program)(w0:World)(ρ:Ren)(s:St)(w:World)(e:Operand→Value)(o:Oper)(v:V)(s' :St):Prop:=
 ∃ ρ' w' nx,(execOp e o).run P w=.ok nx w'∧Rel w0 ρ' s' w'∧kK ρ s w ρ' s' w'∧((∃ x,nx=.value x∧aE w0 ρ' v x)∨(nx=.skip∧v=.aP []))
theorem BR{P:Program}{sz:Nat}{str:Bool}{x:V}{y:Value}{new:List V}{k:Nat}{tx:TypeId}(hk:if str then P.underlying tx=some .string else ∃ el,P.underlying tx=some (.slice el))
  (h:iG s sz str x=some new) (hl:tT x=some k) (hR:Rel w0 ρ s w) (hx:aE w0 ρ x y) (h1:new.all V.one=true):∃ xs,Src P sz tx y k xs w∧aX w0 ρ new xs:=by
 cases str with
 |true=>
  cases x<;>simp[iG]at h;rename_i b;cases hb:Nat.beq sz 1 with
  |false=>simp[hb]at h
  |true=>
   simp[hb]at h;subst h;have:sz=1:=bS hb;subst this;simp[tT]at hl;subst hl;obtain⟨p,rfl,hp⟩:=hx.gd;have hs:p.size=b.length:=by rw[←hp];simp
   refine⟨byteCells p,by rw[←hs];exact Src.ofString w (by simpa using hk) p,?_⟩;subst hp;exact⟨by simp[byteCells],fun i h1 h2=>by simp only[byteCells,List.getElem_map,iM];exact .int _ _⟩
 |false=>
  obtain⟨el,hk⟩:∃ el,P.underlying tx=some (.slice el):=by simpa using hk
  have h' :bx s sz x=some new:=by cases x<;>simpa[iG]using h
  rcases fY h' hR hx with⟨rfl,rfl⟩|⟨a,len,cap,xs,rfl,g0,g1,g2,g3⟩
  ·have:k=0:=by cases hx;simp[tT]at hl;omega
   subst this;exact⟨[],Src.ofNil w hk 0,.nil⟩
  ·rw[g0]at hl;simp at hl;subst hl;exact⟨xs,Src.ofSlice w hk a len cap xs g1 g2 (UH g3 h1),g3⟩
theorem Src.nil{sz:Nat}{tx:TypeId}{y:Value}{xs:List Value}(h:Src P sz tx y 0 xs w):xs=[]:=by
 have:=h.newsLen;simp at this;exact this
theorem Fm{t tx el ty:TypeId}{sz bs:Nat}{str:Bool}{z a x v:V}{ax y:Value}(ht:P.underlying t=some (.slice el))(hk:if str then P.underlying tx=some .string else ∃ el,P.underlying tx=some (.slice el))
  (hsz:iy P el=some sz) (hbs:wI P el=some bs) (hz:zeroOf P el=some z) (hzs:z.cells.length=sz) (hv:qp s sz bs str a x=some (v,s')) (hR:Rel w0 ρ s w) (ha:aE w0 ρ a ax) (hx:aE w0 ρ x y):
  ∃ ρ' w' r,(Builtin.append_ #[t,tx] ty #[ax,y]).run P w=.ok r w'∧Rel w0 ρ' s' w'∧kK ρ s w ρ' s' w'∧aE w0 ρ' v r:=by
 obtain⟨i,hi,his⟩:=DI hsz;have hib:i.bytes=bs:=by unfold wI at hbs;rw[hi]at hbs;simpa using hbs
 obtain⟨zx,hiz,hzx⟩:∃ zx,i.zero=some zx∧zx.cells.size=sz:=by
  unfold zeroOf at hz;rw[hi]at hz;cases hq:i.zero with
  |none=>simp[hq]at hz
  |some zx=>
   simp only[hq]at hz;have:=(rS (w0:=w0) (ρ:=ρ) hz).cells.1;exact⟨zx,rfl,by rw[←hzs,this];simp⟩
 subst his;subst hib;unfold qp at hv;split at hv<;>try (simp at hv;done)
 rename_i new k hnew hlen;cases h1:new.all V.one with
 |false=>simp[h1]at hv
 |true=>
  simp only[h1,cond_true]at hv;obtain⟨xs,hsrc,hrel⟩:=BR (P:=P) hk hnew hlen hR hx h1
  -- a new row
  have grow:∀ (s0:St) (base:Option Addr) (len cap:Nat) (old:List V) (olds:List Value),Rel w0 ρ s0 w→kK ρ s w ρ s0 w→aX w0 ρ old olds→
    (Builtin.firstCells i.size len (.slice base len cap)).run P w.drew=.ok olds.toArray w.drew→cap<len+k→(len+k)*i.bytes≤aW→len+k≤aW→olds.length=len*i.size→
    ∃ ρ' w' r,(Builtin.append_ #[t,tx] ty #[.slice base len cap,y]).run P w=.ok r w'∧Rel w0 ρ' (s0.alloc (.row (old++new))) w'∧kK ρ s w ρ' (s0.alloc (.row (old++new))) w'∧
     aE w0 ρ' (.slice s0.next 0 (len+k) (len+k) i.size false) r:=fun s0 base len cap old olds hR0 hS0 hold hfirst hcap hb hb2 hol=>by
   have hrun:=run_append_grow_src (P:=P) w t tx ty el i zx ht hi hiz base len cap olds hfirst y k xs hsrc hcap (by unfold aW at hb2;omega) (growslice_fits hcap (by unfold aW at hb;omega));have hge:=grownCap_ge w (len+k) cap el;generalize hG:grownCap w (len+k) cap el=G at hrun hge;have hRd:Rel w0 ρ s0 w.drew:=hR0.same rfl rfl rfl;have hrow:=Jp (hold.append hrel) (Builtin.zeroCells zx.cells (G - (len+k))).toList el (0,0) (by simp);rw[show((olds++xs)++(Builtin.zeroCells zx.cells (G - (len+k))).toList).toArray=(olds++xs).toArray++Builtin.zeroCells zx.cells (G - (len+k))from by apply Array.ext';simp]at hrow;obtain⟨a1,a2⟩:=hRd.alloc hrow;refine⟨_,_,_,hrun,a1,hS0.trans ((kK.same (ρ:=ρ) (s:=s0) (w:=w) (w' :=w.drew) rfl).trans a2),.slice (Ren.add_same _ _ _) hge (fun h=>by simp at h) (aM _) (.inr ⟨rfl,?_⟩)⟩;have hzl:(Builtin.zeroCells zx.cells (G - (len+k))).toList.length=(G - (len+k))*i.size:=by simp[Builtin.zeroCells,hzx]
   rw[hzl,oC,hol,hsrc.newsLen,←Nat.add_mul,←Nat.add_mul];simp only[Nat.zero_add];exact o7 _ (by omega)
  split at hv
  ·cases ha;cases hk0:Nat.beq k 0 with
   |true=>
    have:k=0:=bS hk0;subst this;simp only[hk0,cond_true,ay,aO]at hv;obtain⟨rfl,rfl⟩:=hv;rw[Src.nil hsrc]at hsrc;exact⟨ρ,w,_,run_append_nothing w t tx ty el i ht hi none 0 0 (aM _) y hsrc,hR,.refl _ _ _,.bu⟩
   |false=>
    have hkp:k≠0:=by intro h;subst h;simp[Nat.beq]at hk0
    simp only[hk0,cond_false]at hv;cases hb:(Nat.ble (k*i.bytes) aW&&Nat.ble k aW)with
    |false=>simp[hb]at hv
    |true=>
     simp only[hb,cond_true,ay,aO]at hv;obtain⟨rfl,rfl⟩:=hv;simp only[cm]at hb;obtain⟨ρ',w',r,g1,g2,g3,g4⟩:=grow s none 0 0 [] [] hR (.refl _ _ _) .nil (by simp[Builtin.firstCells]) (by omega) (by simpa using ja hb.1) (by simpa using ja hb.2) (by simp);exact⟨ρ',w',r,g1,by simpa using g2,by simpa using g3,by simpa using g4⟩
  ·cases ha;rename_i za;cases hk0:Nat.beq k 0 with
   |true=>
    have:k=0:=bS hk0;subst this;simp only[hk0,cond_true,ay,aO]at hv;obtain⟨rfl,rfl⟩:=hv;rw[Src.nil hsrc]at hsrc;exact⟨ρ,w,_,run_append_nothing w t tx ty el i ht hi (some za) 0 0 (aM _) y hsrc,hR,.refl _ _ _,.bQ⟩
   |false=>
    have hkp:k≠0:=by intro h;subst h;simp[Nat.beq]at hk0
    simp only[hk0,cond_false]at hv;cases hb:(Nat.ble (k*i.bytes) aW&&Nat.ble k aW)with
    |false=>simp[hb]at hv
    |true=>
     simp only[hb,cond_true,ay,aO]at hv;obtain⟨rfl,rfl⟩:=hv;simp only[cm]at hb;obtain⟨ρ',w',r,g1,g2,g3,g4⟩:=grow s (some za) 0 0 [] [] hR (.refl _ _ _) .nil (run_firstCells_some (P:=P) w.drew i.size 0 za 0 0 [] (by simp) (by simp)) (by omega) (by simpa using ja hb.1) (by simpa using ja hb.2) (by simp);exact⟨ρ',w',r,g1,by simpa using g2,by simpa using g3,by simpa using g4⟩
  ·rename_i row off len zz;cases hk0:Nat.beq k 0 with
   |false=>simp[hk0]at hv
   |true=>
    have:k=0:=bS hk0;subst this;simp only[hk0,cond_true,ay,aO]at hv;obtain⟨rfl,rfl⟩:=hv;rw[Src.nil hsrc]at hsrc;cases ha with
    |aj c hr hc hcv h3 h4=>
     exact⟨ρ,w,_,run_append_nothing w t tx ty el i ht hi _ _ _ h3 y hsrc,hR,.refl _ _ _,.aj c hr hc hcv h3 h4⟩
  ·rename_i b off len cap zz ex;cases hb:(Nat.beq zz i.size&&Nat.ble ((len+k)*i.bytes) aW&&Nat.ble (len+k) aW)with
   |false=>simp[hb]at hv
   |true=>
    simp only[hb,cond_true]at hv;simp only[cm]at hb;have hzz:zz=i.size:=bS hb.1.1;have hb1:=ja hb.1.2;have hb2:=ja hb.2;subst hzz;cases ha with
    |slice hρ h1' h2 h3 h4=>
     rename_i r o lim aa cap';cases hc:Nat.ble (len+k) cap with
     |true=>
      have hc' :=ja hc;simp only[hc,cond_true]at hv;cases hk0:Nat.beq k 0 with
      |true=>
       have:k=0:=bS hk0;subst this;simp only[hk0,cond_true,ay,aO]at hv;obtain⟨rfl,rfl⟩:=hv;rw[Src.nil hsrc]at hsrc;exact⟨ρ,w,_,run_append_nothing w t tx ty el i ht hi _ _ _ (by omega) y hsrc,hR,.refl _ _ _,.slice hρ h1' h2 h3 h4⟩
      |false=>
       have hkp:k≠0:=by intro h;subst h;simp[Nat.beq]at hk0
       simp only[hk0,cond_false]at hv;cases hw:s.write b (off+len*i.size) new with
       |none=>simp[hw]at hv
       |some s1=>
        simp only[hw,ay,aO]at hv;obtain⟨rfl,rfl⟩:=hv;rcases h4 with h4|⟨rfl,h5⟩
        ·omega
        ·obtain⟨q1,q2,q3,q4,q5,q6⟩:=q8 (P:=P) hw hR hρ hrel;rw[←Nat.add_assoc]at q1 q2 q3 q4 q5;have hrun:=run_append_room_src (P:=P) w t tx ty el i ht hi r (o+off) len cap' y k xs hsrc (by omega) q4 q5;exact⟨ρ,_,_,hrun,q2,q3,.slice hρ h1' h2 (by omega) (.inr ⟨rfl,h5⟩)⟩
     |false=>
      have hc' :cap<len+k:=by
       rcases Nat.lt_or_ge cap (len+k)with h|h
       ·exact h
       ·rw[tD h]at hc;simp at hc
      simp only[hc,cond_false]at hv;cases hold:bx s i.size (.slice b off len cap i.size ex)with
      |none=>simp[hold]at hv
      |some old=>
       simp only[hold,ay,aO]at hv;obtain⟨rfl,rfl⟩:=hv;rcases fY hold hR (.slice hρ h1' h2 h3 h4)with⟨hh,_⟩|⟨aa',len',cap'',olds,hh,g0,g1,g2,g3⟩
       ·cases hh
       ·cases hh;have hfirst:(Builtin.firstCells i.size len (.slice (some aa) len cap')).run P w.drew=.ok olds.toArray w.drew:=run_firstCells_some (P:=P) w.drew i.size len aa len cap' olds g1 (by simpa using g2);cases ex with
        |true=>
         have:cap' =cap:=h2 rfl;subst this;simpa using grow s (some aa) len cap' old olds hR (.refl _ _ _) g3 hfirst hc' hb1 hb2 g1
        |false=>
         obtain⟨k1,k2⟩:=hR.kill hρ;by_cases hcc:cap' <len+k
         ·exact grow (s.put b .dead) (some aa) len cap' old olds k1 k2 g3 hfirst hcc hb1 hb2 g1
         ·rcases h4 with h4|⟨rfl,h5⟩
          ·omega
          ·have hrow:∃ cs,s.get b=some (.row cs):=by
            simp only[bx]at hold;cases hs:s.row b with
            |none=>simp[hs]at hold
            |some cs=>
             unfold St.row at hs;split at hs<;>simp at hs;rename_i hg;exact⟨_,hg⟩
           obtain⟨cs,hg⟩:=hrow;have ho:=hR.ob b r o lim hρ;rw[hg]at ho;obtain⟨c,tt,fr,e1,e2,e3,e4,e5⟩:=ho;have hnl:=hsrc.newsLen;have hfit:(len+k)*i.size≤cap'*i.size:=o7 _ (by omega);rw[Nat.add_mul]at hfit;have hcell:∀ j,j<xs.length→(w.cell? ⟨r,o+off+len*i.size+j,none⟩).isSome=true:=fun j hj=>by
            simp only[World.cell?,e1,Option.isSome_none,mF,if_false];rw[vS (by omega)];rfl
           have hfz:∀ j,j<xs.length→w.frozen? ⟨r,o+off+len*i.size+j,none⟩=false:=fun j hj=>by
            obtain⟨lo,hi⟩:=fr;simp only[World.frozen?,e1];have:=e4 (o+off+len*i.size+j) (by omega);simp at this⊢;omega
           have hrun:=run_append_room_src (P:=P) w t tx ty el i ht hi r (o+off) len cap' y k xs hsrc (by omega) hcell hfz;obtain⟨c',s1,s2,s3⟩:=sr r tt fr xs (o+off+len*i.size) w c e1;have hol:=g3.1;have hnr:=hrel.1;have hgrow:=hR.grow hρ (by rw[hg];trivial) (ob:=.row (old++new)) (obj:=.cells c' tt fr) (o' :=o+off) ⟨c',tt,fr,rfl,by omega,by simp;omega,e4,fun j hj=>by
            simp only[oC]at hj;rw[s3];by_cases hjo:j<old.length
            ·rw[if_neg (by omega)];obtain⟨x1,x2,x3⟩:=g3.get (dm hjo);have hx4:=g2 j x1 x2;rw[iL]at hx4;simp only[World.cell?,e1,Option.isSome_none,mF,if_false]at hx4;exact⟨x1,hx4,by rw[List.getElem_append_left hjo];exact x3⟩
            ·rw[if_pos (by omega)];obtain⟨x1,x2,x3⟩:=hrel.get (dm (show j - old.length<new.length by omega));refine⟨x1,by rw[←x2];congr 1;omega,?_⟩;rw[List.getElem_append_right (by omega)];exact x3⟩
           rw[←s1]at hgrow;exact⟨_,_,_,hrun,hgrow.1,hgrow.2,.slice (Ren.add_same _ _ _) (by omega) (fun h=>by simp at h) (aM _) (.inr ⟨rfl,by simpa using h5⟩)⟩
  ·simp at hv
end
end Go.RE
namespace Go.RE
section
variable{P:Program}{w0:World}{ρ:Ren}{s s' :St}{w:World}{env:PT V}{e:Operand→Value}
def lf(w0:World)(ρ:Ren)(a:List ME)(b:List MapEntry):Prop:=a.length=b.length∧∀ i (h:i<a.length) (h' :i<b.length),aE w0 ρ a[i].key b[i].key∧aE w0 ρ a[i].val b[i].val∧a[i].born=b[i].born
theorem lf.get{a:List ME}{b:List MapEntry}(h:lf w0 ρ a b){i:Nat}{m:ME}(hm:a[i]? =some m):∃ x,b[i]? =some x∧aE w0 ρ m.key x.key∧aE w0 ρ m.val x.val∧m.born=x.born:=by
 obtain⟨hi,rfl⟩:=cz.1 hm;exact⟨b[i]'(h.1▸hi),dm _,h.2 i hi (h.1▸hi)⟩
theorem lf.tM{a:List ME}{b:List MapEntry}(hl:a.length=b.length)(h:∀ (i:Nat) m,a[i]? =some m→∃ x,b[i]? =some x∧aE w0 ρ m.key x.key∧aE w0 ρ m.val x.val∧m.born=x.born):lf w0 ρ a b:=
 ⟨hl,fun i h1 h2=>by
  obtain⟨x,hx,hr⟩:=h i a[i] (dm h1);rw[dm h2]at hx;simp at hx;rw[hx];exact hr⟩
theorem RW(f:ME→ME):∀ (l:List ME) (i:Nat),mc i f l=l.modify i f:=by
 intro l
 induction l with
 |nil=>intro i;cases i<;>rfl
 |cons a l ih=>intro i;cases i with
  |zero=>rfl
  |succ i=>simp[mc,ih]
theorem LG:∀ (l:List ME) (i:Nat),gP i l=l.eraseIdx i:=by
 intro l
 induction l with
 |nil=>intro i;cases i<;>rfl
 |cons a l ih=>intro i;cases i with
  |zero=>rfl
  |succ i=>simp[gP,ih]
theorem lf.modify{a:List ME}{b:List MapEntry}(h:lf w0 ρ a b)(i:Nat){k v:V}{k' v' :Value}(hk:aE w0 ρ k k')(hv:aE w0 ρ v v'):
  lf w0 ρ (a.modify i fun e=>{e with key:=k,val:=v}) (b.modify i fun e=>{e with key:=k',val:=v'}):=by
 refine lf.tM (by simp[h.1]) fun j m hm=> ?_;rw[List.getElem?_modify]at hm;rw[List.getElem?_modify];by_cases hij:i=j
 ·subst hij;simp at hm;obtain⟨m0,h0,rfl⟩:=hm;obtain⟨x,x1,x2,x3,x4⟩:=h.get h0;exact⟨{x with key:=k',val:=v'},by simp[x1],hk,hv,x4⟩
 ·simp[hij]at hm⊢;exact h.get hm
theorem lf.eraseIdx{a:List ME}{b:List MapEntry}(h:lf w0 ρ a b)(i:Nat):lf w0 ρ (a.eraseIdx i) (b.eraseIdx i):=by
 refine lf.tM (by simp[List.length_eraseIdx,h.1]) fun j m hm=> ?_;rw[List.getElem?_eraseIdx]at hm⊢;split
 ·rename_i hlt;rw[if_pos hlt]at hm;exact h.get hm
 ·rename_i hlt;rw[if_neg hlt]at hm;exact h.get hm
theorem lf.push{a:List ME}{b:List MapEntry}(h:lf w0 ρ a b){k v:V}{k' v' :Value}(n:Nat)(hk:aE w0 ρ k k')(hv:aE w0 ρ v v'):
  lf w0 ρ (a++[{key:=k,val:=v,born:=n}]) (b++[{key:=k',val:=v',born:=n}]):=by
 refine lf.tM (by simp[h.1]) fun j m hm=> ?_;by_cases hj:j<a.length
 ·rw[gD hj]at hm;rw[gD (h.1▸hj)];exact h.get hm
 ·rw[gf (by omega)]at hm;rw[gf (by have:=h.1;omega),←h.1];have hz:j - a.length=0:=by
   rcases Nat.eq_zero_or_pos (j - a.length)with h0|h0
   ·exact h0
   ·rw[List.getElem?_eq_none (by simp;omega)]at hm;simp at hm
  rw[hz]at hm⊢;simp at hm;subst hm;exact⟨_,rfl,hk,hv,rfl⟩
theorem Rel.Z8(hR:Rel w0 ρ s w){m r o lim:Nat}{es:List ME}{clock:Nat}(hρ:ρ m=some (r,o,lim))(hs:s.get m=some (.map es clock)):
  ∃ es',w.heap[r]? =some (.map es' clock)∧lf w0 ρ es es'.toList:=by
 obtain⟨es',g1,g2,g3⟩:=hR.Kq hρ hs;exact⟨es',g1,by simpa using g2,fun i h h' =>by simpa using g3 i h (by simpa using h')⟩
theorem Rel.FP(hR:Rel w0 ρ s w){m r o lim:Nat}{es:List ME}{clock:Nat}(hρ:ρ m=some (r,o,lim))(hs:s.get m=some (.map es clock)){es1:List ME}{es1' :Array MapEntry}{c:Nat}(h:lf w0 ρ es1 es1'.toList):
  Rel w0 ρ (s.put m (.map es1 c)) {w with heap:=w.heap.setIfInBounds r (.map es1' c)}∧kK ρ s w ρ (s.put m (.map es1 c)) {w with heap:=w.heap.setIfInBounds r (.map es1' c)}:=
 hR.put hρ (by rw[hs];trivial) ⟨es1',rfl,by simpa using h.1,fun i h1 h2=>h.2 i h1 (by simpa using h2)⟩
theorem run_setObj_map{r:Nat}{es' :Array MapEntry}{clock:Nat}(h:w.heap[r]? =some (.map es' clock))(o:Obj):(setObj r o).run P w=.ok () {w with heap:=w.heap.setIfInBounds r o}:=by
 simp[setObj,Sem.run,h]
theorem tr{kk:fD}{k:V}{y:Value}{t:TypeId}{es:List ME}{es' :Array MapEntry}{res:Option (Nat×V)}(hK:rC P t kk)(hk:aE w0 ρ k y)(h:lf w0 ρ es es'.toList)(hf:nM kk k es 0=some res)(w:World):
  match res with
  |none=>(Instr.findKey t y es'.toList).run P w=.ok none w
  |some (j,_)=>∃ v',(Instr.findKey t y es'.toList).run P w=.ok (some (j,v')) w∧∃ x,es'[j]? =some x∧(Instr.keyThatStays x.key y).run P w=.ok y w:=by
 obtain⟨D,r',e1,e2,e3⟩:=ry (P:=P) (es:=es) (es' :=es'.toList) (i:=0) hK hk hf h.1 h.2;have hfk:(Instr.findKey t y es'.toList).run P w=.ok r' w:=by simp[Instr.findKey,run_underlying e1,e2]
 cases res with
 |none=>
  cases r' with
  |none=>exact hfk
  |some _=>simp at e3
 |some jv=>
  obtain⟨j,v⟩:=jv;cases r' with
  |none=>simp at e3
  |some jv' =>
   obtain⟨j',v'⟩:=jv';obtain⟨rfl,a2,a3,a4,a5⟩:=e3;refine⟨v',hfk,es'[j]'(by simpa using a4),by simp at a4;simp[a4],?_⟩;have a5' :Instr.sameNow D y (es'[j]'(by simpa using a4)).key=some true:=by simpa using a5
   generalize (es'[j]'(by simpa using a4)).key=q at a5';have:Instr.sameBits 10000 q y=true:=by
    unfold Instr.sameNow at a5';split at a5' <;>simp at a5'
    ·obtain⟨rfl,rfl⟩:=a5';simp[Instr.sameBits]
    ·rename_i p q;have:(q==p)=true:=by
      rw[beq_toListBytes]at a5'⊢;simp at a5'⊢;exact a5'.symm
     simp[Instr.sameBits,this]
    ·subst a5';simp[Instr.sameBits]
   simp[Instr.keyThatStays,this]
theorem qK{t kt et:TypeId}{kk:fD}{m k x:V}{mx kx xx:Value}(hu:P.underlying t=some (.map kt et))(hkk:mh P kt=some kk){mm:Nat}{es:List ME}{clock:Nat}(hm:m=.map mm)(hs:s.get mm=some (.map es clock))
  (hp:plainKey kk k=true) {res:Option (Nat×V)} (hf:nM kk k es 0=some res) (hR:Rel w0 ρ s w) (r1:aE w0 ρ m mx) (r2:aE w0 ρ k kx) (r3:aE w0 ρ x xx):
  ∃ w',(Instr.mapUpdate t mx kx xx).run P w=.ok () w'∧
   Rel w0 ρ (match res with|some (i,_)=>s.put mm (.map (mc i (fun e=>{e with key:=k,val:=x}) es) clock)|none=>s.put mm (.map (es++[{key:=k,val:=x,born:=clock}]) (clock+1))) w'∧
   kK ρ s w ρ (match res with|some (i,_)=>s.put mm (.map (mc i (fun e=>{e with key:=k,val:=x}) es) clock)|none=>s.put mm (.map (es++[{key:=k,val:=x,born:=clock}]) (clock+1))) w' :=by
 subst hm;have hK:=sv hkk;cases r1 with
 |map hρ=>
  rename_i r o lim;obtain⟨es',g1,g2⟩:=hR.Z8 hρ hs;have hc:=ig (P:=P) hK hp r2 false 9999 w;have hfk:=tr (P:=P) hK r2 g2 hf w;cases res with
  |none=>
   simp only at hfk⊢;have hput:=hR.FP hρ hs (es1' :=es'.push {key:=kx,val:=xx,born:=clock}) (c:=clock+1) (by simpa using g2.push clock r2 r3);exact⟨_,by simp[Instr.mapUpdate,run_underlying hu,run_getObj_map g1,hc,hfk,run_setObj_map g1],hput⟩
  |some jv=>
   obtain⟨j,v⟩:=jv;obtain⟨v',h1,y,h2,h3⟩:=hfk;simp only;have hput:=hR.FP hρ hs (es1:=mc j (fun e=>{e with key:=k,val:=x}) es) (es1' :=es'.modify j fun e=>{e with key:=kx,val:=xx}) (c:=clock) (by rw[RW];simpa using g2.modify j r2 r3);exact⟨_,by simp[Instr.mapUpdate,run_underlying hu,run_getObj_map g1,hc,h1,h2,h3,run_setObj_map g1],hput⟩
theorem qma{b:Builtin}{ts:List TypeId}{xs:List bB}{ho:xL}(h:kZ P b ts xs=.h ho):
  (b=.append∧∃ t u a x el sz bs z str,ts=[t,u]∧xs=[a,x]∧P.underlying t=some (.slice el)∧(if str=true then P.underlying u=some .string else ∃ el,P.underlying u=some (.slice el))∧
   iy P el=some sz∧wI P el=some bs∧zeroOf P el=some z∧z.cells.length=sz∧ho=.append sz bs str a x)∨
  (b=.copy∧∃ t u d x el sz str,ts=[t,u]∧xs=[d,x]∧P.underlying t=some (.slice el)∧(if str=true then P.underlying u=some .string else ∃ el,P.underlying u=some (.slice el))∧iy P el=some sz∧ho=.copy sz str d x)∨
  (b=.delete∧∃ t ts' m k kt et kk,ts=t::ts'∧xs=[m,k]∧P.underlying t=some (.map kt et)∧mh P kt=some kk∧ho=.delete kk m k):=by
 have okS:∀ {t el:TypeId},oQ P t=some el→P.underlying t=some (.slice el):=fun {t el} h=>by unfold oQ at h;split at h<;>simp_all
 unfold kZ at h;split at h
 ·split at h<;>cases h
 ·split at h<;>cases h
 ·cases h
 ·cases h
 ·rename_i t u a x;split at h<;>try (cases h;done)
  rename_i el ud h1 h2;split at h<;>try (cases h;done)
  ·rename_i el2 sz bs z g1 g2 g3;cases hq:Nat.beq z.cells.length sz with
   |false=>rw[hq]at h;cases h
   |true=>
    rw[hq]at h;cases h;exact .inl ⟨rfl,t,u,a,x,el,sz,bs,z,false,rfl,rfl,okS h1,by simpa using⟨_,h2⟩,g1,g2,g3,bS hq,rfl⟩
  ·rename_i sz bs z g1 g2 g3;cases hq:Nat.beq z.cells.length sz with
   |false=>rw[hq]at h;cases h
   |true=>
    rw[hq]at h;cases h;exact .inl ⟨rfl,t,u,a,x,el,sz,bs,z,true,rfl,rfl,okS h1,by simpa using h2,g1,g2,g3,bS hq,rfl⟩
 ·rename_i t u d x;split at h<;>try (cases h;done)
  rename_i el ud h1 h2;split at h<;>cases h
  ·rename_i g1;exact .inr (.inl ⟨rfl,t,u,d,x,el,_,false,rfl,rfl,okS h1,by simpa using⟨_,h2⟩,g1,rfl⟩)
  ·rename_i g1;exact .inr (.inl ⟨rfl,t,u,d,x,el,_,true,rfl,rfl,okS h1,by simpa using h2,g1,rfl⟩)
 ·rename_i t ts' m k;split at h<;>try (cases h;done)
  rename_i kt et hu;split at h<;>cases h;rename_i kk hkk;exact .inr (.inr ⟨rfl,t,ts',m,k,kt,et,kk,rfl,rfl,hu,hkk,rfl⟩)
 ·cases h
theorem PC{sz:Nat}{str:Bool}{x:V}{y:Value}{new:List V}{k:Nat}(h:iG s sz str x=some new)(hl:tT x=some k)(hR:Rel w0 ρ s w)(hx:aE w0 ρ x y):
  ∃ xs,aX w0 ρ new xs∧xs.length=k*sz∧(∀ w' :World,(Builtin.lenOf y).run P w' =.ok k w')∧∀ n,n≤k→(Builtin.firstCells sz n y).run P w=.ok (xs.take (n*sz)).toArray w:=by
 cases str with
 |true=>
  cases x<;>simp[iG]at h;rename_i b;cases hb:Nat.beq sz 1 with
  |false=>simp[hb]at h
  |true=>
   simp[hb]at h;subst h;have:sz=1:=bS hb;subst this;simp[tT]at hl;subst hl;obtain⟨p,rfl,hp⟩:=hx.gd;have hs:p.size=b.length:=by rw[←hp];simp
   subst hp;refine⟨byteCells p,⟨by simp[byteCells],fun i h1 h2=>by simp only[byteCells,List.getElem_map,iM];exact .int _ _⟩,by rw[byteCells_length,←hs,Nat.mul_one],fun w' =>by rw[←hs];rfl,fun n hn=> ?_⟩;simp[Builtin.firstCells,byteCells];apply Array.ext';simp
 |false=>
  have h' :bx s sz x=some new:=by cases x<;>simpa[iG]using h
  rcases fY h' hR hx with⟨rfl,rfl⟩|⟨a,len,cap,xs,rfl,g0,g1,g2,g3⟩
  ·have:k=0:=by cases hx;simp[tT]at hl;omega
   subst this;exact⟨[],.nil,by simp,fun _=>rfl,fun n hn=>by simp[Builtin.firstCells]⟩
  ·rw[g0]at hl;simp at hl;subst hl;exact⟨xs,g3,g1,fun _=>rfl,fun n hn=>run_firstCells_some (P:=P) w sz n a len cap _ (by rw[List.length_take,g1];exact Nat.min_eq_left (o7 _ hn)) fun j u hj=>g2 j u (by
    rw[o3]at hj;split at hj<;>simp_all)⟩
theorem JH{dt tx el ty:TypeId}{sz:Nat}{str:Bool}{d x v:V}{dx y:Value}(hu:P.underlying dt=some (.slice el))(hsz:iy P el=some sz)(hv:copyV s sz str d x=some (v,s'))(hR:Rel w0 ρ s w)
  (hd:aE w0 ρ d dx) (hx:aE w0 ρ x y):∃ w' r,(Builtin.copy_ #[dt,tx] ty #[dx,y]).run P w=.ok r w'∧Rel w0 ρ s' w'∧kK ρ s w ρ s' w'∧aE w0 ρ v r:=by
 unfold copyV at hv;split at hv<;>try (simp at hv;done)
 rename_i new k hnew hl;obtain⟨xs,q1,q2,q3,q4⟩:=PC (P:=P) hnew hl hR hx;split at hv
 ·simp only[ay,aO]at hv;obtain⟨rfl,rfl⟩:=hv;cases hd;have h0:=q4 0 (kN _);refine⟨w,goInt 0,?_,hR,.refl _ _ _,.int _ _⟩;have hm:Nat.min k 0=0:=Nat.min_zero k;simp[Builtin.copy_,run_underlying hu,q3,dg hsz,h0,hm]
 ·simp only[ay,aO]at hv;obtain⟨rfl,rfl⟩:=hv;cases hd;have h0:=q4 0 (kN _);refine⟨w,goInt 0,?_,hR,.refl _ _ _,.int _ _⟩;have hm:Nat.min k 0=0:=Nat.min_zero k;simp[Builtin.copy_,run_underlying hu,q3,dg hsz,h0,hm,storeCells]
 ·rename_i b off len cap z ex;cases hz:Nat.beq z sz with
  |false=>simp[hz]at hv
  |true=>
   have hzz:z=sz:=bS hz;subst hzz;simp only[hz,cond_true]at hv;cases hw:s.write b off (new.take ((min k len)*z))with
   |none=>simp[hw]at hv
   |some s1=>
    simp only[hw,ay,aO]at hv;obtain⟨rfl,rfl⟩:=hv;cases hd with
    |slice hρ h1 h2 h3 h4=>
     rename_i r o lim a cap';have h0:=q4 (min k len) (Nat.min_le_left _ _);obtain⟨p1,p2,p3,_⟩:=q8 (P:=P) hw hR hρ (q1.take ((min k len)*z));have hm:Nat.min k len=min k len:=rfl;rcases h4 with h4|⟨rfl,h5⟩
     ·have hl0:len=0:=by omega
      subst hl0;have hxs:List.take (min k 0*z) xs=[]:=by simp
      rw[hxs]at p1 p2 p3 h0;simp only[World.setCells]at p2 p3;exact⟨w,goInt 0,by simp[Builtin.copy_,run_underlying hu,q3,dg hsz,hm]at h0⊢;simp[h0,storeCells],p2,p3,by rw[show((min k 0:Nat):Int)=0 from by simp];exact .int _ _⟩
     ·exact⟨_,goInt (min k len:Nat),by simp[Builtin.copy_,run_underlying hu,q3,dg hsz,hm,h0,p1],p2,p3,.int _ _⟩
 ·simp at hv
theorem O8{o:Oper}{ho:xL}{v:V}(hc:cop P o.op=.h ho)(hv:xV env s ho=some (v,s'))(hR:Rel w0 ρ s w)(H:∀ x∈o.op.operands,kV w0 ρ env e x):qiR P w0 ρ s w e o v s' :=by
 obtain⟨dst,op,type,pos,after,guard⟩:=o;simp only at hc H;cases op with
 |store t a x=>
  simp only[cop]at hc;split at hc<;>cases hc;rename_i n ao xo hn hao hxo;simp only[xV]at hv;split at hv<;>try (simp at hv;done)
  rename_i b off u ha hu;cases hq:Nat.beq u.cells.length n with
  |false=>simp[hq]at hv
  |true=>
   have hq' :u.cells.length=n:=bS hq;simp only[hq,cond_true]at hv;cases hw:s.write b off u.cells with
   |none=>simp[hw]at hv
   |some s1=>
    simp only[hw,ay,aO]at hv;obtain⟨rfl,rfl⟩:=hv;have hxr:=H x (by simp[Op.operands]) xo u hxo hu;have har:=H a (by simp[Op.operands]) ao _ hao ha;generalize hex:e a=ea at har;cases har with
    |ptr hρ=>
     rename_i r o lim;obtain⟨q1,q2,q3,_⟩:=q8 (P:=P) hw hR hρ hxr.cells;refine⟨ρ,_,.skip,?_,q2,q3,.inr ⟨rfl,rfl⟩⟩;have hsize:¬(e x).cells.size≠n:=by
      have:=hxr.cells.1;simp at this;omega
     have:(Instr.storeAt t (e a) (e x)).run P w=.ok () (w.setCells r (o+off) (e x).cells.toList):=by
      simp only[Instr.storeAt,hex,Instr.sureAddr,Sem.run_bind,Sem.run_pure,Result.andThen_ok,storeVar,dg hn];rw[if_neg hsize];exact q1
     simp[execOp,this]
 |mapUpdate t m k x=>
  simp only[cop]at hc;split at hc<;>try (cases hc;done)
  rename_i kt et mo ko xo hu hmo hko hxo;split at hc<;>cases hc;rename_i kk hkk;simp only[xV]at hv;split at hv<;>try (simp at hv;done)
  rename_i mm kv xv hm hk hx;cases hs:s.get mm with
  |none=>simp[hs]at hv
  |some ob=>
   cases ob<;>simp only[hs,reduceCtorEq]at hv;rename_i es clock;cases hp:plainKey kk kv with
   |false=>simp[hp]at hv
   |true=>
    simp only[hp,cond_true]at hv;cases hf:nM kk kv es 0 with
    |none=>simp[hf]at hv
    |some res=>
     obtain⟨w',g1,g2,g3⟩:=qK (P:=P) hu hkk rfl hs hp hf hR (H m (by simp[Op.operands]) mo _ hmo hm) (H k (by simp[Op.operands]) ko kv hko hk) (H x (by simp[Op.operands]) xo xv hxo hx);have hrun:(execOp e ({dst,op:=.mapUpdate t m k x,type,pos,after,guard}:Oper)).run P w=.ok .skip w' :=by simp[execOp,g1]
     simp only[hf]at hv;cases res with
     |none=>simp only[ay,aO]at hv;obtain⟨rfl,rfl⟩:=hv;exact⟨ρ,w',.skip,hrun,g2,g3,.inr ⟨rfl,rfl⟩⟩
     |some jv=>simp only[ay,aO]at hv;obtain⟨rfl,rfl⟩:=hv;exact⟨ρ,w',.skip,hrun,g2,g3,.inr ⟨rfl,rfl⟩⟩
 |insert t m k x=>
  simp only[cop]at hc;split at hc<;>try (cases hc;done)
  rename_i kt et mo ko xo hu hmo hko hxo;split at hc<;>cases hc;rename_i kk hkk;simp only[xV]at hv;split at hv<;>try (simp at hv;done)
  rename_i mm kv xv hm hk hx;cases hs:s.get mm with
  |none=>simp[hs]at hv
  |some ob=>
   cases ob<;>simp only[hs,reduceCtorEq]at hv;rename_i es clock;cases hp:plainKey kk kv with
   |false=>simp[hp]at hv
   |true=>
    simp only[hp,cond_true]at hv;cases hf:nM kk kv es 0 with
    |none=>simp[hf]at hv
    |some res=>
     obtain⟨w',g1,g2,g3⟩:=qK (P:=P) hu hkk rfl hs hp hf hR (H m (by simp[Op.operands]) mo _ hmo hm) (H k (by simp[Op.operands]) ko kv hko hk) (H x (by simp[Op.operands]) xo xv hxo hx);have hrun:(execOp e ({dst,op:=.insert t m k x,type,pos,after,guard}:Oper)).run P w=.ok .skip w' :=by simp[execOp,g1]
     simp only[hf]at hv;cases res with
     |none=>simp only[ay,aO]at hv;obtain⟨rfl,rfl⟩:=hv;exact⟨ρ,w',.skip,hrun,g2,g3,.inr ⟨rfl,rfl⟩⟩
     |some jv=>simp only[ay,aO]at hv;obtain⟨rfl,rfl⟩:=hv;exact⟨ρ,w',.skip,hrun,g2,g3,.inr ⟨rfl,rfl⟩⟩
 |range t x=>
  simp only[cop]at hc;split at hc<;>cases hc;rename_i kt et xo hu hxo;simp only[xV]at hv;split at hv
  ·rename_i hx;simp only[ay,aO]at hv;obtain⟨rfl,rfl⟩:=hv;have hxr:=H x (by simp[Op.operands]) xo _ hxo hx;generalize hex:e x=ex at hxr;cases hxr;obtain⟨a1,a2⟩:=hR.alloc (ob:=.fS none 0 [] 0) (obj:=.mapIter none 0 #[] 0) (lim:=0) ⟨none,by simp,rfl,rfl⟩;exact⟨_,_,.value (.pointer (some ⟨w.heap.size,0,none⟩)),by simp[execOp,Instr.range,hex,run_underlying hu],a1,a2,.inl ⟨_,rfl,by simpa using aE.ptr (off:=0) (Ren.add_same ρ s.next (w.heap.size,0,0))⟩⟩
  ·rename_i m hx;cases hs:s.get m with
   |none=>simp[hs]at hv
   |some ob=>
    cases ob<;>simp only[hs,reduceCtorEq,ay,aO]at hv;rename_i es clock;obtain⟨rfl,rfl⟩:=hv;have hxr:=H x (by simp[Op.operands]) xo _ hxo hx;generalize hex:e x=ex at hxr;cases hxr with
    |map hρ=>
     rename_i r o lim;obtain⟨es',g1,g2⟩:=hR.Z8 hρ hs;obtain⟨a1,a2⟩:=hR.alloc (ob:=.fS (some m) clock [] clock) (obj:=.mapIter (some r) clock #[] clock) (lim:=0) ⟨some r,by simp,⟨r,o,lim,hρ,rfl⟩,rfl⟩;exact⟨_,_,.value (.pointer (some ⟨w.heap.size,0,none⟩)),by simp[execOp,Instr.range,hex,run_underlying hu,run_getObj_map g1],a1,a2,.inl ⟨_,rfl,by simpa using aE.ptr (off:=0) (Ren.add_same ρ s.next (w.heap.size,0,0))⟩⟩
  ·simp at hv
 |call c=>
  simp only[cop]at hc;split at hc<;>try first|(cases hc;done)|(split at hc<;>cases hc;done)
  rename_i b args hcal hargs;have hHa:∀ x∈c.args.toList,kV w0 ρ env e x:=fun x hx=>H x (by simp[Op.operands,Call.operands];exact .inr (by simpa using hx));have hres:∀ {S:Sem Value} {r:V} {ρ' :Ren} {w' :World} {x:Value},(∀ cs,builtin b c.argTypes type cs (c.args.map e)=(do pure (.value (←S))))→S.run P w=.ok x w'→Rel w0 ρ' s' w'→kK ρ s w ρ' s' w'→aE w0 ρ' r x→
    qiR P w0 ρ s w e {dst,op:=.call c,type,pos,after,guard} r s' :=fun {S r ρ' w' x} hb h1 h2 h3 h4=>by
   refine⟨ρ',w',.value x,?_,h2,h3,.inl ⟨x,rfl,h4⟩⟩;simp only[execOp,resolve,hcal,Sem.run_bind,Sem.run_pure,Result.andThen_ok,invoke];rw[hb];simp[h1]
  have two:∀ {p q:bB},args=[p,q]→∃ x y,c.args= #[x,y]∧cO x=some p∧cO y=some q:=fun {p q} hh=>by
   subst hh;obtain⟨x,xs,ha,hx,hxs⟩:=sF hargs;obtain⟨y,ys,hb,hy,hys⟩:=sF hxs;have:ys=[]:=by
    cases ys with
    |nil=>rfl
    |cons z zs=>
     simp only[nI]at hys;split at hys
     ·split at hys<;>simp at hys
     ·simp at hys
   subst this;subst hb;exact⟨x,y,by rw[←Array.toArray_toList (xs:=c.args),ha],hx,hy⟩
  rcases qma hc with⟨rfl,t,u,ao,xo,el,sz,bs,z,str,ht,hx,hu,hk,h1,h2,h3,h4,rfl⟩|⟨rfl,t,u,ao,xo,el,sz,str,ht,hx,hu,hk,h1,rfl⟩|⟨rfl,t,ts',mo,ko,kt,et,kk,ht,hx,hu,hkk,rfl⟩
  ·obtain⟨a,x,hax,hao,hxo⟩:=two hx;have hA:=hHa a (by rw[hax];simp);have hX:=hHa x (by rw[hax];simp);have hts:c.argTypes= #[t,u]:=by rw[←Array.toArray_toList (xs:=c.argTypes),ht]
   simp only[xV]at hv;split at hv<;>try (simp at hv;done)
   rename_i av xv hav hxv;obtain⟨ρ',w',r,g1,g2,g3,g4⟩:=Fm (P:=P) (ty:=type) hu hk h1 h2 h3 h4 hv hR (hA ao av hao hav) (hX xo xv hxo hxv);exact hres (S:=Builtin.append_ #[t,u] type #[e a,e x]) (fun cs=>by rw[hts,hax];simp only[List.map_toArray,List.map_cons,List.map_nil];rfl) g1 g2 g3 g4
  ·obtain⟨a,x,hax,hao,hxo⟩:=two hx;have hA:=hHa a (by rw[hax];simp);have hX:=hHa x (by rw[hax];simp);have hts:c.argTypes= #[t,u]:=by rw[←Array.toArray_toList (xs:=c.argTypes),ht]
   simp only[xV]at hv;split at hv<;>try (simp at hv;done)
   rename_i av xv hav hxv;obtain⟨w',r,g1,g2,g3,g4⟩:=JH (P:=P) (ty:=type) (tx:=u) hu h1 hv hR (hA ao av hao hav) (hX xo xv hxo hxv);exact hres (S:=Builtin.copy_ #[t,u] type #[e a,e x]) (fun cs=>by rw[hts,hax];simp only[List.map_toArray,List.map_cons,List.map_nil];rfl) g1 g2 g3 g4
  ·obtain⟨m,k,hmk,hmo,hko⟩:=two hx;have hM:=hHa m (by rw[hmk];simp);have hK' :=hHa k (by rw[hmk];simp);have ht0:c.argTypes[0]? =some t:=by rw[←Array.getElem?_toList,ht];rfl
   have hK:=sv hkk;simp only[xV]at hv;split at hv
   ·rename_i kv hm hk;cases hp:plainKey kk kv with
    |false=>simp[hp]at hv
    |true=>
     simp only[hp,cond_true,ay,aO]at hv;obtain⟨rfl,rfl⟩:=hv;have hmr:=hM mo _ hmo hm;generalize hex:e m=em at hmr;cases hmr;have hc' :=ig (P:=P) hK hp (hK' ko kv hko hk) true 9999 w;exact hres (S:=Builtin.delete_ c.argTypes type #[.map none,e k]) (fun cs=>by rw[hmk];simp only[List.map_toArray,List.map_cons,List.map_nil,hex];rfl) (x:=.tuple #[]) (w' :=w)
      (by simp[Builtin.delete_,ht0,run_underlying hu,hc']) hR (.refl _ _ _) (by simpa using aE.lC (w0:=w0) (ρ:=ρ) .nil)
   ·rename_i mm kv hm hk;cases hs:s.get mm with
    |none=>simp[hs]at hv
    |some ob=>
     cases ob<;>simp only[hs,reduceCtorEq]at hv;rename_i es clock;cases hp:plainKey kk kv with
     |false=>simp[hp]at hv
     |true=>
      simp only[hp,cond_true]at hv;have hmr:=hM mo _ hmo hm;have hkr:=hK' ko kv hko hk;generalize hex:e m=em at hmr;cases hmr with
      |map hρ=>
       rename_i r o lim;obtain⟨es',g1,g2⟩:=hR.Z8 hρ hs;have hc' :=ig (P:=P) hK hp hkr es'.isEmpty 9999 w;have hst:∀ cs,builtin .delete c.argTypes type cs (c.args.map e)=(do pure (.value (←Builtin.delete_ c.argTypes type #[.map (some r),e k]))):=fun cs=>by
        rw[hmk];simp only[List.map_toArray,List.map_cons,List.map_nil,hex];rfl
       cases hf:nM kk kv es 0 with
       |none=>simp[hf]at hv
       |some res=>
        have hfk:=tr (P:=P) hK hkr g2 hf w;simp only[hf]at hv;cases res with
        |none=>
         simp only[ay,aO]at hv;obtain⟨rfl,rfl⟩:=hv;simp only at hfk;have hsame:({w with heap:=w.heap.setIfInBounds r (.map es' clock)}:World)=w:=by rw[Gy _ _ _ g1]
         exact hres hst (x:=.tuple #[]) (w' :=w) (by simp[Builtin.delete_,ht0,run_underlying hu,run_getObj_map g1,hc',hfk,run_setObj_map g1,hsame]) hR (.refl _ _ _) (by simpa using aE.lC (w0:=w0) (ρ:=ρ) .nil)
        |some jv=>
         obtain⟨j,vv⟩:=jv;simp only[ay,aO]at hv;obtain⟨rfl,rfl⟩:=hv;obtain⟨v',q1,_⟩:=hfk;obtain⟨p1,p2⟩:=hR.FP hρ hs (es1:=gP j es) (es1' :=es'.eraseIdxIfInBounds j) (c:=clock) (by rw[LG];simpa using g2.eraseIdx j);exact hres hst (x:=.tuple #[]) (by simp[Builtin.delete_,ht0,run_underlying hu,run_getObj_map g1,hc',q1,run_setObj_map g1]) p1 p2 (by simpa using aE.lC (w0:=w0) (ρ:=ρ) .nil)
   ·simp at hv
 |move x=>simp only[cop]at hc;split at hc<;>cases hc
 |assign x=>simp only[cop]at hc;split at hc<;>cases hc
 |pick c a b=>simp only[cop]at hc;split at hc<;>cases hc
 |build t parts=>
  simp only[cop]at hc;split at hc<;>try (cases hc;done)
  split at hc<;>try (cases hc;done)
  split at hc<;>cases hc
 |load t a=>simp only[cop]at hc;split at hc<;>cases hc
 |nilCheck x=>simp only[cop]at hc;split at hc<;>cases hc
 |binOp op t x y yt=>simp only[cop]at hc;split at hc<;>cases hc
 |unOp op t x=>simp only[cop]at hc;split at hc<;>cases hc
 |makeInterface t x=>simp only[cop]at hc;split at hc<;>cases hc
 |makeFunc fn first captured=>
  cases fn<;>simp only[cop]at hc<;>try (cases hc;done)
  split at hc<;>cases hc
 |slice t x lo hi mx=>
  simp only[cop]at hc;split at hc<;>try (cases hc;done)
  ·split at hc<;>try (cases hc;done)
   unfold cond at hc;split at hc<;>cases hc
  ·split at hc<;>cases hc
 |fieldAddr t x f=>
  simp only[cop]at hc;split at hc<;>try (cases hc;done)
  split at hc<;>try (cases hc;done)
  split at hc<;>cases hc
 |field t x f=>
  simp only[cop]at hc;split at hc<;>try (cases hc;done)
  split at hc<;>try (cases hc;done)
  split at hc<;>cases hc
 |indexAddr t x i=>
  simp only[cop]at hc;split at hc<;>try (cases hc;done)
  ·split at hc<;>cases hc
  ·split at hc<;>cases hc
 |index t x i=>simp only[cop]at hc;split at hc<;>cases hc
 |lookup t x i ok=>
  simp only[cop]at hc;split at hc<;>try (cases hc;done)
  split at hc<;>cases hc
 |extract x i=>simp only[cop]at hc;split at hc<;>cases hc
 |typeAssert x xt t ok=>
  cases ok<;>simp only[cop]at hc<;>try (cases hc;done)
  split at hc<;>cases hc
 |next x b=>cases b<;>simp only[cop]at hc<;>(try split at hc)<;>cases hc
 |entry x=>simp only[cop]at hc;split at hc<;>cases hc
 |alloc t=>simp only[cop]at hc;split at hc<;>cases hc
 |box t x=>simp only[cop]at hc;split at hc<;>cases hc
 |makeMap t r=>simp only[cop]at hc;split at hc<;>cases hc
 |makeSlice t l c=>
  simp only[cop]at hc;split at hc<;>try (cases hc;done)
  split at hc<;>try (cases hc;done)
  unfold cond at hc;split at hc<;>cases hc
 |buildSlice t len parts=>
  simp only[cop]at hc;split at hc<;>try (cases hc;done)
  split at hc<;>try (cases hc;done)
  unfold cond at hc;split at hc<;>try (cases hc;done)
  split at hc<;>cases hc
 |convert src dst x=>
  simp only[cop]at hc;split at hc<;>try (cases hc;done)
  ·unfold cond at hc;split at hc<;>cases hc
  ·unfold cond at hc;split at hc<;>cases hc
 |_=>simp[cop]at hc
end
end Go.RE
namespace Go.RE
section
variable{P:Program}{w0:World}
def oD(w0:World)(ρ:Ren)(n:Nat)(env:PT V)(a:Act):Prop:=n≤a.tmps.size∧∀ t v,env.get t=some v→aE w0 ρ v (a.tmps.getD t undef)
theorem oD.mono{ρ ρ' :Ren}{n:Nat}{env:PT V}{a:Act}(hρ:ρ.le ρ')(h:oD w0 ρ n env a):oD w0 ρ' n env a:=⟨h.1,fun t v e=>(h.2 t v e).mono hρ⟩
theorem oD.cO{ρ:Ren}{n:Nat}{env:PT V}{a:Act}(h:oD w0 ρ n env a)(x:Operand):kV w0 ρ env a.eval x:=by
 intro o v ho hv;cases x with
 |tmp t=>simp only[RE.cO,ay]at ho;subst ho;exact h.2 t v hv
 |const c=>
  obtain⟨y,rfl,hy⟩:=CB (w0:=w0) (ρ:=ρ) ho;simp only[bB.ev,ay]at hv;subst hv;exact hy
 |global g=>simp[RE.cO]at ho
 |func f=>
  simp only[RE.cO,ay]at ho;subst ho;simp only[bB.ev,ay]at hv;subst hv;exact .func rfl rfl (fun i h=>by simp at h) (fun i h=>by simp at h)
theorem oD.put{ρ:Ren}{n:Nat}{env:PT V}{a:Act}(h:oD w0 ρ n env a){dst:Option Nat}(hd:∀ d,dst=some d→d<n){v:V}{x:Value}(hv:aE w0 ρ v x):oD w0 ρ n (fB dst v env) (a.put dst x):=by
 cases dst with
 |none=>exact h
 |some d=>
  have hd' :=hd d rfl;refine⟨by simpa[Act.put]using h.1,fun t u e=> ?_⟩;simp only[fB,PT.iW]at e;simp only[Act.put];by_cases ht:t=d
  ·subst ht;rw[if_pos rfl]at e;simp at e;subst e;have:t<a.tmps.size:=o4 hd' h.1;simp[x9,Array.getElem?_setIfInBounds_self_of_lt this];exact hv
  ·rw[if_neg ht]at e;have:=h.2 t u e;simp only[x9]at this⊢;rw[Array.getElem?_setIfInBounds_ne (fun h=>ht h.symm)];exact this
theorem put_defers(a:Act)(dst:Option Nat)(x:Value):(a.put dst x).defers=a.defers:=by cases dst<;>rfl
theorem sU{ρ:Ren}:aE w0 ρ (.aP []) undef:=.aP rfl fun i h=>by simp at h
theorem xM{ρ:Ren}{env:PT V}{tmps:Array Value}{ops:Array Oper}{o:Oper}{g:Option (Nat×Bool)}{b:Bool}(hg:guardOf ops.toList o=some g)(hv:bZ g env=some b)
  (hr:∀ t v,g.map (·.1)=some t→env.get t=some v→aE w0 ρ v (tmps.getD t undef)):Region.wanted o (yielded ops tmps)=b:=by
 unfold guardOf at hg;split at hg
 ·rename_i h;simp only[ay]at hg;subst hg;simp[bZ]at hv;subst hv;simp[Region.wanted,h]
 ·rename_i j want h;cases hj:ops.toList[j]? with
  |none=>simp[hj]at hg
  |some p=>
   have hj' :ops[j]? =some p:=by simpa using hj
   simp only[hj]at hg;cases hd:p.dst with
   |none=>simp[hd]at hg
   |some d=>
    simp only[hd,ay]at hg;subst hg;simp only[bZ]at hv;cases he:env.get d with
    |none=>simp[he]at hv
    |some v=>
     have hvr:=hr d v rfl he;have hy:yielded ops tmps j=match tmps[d]? with|some (.bool b)=>some b|_=>none:=by
      simp only[yielded,hj',Option.bind_some,hd];rfl
     simp only[Region.wanted,h,hy];rw[x9]at hvr;cases v with
     |bool q=>
      simp[he]at hv;subst hv;have hb:=hvr.gB;cases ht:tmps[d]? with
      |none=>rw[ht]at hb;simp[undef]at hb
      |some y=>rw[ht]at hb;simp at hb;subst hb;cases q<;>cases want<;>rfl
     |_=>
      simp[he]at hv;subst hv;cases ht:tmps[d]? with
      |none=>rfl
      |some y=>
       rw[ht]at hvr;simp only[Option.getD_some]at hvr;cases hvr<;>rfl
def wZ(P:Program)(w0:World)(F:Nat→List V→St→(V→St→Prop)→Prop):Prop:=
 ∀ (f:Nat) (args:List V) (s:St) (k:V→St→Prop) (ρ:Ren) (w:World) (args' :List Value),F f args s k→Rel w0 ρ s w→aX w0 ρ args args'→
  (∃ fn b,P.funcs[f]? =some fn∧fn.body=some b∧(fn.name== "runtime.NumGoroutine")=false)∧
  Calls P f args'.toArray w fun e w' =>∃ v s' ρ' x,e=.returned x∧k v s'∧Rel w0 ρ' s' w'∧kK ρ s w ρ' s' w'∧aE w0 ρ' v x
theorem uO{f:Nat}{args:Array Value}(h:∃ fn b,P.funcs[f]? =some fn∧fn.body=some b∧(fn.name== "runtime.NumGoroutine")=false)(w:World):(callFunc f args).run P w=.ok (.enter f args) w:=by
 obtain⟨fn,b,h1,h2,h3⟩:=h;simp only[callFunc,Sem.run_bind,run_program,Result.andThen_ok,h1];rw[if_neg (by rw[h3];simp),if_neg (by simp[h2])];rfl
def qT(P:Program)(M:Nat→String→Option Nat):Prop:=∀ t name f,M t name=some f→methodOf P t name=some f
theorem KM{t:Nat}{name:String}{f:Nat}(h:methodOf P t name=some f)(v:Value)(n:Nat)(w:World):(method (n+1) t v name).run P w=.ok (f,v) w:=by
 unfold methodOf at h;split at h<;>try (simp at h;done)
 rename_i i hi;split at h<;>try (simp at h;done)
 rename_i m hm;cases hp:m.path.isEmpty with
 |false=>simp[hp]at h
 |true=>
  have hpe:m.path= #[]:=by simpa using hp
  simp only[hp,cond_true]at h;split at h<;>simp only[ay,reduceCtorEq]at h
  ·subst h;rename_i f' el hf hu;simp[method,typeInfo,hi,hm,hpe,follow,hf,receiverAt,run_underlying hu,Place.get]
  ·subst h;rename_i f' d hn hf hu;simp only[method,typeInfo,Sem.run_bind,run_program,Result.andThen_ok,hi,Sem.run_pure,hm,hpe,follow,hf,receiverAt,run_underlying hu];cases d<;>first|exact absurd hu (hn _ _ hf)|simp[Place.get]
theorem Il{ρ:Ren}{es:List ME}{es' :Array MapEntry}(h:lf w0 ρ es es'.toList)(since:Nat)(seen:List Nat):
  let left:=es'.filter fun e=> !seen.toArray.contains e.born;let old:=left.filter (·.born<since);let new:=left.filter (·.born≥since);let cands:=(if old.isEmpty then #[none]else #[])++(old++new).map some
  (dz es since seen).length=cands.size∧∀ (i:Nat) c,(dz es since seen)[i]? =some c→∃ c',cands[i]? =some c'∧
   (match c,c' with|none,none=>True|some m,some m' =>aE w0 ρ m.key m'.key∧aE w0 ρ m.val m'.val∧m.born=m'.born|_,_=>False):=by
 have filt:∀ {p:ME→Bool} {q:MapEntry→Bool} {a:List ME} {b:List MapEntry},lf w0 ρ a b→(∀ m m',m.born=m'.born→p m=q m')→lf w0 ρ (a.filter p) (b.filter q):=by
  intro p q a
  induction a with
  |nil=>
   intro b h _;have:b=[]:=pQ h.1.symm;subst this;exact⟨rfl,fun i h=>by simp at h⟩
  |cons m a ih=>
   intro b h hpq;cases b with
   |nil=>have:=h.1;simp at this
   |cons m' b=>
    have hm:=h.2 0 (by simp) (by simp);simp only[List.getElem_cons_zero]at hm;have hrest:lf w0 ρ a b:=⟨by simpa using h.1,fun i h1 h2=>h.2 (i+1) (by simpa using h1) (by simpa using h2)⟩;have hh:=ih hrest hpq;rw[List.filter_cons,List.filter_cons,hpq m m' hm.2.2];split
    ·refine⟨by simp[hh.1],fun i h1 h2=> ?_⟩;cases i with
     |zero=>simpa using hm
     |succ i=>simpa using hh.2 i (by simpa using h1) (by simpa using h2)
    ·exact hh
 intro left old new cands;have hleft:lf w0 ρ (es.filter fun e=> !seen.contains e.born) left.toList:=by
  simp only[left,Array.toList_filter];exact filt h fun m m' hb=>by rw[hb];simp
 have hold:lf w0 ρ ((es.filter fun e=> !seen.contains e.born).filter fun e=>Nat.blt e.born since) old.toList:=by
  simp only[old,Array.toList_filter];exact filt hleft fun m m' hb=>by rw[hb,Bool.eq_iff_iff,decide_eq_true_iff,Nat.blt_eq]
 have hnew:lf w0 ρ ((es.filter fun e=> !seen.contains e.born).filter fun e=>Nat.ble since e.born) new.toList:=by
  simp only[new,Array.toList_filter];exact filt hleft fun m m' hb=>by rw[hb,Bool.eq_iff_iff,decide_eq_true_iff,jC]
 have happ:lf w0 ρ (((es.filter fun e=> !seen.contains e.born).filter fun e=>Nat.blt e.born since)++((es.filter fun e=> !seen.contains e.born).filter fun e=>Nat.ble since e.born)) (old.toList++new.toList):=by
  refine lf.tM (by rw[oC,oC,hold.1,hnew.1]) fun i m hm=> ?_;by_cases hi:i<((es.filter fun e=> !seen.contains e.born).filter fun e=>Nat.blt e.born since).length
  ·rw[gD hi]at hm;rw[gD (hold.1▸hi)];exact hold.get hm
  ·rw[gf (by omega)]at hm;rw[gf (by have:=hold.1;omega),←hold.1];exact hnew.get hm
 have he:((es.filter fun e=> !seen.contains e.born).filter fun e=>Nat.blt e.born since).isEmpty=old.isEmpty:=by
  have h1:=hold.1;rw[Bool.eq_iff_iff,List.isEmpty_iff_length_eq_zero,Array.isEmpty_iff_size_eq_zero,h1];simp
 have hcl:cands.toList=(if old.isEmpty then[none]else[])++(old.toList++new.toList).map some:=by
  simp only[cands];cases old.isEmpty<;>simp
 have hget:∀ i:Nat,cands[i]? =((if old.isEmpty then[none]else[])++(old.toList++new.toList).map some)[i]? :=fun i=>by rw[←hcl];simp
 unfold dz;simp only[he];refine⟨?_,fun i c hc=> ?_⟩
 ·rw[←Array.length_toList,hcl];have:=happ.1;cases old.isEmpty<;>simp at this⊢ <;>omega
 ·rw[hget];have one:∀ (j:Nat) c,((((es.filter fun e=> !seen.contains e.born).filter fun e=>Nat.blt e.born since)++((es.filter fun e=> !seen.contains e.born).filter fun e=>Nat.ble since e.born)).map some)[j]? =some c→
    ∃ c',((old.toList++new.toList).map some)[j]? =some c'∧(match c,c' with|none,none=>True|some m,some m' =>aE w0 ρ m.key m'.key∧aE w0 ρ m.val m'.val∧m.born=m'.born|_,_=>False):=fun j c hj=>by
   rw[List.getElem?_map]at hj;cases hq:(((es.filter fun e=> !seen.contains e.born).filter fun e=>Nat.blt e.born since)++((es.filter fun e=> !seen.contains e.born).filter fun e=>Nat.ble since e.born))[j]? with
   |none=>rw[hq]at hj;simp at hj
   |some m=>
    rw[hq]at hj;simp at hj;subst hj;obtain⟨x,hx,hr⟩:=happ.get hq;exact⟨some x,by rw[List.getElem?_map,hx];rfl,hr⟩
  cases ho:old.isEmpty with
  |false=>
   rw[ho]at hc;simp only[cond_false,List.nil_append]at hc;simp only[mF,if_false,List.nil_append];exact one i c hc
  |true=>
   rw[ho]at hc;simp only[cond_true,List.singleton_append]at hc;simp only[if_true,List.singleton_append];cases i with
   |zero=>simp at hc;subst hc;exact⟨none,by simp,trivial⟩
   |succ i=>simp only[List.getElem?_cons_succ]at hc⊢;exact one i c hc
def zG:lH→Bool
 | .call _ _=>true
 | .invoke _ _ _=>true
 | .next _=>true
 |_=>false
theorem Ep{o:Op}(h:zG (cop P o)=true):(∃ c,o=.call c)∨(∃ x,o=.next x false):=by
 cases o with
 |call c=>exact .inl ⟨c,rfl⟩
 |next x b=>cases b with
  |false=>exact .inr ⟨x,rfl⟩
  |true=>simp[cop,zG]at h
 |makeFunc fn a b=>
  exfalso;revert h;cases fn<;>simp only[cop]<;>(repeat' split)<;>simp[zG]
 |typeAssert x t u b=>
  exfalso;revert h;cases b<;>simp only[cop]<;>(repeat' split)<;>simp[zG]
 |_=>
  exfalso;revert h;simp only[cop]
  repeat' (first|split|(unfold cond;split))
  all_goals simp[zG]
theorem L5{b:Builtin}{ts:List TypeId}{xs:List bB}(h:zG (kZ P b ts xs)=true):False:=by
 revert h;unfold kZ
 repeat' (first|split|(unfold cond;split))
 all_goals simp[zG]
theorem zQ{P:Program}{w:World}{r:Nat}{m:Option Nat}{s:Nat}{seen:Array Nat}{c:Nat}(hr:w.heap[r]? =some (.mapIter m s seen c))(o' :Obj):(setObj r o').run P w=.ok () {w with heap:=w.heap.setIfInBounds r o'}:=by
 simp[setObj,Sem.run,hr]
theorem G2{M:Nat→String→Option Nat}{F:Nat→List V→St→(V→St→Prop)→Prop}(hM:qT P M)(hF:wZ P w0 F){ρ:Ren}{s:St}{w:World}{env:PT V}{a:Act}{o:Oper}{k:V→St→Prop}
  {next:Act→World→Prop} {Q:Exit→Act→World→Prop} (h:dw M F env s (cop P o.op) k) (hR:Rel w0 ρ s w) (H:∀ x∈o.op.operands,kV w0 ρ env a.eval x)
  (hk:∀ v s' ρ' x w',k v s'→Rel w0 ρ' s' w'→kK ρ s w ρ' s' w'→aE w0 ρ' v x→next (a.put o.dst x) w'):o.wp P a w next Q:=by
 unfold Oper.wp;cases hc:cop P o.op with
 |bad=>rw[hc]at h;exact h.elim
 |s so=>
  rw[hc]at h;simp only[dw]at h;cases hv:cX env s so with
  |none=>rw[hv]at h;exact h.elim
  |some v=>
   rw[hv]at h;obtain⟨x,h1,h2⟩:=C1 hc hv hR H;rw[h1];exact hk v s ρ x w h hR (.refl _ _ _) h2
 |m mo=>
  rw[hc]at h;simp only[dw]at h;cases hv:Ai env mo with
  |none=>rw[hv]at h;exact h.elim
  |some obf=>
   obtain⟨ob,f⟩:=obf;rw[hv]at h;obtain⟨obj,lim,w',x,h1,h2,h3,h4,h5,h6⟩:=Dv (ρ:=ρ) (w0:=w0) hc hv H w;rw[h1];obtain⟨a1,a2⟩:=hR.alloc h5;have hw:w'.heap=(w.alloc obj).heap:=h2;have hle:=Ren.zR (ρ:=ρ) (n:=s.next) (w.heap.size,0,lim) (hR.unnamed (aM _));exact hk (f s.next) (s.alloc ob) _ x w' h (a1.same hw h3 h4) (a2.trans (kK.same hw)) (h6 _ _ hle (Ren.add_same _ _ _))
 |h ho=>
  rw[hc]at h;simp only[dw]at h;cases hv:xV env s ho with
  |none=>rw[hv]at h;exact h.elim
  |some vs=>
   obtain⟨v,s'⟩:=vs;rw[hv]at h;obtain⟨ρ',w',nx,h1,h2,h3,h4⟩:=O8 hc hv hR H;rw[h1];rcases h4 with⟨x,rfl,h5⟩|⟨rfl,rfl⟩
   ·exact hk v s' ρ' x w' h h2 h3 h5
   ·exact hk _ s' ρ' undef w' h h2 h3 sU
 |call f args=>
  rw[hc]at h;simp only[dw]at h;split at h<;>try exact h.elim
  rename_i fn first captured vs hf hargs
  obtain⟨dst,op,type,pos,after,guard⟩:=o;simp only at hc H;have hcall:∃ c fo,op=.call c∧c.callee=.value fo∧cO fo=some f∧nI c.args.toList=some args:=by
   rcases Ep (P:=P) (o:=op) (by rw[hc];rfl)with⟨c,rfl⟩|⟨x,rfl⟩
   ·simp only[cop]at hc;split at hc
    ·rename_i fo args' h1 h2;split at hc<;>cases hc;rename_i h3;exact⟨c,fo,rfl,h1,h3,h2⟩
    ·exact(L5 (P:=P) (by rw[hc];rfl)).elim
    ·split at hc<;>cases hc
    ·cases hc
   ·simp only[cop]at hc;split at hc<;>cases hc
  obtain⟨c,fo,rfl,hcal,hfo,hca⟩:=hcall;have hFr:=H fo (by simp[Op.operands,Call.operands,hcal]) f _ hfo hf;have hAr:=pK hca hargs fun x hx=>H x (by simp[Op.operands,Call.operands];exact .inr (by simpa using hx));generalize hex:a.eval fo=ef at hFr;cases hFr with
  |func ha hb va vb=>
   rename_i a' b';obtain⟨g1,g2⟩:=hF _ _ _ _ _ _ _ h hR (((aX.of_array ha va).append hAr).append (aX.of_array hb vb));have hrun:(execOp a.eval ({dst,op:=.call c,type,pos,after,guard}:Oper)).run P w=.ok (.enter fn ((a'.toList++c.args.toList.map a.eval++b'.toList).toArray)) w:=by
    simp only[execOp,resolve,hcal,hex,Deferred.ofValue,Sem.run_bind,Sem.run_pure,Result.andThen_ok,invoke];rw[uO g1];congr 2;apply Array.ext';simp
   rw[hrun];exact g2.mono fun e w' ⟨v,s',ρ',x,he,hkk,r1,r2,r3⟩=>by subst he;exact hk v s' ρ' x w' hkk r1 r2 r3
 |invoke name x args=>
  rw[hc]at h;simp only[dw]at h;split at h<;>try exact h.elim
  rename_i t v vs hx hargs;cases hm:M t name with
  |none=>rw[hm]at h;exact h.elim
  |some fn=>
   rw[hm]at h;obtain⟨dst,op,type,pos,after,guard⟩:=o;simp only at hc H;have hcall:∃ c xo,op=.call c∧c.callee=.invoke xo name∧cO xo=some x∧nI c.args.toList=some args:=by
    rcases Ep (P:=P) (o:=op) (by rw[hc];rfl)with⟨c,rfl⟩|⟨x,rfl⟩
    ·simp only[cop]at hc;split at hc
     ·split at hc<;>cases hc
     ·exact(L5 (P:=P) (by rw[hc];rfl)).elim
     ·rename_i xo nm args' h1 h2;split at hc<;>cases hc;rename_i h3;exact⟨c,xo,rfl,h1,h3,h2⟩
     ·cases hc
    ·simp only[cop]at hc;split at hc<;>cases hc
   obtain⟨c,xo,rfl,hcal,hxo,hca⟩:=hcall;have hXr:=H xo (by simp[Op.operands,Call.operands,hcal]) x _ hxo hx;have hAr:=pK hca hargs fun x hx=>H x (by simp[Op.operands,Call.operands];exact .inr (by simpa using hx));generalize hex:a.eval xo=ex at hXr;cases hXr with
   |iface hv=>
    rename_i v';obtain⟨g1,g2⟩:=hF _ _ _ _ _ _ _ h hR (aX.cons hv hAr);have hrun:(execOp a.eval ({dst,op:=.call c,type,pos,after,guard}:Oper)).run P w=.ok (.enter fn ((v' ::c.args.toList.map a.eval).toArray)) w:=by
     simp only[execOp,resolve,hcal,hex,Sem.run_bind,Sem.run_pure,Result.andThen_ok,invoke];have h0:(#[Value.iface t v']++c.args.map a.eval)[0]? =some (Value.iface t v'):=by rw[Array.getElem?_append_left (by simp)];rfl
     have h1:(#[Value.iface t v']++c.args.map a.eval).extract 1 (#[Value.iface t v']++c.args.map a.eval).size=c.args.map a.eval:=by
      apply Array.ext_getElem?;intro i;rw[Array.getElem?_extract];by_cases hi:i<c.args.size
      ·rw[if_pos (by simp;omega),Array.getElem?_append_right (by simp)];simp
      ·rw[if_neg (by simp;omega),zo (by simp;omega)]
     rw[h0];simp only[h1,callMethod,Sem.run_bind,run_program,Result.andThen_ok];have hmeth:=KM (P:=P) (hM t name fn hm) v' (P.types.size+Made.depth - 1) w;rw[show P.types.size+Made.depth - 1+1=P.types.size+Made.depth from by have:0<Made.depth:=(by decide);omega]at hmeth;rw[hmeth];simp only[Result.andThen_ok];rw[uO g1];congr 2;apply Array.ext';simp
    rw[hrun];exact g2.mono fun e w' ⟨v,s',ρ',x,he,hkk,r1,r2,r3⟩=>by subst he;exact hk v s' ρ' x w' hkk r1 r2 r3
 |next x=>
  rw[hc]at h;simp only[dw]at h;split at h<;>try exact h.elim
  rename_i b hx;obtain⟨dst,op,type,pos,after,guard⟩:=o;simp only at hc H;have hop:∃ xo,op=.next xo false∧cO xo=some x:=by
   rcases Ep (P:=P) (o:=op) (by rw[hc];rfl)with⟨c,rfl⟩|⟨x,rfl⟩
   ·simp only[cop]at hc;split at hc
    ·split at hc<;>cases hc
    ·exact(L5 (P:=P) (by rw[hc];rfl)).elim
    ·split at hc<;>cases hc
    ·cases hc
   ·simp only[cop]at hc;split at hc<;>cases hc;rename_i h1;exact⟨_,rfl,h1⟩
  obtain⟨xo,rfl,hxo⟩:=hop;have hXr:=H xo (by simp[Op.operands]) x _ hxo hx;generalize hex:a.eval xo=ex at hXr;cases hXr with
  |ptr hρ=>
   rename_i r o lim;unfold qD at h;have ho:=hR.ob b r o lim hρ;cases hs:s.get b with
   |none=>rw[hs]at h;exact h.elim
   |some ob=>
    cases ob with
    |row cs=>rw[hs]at h;exact h.elim
    |map es clock=>rw[hs]at h;exact h.elim
    |dead=>rw[hs]at h;exact h.elim
    |fS m since seen last=>
     rw[hs]at h ho;obtain⟨m',e1,e2,rfl⟩:=ho;have hg:(getObj r).run P w=.ok (.mapIter m' since seen.toArray last) w:=by simp[getObj,Sem.run,e1]
     have hrun:∀ {y:Value} {w' :World},(Instr.next (.pointer (some ⟨r,0,none⟩)) false type).run P w=.ok y w'→
       (execOp a.eval ({dst,op:=.next xo false,type,pos,after,guard}:Oper)).run P w=.ok (.value y) w' :=fun {y w'} h2=>by
      simp only[execOp,hex];simp[h2]
     cases m with
     |none=>
      simp only at e2 h;subst e2;rw[hrun (y:=.tuple #[.bool false]) (w' :=w) (by simp[Instr.next,hg])];exact hk _ s ρ _ w h hR (.refl _ _ _) (by simpa using aE.lC (aX.cons (aE.bool false) .nil))
     |some mm=>
      obtain⟨r2,o2,lim2,hρ2,rfl⟩:=e2;simp only at h;cases hs2:s.get mm with
      |none=>rw[hs2]at h;exact h.elim
      |some ob2=>
       cases ob2 with
       |row cs=>rw[hs2]at h;exact h.elim
       |fS a b c d=>rw[hs2]at h;exact h.elim
       |dead=>rw[hs2]at h;exact h.elim
       |map es clock=>
        rw[hs2]at h;simp only at h;obtain⟨es',g1,g2⟩:=hR.Z8 hρ2 hs2;cases hstop:(!seen.isEmpty&& !es.isEmpty&&es.all (fun e=>Nat.ble last e.born))with
        |true=>rw[hstop]at h;exact h.elim
        |false=>
         rw[hstop]at h;simp only[cond_false]at h;obtain⟨c1,c2⟩:=Il g2 since seen
         --
         generalize hcd:(if((es'.filter fun e=> !seen.toArray.contains e.born).filter (·.born<since)).isEmpty then #[none]else #[])++((es'.filter fun e=> !seen.toArray.contains e.born).filter (·.born<since)++(es'.filter fun e=> !seen.toArray.contains e.born).filter (·.born≥since)).map some=cands at c1 c2;have hstop' :(!seen.toArray.isEmpty&& !es'.isEmpty&&es'.all (·.born≥last))=false:=by
          rw[←hstop];have e1:seen.toArray.isEmpty=seen.isEmpty:=by simp
          have e2:es'.isEmpty=es.isEmpty:=by
           have:=g2.1;rw[Bool.eq_iff_iff,List.isEmpty_iff_length_eq_zero,Array.isEmpty_iff_size_eq_zero,this];simp
          have e3:es'.all (·.born≥last)=es.all (fun e=>Nat.ble last e.born):=by
           rw[←Array.all_toList];rw[Bool.eq_iff_iff,qd,qd];constructor
           ·intro hh m hm;obtain⟨i,hi,rfl⟩:=List.mem_iff_getElem.1 hm;have hi' :i<es'.toList.length:=g2.1▸hi;have:=hh _ (List.getElem_mem hi');rw[jC,(g2.2 i hi hi').2.2];simpa using this
           ·intro hh m hm;obtain⟨i,hi,rfl⟩:=List.mem_iff_getElem.1 hm;have hi' :i<es.length:=g2.1▸hi;have:=hh _ (List.getElem_mem hi');rw[jC,(g2.2 i hi' hi).2.2]at this;simpa using this
          rw[e1,e2,e3]
         have hch:∃ (j:Nat) (w1:World),j<cands.size∧(w1=w∨w1=w.drew)∧(choose (Question.mapNext cands.size)).run P w=.ok j w1:=by
          have hpos:0<cands.size:=by
           rw[←c1];unfold dz;simp only;cases hq:((es.filter fun e=> !seen.contains e.born).filter fun e=>Nat.blt e.born since)with
           |nil=>simp
           |cons a b=>simp
          by_cases hf:cands.size≤1
          ·exact⟨0,w,hpos,Or.inl rfl,by simp[choose,Sem.run,Question.forced,hf]⟩
          ·exact⟨_,w.drew,Nat.mod_lt _ hpos,Or.inr rfl,by
            simp only[choose,Sem.run,Question.forced,decide_eq_true_eq,hf,if_false,Question.cut];rfl⟩
         obtain⟨j,w1,hj,hal,hrunc⟩:=hch;have hRw:Rel w0 ρ s w1:=by
          rcases hal with rfl|rfl
          ·exact hR
          ·exact hR.same rfl rfl rfl
         have hSw:kK ρ s w ρ s w1:=by
          rcases hal with rfl|rfl
          ·exact .refl _ _ _
          ·exact kK.same rfl
         have hheap:w1.heap=w.heap:=by rcases hal with rfl|rfl<;>rfl
         have hj' :j<(dz es since seen).length:=by rw[c1];exact hj
         obtain⟨c,hcj⟩:∃ c,(dz es since seen)[j]? =some c:=⟨_,dm hj'⟩;have hh:=h j hj';simp only[hcj]at hh;obtain⟨c',hc1,hc2⟩:=c2 j c hcj;cases c with
         |none=>
          cases c' with
          |some _=>exact hc2.elim
          |none=>
           simp only at hh;rw[hrun (y:=.tuple #[.bool false]) (w' :=w1) (by
            simp only[Instr.next,getObj,Sem.run_bind,Sem.run,e1,g1,Result.andThen,hstop',mF,if_false,hcd,hrunc,hc1];rfl)]
           exact hk _ s ρ _ w1 hh hRw hSw (by simpa using aE.lC (aX.cons (aE.bool false) .nil))
         |some m=>
          cases c' with
          |none=>exact hc2.elim
          |some m' =>
           simp only at hh;obtain⟨d1,d2,d3⟩:=hc2;have hr1:w1.heap[r]? =some (.mapIter (some r2) since seen.toArray last):=by rw[hheap];exact e1
           obtain⟨p1,p2⟩:=hRw.put hρ (by rw[hs];trivial) (ob:=.fS (some mm) since (seen++[m.born]) clock) (obj:=.mapIter (some r2) since (seen.toArray.push m'.born) clock)
            ⟨some r2,by rw[d3];simp,⟨r2,o2,lim2,hρ2,rfl⟩,rfl⟩
           rw[hrun (y:=.tuple #[.bool true,m'.key,m'.val]) (w' :={w1 with heap:=w1.heap.setIfInBounds r (.mapIter (some r2) since (seen.toArray.push m'.born) clock)}) (by
            simp only[Instr.next,getObj,Sem.run_bind,Sem.run,e1,g1,Result.andThen,hstop',mF,if_false,hcd,hrunc,hc1,zQ hr1];rfl)]
           exact hk _ _ ρ _ _ hh p1 (hSw.trans p2) (by simpa using aE.lC (aX.cons (aE.bool true) (aX.cons d1 (aX.cons d2 .nil))))
end
end Go.RE
namespace Go.RE
section
variable{P:Program}
theorem Cy{n:Nat}{all:List Oper}{o:Oper}{r:List Oper}{acc:List Nat}{l:List aH}(h:xZ P n all (o::r) acc=some l):
  ∃ g l',guardOf all o=some g∧xZ P n all r (acc++[oM acc o])=some l'∧(∀ d,o.dst=some d→d<n)∧l={dst:=o.dst,op:=cop P o.op,guard:=g,aS:=oM acc o}::l' :=by
 simp only[xZ]at h;cases hg:guardOf all o with
 |none=>simp[hg]at h
 |some g=>
  cases hr:xZ P n all r (acc++[oM acc o])with
  |none=>simp[hg,hr]at h
  |some l' =>
   simp only[hg,hr]at h;cases hd:o.dst with
   |none=>simp[hd]at h;exact⟨g,l',rfl,rfl,by simp,h.symm⟩
   |some d=>
    simp only[hd]at h;cases hb:Nat.blt d n with
    |false=>simp[hb]at h
    |true=>
     simp only[hb,cond_true,ay]at h;exact⟨g,l',rfl,rfl,fun d' hd' =>by simp at hd';subst hd';rw[Nat.blt_eq]at hb;exact hb,h.symm⟩
def pr(l:List aH)(i:Nat):Nat:=(l.getD i default).aS
def dn(l:List aH)(i:Nat):Option Nat:=(l.getD i default).dst
def sm(l:List aH)(i:Nat):Bool:=(l.getD i default).small
theorem Tt{n:Nat}{all:List Oper}:∀ (r:List Oper) (acc:List Nat) (l:List aH),xZ P n all r acc=some l→
  l.length=r.length∧∀ (i:Nat) o,r[i]? =some o→∃ co,l[i]? =some co∧co.dst=o.dst∧co.op=cop P o.op∧guardOf all o=some co.guard∧(∀ d,o.dst=some d→d<n)∧
   co.aS=oM (acc++(l.take i).map (·.aS)) o:=by
 intro r
 induction r with
 |nil=>intro acc l h;simp[xZ]at h;subst h;exact⟨rfl,fun i o h=>by simp at h⟩
 |cons o r ih=>
  intro acc l h;obtain⟨g,l',h1,h2,h3,rfl⟩:=Cy h;obtain⟨a1,a2⟩:=ih _ _ h2;refine⟨by simp[a1],fun i o' hi=> ?_⟩;cases i with
  |zero=>simp at hi;subst hi;exact⟨_,rfl,rfl,rfl,h1,h3,by simp⟩
  |succ i=>
   simp only[List.getElem?_cons_succ]at hi;obtain⟨co,b1,b2,b3,b4,b5,b6⟩:=a2 i o' hi;exact⟨co,by simpa using b1,b2,b3,b4,b5,by rw[b6];simp[ow]⟩
theorem HG(acc:List Nat)(o:Oper)(b:Nat)(h:(oM acc o).testBit b=true):∃ e∈o.after.toList,Region.binds .any e=true∧(b=e.on∨(acc.getD e.on 0).testBit b=true):=by
 unfold oM at h;have key:∀ (l:List Edge) (s:Nat),(l.foldl (fun s e=>bif Region.binds .any e then Nat.lor (Nat.lor s (2 ^ e.on)) (acc.getD e.on 0)else s) s).testBit b=true→
   s.testBit b=true∨∃ e∈l,Region.binds .any e=true∧(b=e.on∨(acc.getD e.on 0).testBit b=true):=by
  intro l
  induction l with
  |nil=>intro s h;exact .inl h
  |cons e l ih=>
   intro s h;simp only[List.foldl_cons]at h;rcases ih _ h with h' |⟨e',h1,h2⟩
   ·cases hb:Region.binds .any e with
    |false=>rw[hb]at h';exact .inl h'
    |true=>
     rw[hb]at h';simp only[cond_true]at h';have h'' :((s|||2 ^ e.on)|||acc.getD e.on 0).testBit b=true:=h';rw[Nat.testBit_or,Nat.testBit_or,Bool.or_eq_true,Bool.or_eq_true]at h'';rcases h'' with(h3|h3)|h3
     ·exact .inl h3
     ·rw[Nat.testBit_two_pow]at h3;simp at h3;exact .inr ⟨e,by simp,hb,.inl h3.symm⟩
     ·exact .inr ⟨e,by simp,hb,.inr h3⟩
   ·exact .inr ⟨e',by simp[h1],h2⟩
 rcases key _ 0 h with h|h
 ·simp at h
 ·exact h
structure Stat(P:Program)(n:Nat)(ops:Array Oper)(l:List aH):Prop where
 len:l.length=ops.size
 op:∀ (i:Nat) o,ops[i]? =some o→∃ co,l[i]? =some co∧co.dst=o.dst∧co.op=cop P o.op∧guardOf ops.toList o=some co.guard∧(∀ d,o.dst=some d→d<n)
 pred:∀ (i:Nat) o,ops[i]? =some o→∀ b,(pr l i).testBit b=true→∃ e∈o.after.toList,Region.binds .any e=true∧(b=e.on∨(pr l e.on).testBit b=true)
 lt:∀ (i:Nat) o,ops[i]? =some o→∀ e∈o.after.toList,Region.binds .any e=true→e.on<i
 uniq:∀ i j t,i<ops.size→j<ops.size→i≠j→dn l j=some t→dn l i≠some t
 reads:∀ (i j:Nat) o t,ops[i]? =some o→j<ops.size→i≠j→dn l j=some t→t∈om o ops.toList→(pr l i).testBit j=true∨(pr l j).testBit i=true
theorem l6{α:Type}[Inhabited α]{l:List α}{i:Nat}{x:α}(h:l[i]? =some x):l.getD i default=x:=by simp[List.getD,h]
theorem Stat.of{n:Nat}{ops:Array Oper}{l:List aH}(hc:xZ P n ops.toList ops.toList []=some l)(hd:zL ops.toList l=true):Stat P n ops l:=by
 obtain⟨h1,h2⟩:=Tt _ _ _ hc;have hlen:l.length=ops.size:=by simpa using h1
 have lift:∀ (i:Nat) o,ops[i]? =some o→ops.toList[i]? =some o:=fun i o h=>by simpa using h
 have hop:∀ (i:Nat) o,ops[i]? =some o→∃ co,l[i]? =some co∧co.dst=o.dst∧co.op=cop P o.op∧guardOf ops.toList o=some co.guard∧(∀ d,o.dst=some d→d<n):=fun i o h=>by
  obtain⟨co,a1,a2,a3,a4,a5,_⟩:=h2 i o (lift i o h);exact⟨co,a1,a2,a3,a4,a5⟩
 unfold zL at hd;rw[qd]at hd;have hrow:∀ (i:Nat) o,ops[i]? =some o→(o.after.toList.all (fun e=> !Region.binds .any e||Nat.blt e.on i)=true)∧
   ∀ j,j<ops.size→i≠j→∀ t,dn l j=some t→dn l i≠some t∧(t∈om o ops.toList→(pr l i).testBit j=true∨(pr l j).testBit i=true):=fun i o hi=>by
  have hlt:i<ops.toList.length:=(cz.1 (lift i o hi)).1;have h:=hd i (List.mem_range.2 hlt);obtain⟨co,b1,b2,_⟩:=hop i o hi;rw[lift i o hi,b1]at h;simp only[cm]at h;refine⟨h.1,fun j hj hne t ht=> ?_⟩;have hall:=qd.1 h.2 j (List.mem_range.2 (by simpa using hj));obtain⟨p,hp⟩:∃ p,ops[j]? =some p:=⟨ops[j],vS hj⟩;obtain⟨cp,c1,c2,_⟩:=hop j p hp;rw[lift j p hp,c1]at hall;have hdn:p.dst=some t:=by rw[←c2];unfold dn at ht;rwa[l6 c1]at ht
  have hbne:Nat.beq i j=false:=by
   cases hb:Nat.beq i j with
   |false=>rfl
   |true=>exact absurd (bS hb) hne
  simp only[hbne,Bool.false_or,hdn,cm]at hall;refine⟨?_,fun hmem=> ?_⟩
  ·unfold dn;rw[l6 b1,b2];intro hh;have:=hall.1;rw[hh]at this;simp at this
  ·have h3:=hall.2;rw[Bool.or_eq_true,Bool.or_eq_true]at h3;rcases h3 with(h3|h3)|h3
   ·rw[List.elem_eq_mem]at h3;simp[hmem]at h3
   ·left;exact h3
   ·right;unfold pr;rw[l6 c1];exact h3
 refine⟨hlen,hop,fun i o hi b hb=> ?_,fun i o hi e he hbd=> ?_,fun i j t hi hj hne ht=> ?_,fun i j o t hi hj hne ht hmem=> ?_⟩
 ·obtain⟨co,a1,a2,a3,a4,a5,a6⟩:=h2 i o (lift i o hi);unfold pr at hb;rw[l6 a1,a6]at hb;obtain⟨e,e1,e2,e3⟩:=HG _ _ _ hb;refine⟨e,e1,e2,e3.imp id fun h=> ?_⟩;simp only[List.nil_append]at h;unfold pr;by_cases hlt:e.on<i
  ·have hli:e.on<l.length:=by have:=(cz.1 a1).1;omega
   have:((l.take i).map (·.aS)).getD e.on 0=(l.getD e.on default).aS:=by
    simp[List.getD,List.getElem?_map,o3,hlt,dm hli]
   rwa[this]at h
  ·rw[List.getD,List.getElem?_eq_none (by simp;omega)]at h;simp at h
 ·have:=qd.1 (hrow i o hi).1 e he;rw[hbd]at this;simp at this;exact this
 ·obtain⟨o,ho⟩:∃ o,ops[i]? =some o:=⟨ops[i],vS hi⟩;exact((hrow i o ho).2 j hj hne t ht).1
 ·exact((hrow i o hi).2 j hj hne t ht).2 hmem
theorem Stat.below{n:Nat}{ops:Array Oper}{l:List aH}(h:Stat P n ops l):∀ i b,i<ops.size→(pr l i).testBit b=true→b<i:=by
 intro i
 induction i using Nat.strongRecOn with
 |_ i ih=>
  intro b hi hb;obtain⟨o,ho⟩:∃ o,ops[i]? =some o:=⟨ops[i],vS hi⟩;obtain⟨e,e1,e2,e3⟩:=h.pred i o ho b hb;have hlt:=h.lt i o ho e e1 e2;rcases e3 with rfl|e3
  ·exact hlt
  ·have:=ih e.on hlt b (by omega) e3;omega
theorem LQ{a b:Nat}(h:within a b=true)(i:Nat)(hi:a.testBit i=true):b.testBit i=true:=by
 have:=bS h;have h2:(a&&&b).testBit i=true:=by show(Nat.land a b).testBit i=true;rw[this];exact hi
 rw[Nat.testBit_and,cm]at h2;exact h2.2
theorem OZ{a b:Nat}(h:∀ i,a.testBit i=true→b.testBit i=true):within a b=true:=by
 unfold within;have:Nat.land a b=a:=by
  apply Nat.eq_of_testBit_eq;intro i;show(a&&&b).testBit i=_;rw[Nat.testBit_and];cases ha:a.testBit i with
  |false=>rfl
  |true=>simp[h i ha]
 rw[this];exact nX a
theorem yK(a i j:Nat):(Nat.lor a (2 ^ i)).testBit j=(a.testBit j||decide (j=i)):=by
 show(a|||2 ^ i).testBit j=_;rw[Nat.testBit_or,Nat.testBit_two_pow];congr 1;by_cases h:j=i
 ·subst h;simp
 ·have h' :¬i=j:=fun hh=>h hh.symm;simp[h,h']
theorem x7{s s' :St}(h:∀ n x,s.get n=some x→s'.get n=some x){w:Nat}{v:V}{cs:List V}(hv:bx s w v=some cs):bx s' w v=some cs:=by
 unfold bx at hv⊢;split at hv<;>try exact hv
 rename_i b off len cap sz ex;cases hr:s.row b with
 |none=>simp[hr]at hv
 |some row=>
  have:s'.row b=some row:=by
   unfold St.row at hr⊢;split at hr<;>simp at hr;rename_i cs' hg;rw[h _ _ hg];simpa using hr
  simp only[hr]at hv;simp only[this];exact hv
theorem Gj{s s' :St}(h:∀ n x,s.get n=some x→s'.get n=some x){b:Nat}{row:List V}(hr:s.row b=some row):s'.row b=some row:=by
 unfold St.row at hr⊢;split at hr<;>simp at hr;rename_i cs' hg;rw[h _ _ hg];simpa using hr
theorem Ip{s s' :St}(h:∀ n x,s.get n=some x→s'.get n=some x){env:PT V}{so:ga}{v:V}(hv:cX env s so=some v):cX env s' so=some v:=by
 cases so with
 |load n x=>
  simp only[cX]at hv⊢;split at hv
  ·rename_i b off hb;cases hr:s.row b with
   |none=>simp[hr]at hv
   |some row=>simp only[hr]at hv;simp only[Gj h hr];exact hv
  ·exact hv
  ·simp at hv
 |toStr x=>
  simp only[cX]at hv⊢;split at hv
  ·rename_i u hu;cases hs:bx s 1 u with
   |none=>simp[hs]at hv
   |some cs=>simp only[hs]at hv;simp only[x7 h hs];exact hv
  ·simp at hv
 |ir n sz x lo hi=>
  simp only[cX]at hv⊢;split at hv
  ·rename_i b off hb;cases n2:aF env hi n n with
   |none=>simp[n2]at hv
   |some hh=>
    cases n1:aF env lo 0 hh with
    |none=>simp[n2,n1]at hv
    |some l=>
     simp only[n2,n1]at hv⊢;cases hr:s.row b with
     |none=>simp[hr]at hv
     |some row=>simp only[hr]at hv;simp only[Gj h hr];exact hv
  ·simp at hv
 |lookup kk z ok x i=>
  simp only[cX]at hv⊢;split at hv
  ·rename_i m k _ _;cases m with
   |map mm=>
    simp only[qu]at hv⊢;cases hg:s.get mm with
    |none=>simp[hg]at hv
    |some ob=>simp only[hg]at hv;simp only[h _ _ hg];exact hv
   |_=>exact hv
  ·simp at hv
 |len k x=>
  simp only[cX]at hv⊢;split at hv
  ·rename_i u hu;cases hl:ov s k u with
   |none=>simp[hl]at hv
   |some n=>
    have:ov s' k u=some n:=by
     unfold ov at hl⊢;split at hl<;>try exact hl
     rename_i m;cases hg:s.get m with
     |none=>rw[hg]at hl;revert hl;cases Nat.beq k 2<;>simp
     |some ob=>rw[hg]at hl;rw[h _ _ hg];exact hl
    simp only[hl]at hv;simp only[this];exact hv
  ·simp at hv
 |entry x=>
  simp only[cX]at hv⊢;split at hv
  ·rename_i b hb;unfold zf at hv⊢;cases hg:s.get b with
   |none=>simp[hg]at hv
   |some ob=>
    rw[h _ _ hg];rw[hg]at hv;cases ob with
    |fS m since seen last=>
     cases m with
     |none=>exact hv
     |some mm=>
      simp only at hv⊢;cases hg2:s.get mm with
      |none=>simp[hg2]at hv
      |some ob2=>rw[h _ _ hg2];rw[hg2]at hv;exact hv
    |_=>exact hv
  ·simp at hv
 |_=>exact hv
end
end Go.RE
