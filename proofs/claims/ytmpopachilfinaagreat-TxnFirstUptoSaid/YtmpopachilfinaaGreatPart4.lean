/- Operations that write memory do what the evaluator says, all of them. -/
import Derived.Test.YtmpopachilfinaaGreatPart3
set_option linter.unusedVariables false
set_option linter.unusedSimpArgs false
namespace Go.RE
section
variable{P:Program}{w0:World}{ρ:Ren}{s s' :St}{w:World}{env:PT V}{e:Operand→Value}
def jR(w0:World)(ρ:Ren)(a:List ME)(b:List MapEntry):Prop:=a.length=b.length∧∀ i (h:i<a.length) (h' :i<b.length),az w0 ρ a[i].key b[i].key∧az w0 ρ a[i].val b[i].val∧a[i].born=b[i].born
theorem jR.get{a:List ME}{b:List MapEntry}(h:jR w0 ρ a b){i:Nat}{m:ME}(hm:a[i]? =some m):∃ x,b[i]? =some x∧az w0 ρ m.key x.key∧az w0 ρ m.val x.val∧m.born=x.born:=by
 obtain⟨hi,rfl⟩:=bn.1 hm;exact⟨b[i]'(h.1▸hi),bP _,h.2 i hi (h.1▸hi)⟩
theorem jR.tF{a:List ME}{b:List MapEntry}(hl:a.length=b.length)(h:∀ (i:Nat) m,a[i]? =some m→∃ x,b[i]? =some x∧az w0 ρ m.key x.key∧az w0 ρ m.val x.val∧m.born=x.born):jR w0 ρ a b:=
 ⟨hl,fun i h1 h2=>by
  obtain⟨x,hx,hr⟩:=h i a[i] (bP h1);rw[bP h2]at hx;simp at hx;rw[hx];exact hr⟩
theorem Qi(f:ME→ME):∀ (l:List ME) (i:Nat),k9 i f l=l.modify i f:=by
 intro l
 induction l with
 |nil=>intro i;cases i<;>rfl
 |cons a l ih=>intro i;cases i with
  |zero=>rfl
  |succ i=>simp[k9,ih]
theorem Jp:∀ (l:List ME) (i:Nat),gN i l=l.eraseIdx i:=by
 intro l
 induction l with
 |nil=>intro i;cases i<;>rfl
 |cons a l ih=>intro i;cases i with
  |zero=>rfl
  |succ i=>simp[gN,ih]
theorem jR.modify{a:List ME}{b:List MapEntry}(h:jR w0 ρ a b)(i:Nat){k v:V}{k' v' :Value}(hk:az w0 ρ k k')(hv:az w0 ρ v v'):
  jR w0 ρ (a.modify i fun e=>{e with key:=k,val:=v}) (b.modify i fun e=>{e with key:=k',val:=v'}):=by
 refine jR.tF (by simp[h.1]) fun j m hm=> ?_;rw[List.getElem?_modify]at hm;rw[List.getElem?_modify];by_cases hij:i=j
 ·subst hij;simp at hm;obtain⟨m0,h0,rfl⟩:=hm;obtain⟨x,x1,x2,x3,x4⟩:=h.get h0;exact⟨{x with key:=k',val:=v'},by simp[x1],hk,hv,x4⟩
 ·simp[hij]at hm⊢;exact h.get hm
theorem jR.eraseIdx{a:List ME}{b:List MapEntry}(h:jR w0 ρ a b)(i:Nat):jR w0 ρ (a.eraseIdx i) (b.eraseIdx i):=by
 refine jR.tF (by simp[List.length_eraseIdx,h.1]) fun j m hm=> ?_;rw[List.getElem?_eraseIdx]at hm⊢;split
 ·rename_i hlt;rw[if_pos hlt]at hm;exact h.get hm
 ·rename_i hlt;rw[if_neg hlt]at hm;exact h.get hm
theorem jR.push{a:List ME}{b:List MapEntry}(h:jR w0 ρ a b){k v:V}{k' v' :Value}(n:Nat)(hk:az w0 ρ k k')(hv:az w0 ρ v v'):
  jR w0 ρ (a++[{key:=k,val:=v,born:=n}]) (b++[{key:=k',val:=v',born:=n}]):=by
 refine jR.tF (by simp[h.1]) fun j m hm=> ?_;by_cases hj:j<a.length
 ·rw[cz hj]at hm;rw[cz (h.1▸hj)];exact h.get hm
 ·rw[fh (by omega)]at hm;rw[fh (by have:=h.1;omega),←h.1];have hz:j - a.length=0:=by
   rcases Nat.eq_zero_or_pos (j - a.length)with h0|h0
   ·exact h0
   ·rw[List.getElem?_eq_none (by simp;omega)]at hm;simp at hm
  rw[hz]at hm⊢;simp at hm;subst hm;exact⟨_,rfl,hk,hv,rfl⟩
theorem Rel.WX(hR:Rel w0 ρ s w){m r o lim:Nat}{es:List ME}{clock:Nat}(hρ:ρ m=some (r,o,lim))(hs:s.get m=some (.map es clock)):
  ∃ es',w.heap[r]? =some (.map es' clock)∧jR w0 ρ es es'.toList:=by
 obtain⟨es',g1,g2,g3⟩:=hR.JS hρ hs;exact⟨es',g1,by simpa using g2,fun i h h' =>by simpa using g3 i h (by simpa using h')⟩
theorem Rel.EF(hR:Rel w0 ρ s w){m r o lim:Nat}{es:List ME}{clock:Nat}(hρ:ρ m=some (r,o,lim))(hs:s.get m=some (.map es clock)){es1:List ME}{es1' :Array MapEntry}{c:Nat}(h:jR w0 ρ es1 es1'.toList):
  Rel w0 ρ (s.put m (.map es1 c)) {w with heap:=w.heap.setIfInBounds r (.map es1' c)}∧jO ρ s w ρ (s.put m (.map es1 c)) {w with heap:=w.heap.setIfInBounds r (.map es1' c)}:=
 hR.put hρ (by rw[hs];trivial) ⟨es1',rfl,by simpa using h.1,fun i h1 h2=>h.2 i h1 (by simpa using h2)⟩
theorem run_setObj_map{r:Nat}{es' :Array MapEntry}{clock:Nat}(h:w.heap[r]? =some (.map es' clock))(o:Obj):(setObj r o).run P w=.ok () {w with heap:=w.heap.setIfInBounds r o}:=by
 simp[setObj,Sem.run,h]
theorem sY{kk:gR}{k:V}{y:Value}{t:TypeId}{es:List ME}{es' :Array MapEntry}{res:Option (Nat×V)}(hK:qq P t kk)(hk:az w0 ρ k y)(h:jR w0 ρ es es'.toList)(hf:mI kk k es 0=some res)(w:World):
  match res with
  |none=>(Instr.findKey t y es'.toList).run P w=.ok none w
  |some (j,_)=>∃ v',(Instr.findKey t y es'.toList).run P w=.ok (some (j,v')) w∧∃ x,es'[j]? =some x∧(Instr.keyThatStays x.key y).run P w=.ok y w:=by
 obtain⟨D,r',e1,e2,e3⟩:=qB (P:=P) (es:=es) (es' :=es'.toList) (i:=0) hK hk hf h.1 h.2;have hfk:(Instr.findKey t y es'.toList).run P w=.ok r' w:=by simp[Instr.findKey,run_underlying e1,e2]
 cases res with
 |none=>
  cases r' with
  |none=>exact hfk
  |some _=>simp at e3
 |some jv=>
  obtain⟨j,v⟩:=jv;cases r' with
  |none=>simp at e3
  |some jv' =>
   obtain⟨j',v'⟩:=jv';obtain⟨rfl,a2,a3,a4,a5⟩:=e3;refine⟨v',hfk,es'[j]'(by simpa using a4),by simp at a4;simp[a4],?_⟩;have a5' :Instr.sameNow D y (es'[j]'(by simpa using a4)).key=some true:=by simpa using a5
   generalize (es'[j]'(by simpa using a4)).key=q at a5';have:Instr.sameBits 10000 q y=true:=by
    unfold Instr.sameNow at a5';split at a5' <;>simp at a5'
    ·obtain⟨rfl,rfl⟩:=a5';simp[Instr.sameBits]
    ·rename_i p q;have:(q==p)=true:=by
      rw[beq_toListBytes]at a5'⊢;simp at a5'⊢;exact a5'.symm
     simp[Instr.sameBits,this]
    ·subst a5';simp[Instr.sameBits]
   simp[Instr.keyThatStays,this]
theorem qf{t kt et:TypeId}{kk:gR}{m k x:V}{mx kx xx:Value}(hu:P.underlying t=some (.map kt et))(hkk:kT P kt=some kk){mm:Nat}{es:List ME}{clock:Nat}(hm:m=.map mm)(hs:s.get mm=some (.map es clock))
  (hp:plainKey kk k=true) {res:Option (Nat×V)} (hf:mI kk k es 0=some res) (hR:Rel w0 ρ s w) (r1:az w0 ρ m mx) (r2:az w0 ρ k kx) (r3:az w0 ρ x xx):
  ∃ w',(Instr.mapUpdate t mx kx xx).run P w=.ok () w'∧
   Rel w0 ρ (match res with|some (i,_)=>s.put mm (.map (k9 i (fun e=>{e with key:=k,val:=x}) es) clock)|none=>s.put mm (.map (es++[{key:=k,val:=x,born:=clock}]) (clock+1))) w'∧
   jO ρ s w ρ (match res with|some (i,_)=>s.put mm (.map (k9 i (fun e=>{e with key:=k,val:=x}) es) clock)|none=>s.put mm (.map (es++[{key:=k,val:=x,born:=clock}]) (clock+1))) w' :=by
 subst hm;have hK:=qu hkk;cases r1 with
 |map hρ=>
  rename_i r o lim;obtain⟨es',g1,g2⟩:=hR.WX hρ hs;have hc:=gY (P:=P) hK hp r2 false 9999 w;have hfk:=sY (P:=P) hK r2 g2 hf w;cases res with
  |none=>
   simp only at hfk⊢;have hput:=hR.EF hρ hs (es1' :=es'.push {key:=kx,val:=xx,born:=clock}) (c:=clock+1) (by simpa using g2.push clock r2 r3);exact⟨_,by simp[Instr.mapUpdate,run_underlying hu,run_getObj_map g1,hc,hfk,run_setObj_map g1],hput⟩
  |some jv=>
   obtain⟨j,v⟩:=jv;obtain⟨v',h1,y,h2,h3⟩:=hfk;simp only;have hput:=hR.EF hρ hs (es1:=k9 j (fun e=>{e with key:=k,val:=x}) es) (es1' :=es'.modify j fun e=>{e with key:=kx,val:=xx}) (c:=clock) (by rw[Qi];simpa using g2.modify j r2 r3);exact⟨_,by simp[Instr.mapUpdate,run_underlying hu,run_getObj_map g1,hc,h1,h2,h3,run_setObj_map g1],hput⟩
theorem qhg{b:Builtin}{ts:List TypeId}{xs:List bJ}{ho:xT}(h:jH P b ts xs=.h ho):
  (b=.append∧∃ t u a x el sz bs z str,ts=[t,u]∧xs=[a,x]∧P.underlying t=some (.slice el)∧(if str=true then P.underlying u=some .string else ∃ el,P.underlying u=some (.slice el))∧
   gd P el=some sz∧we P el=some bs∧zeroOf P el=some z∧z.cells.length=sz∧ho=.append sz bs str a x)∨
  (b=.copy∧∃ t u d x el sz str,ts=[t,u]∧xs=[d,x]∧P.underlying t=some (.slice el)∧(if str=true then P.underlying u=some .string else ∃ el,P.underlying u=some (.slice el))∧gd P el=some sz∧ho=.copy sz str d x)∨
  (b=.delete∧∃ t ts' m k kt et kk,ts=t::ts'∧xs=[m,k]∧P.underlying t=some (.map kt et)∧kT P kt=some kk∧ho=.delete kk m k):=by
 have okS:∀ {t el:TypeId},nP P t=some el→P.underlying t=some (.slice el):=fun {t el} h=>by unfold nP at h;split at h<;>simp_all
 unfold jH at h;split at h
 ·split at h<;>cases h
 ·split at h<;>cases h
 ·cases h
 ·cases h
 ·rename_i t u a x;split at h<;>try (cases h;done)
  rename_i el ud h1 h2;split at h<;>try (cases h;done)
  ·rename_i el2 sz bs z g1 g2 g3;cases hq:Nat.beq z.cells.length sz with
   |false=>rw[hq]at h;cases h
   |true=>
    rw[hq]at h;cases h;exact .inl ⟨rfl,t,u,a,x,el,sz,bs,z,false,rfl,rfl,okS h1,by simpa using⟨_,h2⟩,g1,g2,g3,bR hq,rfl⟩
  ·rename_i sz bs z g1 g2 g3;cases hq:Nat.beq z.cells.length sz with
   |false=>rw[hq]at h;cases h
   |true=>
    rw[hq]at h;cases h;exact .inl ⟨rfl,t,u,a,x,el,sz,bs,z,true,rfl,rfl,okS h1,by simpa using h2,g1,g2,g3,bR hq,rfl⟩
 ·rename_i t u d x;split at h<;>try (cases h;done)
  rename_i el ud h1 h2;split at h<;>cases h
  ·rename_i g1;exact .inr (.inl ⟨rfl,t,u,d,x,el,_,false,rfl,rfl,okS h1,by simpa using⟨_,h2⟩,g1,rfl⟩)
  ·rename_i g1;exact .inr (.inl ⟨rfl,t,u,d,x,el,_,true,rfl,rfl,okS h1,by simpa using h2,g1,rfl⟩)
 ·rename_i t ts' m k;split at h<;>try (cases h;done)
  rename_i kt et hu;split at h<;>cases h;rename_i kk hkk;exact .inr (.inr ⟨rfl,t,ts',m,k,kt,et,kk,rfl,rfl,hu,hkk,rfl⟩)
 ·cases h
theorem OI{sz:Nat}{str:Bool}{x:V}{y:Value}{new:List V}{k:Nat}(h:iu s sz str x=some new)(hl:tw x=some k)(hR:Rel w0 ρ s w)(hx:az w0 ρ x y):
  ∃ xs,aR w0 ρ new xs∧xs.length=k*sz∧(∀ w' :World,(Builtin.lenOf y).run P w' =.ok k w')∧∀ n,n≤k→(Builtin.firstCells sz n y).run P w=.ok (xs.take (n*sz)).toArray w:=by
 cases str with
 |true=>
  cases x<;>simp[iu]at h;rename_i b;cases hb:Nat.beq sz 1 with
  |false=>simp[hb]at h
  |true=>
   simp[hb]at h;subst h;have:sz=1:=bR hb;subst this;simp[tw]at hl;subst hl;obtain⟨p,rfl,hp⟩:=hx.gi;have hs:p.size=b.length:=by rw[←hp];simp
   subst hp;refine⟨byteCells p,⟨by simp[byteCells],fun i h1 h2=>by simp only[byteCells,List.getElem_map,gW];exact .int _ _⟩,by rw[byteCells_length,←hs,Nat.mul_one],fun w' =>by rw[←hs];rfl,fun n hn=> ?_⟩;simp[Builtin.firstCells,byteCells];apply Array.ext';simp
 |false=>
  have h' :bH s sz x=some new:=by cases x<;>simpa[iu]using h
  rcases gb h' hR hx with⟨rfl,rfl⟩|⟨a,len,cap,xs,rfl,g0,g1,g2,g3⟩
  ·have:k=0:=by cases hx;simp[tw]at hl;omega
   subst this;exact⟨[],.nil,by simp,fun _=>rfl,fun n hn=>by simp[Builtin.firstCells]⟩
  ·rw[g0]at hl;simp at hl;subst hl;exact⟨xs,g3,g1,fun _=>rfl,fun n hn=>run_firstCells_some (P:=P) w sz n a len cap _ (by rw[List.length_take,g1];exact Nat.min_eq_left (lY _ hn)) fun j u hj=>g2 j u (by
    rw[jN]at hj;split at hj<;>simp_all)⟩
theorem Jk{dt tx el ty:TypeId}{sz:Nat}{str:Bool}{d x v:V}{dx y:Value}(hu:P.underlying dt=some (.slice el))(hsz:gd P el=some sz)(hv:copyV s sz str d x=some (v,s'))(hR:Rel w0 ρ s w)
  (hd:az w0 ρ d dx) (hx:az w0 ρ x y):∃ w' r,(Builtin.copy_ #[dt,tx] ty #[dx,y]).run P w=.ok r w'∧Rel w0 ρ s' w'∧jO ρ s w ρ s' w'∧az w0 ρ v r:=by
 unfold copyV at hv;split at hv<;>try (simp at hv;done)
 rename_i new k hnew hl;obtain⟨xs,q1,q2,q3,q4⟩:=OI (P:=P) hnew hl hR hx;split at hv
 ·simp only[ai,aJ]at hv;obtain⟨rfl,rfl⟩:=hv;cases hd;have h0:=q4 0 (dW _);refine⟨w,goInt 0,?_,hR,.refl _ _ _,.int _ _⟩;have hm:Nat.min k 0=0:=Nat.min_zero k;simp[Builtin.copy_,run_underlying hu,q3,cU hsz,h0,hm]
 ·simp only[ai,aJ]at hv;obtain⟨rfl,rfl⟩:=hv;cases hd;have h0:=q4 0 (dW _);refine⟨w,goInt 0,?_,hR,.refl _ _ _,.int _ _⟩;have hm:Nat.min k 0=0:=Nat.min_zero k;simp[Builtin.copy_,run_underlying hu,q3,cU hsz,h0,hm,storeCells]
 ·rename_i b off len cap z ex;cases hz:Nat.beq z sz with
  |false=>simp[hz]at hv
  |true=>
   have hzz:z=sz:=bR hz;subst hzz;simp only[hz,cond_true]at hv;cases hw:s.write b off (new.take ((min k len)*z))with
   |none=>simp[hw]at hv
   |some s1=>
    simp only[hw,ai,aJ]at hv;obtain⟨rfl,rfl⟩:=hv;cases hd with
    |slice hρ h1 h2 h3 h4 hcb=>
     rename_i r o lim a cap';have h0:=q4 (min k len) (Nat.min_le_left _ _);obtain⟨p1,p2,p3,_⟩:=rG (P:=P) hw hR hρ (q1.take ((min k len)*z));have hm:Nat.min k len=min k len:=rfl;rcases h4 with h4|⟨rfl,h5⟩
     ·have hl0:len=0:=by omega
      subst hl0;have hxs:List.take (min k 0*z) xs=[]:=by simp
      rw[hxs]at p1 p2 p3 h0;simp only[World.setCells]at p2 p3;exact⟨w,goInt 0,by simp[Builtin.copy_,run_underlying hu,q3,cU hsz,hm]at h0⊢;simp[h0,storeCells],p2,p3,by rw[show((min k 0:Nat):Int)=0 from by simp];exact .int _ _⟩
     ·exact⟨_,goInt (min k len:Nat),by simp[Builtin.copy_,run_underlying hu,q3,cU hsz,hm,h0,p1],p2,p3,.int _ _⟩
 ·simp at hv
theorem N6{o:Oper}{ho:xT}{v:V}(hc:cop P o.op=.h ho)(hv:x8 env s ho=some (v,s'))(hR:Rel w0 ρ s w)(H:∀ x∈o.op.operands,jm w0 ρ env e x):qac P w0 ρ s w e o v s' :=by
 obtain⟨dst,op,type,pos,after,guard⟩:=o;simp only at hc H;cases op with
 |store t a x=>
  simp only[cop]at hc;split at hc<;>cases hc;rename_i n ao xo hn hao hxo;simp only[x8]at hv;split at hv<;>try (simp at hv;done)
  rename_i b off u ha hu;cases hq:Nat.beq u.cells.length n with
  |false=>simp[hq]at hv
  |true=>
   have hq' :u.cells.length=n:=bR hq;simp only[hq,cond_true]at hv;cases hw:s.write b off u.cells with
   |none=>simp[hw]at hv
   |some s1=>
    simp only[hw,ai,aJ]at hv;obtain⟨rfl,rfl⟩:=hv;have hxr:=H x (by simp[Op.operands]) xo u hxo hu;have har:=H a (by simp[Op.operands]) ao _ hao ha;generalize hex:e a=ea at har;cases har with
    |ptr hρ=>
     rename_i r o lim;obtain⟨q1,q2,q3,_⟩:=rG (P:=P) hw hR hρ hxr.cells;refine⟨ρ,_,.skip,?_,q2,q3,.inr ⟨rfl,rfl⟩⟩;have hsize:¬(e x).cells.size≠n:=by
      have:=hxr.cells.1;simp at this;omega
     have:(Instr.storeAt t (e a) (e x)).run P w=.ok () (w.setCells r (o+off) (e x).cells.toList):=by
      simp only[Instr.storeAt,hex,Instr.sureAddr,Sem.run_bind,Sem.run_pure,Result.andThen_ok,storeVar,cU hn];rw[if_neg hsize];exact q1
     simp[execOp,this]
 |mapUpdate t m k x=>
  simp only[cop]at hc;split at hc<;>try (cases hc;done)
  rename_i kt et mo ko xo hu hmo hko hxo;split at hc<;>cases hc;rename_i kk hkk;simp only[x8]at hv;split at hv<;>try (simp at hv;done)
  rename_i mm kv xv hm hk hx;cases hs:s.get mm with
  |none=>simp[hs]at hv
  |some ob=>
   cases ob<;>simp only[hs,reduceCtorEq]at hv;rename_i es clock;cases hp:plainKey kk kv with
   |false=>simp[hp]at hv
   |true=>
    simp only[hp,cond_true]at hv;cases hf:mI kk kv es 0 with
    |none=>simp[hf]at hv
    |some res=>
     obtain⟨w',g1,g2,g3⟩:=qf (P:=P) hu hkk rfl hs hp hf hR (H m (by simp[Op.operands]) mo _ hmo hm) (H k (by simp[Op.operands]) ko kv hko hk) (H x (by simp[Op.operands]) xo xv hxo hx);have hrun:(execOp e ({dst,op:=.mapUpdate t m k x,type,pos,after,guard}:Oper)).run P w=.ok .skip w' :=by simp[execOp,g1]
     simp only[hf]at hv;cases res with
     |none=>simp only[ai,aJ]at hv;obtain⟨rfl,rfl⟩:=hv;exact⟨ρ,w',.skip,hrun,g2,g3,.inr ⟨rfl,rfl⟩⟩
     |some jv=>simp only[ai,aJ]at hv;obtain⟨rfl,rfl⟩:=hv;exact⟨ρ,w',.skip,hrun,g2,g3,.inr ⟨rfl,rfl⟩⟩
 |insert t m k x=>
  simp only[cop]at hc;split at hc<;>try (cases hc;done)
  rename_i kt et mo ko xo hu hmo hko hxo;split at hc<;>cases hc;rename_i kk hkk;simp only[x8]at hv;split at hv<;>try (simp at hv;done)
  rename_i mm kv xv hm hk hx;cases hs:s.get mm with
  |none=>simp[hs]at hv
  |some ob=>
   cases ob<;>simp only[hs,reduceCtorEq]at hv;rename_i es clock;cases hp:plainKey kk kv with
   |false=>simp[hp]at hv
   |true=>
    simp only[hp,cond_true]at hv;cases hf:mI kk kv es 0 with
    |none=>simp[hf]at hv
    |some res=>
     obtain⟨w',g1,g2,g3⟩:=qf (P:=P) hu hkk rfl hs hp hf hR (H m (by simp[Op.operands]) mo _ hmo hm) (H k (by simp[Op.operands]) ko kv hko hk) (H x (by simp[Op.operands]) xo xv hxo hx);have hrun:(execOp e ({dst,op:=.insert t m k x,type,pos,after,guard}:Oper)).run P w=.ok .skip w' :=by simp[execOp,g1]
     simp only[hf]at hv;cases res with
     |none=>simp only[ai,aJ]at hv;obtain⟨rfl,rfl⟩:=hv;exact⟨ρ,w',.skip,hrun,g2,g3,.inr ⟨rfl,rfl⟩⟩
     |some jv=>simp only[ai,aJ]at hv;obtain⟨rfl,rfl⟩:=hv;exact⟨ρ,w',.skip,hrun,g2,g3,.inr ⟨rfl,rfl⟩⟩
 |range t x=>
  simp only[cop]at hc;split at hc<;>cases hc;rename_i kt et xo hu hxo;simp only[x8]at hv;split at hv
  ·rename_i hx;simp only[ai,aJ]at hv;obtain⟨rfl,rfl⟩:=hv;have hxr:=H x (by simp[Op.operands]) xo _ hxo hx;generalize hex:e x=ex at hxr;cases hxr;obtain⟨a1,a2⟩:=hR.alloc (ob:=.ga none 0 [] 0) (obj:=.mapIter none 0 #[] 0) (lim:=0) ⟨none,by simp,rfl,rfl⟩;exact⟨_,_,.value (.pointer (some ⟨w.heap.size,0,none⟩)),by simp[execOp,Instr.range,hex,run_underlying hu],a1,a2,.inl ⟨_,rfl,by simpa using az.ptr (off:=0) (Ren.add_same ρ s.next (w.heap.size,0,0))⟩⟩
  ·rename_i m hx;cases hs:s.get m with
   |none=>simp[hs]at hv
   |some ob=>
    cases ob<;>simp only[hs,reduceCtorEq,ai,aJ]at hv;rename_i es clock;obtain⟨rfl,rfl⟩:=hv;have hxr:=H x (by simp[Op.operands]) xo _ hxo hx;generalize hex:e x=ex at hxr;cases hxr with
    |map hρ=>
     rename_i r o lim;obtain⟨es',g1,g2⟩:=hR.WX hρ hs;obtain⟨a1,a2⟩:=hR.alloc (ob:=.ga (some m) clock [] clock) (obj:=.mapIter (some r) clock #[] clock) (lim:=0) ⟨some r,by simp,⟨r,o,lim,hρ,rfl⟩,rfl⟩;exact⟨_,_,.value (.pointer (some ⟨w.heap.size,0,none⟩)),by simp[execOp,Instr.range,hex,run_underlying hu,run_getObj_map g1],a1,a2,.inl ⟨_,rfl,by simpa using az.ptr (off:=0) (Ren.add_same ρ s.next (w.heap.size,0,0))⟩⟩
  ·simp at hv
 |call c=>
  simp only[cop]at hc;split at hc<;>try first|(cases hc;done)|(split at hc<;>cases hc;done)
  rename_i b args hcal hargs;have hHa:∀ x∈c.args.toList,jm w0 ρ env e x:=fun x hx=>H x (by simp[Op.operands,Call.operands];exact .inr (by simpa using hx));have hres:∀ {S:Sem Value} {r:V} {ρ' :Ren} {w' :World} {x:Value},(∀ cs,builtin b c.argTypes type cs (c.args.map e)=(do pure (.value (←S))))→S.run P w=.ok x w'→Rel w0 ρ' s' w'→jO ρ s w ρ' s' w'→az w0 ρ' r x→
    qac P w0 ρ s w e {dst,op:=.call c,type,pos,after,guard} r s' :=fun {S r ρ' w' x} hb h1 h2 h3 h4=>by
   refine⟨ρ',w',.value x,?_,h2,h3,.inl ⟨x,rfl,h4⟩⟩;simp only[execOp,resolve,hcal,Sem.run_bind,Sem.run_pure,Result.andThen_ok,invoke];rw[hb];simp[h1]
  have two:∀ {p q:bJ},args=[p,q]→∃ x y,c.args= #[x,y]∧cB x=some p∧cB y=some q:=fun {p q} hh=>by
   subst hh;obtain⟨x,xs,ha,hx,hxs⟩:=r9 hargs;obtain⟨y,ys,hb,hy,hys⟩:=r9 hxs;have:ys=[]:=by
    cases ys with
    |nil=>rfl
    |cons z zs=>
     simp only[mY]at hys;split at hys
     ·split at hys<;>simp at hys
     ·simp at hys
   subst this;subst hb;exact⟨x,y,by rw[←Array.toArray_toList (xs:=c.args),ha],hx,hy⟩
  rcases qhg hc with⟨rfl,t,u,ao,xo,el,sz,bs,z,str,ht,hx,hu,hk,h1,h2,h3,h4,rfl⟩|⟨rfl,t,u,ao,xo,el,sz,str,ht,hx,hu,hk,h1,rfl⟩|⟨rfl,t,ts',mo,ko,kt,et,kk,ht,hx,hu,hkk,rfl⟩
  ·obtain⟨a,x,hax,hao,hxo⟩:=two hx;have hA:=hHa a (by rw[hax];simp);have hX:=hHa x (by rw[hax];simp);have hts:c.argTypes= #[t,u]:=by rw[←Array.toArray_toList (xs:=c.argTypes),ht]
   simp only[x8]at hv;split at hv<;>try (simp at hv;done)
   rename_i av xv hav hxv;obtain⟨ρ',w',r,g1,g2,g3,g4⟩:=D0 (P:=P) (ty:=type) hu hk h1 h2 h3 h4 hv hR (hA ao av hao hav) (hX xo xv hxo hxv);exact hres (S:=Builtin.append_ #[t,u] type #[e a,e x]) (fun cs=>by rw[hts,hax];simp only[List.map_toArray,List.map_cons,List.map_nil];rfl) g1 g2 g3 g4
  ·obtain⟨a,x,hax,hao,hxo⟩:=two hx;have hA:=hHa a (by rw[hax];simp);have hX:=hHa x (by rw[hax];simp);have hts:c.argTypes= #[t,u]:=by rw[←Array.toArray_toList (xs:=c.argTypes),ht]
   simp only[x8]at hv;split at hv<;>try (simp at hv;done)
   rename_i av xv hav hxv;obtain⟨w',r,g1,g2,g3,g4⟩:=Jk (P:=P) (ty:=type) (tx:=u) hu h1 hv hR (hA ao av hao hav) (hX xo xv hxo hxv);exact hres (S:=Builtin.copy_ #[t,u] type #[e a,e x]) (fun cs=>by rw[hts,hax];simp only[List.map_toArray,List.map_cons,List.map_nil];rfl) g1 g2 g3 g4
  ·obtain⟨m,k,hmk,hmo,hko⟩:=two hx;have hM:=hHa m (by rw[hmk];simp);have hK' :=hHa k (by rw[hmk];simp);have ht0:c.argTypes[0]? =some t:=by rw[←Array.getElem?_toList,ht];rfl
   have hK:=qu hkk;simp only[x8]at hv;split at hv
   ·rename_i kv hm hk;cases hp:plainKey kk kv with
    |false=>simp[hp]at hv
    |true=>
     simp only[hp,cond_true,ai,aJ]at hv;obtain⟨rfl,rfl⟩:=hv;have hmr:=hM mo _ hmo hm;generalize hex:e m=em at hmr;cases hmr;have hc' :=gY (P:=P) hK hp (hK' ko kv hko hk) true 9999 w;exact hres (S:=Builtin.delete_ c.argTypes type #[.map none,e k]) (fun cs=>by rw[hmk];simp only[List.map_toArray,List.map_cons,List.map_nil,hex];rfl) (x:=.tuple #[]) (w' :=w)
      (by simp[Builtin.delete_,ht0,run_underlying hu,hc']) hR (.refl _ _ _) (by simpa using az.kN (w0:=w0) (ρ:=ρ) .nil)
   ·rename_i mm kv hm hk;cases hs:s.get mm with
    |none=>simp[hs]at hv
    |some ob=>
     cases ob<;>simp only[hs,reduceCtorEq]at hv;rename_i es clock;cases hp:plainKey kk kv with
     |false=>simp[hp]at hv
     |true=>
      simp only[hp,cond_true]at hv;have hmr:=hM mo _ hmo hm;have hkr:=hK' ko kv hko hk;generalize hex:e m=em at hmr;cases hmr with
      |map hρ=>
       rename_i r o lim;obtain⟨es',g1,g2⟩:=hR.WX hρ hs;have hc' :=gY (P:=P) hK hp hkr es'.isEmpty 9999 w;have hst:∀ cs,builtin .delete c.argTypes type cs (c.args.map e)=(do pure (.value (←Builtin.delete_ c.argTypes type #[.map (some r),e k]))):=fun cs=>by
        rw[hmk];simp only[List.map_toArray,List.map_cons,List.map_nil,hex];rfl
       cases hf:mI kk kv es 0 with
       |none=>simp[hf]at hv
       |some res=>
        have hfk:=sY (P:=P) hK hkr g2 hf w;simp only[hf]at hv;cases res with
        |none=>
         simp only[ai,aJ]at hv;obtain⟨rfl,rfl⟩:=hv;simp only at hfk;have hsame:({w with heap:=w.heap.setIfInBounds r (.map es' clock)}:World)=w:=by rw[Ie _ _ _ g1]
         exact hres hst (x:=.tuple #[]) (w' :=w) (by simp[Builtin.delete_,ht0,run_underlying hu,run_getObj_map g1,hc',hfk,run_setObj_map g1,hsame]) hR (.refl _ _ _) (by simpa using az.kN (w0:=w0) (ρ:=ρ) .nil)
        |some jv=>
         obtain⟨j,vv⟩:=jv;simp only[ai,aJ]at hv;obtain⟨rfl,rfl⟩:=hv;obtain⟨v',q1,_⟩:=hfk;obtain⟨p1,p2⟩:=hR.EF hρ hs (es1:=gN j es) (es1' :=es'.eraseIdxIfInBounds j) (c:=clock) (by rw[Jp];simpa using g2.eraseIdx j);exact hres hst (x:=.tuple #[]) (by simp[Builtin.delete_,ht0,run_underlying hu,run_getObj_map g1,hc',q1,run_setObj_map g1]) p1 p2 (by simpa using az.kN (w0:=w0) (ρ:=ρ) .nil)
   ·simp at hv
 |move x=>simp only[cop]at hc;split at hc<;>cases hc
 |assign x=>simp only[cop]at hc;split at hc<;>cases hc
 |pick c a b=>simp only[cop]at hc;split at hc<;>cases hc
 |build t parts=>
  simp only[cop]at hc;split at hc<;>try (cases hc;done)
  ·split at hc<;>try (cases hc;done)
   split at hc<;>cases hc
  ·split at hc<;>try (cases hc;done)
   split at hc<;>cases hc
 |load t a=>simp only[cop]at hc;split at hc<;>cases hc
 |nilCheck x=>simp only[cop]at hc;split at hc<;>cases hc
 |binOp op t x y yt=>simp only[cop]at hc;split at hc<;>cases hc
 |unOp op t x=>simp only[cop]at hc;split at hc<;>cases hc
 |makeInterface t x=>simp only[cop]at hc;split at hc<;>cases hc
 |makeFunc fn first captured=>
  cases fn<;>simp only[cop]at hc<;>try (cases hc;done)
  split at hc<;>cases hc
 |slice t x lo hi mx=>
  simp only[cop]at hc;split at hc<;>try (cases hc;done)
  ·split at hc<;>try (cases hc;done)
   unfold cond at hc;split at hc<;>cases hc
  ·split at hc<;>try (cases hc;done)
   unfold cond at hc;split at hc<;>cases hc
 |fieldAddr t x f=>
  simp only[cop]at hc;split at hc<;>try (cases hc;done)
  split at hc<;>try (cases hc;done)
  split at hc<;>cases hc
 |field t x f=>
  simp only[cop]at hc;split at hc<;>try (cases hc;done)
  split at hc<;>try (cases hc;done)
  split at hc<;>cases hc
 |indexAddr t x i=>
  simp only[cop]at hc;split at hc<;>try (cases hc;done)
  ·split at hc<;>cases hc
  ·split at hc<;>cases hc
 |index t x i=>
  simp only[cop]at hc;split at hc<;>try (cases hc;done)
  split at hc<;>cases hc
 |lookup t x i ok=>
  simp only[cop]at hc;split at hc<;>try (cases hc;done)
  split at hc<;>cases hc
 |extract x i=>simp only[cop]at hc;split at hc<;>cases hc
 |typeAssert x xt t ok=>
  cases ok<;>simp only[cop]at hc<;>try (cases hc;done)
  split at hc<;>cases hc
 |next x b=>cases b<;>simp only[cop]at hc<;>(try split at hc)<;>cases hc
 |entry x=>simp only[cop]at hc;split at hc<;>cases hc
 |alloc t=>simp only[cop]at hc;split at hc<;>cases hc
 |box t x=>simp only[cop]at hc;split at hc<;>cases hc
 |makeMap t r=>simp only[cop]at hc;split at hc<;>cases hc
 |makeSlice t l c=>
  simp only[cop]at hc;split at hc<;>try (cases hc;done)
  split at hc<;>try (cases hc;done)
  unfold cond at hc;split at hc<;>cases hc
 |buildSlice t len parts=>
  simp only[cop]at hc;split at hc<;>try (cases hc;done)
  split at hc<;>try (cases hc;done)
  unfold cond at hc;split at hc<;>try (cases hc;done)
  split at hc<;>cases hc
 |convert src dst x=>
  simp only[cop]at hc;split at hc<;>try (cases hc;done)
  ·unfold cond at hc;split at hc<;>cases hc
  ·unfold cond at hc;split at hc<;>cases hc
 |_=>simp[cop]at hc
end
end Go.RE
namespace Go.RE
section
variable{P:Program}{w0:World}
def ny(w0:World)(ρ:Ren)(n:Nat)(env:PT V)(a:Act):Prop:=n≤a.tmps.size∧∀ t v,env.get t=some v→az w0 ρ v (a.tmps.getD t undef)
theorem ny.mono{ρ ρ' :Ren}{n:Nat}{env:PT V}{a:Act}(hρ:ρ.le ρ')(h:ny w0 ρ n env a):ny w0 ρ' n env a:=⟨h.1,fun t v e=>(h.2 t v e).mono hρ⟩
theorem ny.cB{ρ:Ren}{n:Nat}{env:PT V}{a:Act}(h:ny w0 ρ n env a)(x:Operand):jm w0 ρ env a.eval x:=by
 intro o v ho hv;cases x with
 |tmp t=>simp only[RE.cB,ai]at ho;subst ho;exact h.2 t v hv
 |const c=>
  obtain⟨y,rfl,hy⟩:=Dy (w0:=w0) (ρ:=ρ) ho;simp only[bJ.ev,ai]at hv;subst hv;exact hy
 |global g=>simp[RE.cB]at ho
 |func f=>
  simp only[RE.cB,ai]at ho;subst ho;simp only[bJ.ev,ai]at hv;subst hv;exact .func rfl rfl (fun i h=>by simp at h) (fun i h=>by simp at h)
theorem ny.put{ρ:Ren}{n:Nat}{env:PT V}{a:Act}(h:ny w0 ρ n env a){dst:Option Nat}(hd:∀ d,dst=some d→d<n){v:V}{x:Value}(hv:az w0 ρ v x):ny w0 ρ n (fq dst v env) (a.put dst x):=by
 cases dst with
 |none=>exact h
 |some d=>
  have hd' :=hd d rfl;refine⟨by simpa[Act.put]using h.1,fun t u e=> ?_⟩;simp only[fq,PT.iz]at e;simp only[Act.put];by_cases ht:t=d
  ·subst ht;rw[if_pos rfl]at e;simp at e;subst e;have:t<a.tmps.size:=mb hd' h.1;simp[rI,Array.getElem?_setIfInBounds_self_of_lt this];exact hv
  ·rw[if_neg ht]at e;have:=h.2 t u e;simp only[rI]at this⊢;rw[Array.getElem?_setIfInBounds_ne (fun h=>ht h.symm)];exact this
theorem put_defers(a:Act)(dst:Option Nat)(x:Value):(a.put dst x).defers=a.defers:=by cases dst<;>rfl
theorem sr{ρ:Ren}:az w0 ρ (.aV []) undef:=.aV rfl fun i h=>by simp at h
theorem yd{ρ:Ren}{env:PT V}{tmps:Array Value}{ops:Array Oper}{o:Oper}{g:Option (Nat×Bool)}{b:Bool}(hg:guardOf ops.toList o=some g)(hv:bU g env=some b)
  (hr:∀ t v,g.map (·.1)=some t→env.get t=some v→az w0 ρ v (tmps.getD t undef)):Region.wanted o (yielded ops tmps)=b:=by
 unfold guardOf at hg;split at hg
 ·rename_i h;simp only[ai]at hg;subst hg;simp[bU]at hv;subst hv;simp[Region.wanted,h]
 ·rename_i j want h;cases hj:ops.toList[j]? with
  |none=>simp[hj]at hg
  |some p=>
   have hj' :ops[j]? =some p:=by simpa using hj
   simp only[hj]at hg;cases hd:p.dst with
   |none=>simp[hd]at hg
   |some d=>
    simp only[hd,ai]at hg;subst hg;simp only[bU]at hv;cases he:env.get d with
    |none=>simp[he]at hv
    |some v=>
     have hvr:=hr d v rfl he;have hy:yielded ops tmps j=match tmps[d]? with|some (.bool b)=>some b|_=>none:=by
      simp only[yielded,hj',Option.bind_some,hd];rfl
     simp only[Region.wanted,h,hy];rw[rI]at hvr;cases v with
     |bool q=>
      simp[he]at hv;subst hv;have hb:=hvr.gx;cases ht:tmps[d]? with
      |none=>rw[ht]at hb;simp[undef]at hb
      |some y=>rw[ht]at hb;simp at hb;subst hb;cases q<;>cases want<;>rfl
     |_=>
      simp[he]at hv;subst hv;cases ht:tmps[d]? with
      |none=>rfl
      |some y=>
       rw[ht]at hvr;simp only[Option.getD_some]at hvr;cases hvr<;>rfl
def vW(P:Program)(w0:World)(F:Nat→List V→St→(V→St→Prop)→Prop):Prop:=
 ∀ (f:Nat) (args:List V) (s:St) (k:V→St→Prop) (ρ:Ren) (w:World) (args' :List Value),F f args s k→Rel w0 ρ s w→aR w0 ρ args args'→
  (∃ fn b,P.funcs[f]? =some fn∧fn.body=some b∧(fn.name== "runtime.NumGoroutine")=false)∧
  Calls P f args'.toArray w fun e w' =>∃ v s' ρ' x,e=.returned x∧k v s'∧Rel w0 ρ' s' w'∧jO ρ s w ρ' s' w'∧az w0 ρ' v x
theorem uL{f:Nat}{args:Array Value}(h:∃ fn b,P.funcs[f]? =some fn∧fn.body=some b∧(fn.name== "runtime.NumGoroutine")=false)(w:World):(callFunc f args).run P w=.ok (.enter f args) w:=by
 obtain⟨fn,b,h1,h2,h3⟩:=h;simp only[callFunc,Sem.run_bind,run_program,Result.andThen_ok,h1];rw[if_neg (by rw[h3];simp),if_neg (by simp[h2])];rfl
def qs(P:Program)(M:Nat→String→Option Nat):Prop:=∀ t name f,M t name=some f→methodOf P t name=some f
theorem Kc{t:Nat}{name:String}{f:Nat}(h:methodOf P t name=some f)(v:Value)(n:Nat)(w:World):(method (n+1) t v name).run P w=.ok (f,v) w:=by
 unfold methodOf at h;split at h<;>try (simp at h;done)
 rename_i i hi;split at h<;>try (simp at h;done)
 rename_i m hm;cases hp:m.path.isEmpty with
 |false=>simp[hp]at h
 |true=>
  have hpe:m.path= #[]:=by simpa using hp
  simp only[hp,cond_true]at h;split at h<;>simp only[ai,reduceCtorEq]at h
  ·subst h;rename_i f' el hf hu;simp[method,typeInfo,hi,hm,hpe,follow,hf,receiverAt,run_underlying hu,Place.get]
  ·subst h;rename_i f' d hn hf hu;simp only[method,typeInfo,Sem.run_bind,run_program,Result.andThen_ok,hi,Sem.run_pure,hm,hpe,follow,hf,receiverAt,run_underlying hu];cases d<;>first|exact absurd hu (hn _ _ hf)|simp[Place.get]
theorem GP{ρ:Ren}{es:List ME}{es' :Array MapEntry}(h:jR w0 ρ es es'.toList)(since:Nat)(seen:List Nat):
  let left:=es'.filter fun e=> !seen.toArray.contains e.born;let old:=left.filter (·.born<since);let new:=left.filter (·.born≥since);let cands:=(if old.isEmpty then #[none]else #[])++(old++new).map some
  (dV es since seen).length=cands.size∧∀ (i:Nat) c,(dV es since seen)[i]? =some c→∃ c',cands[i]? =some c'∧
   (match c,c' with|none,none=>True|some m,some m' =>az w0 ρ m.key m'.key∧az w0 ρ m.val m'.val∧m.born=m'.born|_,_=>False):=by
 have filt:∀ {p:ME→Bool} {q:MapEntry→Bool} {a:List ME} {b:List MapEntry},jR w0 ρ a b→(∀ m m',m.born=m'.born→p m=q m')→jR w0 ρ (a.filter p) (b.filter q):=by
  intro p q a
  induction a with
  |nil=>
   intro b h _;have:b=[]:=jT h.1.symm;subst this;exact⟨rfl,fun i h=>by simp at h⟩
  |cons m a ih=>
   intro b h hpq;cases b with
   |nil=>have:=h.1;simp at this
   |cons m' b=>
    have hm:=h.2 0 (by simp) (by simp);simp only[List.getElem_cons_zero]at hm;have hrest:jR w0 ρ a b:=⟨by simpa using h.1,fun i h1 h2=>h.2 (i+1) (by simpa using h1) (by simpa using h2)⟩;have hh:=ih hrest hpq;rw[List.filter_cons,List.filter_cons,hpq m m' hm.2.2];split
    ·refine⟨by simp[hh.1],fun i h1 h2=> ?_⟩;cases i with
     |zero=>simpa using hm
     |succ i=>simpa using hh.2 i (by simpa using h1) (by simpa using h2)
    ·exact hh
 intro left old new cands;have hleft:jR w0 ρ (es.filter fun e=> !seen.contains e.born) left.toList:=by
  simp only[left,Array.toList_filter];exact filt h fun m m' hb=>by rw[hb];simp
 have hold:jR w0 ρ ((es.filter fun e=> !seen.contains e.born).filter fun e=>Nat.blt e.born since) old.toList:=by
  simp only[old,Array.toList_filter];exact filt hleft fun m m' hb=>by rw[hb,Bool.eq_iff_iff,decide_eq_true_iff,Nat.blt_eq]
 have hnew:jR w0 ρ ((es.filter fun e=> !seen.contains e.born).filter fun e=>Nat.ble since e.born) new.toList:=by
  simp only[new,Array.toList_filter];exact filt hleft fun m m' hb=>by rw[hb,Bool.eq_iff_iff,decide_eq_true_iff,gv]
 have happ:jR w0 ρ (((es.filter fun e=> !seen.contains e.born).filter fun e=>Nat.blt e.born since)++((es.filter fun e=> !seen.contains e.born).filter fun e=>Nat.ble since e.born)) (old.toList++new.toList):=by
  refine jR.tF (by rw[lZ,lZ,hold.1,hnew.1]) fun i m hm=> ?_;by_cases hi:i<((es.filter fun e=> !seen.contains e.born).filter fun e=>Nat.blt e.born since).length
  ·rw[cz hi]at hm;rw[cz (hold.1▸hi)];exact hold.get hm
  ·rw[fh (by omega)]at hm;rw[fh (by have:=hold.1;omega),←hold.1];exact hnew.get hm
 have he:((es.filter fun e=> !seen.contains e.born).filter fun e=>Nat.blt e.born since).isEmpty=old.isEmpty:=by
  have h1:=hold.1;rw[Bool.eq_iff_iff,List.isEmpty_iff_length_eq_zero,Array.isEmpty_iff_size_eq_zero,h1];simp
 have hcl:cands.toList=(if old.isEmpty then[none]else[])++(old.toList++new.toList).map some:=by
  simp only[cands];cases old.isEmpty<;>simp
 have hget:∀ i:Nat,cands[i]? =((if old.isEmpty then[none]else[])++(old.toList++new.toList).map some)[i]? :=fun i=>by rw[←hcl];simp
 unfold dV;simp only[he];refine⟨?_,fun i c hc=> ?_⟩
 ·rw[←Array.length_toList,hcl];have:=happ.1;cases old.isEmpty<;>simp at this⊢ <;>omega
 ·rw[hget];have one:∀ (j:Nat) c,((((es.filter fun e=> !seen.contains e.born).filter fun e=>Nat.blt e.born since)++((es.filter fun e=> !seen.contains e.born).filter fun e=>Nat.ble since e.born)).map some)[j]? =some c→
    ∃ c',((old.toList++new.toList).map some)[j]? =some c'∧(match c,c' with|none,none=>True|some m,some m' =>az w0 ρ m.key m'.key∧az w0 ρ m.val m'.val∧m.born=m'.born|_,_=>False):=fun j c hj=>by
   rw[List.getElem?_map]at hj;cases hq:(((es.filter fun e=> !seen.contains e.born).filter fun e=>Nat.blt e.born since)++((es.filter fun e=> !seen.contains e.born).filter fun e=>Nat.ble since e.born))[j]? with
   |none=>rw[hq]at hj;simp at hj
   |some m=>
    rw[hq]at hj;simp at hj;subst hj;obtain⟨x,hx,hr⟩:=happ.get hq;exact⟨some x,by rw[List.getElem?_map,hx];rfl,hr⟩
  cases ho:old.isEmpty with
  |false=>
   rw[ho]at hc;simp only[cond_false,List.nil_append]at hc;simp only[oS,if_false,List.nil_append];exact one i c hc
  |true=>
   rw[ho]at hc;simp only[cond_true,List.singleton_append]at hc;simp only[if_true,List.singleton_append];cases i with
   |zero=>simp at hc;subst hc;exact⟨none,by simp,trivial⟩
   |succ i=>simp only[List.getElem?_cons_succ]at hc⊢;exact one i c hc
def AJ:jE→Bool
 | .call _ _=>true
 | .invoke _ _ _=>true
 | .next _=>true
 |_=>false
theorem Ea{o:Op}(h:AJ (cop P o)=true):(∃ c,o=.call c)∨(∃ x,o=.next x false):=by
 cases o with
 |call c=>exact .inl ⟨c,rfl⟩
 |next x b=>cases b with
  |false=>exact .inr ⟨x,rfl⟩
  |true=>simp[cop,AJ]at h
 |makeFunc fn a b=>
  exfalso;revert h;cases fn<;>simp only[cop]<;>(repeat' split)<;>simp[AJ]
 |typeAssert x t u b=>
  exfalso;revert h;cases b<;>simp only[cop]<;>(repeat' split)<;>simp[AJ]
 |_=>
  exfalso;revert h;simp only[cop]
  repeat' (first|split|(unfold cond;split))
  all_goals simp[AJ]
theorem Jf{b:Builtin}{ts:List TypeId}{xs:List bJ}(h:AJ (jH P b ts xs)=true):False:=by
 revert h;unfold jH
 repeat' (first|split|(unfold cond;split))
 all_goals simp[AJ]
theorem Ba{P:Program}{w:World}{r:Nat}{m:Option Nat}{s:Nat}{seen:Array Nat}{c:Nat}(hr:w.heap[r]? =some (.mapIter m s seen c))(o' :Obj):(setObj r o').run P w=.ok () {w with heap:=w.heap.setIfInBounds r o'}:=by
 simp[setObj,Sem.run,hr]
theorem HM{M:Nat→String→Option Nat}{F:Nat→List V→St→(V→St→Prop)→Prop}(hM:qs P M)(hF:vW P w0 F){ρ:Ren}{s:St}{w:World}{env:PT V}{a:Act}{o:Oper}{k:V→St→Prop}
  {next:Act→World→Prop} {Q:Exit→Act→World→Prop} (h:dH M F env s (cop P o.op) k) (hR:Rel w0 ρ s w) (H:∀ x∈o.op.operands,jm w0 ρ env a.eval x)
  (hk:∀ v s' ρ' x w',k v s'→Rel w0 ρ' s' w'→jO ρ s w ρ' s' w'→az w0 ρ' v x→next (a.put o.dst x) w'):o.wp P a w next Q:=by
 unfold Oper.wp;cases hc:cop P o.op with
 |bad=>rw[hc]at h;exact h.elim
 |s so=>
  rw[hc]at h;simp only[dH]at h;cases hv:cD env s so with
  |none=>rw[hv]at h;exact h.elim
  |some v=>
   rw[hv]at h;obtain⟨x,h1,h2⟩:=Df hc hv hR H;rw[h1];exact hk v s ρ x w h hR (.refl _ _ _) h2
 |m mo=>
  rw[hc]at h;simp only[dH]at h;cases hv:Ax env mo with
  |none=>rw[hv]at h;exact h.elim
  |some obf=>
   obtain⟨ob,f⟩:=obf;rw[hv]at h;obtain⟨obj,lim,w',x,h1,h2,h3,h4,h5,h6⟩:=De (ρ:=ρ) (w0:=w0) hc hv H w;rw[h1];obtain⟨a1,a2⟩:=hR.alloc h5;have hw:w'.heap=(w.alloc obj).heap:=h2;have hle:=Ren.AN (ρ:=ρ) (n:=s.next) (w.heap.size,0,lim) (hR.unnamed (aq _));exact hk (f s.next) (s.alloc ob) _ x w' h (a1.same hw h3 h4) (a2.trans (jO.same hw)) (h6 _ _ hle (Ren.add_same _ _ _))
 |h ho=>
  rw[hc]at h;simp only[dH]at h;cases hv:x8 env s ho with
  |none=>rw[hv]at h;exact h.elim
  |some vs=>
   obtain⟨v,s'⟩:=vs;rw[hv]at h;obtain⟨ρ',w',nx,h1,h2,h3,h4⟩:=N6 hc hv hR H;rw[h1];rcases h4 with⟨x,rfl,h5⟩|⟨rfl,rfl⟩
   ·exact hk v s' ρ' x w' h h2 h3 h5
   ·exact hk _ s' ρ' undef w' h h2 h3 sr
 |call f args=>
  rw[hc]at h;simp only[dH]at h;split at h<;>try exact h.elim
  rename_i fn first captured vs hf hargs
  obtain⟨dst,op,type,pos,after,guard⟩:=o;simp only at hc H;have hcall:∃ c fo,op=.call c∧c.callee=.value fo∧cB fo=some f∧mY c.args.toList=some args:=by
   rcases Ea (P:=P) (o:=op) (by rw[hc];rfl)with⟨c,rfl⟩|⟨x,rfl⟩
   ·simp only[cop]at hc;split at hc
    ·rename_i fo args' h1 h2;split at hc<;>cases hc;rename_i h3;exact⟨c,fo,rfl,h1,h3,h2⟩
    ·exact(Jf (P:=P) (by rw[hc];rfl)).elim
    ·split at hc<;>cases hc
    ·cases hc
   ·simp only[cop]at hc;split at hc<;>cases hc
  obtain⟨c,fo,rfl,hcal,hfo,hca⟩:=hcall;have hFr:=H fo (by simp[Op.operands,Call.operands,hcal]) f _ hfo hf;have hAr:=oH hca hargs fun x hx=>H x (by simp[Op.operands,Call.operands];exact .inr (by simpa using hx));generalize hex:a.eval fo=ef at hFr;cases hFr with
  |func ha hb va vb=>
   rename_i a' b';obtain⟨g1,g2⟩:=hF _ _ _ _ _ _ _ h hR (((aR.of_array ha va).append hAr).append (aR.of_array hb vb));have hrun:(execOp a.eval ({dst,op:=.call c,type,pos,after,guard}:Oper)).run P w=.ok (.enter fn ((a'.toList++c.args.toList.map a.eval++b'.toList).toArray)) w:=by
    simp only[execOp,resolve,hcal,hex,Deferred.ofValue,Sem.run_bind,Sem.run_pure,Result.andThen_ok,invoke];rw[uL g1];congr 2;apply Array.ext';simp
   rw[hrun];exact g2.mono fun e w' ⟨v,s',ρ',x,he,hkk,r1,r2,r3⟩=>by subst he;exact hk v s' ρ' x w' hkk r1 r2 r3
 |invoke name x args=>
  rw[hc]at h;simp only[dH]at h;split at h<;>try exact h.elim
  rename_i t v vs hx hargs;cases hm:M t name with
  |none=>rw[hm]at h;exact h.elim
  |some fn=>
   rw[hm]at h;obtain⟨dst,op,type,pos,after,guard⟩:=o;simp only at hc H;have hcall:∃ c xo,op=.call c∧c.callee=.invoke xo name∧cB xo=some x∧mY c.args.toList=some args:=by
    rcases Ea (P:=P) (o:=op) (by rw[hc];rfl)with⟨c,rfl⟩|⟨x,rfl⟩
    ·simp only[cop]at hc;split at hc
     ·split at hc<;>cases hc
     ·exact(Jf (P:=P) (by rw[hc];rfl)).elim
     ·rename_i xo nm args' h1 h2;split at hc<;>cases hc;rename_i h3;exact⟨c,xo,rfl,h1,h3,h2⟩
     ·cases hc
    ·simp only[cop]at hc;split at hc<;>cases hc
   obtain⟨c,xo,rfl,hcal,hxo,hca⟩:=hcall;have hXr:=H xo (by simp[Op.operands,Call.operands,hcal]) x _ hxo hx;have hAr:=oH hca hargs fun x hx=>H x (by simp[Op.operands,Call.operands];exact .inr (by simpa using hx));generalize hex:a.eval xo=ex at hXr;cases hXr with
   |iface hv=>
    rename_i v';obtain⟨g1,g2⟩:=hF _ _ _ _ _ _ _ h hR (aR.cons hv hAr);have hrun:(execOp a.eval ({dst,op:=.call c,type,pos,after,guard}:Oper)).run P w=.ok (.enter fn ((v' ::c.args.toList.map a.eval).toArray)) w:=by
     simp only[execOp,resolve,hcal,hex,Sem.run_bind,Sem.run_pure,Result.andThen_ok,invoke];have h0:(#[Value.iface t v']++c.args.map a.eval)[0]? =some (Value.iface t v'):=by rw[Array.getElem?_append_left (by simp)];rfl
     have h1:(#[Value.iface t v']++c.args.map a.eval).extract 1 (#[Value.iface t v']++c.args.map a.eval).size=c.args.map a.eval:=by
      apply Array.ext_getElem?;intro i;rw[Array.getElem?_extract];by_cases hi:i<c.args.size
      ·rw[if_pos (by simp;omega),Array.getElem?_append_right (by simp)];simp
      ·rw[if_neg (by simp;omega),CW (by simp;omega)]
     rw[h0];simp only[h1,callMethod,Sem.run_bind,run_program,Result.andThen_ok];have hmeth:=Kc (P:=P) (hM t name fn hm) v' (P.types.size+Made.depth - 1) w;rw[show P.types.size+Made.depth - 1+1=P.types.size+Made.depth from by have:0<Made.depth:=(by decide);omega]at hmeth;rw[hmeth];simp only[Result.andThen_ok];rw[uL g1];congr 2;apply Array.ext';simp
    rw[hrun];exact g2.mono fun e w' ⟨v,s',ρ',x,he,hkk,r1,r2,r3⟩=>by subst he;exact hk v s' ρ' x w' hkk r1 r2 r3
 |next x=>
  rw[hc]at h;simp only[dH]at h;split at h<;>try exact h.elim
  rename_i b hx;obtain⟨dst,op,type,pos,after,guard⟩:=o;simp only at hc H;have hop:∃ xo,op=.next xo false∧cB xo=some x:=by
   rcases Ea (P:=P) (o:=op) (by rw[hc];rfl)with⟨c,rfl⟩|⟨x,rfl⟩
   ·simp only[cop]at hc;split at hc
    ·split at hc<;>cases hc
    ·exact(Jf (P:=P) (by rw[hc];rfl)).elim
    ·split at hc<;>cases hc
    ·cases hc
   ·simp only[cop]at hc;split at hc<;>cases hc;rename_i h1;exact⟨_,rfl,h1⟩
  obtain⟨xo,rfl,hxo⟩:=hop;have hXr:=H xo (by simp[Op.operands]) x _ hxo hx;generalize hex:a.eval xo=ex at hXr;cases hXr with
  |ptr hρ=>
   rename_i r o lim;unfold pq at h;have ho:=hR.ob b r o lim hρ;cases hs:s.get b with
   |none=>rw[hs]at h;exact h.elim
   |some ob=>
    cases ob with
    |row cs=>rw[hs]at h;exact h.elim
    |uK cs=>rw[hs]at h;exact h.elim
    |map es clock=>rw[hs]at h;exact h.elim
    |dead=>rw[hs]at h;exact h.elim
    |ga m since seen last=>
     rw[hs]at h ho;obtain⟨m',e1,e2,rfl⟩:=ho;have hg:(getObj r).run P w=.ok (.mapIter m' since seen.toArray last) w:=by simp[getObj,Sem.run,e1]
     have hrun:∀ {y:Value} {w' :World},(Instr.next (.pointer (some ⟨r,0,none⟩)) false type).run P w=.ok y w'→
       (execOp a.eval ({dst,op:=.next xo false,type,pos,after,guard}:Oper)).run P w=.ok (.value y) w' :=fun {y w'} h2=>by
      simp only[execOp,hex];simp[h2]
     cases m with
     |none=>
      simp only at e2 h;subst e2;rw[hrun (y:=.tuple #[.bool false]) (w' :=w) (by simp[Instr.next,hg])];exact hk _ s ρ _ w h hR (.refl _ _ _) (by simpa using az.kN (aR.cons (az.bool false) .nil))
     |some mm=>
      obtain⟨r2,o2,lim2,hρ2,rfl⟩:=e2;simp only at h;cases hs2:s.get mm with
      |none=>rw[hs2]at h;exact h.elim
      |some ob2=>
       cases ob2 with
       |row cs=>rw[hs2]at h;exact h.elim
       |uK cs=>rw[hs2]at h;exact h.elim
       |ga a b c d=>rw[hs2]at h;exact h.elim
       |dead=>rw[hs2]at h;exact h.elim
       |map es clock=>
        rw[hs2]at h;simp only at h;obtain⟨es',g1,g2⟩:=hR.WX hρ2 hs2;cases hstop:(!seen.isEmpty&& !es.isEmpty&&es.all (fun e=>Nat.ble last e.born))with
        |true=>rw[hstop]at h;exact h.elim
        |false=>
         rw[hstop]at h;simp only[cond_false]at h;obtain⟨c1,c2⟩:=GP g2 since seen
         --
         generalize hcd:(if((es'.filter fun e=> !seen.toArray.contains e.born).filter (·.born<since)).isEmpty then #[none]else #[])++((es'.filter fun e=> !seen.toArray.contains e.born).filter (·.born<since)++(es'.filter fun e=> !seen.toArray.contains e.born).filter (·.born≥since)).map some=cands at c1 c2;have hstop' :(!seen.toArray.isEmpty&& !es'.isEmpty&&es'.all (·.born≥last))=false:=by
          rw[←hstop];have e1:seen.toArray.isEmpty=seen.isEmpty:=by simp
          have e2:es'.isEmpty=es.isEmpty:=by
           have:=g2.1;rw[Bool.eq_iff_iff,List.isEmpty_iff_length_eq_zero,Array.isEmpty_iff_size_eq_zero,this];simp
          have e3:es'.all (·.born≥last)=es.all (fun e=>Nat.ble last e.born):=by
           rw[←Array.all_toList];rw[Bool.eq_iff_iff,jD,jD];constructor
           ·intro hh m hm;obtain⟨i,hi,rfl⟩:=List.mem_iff_getElem.1 hm;have hi' :i<es'.toList.length:=g2.1▸hi;have:=hh _ (List.getElem_mem hi');rw[gv,(g2.2 i hi hi').2.2];simpa using this
           ·intro hh m hm;obtain⟨i,hi,rfl⟩:=List.mem_iff_getElem.1 hm;have hi' :i<es.length:=g2.1▸hi;have:=hh _ (List.getElem_mem hi');rw[gv,(g2.2 i hi' hi).2.2]at this;simpa using this
          rw[e1,e2,e3]
         have hch:∃ (j:Nat) (w1:World),j<cands.size∧(w1=w∨w1=w.drew)∧(choose (Question.mapNext cands.size)).run P w=.ok j w1:=by
          have hpos:0<cands.size:=by
           rw[←c1];unfold dV;simp only;cases hq:((es.filter fun e=> !seen.contains e.born).filter fun e=>Nat.blt e.born since)with
           |nil=>simp
           |cons a b=>simp
          by_cases hf:cands.size≤1
          ·exact⟨0,w,hpos,Or.inl rfl,by simp[choose,Sem.run,Question.forced,hf]⟩
          ·exact⟨_,w.drew,Nat.mod_lt _ hpos,Or.inr rfl,by
            simp only[choose,Sem.run,Question.forced,decide_eq_true_eq,hf,if_false,Question.cut];rfl⟩
         obtain⟨j,w1,hj,hal,hrunc⟩:=hch;have hRw:Rel w0 ρ s w1:=by
          rcases hal with rfl|rfl
          ·exact hR
          ·exact hR.same rfl rfl rfl
         have hSw:jO ρ s w ρ s w1:=by
          rcases hal with rfl|rfl
          ·exact .refl _ _ _
          ·exact jO.same rfl
         have hheap:w1.heap=w.heap:=by rcases hal with rfl|rfl<;>rfl
         have hj' :j<(dV es since seen).length:=by rw[c1];exact hj
         obtain⟨c,hcj⟩:∃ c,(dV es since seen)[j]? =some c:=⟨_,bP hj'⟩;have hh:=h j hj';simp only[hcj]at hh;obtain⟨c',hc1,hc2⟩:=c2 j c hcj;cases c with
         |none=>
          cases c' with
          |some _=>exact hc2.elim
          |none=>
           simp only at hh;rw[hrun (y:=.tuple #[.bool false]) (w' :=w1) (by
            simp only[Instr.next,getObj,Sem.run_bind,Sem.run,e1,g1,Result.andThen,hstop',oS,if_false,hcd,hrunc,hc1];rfl)]
           exact hk _ s ρ _ w1 hh hRw hSw (by simpa using az.kN (aR.cons (az.bool false) .nil))
         |some m=>
          cases c' with
          |none=>exact hc2.elim
          |some m' =>
           simp only at hh;obtain⟨d1,d2,d3⟩:=hc2;have hr1:w1.heap[r]? =some (.mapIter (some r2) since seen.toArray last):=by rw[hheap];exact e1
           obtain⟨p1,p2⟩:=hRw.put hρ (by rw[hs];trivial) (ob:=.ga (some mm) since (seen++[m.born]) clock) (obj:=.mapIter (some r2) since (seen.toArray.push m'.born) clock)
            ⟨some r2,by rw[d3];simp,⟨r2,o2,lim2,hρ2,rfl⟩,rfl⟩
           rw[hrun (y:=.tuple #[.bool true,m'.key,m'.val]) (w' :={w1 with heap:=w1.heap.setIfInBounds r (.mapIter (some r2) since (seen.toArray.push m'.born) clock)}) (by
            simp only[Instr.next,getObj,Sem.run_bind,Sem.run,e1,g1,Result.andThen,hstop',oS,if_false,hcd,hrunc,hc1,Ba hr1];rfl)]
           exact hk _ _ ρ _ _ hh p1 (hSw.trans p2) (by simpa using az.kN (aR.cons (az.bool true) (aR.cons d1 (aR.cons d2 .nil))))
end
end Go.RE
namespace Go.RE
section
variable{P:Program}
theorem C9{n:Nat}{all:List Oper}{o:Oper}{r:List Oper}{acc:List Nat}{l:List aD}(h:yC P n all (o::r) acc=some l):
  ∃ g l',guardOf all o=some g∧yC P n all r (acc++[nR acc o])=some l'∧(∀ d,o.dst=some d→d<n)∧l={dst:=o.dst,op:=cop P o.op,guard:=g,aO:=nR acc o}::l' :=by
 simp only[yC]at h;cases hg:guardOf all o with
 |none=>simp[hg]at h
 |some g=>
  cases hr:yC P n all r (acc++[nR acc o])with
  |none=>simp[hg,hr]at h
  |some l' =>
   simp only[hg,hr]at h;cases hd:o.dst with
   |none=>simp[hd]at h;exact⟨g,l',rfl,rfl,by simp,h.symm⟩
   |some d=>
    simp only[hd]at h;cases hb:Nat.blt d n with
    |false=>simp[hb]at h
    |true=>
     simp only[hb,cond_true,ai]at h;exact⟨g,l',rfl,rfl,fun d' hd' =>by simp at hd';subst hd';rw[Nat.blt_eq]at hb;exact hb,h.symm⟩
def pr(l:List aD)(i:Nat):Nat:=(l.getD i default).aO
def dn(l:List aD)(i:Nat):Option Nat:=(l.getD i default).dst
def sm(l:List aD)(i:Nat):Bool:=(l.getD i default).small
theorem Px{n:Nat}{all:List Oper}:∀ (r:List Oper) (acc:List Nat) (l:List aD),yC P n all r acc=some l→
  l.length=r.length∧∀ (i:Nat) o,r[i]? =some o→∃ co,l[i]? =some co∧co.dst=o.dst∧co.op=cop P o.op∧guardOf all o=some co.guard∧(∀ d,o.dst=some d→d<n)∧
   co.aO=nR (acc++(l.take i).map (·.aO)) o:=by
 intro r
 induction r with
 |nil=>intro acc l h;simp[yC]at h;subst h;exact⟨rfl,fun i o h=>by simp at h⟩
 |cons o r ih=>
  intro acc l h;obtain⟨g,l',h1,h2,h3,rfl⟩:=C9 h;obtain⟨a1,a2⟩:=ih _ _ h2;refine⟨by simp[a1],fun i o' hi=> ?_⟩;cases i with
  |zero=>simp at hi;subst hi;exact⟨_,rfl,rfl,rfl,h1,h3,by simp⟩
  |succ i=>
   simp only[List.getElem?_cons_succ]at hi;obtain⟨co,b1,b2,b3,b4,b5,b6⟩:=a2 i o' hi;exact⟨co,by simpa using b1,b2,b3,b4,b5,by rw[b6];simp[kO]⟩
theorem HP(acc:List Nat)(o:Oper)(b:Nat)(h:(nR acc o).testBit b=true):∃ e∈o.after.toList,Region.binds .any e=true∧(b=e.on∨(acc.getD e.on 0).testBit b=true):=by
 unfold nR at h;have key:∀ (l:List Edge) (s:Nat),(l.foldl (fun s e=>bif Region.binds .any e then Nat.lor (Nat.lor s (2 ^ e.on)) (acc.getD e.on 0)else s) s).testBit b=true→
   s.testBit b=true∨∃ e∈l,Region.binds .any e=true∧(b=e.on∨(acc.getD e.on 0).testBit b=true):=by
  intro l
  induction l with
  |nil=>intro s h;exact .inl h
  |cons e l ih=>
   intro s h;simp only[List.foldl_cons]at h;rcases ih _ h with h' |⟨e',h1,h2⟩
   ·cases hb:Region.binds .any e with
    |false=>rw[hb]at h';exact .inl h'
    |true=>
     rw[hb]at h';simp only[cond_true]at h';have h'' :((s|||2 ^ e.on)|||acc.getD e.on 0).testBit b=true:=h';rw[Nat.testBit_or,Nat.testBit_or,Bool.or_eq_true,Bool.or_eq_true]at h'';rcases h'' with(h3|h3)|h3
     ·exact .inl h3
     ·rw[Nat.testBit_two_pow]at h3;simp at h3;exact .inr ⟨e,by simp,hb,.inl h3.symm⟩
     ·exact .inr ⟨e,by simp,hb,.inr h3⟩
   ·exact .inr ⟨e',by simp[h1],h2⟩
 rcases key _ 0 h with h|h
 ·simp at h
 ·exact h
structure Stat(P:Program)(n:Nat)(ops:Array Oper)(l:List aD):Prop where
 len:l.length=ops.size
 op:∀ (i:Nat) o,ops[i]? =some o→∃ co,l[i]? =some co∧co.dst=o.dst∧co.op=cop P o.op∧guardOf ops.toList o=some co.guard∧(∀ d,o.dst=some d→d<n)
 pred:∀ (i:Nat) o,ops[i]? =some o→∀ b,(pr l i).testBit b=true→∃ e∈o.after.toList,Region.binds .any e=true∧(b=e.on∨(pr l e.on).testBit b=true)
 lt:∀ (i:Nat) o,ops[i]? =some o→∀ e∈o.after.toList,Region.binds .any e=true→e.on<i
 uniq:∀ i j t,i<ops.size→j<ops.size→i≠j→dn l j=some t→dn l i≠some t
 reads:∀ (i j:Nat) o t,ops[i]? =some o→j<ops.size→i≠j→dn l j=some t→t∈nt o ops.toList→(pr l i).testBit j=true∨(pr l j).testBit i=true
theorem kQ{α:Type}[Inhabited α]{l:List α}{i:Nat}{x:α}(h:l[i]? =some x):l.getD i default=x:=by simp[List.getD,h]
theorem Stat.of{n:Nat}{ops:Array Oper}{l:List aD}(hc:yC P n ops.toList ops.toList []=some l)(hd:Ap ops.toList l=true):Stat P n ops l:=by
 obtain⟨h1,h2⟩:=Px _ _ _ hc;have hlen:l.length=ops.size:=by simpa using h1
 have lift:∀ (i:Nat) o,ops[i]? =some o→ops.toList[i]? =some o:=fun i o h=>by simpa using h
 have hop:∀ (i:Nat) o,ops[i]? =some o→∃ co,l[i]? =some co∧co.dst=o.dst∧co.op=cop P o.op∧guardOf ops.toList o=some co.guard∧(∀ d,o.dst=some d→d<n):=fun i o h=>by
  obtain⟨co,a1,a2,a3,a4,a5,_⟩:=h2 i o (lift i o h);exact⟨co,a1,a2,a3,a4,a5⟩
 unfold Ap at hd;rw[jD]at hd;have hrow:∀ (i:Nat) o,ops[i]? =some o→(o.after.toList.all (fun e=> !Region.binds .any e||Nat.blt e.on i)=true)∧
   ∀ j,j<ops.size→i≠j→∀ t,dn l j=some t→dn l i≠some t∧(t∈nt o ops.toList→(pr l i).testBit j=true∨(pr l j).testBit i=true):=fun i o hi=>by
  have hlt:i<ops.toList.length:=(bn.1 (lift i o hi)).1;have h:=hd i (List.mem_range.2 hlt);obtain⟨co,b1,b2,_⟩:=hop i o hi;rw[lift i o hi,b1]at h;simp only[bC]at h;refine⟨h.1,fun j hj hne t ht=> ?_⟩;have hall:=jD.1 h.2 j (List.mem_range.2 (by simpa using hj));obtain⟨p,hp⟩:∃ p,ops[j]? =some p:=⟨ops[j],sV hj⟩;obtain⟨cp,c1,c2,_⟩:=hop j p hp;rw[lift j p hp,c1]at hall;have hdn:p.dst=some t:=by rw[←c2];unfold dn at ht;rwa[kQ c1]at ht
  have hbne:Nat.beq i j=false:=by
   cases hb:Nat.beq i j with
   |false=>rfl
   |true=>exact absurd (bR hb) hne
  simp only[hbne,Bool.false_or,hdn,bC]at hall;refine⟨?_,fun hmem=> ?_⟩
  ·unfold dn;rw[kQ b1,b2];intro hh;have:=hall.1;rw[hh]at this;simp at this
  ·have h3:=hall.2;rw[Bool.or_eq_true,Bool.or_eq_true]at h3;rcases h3 with(h3|h3)|h3
   ·rw[List.elem_eq_mem]at h3;simp[hmem]at h3
   ·left;exact h3
   ·right;unfold pr;rw[kQ c1];exact h3
 refine⟨hlen,hop,fun i o hi b hb=> ?_,fun i o hi e he hbd=> ?_,fun i j t hi hj hne ht=> ?_,fun i j o t hi hj hne ht hmem=> ?_⟩
 ·obtain⟨co,a1,a2,a3,a4,a5,a6⟩:=h2 i o (lift i o hi);unfold pr at hb;rw[kQ a1,a6]at hb;obtain⟨e,e1,e2,e3⟩:=HP _ _ _ hb;refine⟨e,e1,e2,e3.imp id fun h=> ?_⟩;simp only[List.nil_append]at h;unfold pr;by_cases hlt:e.on<i
  ·have hli:e.on<l.length:=by have:=(bn.1 a1).1;omega
   have:((l.take i).map (·.aO)).getD e.on 0=(l.getD e.on default).aO:=by
    simp[List.getD,List.getElem?_map,jN,hlt,bP hli]
   rwa[this]at h
  ·rw[List.getD,List.getElem?_eq_none (by simp;omega)]at h;simp at h
 ·have:=jD.1 (hrow i o hi).1 e he;rw[hbd]at this;simp at this;exact this
 ·obtain⟨o,ho⟩:∃ o,ops[i]? =some o:=⟨ops[i],sV hi⟩;exact((hrow i o ho).2 j hj hne t ht).1
 ·exact((hrow i o hi).2 j hj hne t ht).2 hmem
theorem Stat.below{n:Nat}{ops:Array Oper}{l:List aD}(h:Stat P n ops l):∀ i b,i<ops.size→(pr l i).testBit b=true→b<i:=by
 intro i
 induction i using Nat.strongRecOn with
 |_ i ih=>
  intro b hi hb;obtain⟨o,ho⟩:∃ o,ops[i]? =some o:=⟨ops[i],sV hi⟩;obtain⟨e,e1,e2,e3⟩:=h.pred i o ho b hb;have hlt:=h.lt i o ho e e1 e2;rcases e3 with rfl|e3
  ·exact hlt
  ·have:=ih e.on hlt b (by omega) e3;omega
theorem LH{a b:Nat}(h:within a b=true)(i:Nat)(hi:a.testBit i=true):b.testBit i=true:=by
 have:=bR h;have h2:(a&&&b).testBit i=true:=by show(Nat.land a b).testBit i=true;rw[this];exact hi
 rw[Nat.testBit_and,bC]at h2;exact h2.2
theorem OQ{a b:Nat}(h:∀ i,a.testBit i=true→b.testBit i=true):within a b=true:=by
 unfold within;have:Nat.land a b=a:=by
  apply Nat.eq_of_testBit_eq;intro i;show(a&&&b).testBit i=_;rw[Nat.testBit_and];cases ha:a.testBit i with
  |false=>rfl
  |true=>simp[h i ha]
 rw[this];exact jC a
theorem yR(a i j:Nat):(Nat.lor a (2 ^ i)).testBit j=(a.testBit j||decide (j=i)):=by
 show(a|||2 ^ i).testBit j=_;rw[Nat.testBit_or,Nat.testBit_two_pow];congr 1;by_cases h:j=i
 ·subst h;simp
 ·have h' :¬i=j:=fun hh=>h hh.symm;simp[h,h']
theorem A7{s s' :St}(h:∀ n x,s.get n=some x→s'.get n=some x){b:Nat}{row:List V}(hr:s.row b=some row):s'.row b=some row:=by
 unfold St.row at hr⊢;split at hr
 ·rename_i cs' hg;rw[h _ _ hg];exact hr
 ·rename_i cs' hg;rw[h _ _ hg];exact hr
 ·cases hr
theorem yF{s s' :St}(h:∀ n x,s.get n=some x→s'.get n=some x){w:Nat}{v:V}{cs:List V}(hv:bH s w v=some cs):bH s' w v=some cs:=by
 unfold bH at hv⊢;split at hv<;>try exact hv
 rename_i b off len cap sz ex;cases hr:s.row b with
 |none=>simp[hr]at hv
 |some row=>
  have:s'.row b=some row:=A7 h hr;simp only[hr]at hv;simp only[this];exact hv
theorem GZ{s s' :St}(h:∀ n x,s.get n=some x→s'.get n=some x){env:PT V}{so:fS}{v:V}(hv:cD env s so=some v):cD env s' so=some v:=by
 cases so with
 |load n x=>
  simp only[cD]at hv⊢;split at hv
  ·rename_i b off hb;cases hr:s.row b with
   |none=>simp[hr]at hv
   |some row=>simp only[hr]at hv;simp only[A7 h hr];exact hv
  ·exact hv
  ·simp at hv
 |toStr x=>
  simp only[cD]at hv⊢;split at hv
  ·rename_i u hu;cases hs:bH s 1 u with
   |none=>simp[hs]at hv
   |some cs=>simp only[hs]at hv;simp only[yF h hs];exact hv
  ·simp at hv
 |iP n sz x lo hi=>
  simp only[cD]at hv⊢;split at hv
  ·rename_i b off hb;cases n2:au env hi n n with
   |none=>simp[n2]at hv
   |some hh=>
    cases n1:au env lo 0 hh with
    |none=>simp[n2,n1]at hv
    |some l=>
     simp only[n2,n1]at hv⊢;cases hr:s.row b with
     |none=>simp[hr]at hv
     |some row=>simp only[hr]at hv;simp only[A7 h hr];exact hv
  ·simp at hv
 |lookup kk z ok x i=>
  simp only[cD]at hv⊢;split at hv
  ·rename_i m k _ _;cases m with
   |map mm=>
    simp only[pJ]at hv⊢;cases hg:s.get mm with
    |none=>simp[hg]at hv
    |some ob=>simp only[hg]at hv;simp only[h _ _ hg];exact hv
   |_=>exact hv
  ·simp at hv
 |len k x=>
  simp only[cD]at hv⊢;split at hv
  ·rename_i u hu;cases hl:lG s k u with
   |none=>simp[hl]at hv
   |some n=>
    have:lG s' k u=some n:=by
     unfold lG at hl⊢;split at hl<;>try exact hl
     rename_i m;cases hg:s.get m with
     |none=>rw[hg]at hl;revert hl;cases Nat.beq k 2<;>simp
     |some ob=>rw[hg]at hl;rw[h _ _ hg];exact hl
    simp only[hl]at hv;simp only[this];exact hv
  ·simp at hv
 |entry x=>
  simp only[cD]at hv⊢;split at hv
  ·rename_i b hb;unfold Aq at hv⊢;cases hg:s.get b with
   |none=>simp[hg]at hv
   |some ob=>
    rw[h _ _ hg];rw[hg]at hv;cases ob with
    |ga m since seen last=>
     cases m with
     |none=>exact hv
     |some mm=>
      simp only at hv⊢;cases hg2:s.get mm with
      |none=>simp[hg2]at hv
      |some ob2=>rw[h _ _ hg2];rw[hg2]at hv;exact hv
    |_=>exact hv
  ·simp at hv
 |_=>exact hv
end
end Go.RE
