/- Contracts in place of code: from the first evaluator to the second. -/
import Derived.Test.YtigkmaeaoaejiaaGreatDoorPart19
import Derived.Test.YtigkmaeaoaejiaaGreatDoorPart12
import Derived.Test.YtigkmaeaoaejiaaGreatDoorPart22
import Derived.Test.YtigkmaeaoaejiaaGreatDoorPart5
import Derived.ChangeArms
import Derived.Carry
import Derived.RowKit
set_option linter.unusedVariables false
set_option linter.unusedSimpArgs false
set_option linter.constructorNameAsVariable false
namespace Go.RE
section
variable{C:Nat→Option dW}{M:eA}
theorem LW{f n:Nat}{p:List V→St→Option (V×St)}(hC:C f=some (vE n p)){args:List V}(ha:args.length=n){st st' :St}{v:V}(hp:p args st=some (v,st')){k:V→St→Prop}(hk:k v st'):ct C M 1 f args st k:=by
 rw[Bg hC (by rw[ha];exact aM n)];simp only[vE,fR];have hf:∃ vs,firsts (cT args 0 .e) n []=some vs:=by
  subst ha;have key:∀ (m:Nat) (acc:List V),m≤args.length→∃ vs,firsts (cT args 0 .e) m acc=some vs:=by
   intro m
   induction m with
   |zero=>intro acc _;exact⟨acc,rfl⟩
   |succ m ih=>
    intro acc hm;simp only[firsts];have:(cT args 0 .e).get m=args[m]? :=by
     rw[mj,if_pos ⟨kN _,by omega⟩];rfl
    rw[this,dm (by omega)];exact ih _ (by omega)
  exact key _ [] (aM _)
 obtain⟨vs,hvs⟩:=hf;obtain⟨h1,h2⟩:=xU hvs;have h3:vs=args:=by rw[h2,←ha,List.take_length,List.append_nil]
 subst h3;rw[hvs];simp only[hp];rw[sE];have hr:cV ((cT vs 0 .e).set 0 v) st' [.t 0]=some v:=by
  simp[cV,uT,Eb,PT.iW]
 simp only[hr];exact hk
theorem lE{f n:Nat}{p:List V→St→Option (V×St)}(hC:C f=some (vE n p)){args:List V}(ha:args.length=n){st st' :St}{v:V}(hp:p args st=some (v,st')){k:V→St→Prop}(hk:k v st'):ie C M f args st k:=
 ⟨1,LW hC ha hp hk⟩
end
section
variable{E:vK}{σ:Sg}{Z:Zs}{ω:Om}{s:Vs}{e:PT V}{st:St}
theorem Ok.qez(hk:Ok E σ Z ω s e st){g:Tg}(hg:ω g=none){w:Nat}{p0:Nat×List (List U)}(hp0:s.gI g=some p0):Ok E σ Z ω (s.mz g w []) e st:=by
 have henv:∀ t u,look (Env.mz g [] s.e) t=some u→∃ v,e.get t=some v∧TR σ Z ω s.h.length u v:=by
  intro t u hu;rw[Bm]at hu;cases hq:look s.e t with
  |none=>rw[hq]at hu;simp at hu
  |some x=>
   rw[hq]at hu;simp at hu;obtain⟨v,h1,h2⟩:=hk.env t x hq;refine⟨v,h1,?_⟩;subst hu;cases x with
   |own g' w2 xs2=>
    simp only[U.mz];by_cases hgg:g' =g
    ·subst hgg;rw[if_pos rfl];refine⟨?_,h2.2⟩;have h3:=h2.1;unfold OR at h3⊢;rw[hg]at h3⊢;exact⟨rfl,h3.2⟩
    ·rw[if_neg hgg];exact h2
   |_=>exact h2
 unfold Vs.mz;split
 ·rename_i i off;simp only[Vs.gI]at hp0;split at hp0<;>try (simp at hp0;done)
  rename_i cs' hi;split at hp0<;>try (simp at hp0;done)
  rename_i w0 xs0 hc0;have hlt:=(cz.1 hi).1;have hoff:=(cz.1 hc0).1;simp only[setCell,hi];refine(hk.setEnv henv).setRow (cs:=cs') hi (by simp) fun o u u' v h1 h2 h3=> ?_;rw[gZ]at h2;by_cases ho:off=o
  ·subst ho;rw[if_pos rfl,if_pos hoff]at h2;simp at h2;subst h2;rw[hc0]at h1;simp at h1;subst h1;have h4:OR σ Z ω (.c i off) w0 xs0 v:=h3;show OR σ Z ω (.c i off) w [] v;unfold OR at h4⊢;rw[hg]at h4⊢;exact⟨rfl,h4.2⟩
  ·rw[if_neg ho,h1]at h2;simp at h2;subst h2;exact h3
 ·exact hk.setEnv henv
end
theorem Kr:∀ {xs:List (List U)} {l:List By},A8 xs=some l→xs=l.map bA:=by
 intro xs
 induction xs with
 |nil=>intro l h;simp[A8]at h;subst h;rfl
 |cons x xs ih=>
  intro l h;unfold A8 at h;split at h<;>try (simp at h;done)
  ·rename_i heq;cases heq
  ·rename_i k r heq;cases heq;split at h<;>simp only[ay,reduceCtorEq]at h;rename_i l' hl;subst h;rw[ih hl];rfl
theorem ZR{σ:Sg}{Z:Zs}:∀ (l:List By),LU σ Z 0 (l.map bA).flatten (l.map .str):=by
 intro l
 induction l with
 |nil=>exact LU.nil
 |cons k l ih=>simp only[List.map_cons,List.flatten_cons,bA];exact LU.cons (.str k) ih
theorem Hj{σ:Sg}{Z:Zs}:∀ {l:List By} {vs:List V},LU σ Z 0 (l.map bA).flatten vs→vs=l.map .str:=by
 intro l
 induction l with
 |nil=>intro vs h;exact h.eF
 |cons k l ih=>
  intro vs h;simp only[List.map_cons,List.flatten_cons,bA,List.cons_append,List.nil_append]at h;obtain⟨v,vs',rfl,h1,h2⟩:=h.cq;cases h1;rw[ih h2];rfl
theorem V0{C:Nat→Option dW}{M:eA}{f:Nat}(hC:C f=some (vE 1 xK)){E:vK}{σ:Sg}{Z:Zs}{ω:Om}{s:Vs}{e:PT V}{st:St}{xs ys:List (List U)}{rest:List U}(hq:nT xs rest=some ys)
  {g:Tg} {w:Nat} {v:V} {vs:List V} {p0:Nat×List (List U)} (hk:Ok E σ Z ω s e st) (hp0:s.gI g=some p0) (hor:OR σ Z ω g w xs v) (hl:rest.length=vs.length):
  ie C M f (v::vs) st fun r st' =>r=.aP []∧∃ ω',Ok E σ Z ω' (s.mz g w ys) e st' :=by
 unfold nT at hq;split at hq<;>try (simp at hq;done)
 obtain⟨hsm0,hq⟩:=bG hq;have hsm:xs.length<4611686018427387904:=by simp only[Nat.blt,jC]at hsm0;omega
 split at hq<;>simp only[ay,reduceCtorEq]at hq;rename_i l hul;subst hq;have hx:=Kr hul;subst hx;have hvs:vs=[]:=pQ hl.symm;subst hvs;unfold OR at hor;split at hor
 ·rename_i hg;obtain⟨h0,hv⟩:=hor;have hl0:l=[]:=by cases l with|nil=>rfl|cons a b=>simp at h0
  subst hl0;refine lE hC rfl (st' :=st) (v:=.aP []) ?_ ⟨rfl,ω,hk.qez hg hp0⟩;rcases hv with rfl|rfl<;>rfl
 ·rename_i I hg;obtain⟨rfl,⟨rfl,hIx⟩,e1,e2,e3,e4⟩:=hor;have hIr:=hk.pW g I hg;have hlen:(l.map bA).length=l.length:=by simp
  cases l with
  |nil=>
   refine lE hC rfl (st' :=st) (v:=.aP []) rfl ⟨rfl,?_⟩;have hup:=hk.D6 hp0 hg (ys:=[]) (row' :=I.row) (by rw[hIx];rfl) rfl (fun r hr=>by cases hr) (by simpa using LU.nil);refine⟨dM ω g (some {I with row:=I.row,xs:=[]}),?_⟩;have hst:st.put I.b (.row I.row)=st∨True:=.inr trivial
   -- the same memory
   have h2:Ok E σ Z (dM ω g (some {I with row:=I.row,xs:=[]})) (s.mz g I.w []) e st:=by
    have hx:I={I with row:=I.row,xs:=[]}:=by
     cases I;simp only at hIx⊢;subst hIx;rfl
    have hω:dM ω g (some {I with row:=I.row,xs:=[]})=ω:=by
     funext x;by_cases hxx:x=g
     ·subst hxx;rw[bw,hg,←hx]
     ·rw[dF _ _ hxx]
    rw[hω]at hup⊢;refine hup.mem (st' :=st) (aM _) hk.fresh fun b _=> ?_;rw[St.eE];split
    ·subst b;exact hIr
    ·rfl
   exact h2
  |cons k r=>
   have hw1:I.w=1:=by
    have:=e3 (bA k) (by simp);simp[bA]at this;omega
   have hrow:st.row I.b=some I.row:=by unfold St.row;rw[hIr]
   rw[hw1]at e2 e4;simp only[Nat.mul_one]at e2 e4;have hwin:=Hj e4;rw[hlen]at hwin e1;have hp:xK [.slice I.b I.off ((k::r).map bA).length I.cap I.w I.ex] st=some (.aP [],st.put I.b (.row (kT I.row I.off ((dy (k::r)).map .str)))):=by
    rw[hlen,hw1];have hb:(Nat.ble (I.off+(k::r).length) I.row.length&&Nat.blt (k::r).length 4611686018427387904)=true:=by
     rw[hlen]at hsm;rw[cm];refine⟨tD (by omega),?_⟩;simp only[Nat.blt];exact tD hsm
    show(match st.row I.b with
     |some cs=>bif Nat.ble (I.off+(k::r).length) cs.length&&Nat.blt (k::r).length 4611686018427387904 then(match xH ((cs.drop I.off).take (k::r).length)with
      |some l=>some (V.aP [],st.put I.b (.row (kT cs I.off ((dy l).map .str))))
      |none=>none)else none
     |none=>none)=_
    rw[hrow];simp only[hb,cond_true,hwin,Py]
   refine lE hC rfl hp ⟨rfl,?_⟩;have hsl:(dy (k::r)).length=(k::r).length:=Dp _;have hup:=hk.D6 hp0 hg (ys:=(dy (k::r)).map bA) (row' :=kT I.row I.off ((dy (k::r)).map .str)) (by rw[hIx];simp[hsl]) (by simp[kT,hsl];simp at e1;omega)
    (fun x hx=>by obtain⟨y,_,rfl⟩:=fh.1 hx;rw[hw1];rfl) (by
     rw[hw1,Nat.mul_one];have h1:((kT I.row I.off ((dy (k::r)).map V.str)).drop I.off).take ((dy (k::r)).map bA).length=(dy (k::r)).map .str:=by
      unfold kT;rw[ow,List.drop_append_of_le_length (by simp;simp at e1;omega)];have h2:(I.row.take I.off).drop I.off=[]:=tN (by simp;omega);rw[h2,List.nil_append,List.take_append_of_le_length (by simp),pI (by simp)]
     rw[h1];exact ZR _)
   exact⟨_,hup⟩
end Go.RE
namespace Go.RE
open Go.Proofs.YtigkmaeaoaejiaaGreatDoor Go.Sort
def pAs:List V→St→Option (V×St)
 |[.aK,.iface _ _],s=>some (.bool false,s)
 |[.iface t v,.iface tp (.ptr b 0)],s=>(match rR tp,s.row b with
  |some tt,some cs=>(match aQ s tt 64 (.iface t v)with
   |some none=>some (.bool false,s)
   |some (some v')=>bif Nat.beq v'.cells.length cs.length then some (.bool true,s.put b (.row v'.cells))else none
   |none=>none)
  |_,_=>none)
 |_,_=>none
section
variable{w0:World}{ρ:Ren}{s:St}{w:World}
theorem LJ{W:World}{r:Nat}{c:Array Value}{t:TypeId}{fr:Nat×Nat}(h:W.heap[r]? =some (.cells c t fr))(f:Array Value→Array Value):W.heap.modify r (onCells f)=W.heap.setIfInBounds r (.cells (f c) t fr):=by
 have hr:=(Array.getElem?_eq_some_iff.1 h).1;apply Array.ext_getElem?;intro k;rw[Array.getElem?_modify,BI];by_cases hk:r=k
 ·subst hk;rw[if_pos rfl,if_pos rfl,if_pos hr,h];rfl
 ·rw[if_neg hk,if_neg hk]
theorem ot(hR:Rel w0 ρ s w)(o:Obj):Rel w0 ρ s (w.alloc o)∧kK ρ s w ρ s (w.alloc o):=by
 rw[alloc_eq_grow];exact Bo hR _
theorem NQ(hR:Rel w0 ρ s w){b r o lim:Nat}(hρ:ρ b=some (r,o,lim)){cs vs:List V}(hs:s.row b=some cs)(hl:vs.length=cs.length)(f:Array Value→Array Value)(hsz:∀ c,(f c).size=c.size)
  (hf:∀ c:Array Value,o+vs.length≤c.size→∀ i (h:i<vs.length),∃ y,(f c)[o+i]? =some y∧aE w0 ρ vs[i] y):Rel w0 ρ (s.put b (.row vs)) (mapBlock w r f)∧kK ρ s w ρ (s.put b (.row vs)) (mapBlock w r f):=by
 have hob:s.get b=some (.row cs):=by
  unfold St.row at hs;split at hs<;>simp at hs;rename_i cs' hg;subst hs;exact hg
 obtain⟨c,t,fr,q1,q2,q3,q4,q5⟩:kO w0 ρ o lim (some (.row cs)) w.heap[r]? :=by
  have:=hR.ob b r o lim hρ;rw[hob]at this;exact this
 have hobr:kO w0 ρ o lim (some (.row vs)) (some (.cells (f c) t fr)):=
  ⟨_,_,_,rfl,by rw[hsz];exact q2,by rw[hl];exact q3,q4,fun i hi=>hf c (by rw[q2,hl];exact q3) i hi⟩
 have h2:=hR.put hρ (by rw[hob];trivial) hobr;have e:mapBlock w r f={w with heap:=w.heap.setIfInBounds r (.cells (f c) t fr)}:=by
  unfold mapBlock;rw[LJ q1]
 rw[e];exact h2
theorem qld(hR:Rel w0 ρ s w){b r o lim:Nat}(hρ:ρ b=some (r,o,lim)){cs vs:List V}(hs:s.row b=some cs)(hl:vs.length=cs.length){ys:List Value}(hy:aX w0 ρ vs ys)(hn:vs.length=1∨vs.length=2)(el tp vb:Nat):
  Rel w0 ρ (s.put b (.row vs)) (AA el tp r o vb w ys)∧kK ρ s w ρ (s.put b (.row vs)) (AA el tp r o vb w ys):=by
 match vs,ys,hy,hn,hl with
 |[v],[y],hy,_,hl=>
  simp only[AA,setCell_eq];obtain⟨k1,k2⟩:=NQ hR hρ hs hl (·.setIfInBounds o y) (fun c=>by simp) fun c hc i hi=>by
   have:i=0:=by simp at hi;exact hi
   subst this;refine⟨y,?_,hy.2 0 (by simp) (by simp)⟩;rw[BI,if_pos (by omega),if_pos (by simp at hc;omega)]
  obtain⟨k3,k4⟩:=ot k1 (.cells #[.pointer (some ⟨1,tp,none⟩),.pointer (some ⟨vb,0,none⟩),.int .u64 150] 257);obtain⟨k5,k6⟩:=ot k3 (.cells #[y] el);exact⟨k5,(k2.trans k4).trans k6⟩
 |[v0,v1],[y0,y1],hy,_,hl=>
  simp only[AA,setCell_eq,mapBlock_mapBlock];obtain⟨k1,k2⟩:=NQ hR hρ hs hl (fun c=>(c.setIfInBounds o y0).setIfInBounds (o+1) y1) (fun c=>by simp) fun c hc i hi=>by
   match i,hi with
   |0,_=>
    refine⟨y0,?_,hy.2 0 (by simp) (by simp)⟩;rw[BI,if_neg (by omega),BI,if_pos (by omega),if_pos (by simp at hc;omega)]
   |1,_=>
    refine⟨y1,?_,hy.2 1 (by simp) (by simp)⟩;rw[BI,if_pos rfl,if_pos (by simp at hc⊢;omega)]
   |i+2,hi=>simp at hi;omega
  obtain⟨k3,k4⟩:=ot k1 (.cells #[.pointer (some ⟨1,tp,none⟩),.pointer (some ⟨vb,0,none⟩),.int .u64 150] 257);obtain⟨k5,k6⟩:=ot k3 (.cells #[y0,y1] el);exact⟨k5,(k2.trans k4).trans k6⟩
 |[],_,_,hn,_=>simp at hn
 |_::_::_::_,_,_,hn,_=>simp at hn
 |[_],[],hy,_,_=>have:=hy.1;simp at this
 |[_],_::_::_,hy,_,_=>have:=hy.1;simp at this
 |[_,_],[],hy,_,_=>have:=hy.1;simp at this
 |[_,_],[_],hy,_,_=>have:=hy.1;simp at this
 |[_,_],_::_::_::_,hy,_,_=>have:=hy.1;simp at this
theorem OT(hR:Rel w0 ρ s w)(tp tb to:Nat):Rel w0 ρ s (vP tp tb to w)∧kK ρ s w ρ s (vP tp tb to w):=by
 obtain⟨k1,k2⟩:=ot hR (.cells #[.pointer (some ⟨tb,to,none⟩)] tp);obtain⟨k3,k4⟩:=ot k1 (.cells #[.pointer (some ⟨1,tp,none⟩),.pointer (some ⟨w.heap.size,0,none⟩),.int .u64 150] 257);exact⟨k3,k2.trans k4⟩
theorem KV{tt:Nat}:∀ {n:Nat} {v v' :V},aQ s tt n v=some (some v')→dS tt v' =true:=by
 intro n
 induction n with
 |zero=>intro v v' h;simp[aQ]at h
 |succ n ih=>
  intro v v' h;cases v with
  |iface t u=>
   simp only[aQ]at h;cases h1:Nat.beq t tt with
   |true=>
    rw[h1]at h;simp only[cond_true]at h;cases h2:dS tt u with
    |false=>rw[h2]at h;simp at h
    |true=>rw[h2]at h;simp only[cond_true,ay]at h;subst h;exact h2
   |false=>
    rw[h1]at h;simp only[cond_false]at h;cases h3:(Nat.beq t 43||Nat.beq t 45)with
    |true=>rw[h3]at h;simp at h
    |false=>
     rw[h3]at h;simp only[cond_false]at h;cases h4:Nat.beq t 191 with
     |false=>rw[h4]at h;simp at h
     |true=>
      rw[h4]at h;simp only[cond_true]at h;split at h<;>try (simp at h;done)
      split at h<;>try (simp at h;done)
      exact ih h
  |_=>simp[aQ]at h
end
theorem Yf{v:V}(h:dS 45 v=true):v.cells.length=2:=by
 unfold dS at h;split at h
 ·rfl
 ·rename_i h1;cases h1
 ·rename_i h1;cases h1
 ·cases h
theorem PV{w0:World}(hg:kU w0):zE Go.Proofs.Tryz.prog w0 97 2 pAs:=by
 refine⟨⟨_,_,Go.Proofs.Tryz.func97,rfl,rfl⟩,?_⟩;intro args s v s' ρ w args' hl hp hR hA;have hgw:kU w:=by
  have h1:0<w0.heap.size:=by
   rcases Nat.eq_zero_or_pos w0.heap.size with h0|h
   ·simp[kU,World.cell?,h0]at hg
   ·exact h
  unfold kU World.cell? at hg⊢;rw[hR.old 0 h1];exact hg
 unfold pAs at hp;split at hp<;>try (simp at hp;done)
 ·simp only[ay,aO]at hp;obtain⟨rfl,rfl⟩:=hp;obtain⟨x,xs,rfl,hx,hxs⟩:=hA.cq;obtain⟨y,ys,rfl,hy,hys⟩:=hxs.cq;obtain rfl:=hys.eF;cases hx;refine(qdt y w).mono ?_;rintro e w' ⟨rfl,rfl⟩;exact⟨ρ,_,rfl,hR,kK.refl _ _ _,.bool false⟩
 ·rename_i t u tp b;split at hp<;>try (simp at hp;done)
  rename_i tt cs htt hcs;obtain⟨x,xs,rfl,hx,hxs⟩:=hA.cq;obtain⟨y,ys,rfl,hy,hys⟩:=hxs.cq;obtain rfl:=hys.eF;cases hy with
  |iface hy=>
  cases hy with
  |ptr hρ=>
  rename_i r o lim;have hcells:=hR.cells hρ hcs;have hob:s.get b=some (.row cs):=by
   unfold St.row at hcs;split at hcs<;>simp at hcs;rename_i cs' hg;subst hcs;exact hg
  obtain⟨c,ty,fr,q1,q2,q3,q4,q5⟩:kO w0 ρ o lim (some (.row cs)) w.heap[r]? :=by
   have:=hR.ob b r o lim hρ;rw[hob]at this;exact this
  have hfz:∀ i,i<cs.length→w.frozen? ⟨r,o+i,none⟩=false:=fun i hi=>by
   simp only[World.frozen?,q1];have:=q4 (o+i) (by omega);obtain⟨f1,f2⟩:=fr;simp only at this⊢;simpa using this
  have hcl:∀ i,i<cs.length→∃ z,w.cell? ⟨r,o+i,none⟩=some z:=fun i hi=>by
   obtain⟨z,e1,_⟩:=hcells i _ (dm hi);exact⟨z,e1⟩
  have stop:∀ tp2:Nat,(Calls Go.Proofs.Tryz.prog 97 #[x,.iface tp (.pointer (some ⟨r,o,none⟩))] w fun ev w' =>ev=.returned (.bool false)∧w' =(vP tp2 r o w).alloc (xY tp2 w.heap.size))→
    Calls Go.Proofs.Tryz.prog 97 #[x,.iface tp (.pointer (some ⟨r,o,none⟩))] w fun e w' =>∃ ρ' z,e=.returned z∧Rel w0 ρ' s w'∧kK ρ s w ρ' s w'∧aE w0 ρ' (.bool false) z:=fun tp2 h=>by
   refine h.mono ?_;rintro e w' ⟨rfl,rfl⟩;obtain⟨k1,k2⟩:=OT hR tp2 r o;obtain⟨k3,k4⟩:=ot k1 (xY tp2 w.heap.size);exact⟨ρ,_,rfl,k3,k2.trans k4,.bool false⟩
  have hit:∀ (el tp2:Nat) (v' :V) (ys:List Value),v'.cells.length=cs.length→(v'.cells.length=1∨v'.cells.length=2)→aX w0 ρ v'.cells ys→
    (Calls Go.Proofs.Tryz.prog 97 #[x,.iface tp (.pointer (some ⟨r,o,none⟩))] w fun ev w' =>ev=.returned (.bool true)∧w' =AA el tp2 r o w.heap.size (vP tp2 r o w) ys)→
    Calls Go.Proofs.Tryz.prog 97 #[x,.iface tp (.pointer (some ⟨r,o,none⟩))] w fun e w' =>∃ ρ' z,e=.returned z∧Rel w0 ρ' (s.put b (.row v'.cells)) w'∧kK ρ s w ρ' (s.put b (.row v'.cells)) w'∧aE w0 ρ' (.bool true) z:=fun el tp2 v' ys hlen hn hy h=>by
   refine h.mono ?_;rintro e w' ⟨rfl,rfl⟩;obtain⟨k1,k2⟩:=OT hR tp2 r o;obtain⟨k3,k4⟩:=qld k1 hρ hcs hlen hy hn el tp2 w.heap.size;exact⟨ρ,_,rfl,k3,k2.trans k4,.bool true⟩
  cases hw:aQ s tt 64 (.iface t u)with
  |none=>rw[hw]at hp;simp at hp
  |some res=>
   rw[hw]at hp;cases res with
   |none=>
    simp only[ay,aO]at hp;obtain⟨rfl,rfl⟩:=hp;unfold rR at htt;split at htt<;>simp only[ay,reduceCtorEq]at htt<;>subst htt
    ·exact stop 187 (K6 hR hx hw hgw r o)
    ·exact stop 192 (G1 hR hx hw hgw r o)
    ·exact stop 197 (JG hR hx hw hgw r o)
   |some v' =>
    simp only at hp;obtain⟨hlen,hp⟩:=bG hp;have hlen:=bS hlen;simp only[ay,aO]at hp;obtain⟨rfl,rfl⟩:=hp;have hshape:=KV hw;unfold rR at htt;split at htt<;>simp only[ay,reduceCtorEq]at htt<;>subst htt
    ·have h2:v'.cells.length=2:=Yf hshape;obtain⟨z0,e0⟩:=hcl 0 (by omega);obtain⟨z1,e1⟩:=hcl 1 (by omega);obtain⟨ys,k1,k2⟩:=Pw hR hx hw hgw r o e0 (hfz 0 (by omega)) e1 (hfz 1 (by omega));exact hit 45 187 v' ys hlen (.inr h2) k1 k2
    ·have h2:v'.cells.length=1:=by cases v' <;>simp[dS]at hshape<;>rfl
     obtain⟨z0,e0⟩:=hcl 0 (by omega);obtain⟨ys,k1,k2⟩:=JO hR hx hw hgw r o e0 (hfz 0 (by omega));exact hit 191 192 v' ys hlen (.inl h2) k1 k2
    ·have h2:v'.cells.length=1:=by
      cases v' <;>simp[dS]at hshape<;>rfl
     obtain⟨z0,e0⟩:=hcl 0 (by omega);obtain⟨ys,k1,k2⟩:=P8 hR hx hw hgw r o e0 (hfz 0 (by omega));exact hit 43 197 v' ys hlen (.inl h2) k1 k2
end Go.RE
namespace Go.RE
open Go.Proofs.YtigkmaeaoaejiaaGreatDoor
section
variable{E:vK}{σ:Sg}{Z:Zs}{ω:Om}{s:Vs}{e:PT V}{st:St}
theorem Ug{n tt:Nat}{u:U}{v:V}(h:UR σ Z n u v)(hs:MF tt u=true):dS tt v=true:=by
 unfold MF at hs;split at hs
 ·obtain⟨ha,va⟩:∃ vs,v=.agg vs∧LU σ Z n [.str _,.str _] vs:=by cases h with|agg ha va=>exact⟨_,rfl,ha,va⟩
  obtain⟨rfl,hl⟩:=va;obtain⟨a,r,rfl,h1,h2⟩:=hl.cq;obtain⟨b,r,rfl,h3,h4⟩:=h2.cq;obtain rfl:=h4.eF;cases h1;cases h3;rfl
 ·cases h;rfl
 ·cases h;rfl
 ·cases hs
theorem Ze(hk:Ok E σ Z ω s e st){tt:Nat}:∀ {n:Nat} {u:U} {v:V} {res:Option U},UR σ Z s.h.length u v→gi s.h tt n u=some res→∃ res',aQ st tt n v=some res'∧(match res,res' with
  |none,none=>True
  |some a,some b=>UR σ Z s.h.length a b
  |_,_=>False):=by
 intro n
 induction n with
 |zero=>intro u v res hu h;simp[gi]at h
 |succ n ih=>
  intro u v res hu h;cases u with
  |iface t x=>
   cases hu with
   |iface hx=>
   rename_i y;simp only[gi]at h;simp only[aQ];cases h1:Nat.beq t tt with
   |true=>
    rw[h1]at h;simp only[cond_true]at h⊢;cases h2:MF tt x with
    |false=>rw[h2]at h;simp at h
    |true=>
     rw[h2]at h;simp only[cond_true,ay]at h;subst h;rw[Ug hx h2];exact⟨some y,rfl,hx⟩
   |false=>
    rw[h1]at h;simp only[cond_false]at h⊢;cases h3:(Nat.beq t 43||Nat.beq t 45)with
    |true=>
     rw[h3]at h;simp only[cond_true,ay]at h;subst h;exact⟨none,rfl,trivial⟩
    |false=>
     rw[h3]at h;simp only[cond_false]at h⊢;cases h4:Nat.beq t 191 with
     |false=>rw[h4]at h;simp at h
     |true=>
      rw[h4]at h;simp only[cond_true]at h⊢;split at h<;>try (simp at h;done)
      rename_i i;cases hx with
      |ptr hlt=>
      split at h<;>try (simp at h;done)
      ·rename_i p hi;simp only[ay]at h;subst h;obtain⟨cs',g1,g2,g3⟩:=hk.obj i _ hi
       match cs',g2,g3 with
       |[a,b],_,g3=>
        have hb:=g3 1 .aK b rfl rfl;cases hb;refine⟨none,?_,trivial⟩;simp only[eN g1]
      ·rename_i p t2 v2 hi;obtain⟨cs',g1,g2,g3⟩:=hk.obj i _ hi
       match cs',g2,g3 with
       |[a,b],_,g3=>
        have hb:UR σ Z s.h.length (.iface t2 v2) b:=g3 1 (.iface t2 v2) b rfl rfl;cases hb with
        |iface hb2=>
        rename_i y2;obtain⟨res',r1,r2⟩:=ih (.iface hb2) h;refine⟨res',?_,r2⟩;simp only[eN g1];exact r1
  |_=>simp[gi]at h
end
theorem qhM{C:Nat→Option dW}{M:eA}(hC:C 97=some (vE 2 pAs)):qdQ (ie C M) 97 pq:=by
 intro us h fl r h' fl' hp σ Z ω st vs hk hfl ht hlu;unfold pq at hp;split at hp<;>try (simp at hp;done)
 ·rename_i t v;simp only[ay,aO]at hp;obtain⟨rfl,rfl,rfl⟩:=hp;obtain⟨x,xs,rfl,hx,hxs⟩:=hlu.cq;obtain⟨y,ys,rfl,hy,hys⟩:=hxs.cq;obtain rfl:=hys.eF;cases hx;cases hy with
  |iface hy=>
  exact lE hC rfl (v:=.bool false) (st' :=st) rfl ⟨hfl,σ,Z,ω,hk,fun d _=>ht d,.bool false⟩
 ·rename_i t v tp j;unfold asT at hp;split at hp<;>try (simp at hp;done)
  rename_i cs tt hj htt;obtain⟨x,xs,rfl,hx,hxs⟩:=hlu.cq;obtain⟨y,ys,rfl,hy,hys⟩:=hxs.cq;obtain rfl:=hys.eF;cases hy with
  |iface hy=>
  cases hy with
  |ptr hlt=>
  obtain⟨cs',g1,g2,g3⟩:=hk.obj j _ hj;have hrow:st.row (σ j)=some cs' :=eN g1;cases hw:gi h tt 64 (.iface t v)with
  |none=>rw[hw]at hp;simp[A9]at hp
  |some res=>
   rw[hw]at hp;obtain⟨res',r1,r2⟩:=Ze hk (tt:=tt) hx hw;have hx2:∃ tx vx,x=.iface tx vx:=by cases hx with|iface h=>exact⟨_,_,rfl⟩
   obtain⟨tx,vx,rfl⟩:=hx2;cases res with
   |none=>
    simp only[A9,ay,aO]at hp;obtain⟨rfl,rfl,rfl⟩:=hp;cases res' with
    |some b=>exact r2.elim
    |none=>
     refine lE hC rfl (v:=.bool false) (st' :=st) ?_ ⟨hfl,σ,Z,ω,hk,fun d _=>ht d,.bool false⟩;simp only[pAs,htt,hrow,r1]
   |some a=>
    simp only[A9]at hp;obtain⟨hb,hp⟩:=bG hp;simp only[cm]at hb;have hlen:=bS hb.1;simp only[ay,aO]at hp;obtain⟨rfl,rfl,rfl⟩:=hp;cases res' with
    |none=>exact r2.elim
    |some b=>
     have r2:UR σ Z h.length a b:=r2;have hcl:=r2.cells;have hpas:pAs [.iface tx vx,.iface tp (.ptr (σ j) 0)] st=some (.bool true,st.put (σ j) (.row b.cells)):=by
      have:Nat.beq b.cells.length cs'.length=true:=by
       have:=hcl.1;rw[←this,hlen,g2];exact nX _
      simp only[pAs,htt,hrow,r1,this,cond_true]
     have hput:=hk.BG (i:=j) (o:=.row a.cells) (ob:=.row b.cells) hlt (by simp only[hj];intro hh;cases hh) ⟨b.cells,rfl,hcl.1,fun off u v h1 h2=>CR.bz (hcl.2 off u v h1 h2)⟩;have hf2:Fl ⟨[],h.set j (.row a.cells),bif a.low (j+1)then fl else h.length⟩:=by
      cases hl:a.low (j+1)with
      |true=>exact hfl.set (o:=.row a.cells) (qf (gE (oE _ _) hl)) _
      |false=>
       refine hfl.raise (by simp) fun q o ho=> ?_;rw[gZ]at ho;split at ho
       ·simp only[ay]at ho;subst ho;exact qf r2.mP
       ·exact hk.HR ho
     refine lE hC rfl (v:=.bool true) hpas ⟨hf2,σ,Z,ω,?_,fun d _=>ht d,.bool true⟩;exact hput.NB _
end Go.RE
namespace Go.RE
theorem qcS{M:eA}(xs:List (List U))(h:List Uo)(fl:Nat)(hb:xs.length≤aW)(hx:xs.all (fun r=>r.all U.aL&&U.bX 0 r&&Nat.beq r.length 1)=true):
  gC (fun _=>none) M (fun _=>none) (fun _=>none) v49 (.seq (.region Gu) .ret) ⟨[(0,.sl 1 xs)],h,fl⟩ (kE h.length v49 (.own .r 1 xs,h,fl)):=by
 have h1:decide (xs.length≤aW)=true:=decide_eq_true hb;have h2:(xs.all fun r=>r.all U.aL&&U.bX 0 r&&decide (r.length=1))=true:=by
  rw[qd]at hx⊢;intro r hr;have:=hx r hr;simp only[cm,decide_eq_true_eq]at this⊢;exact⟨this.1,bS this.2⟩
 have h3:cut h.length fl h=h:=by unfold cut;exact pI (oE _ _)
 simp only[Gu];simp[h1,h2,h3]
theorem UL{C:Nat→Option dW}{M:eA}(hC:C 49=some ⟨v49.ntmps,v49.results,v49.body.er⟩):qdQ (ie C M) 49 bU:=by
 intro us h fl r h' fl' hp σ Z ω st vs hk hfl ht hlu;unfold bU at hp;split at hp<;>try (simp at hp;done)
 rename_i w xs;obtain⟨hb,hp⟩:=bG hp;simp only[cm]at hb;have hw:w=1:=bS hb.1.1;subst hw;simp only[ay,aO]at hp;obtain⟨rfl,rfl,rfl⟩:=hp;obtain⟨v,vs',rfl,hv,hvs⟩:=hlu.cq;obtain rfl:=hvs.eF;have T:Z9 C M (fun _=>none) (fun _=>none) (fun _=>none):=⟨fun f fn h=>by simp at h,fun f q h=>by simp at h,fun f p h=>by simp at h⟩;obtain⟨n,hn⟩:=qcS (M:=M) xs h fl (ja hb.1.2) hb.2;have hok:∀ e:PT V,e.get 0=some v→Cj ⟨h.length,σ,gq σ ω h.length,Z,st,fun i=>h[i]? =some .gone⟩ ⟨[(0,.sl 1 xs)],h,fl⟩ e st:=fun e he=>by
  refine⟨hfl.env _,σ,Z,ω,hk.setEnv fun t u hu=> ?_⟩;simp only[look]at hu;cases hb0:Nat.beq 0 t with
  |true=>
   rw[hb0]at hu;have:=bS hb0;subst this;simp at hu;subst hu;exact⟨v,he,TR.bz hv⟩
  |false=>rw[hb0]at hu;simp at hu
 -- a slice that is there
 have key:∀ e:PT V,e.get 0=some v→∃ N,fR C M N (ag.seq (.region Gu) .ret).er e st (RC ⟨v49.ntmps,v49.results,v49.body.er⟩ fun v st' =>Fl ⟨[],h,fl⟩∧∃ σ' Z' ω',Ok ⟨h.length,σ,gq σ ω h.length,Z,st,fun i=>h[i]? =some .gone⟩ σ' Z' ω' ⟨[],h,fl⟩ .e st'∧(∀ d,d≠0→ω' (.t d)=none)∧RR σ' Z' ω' h.length (.own .r 1 xs) v):=fun e he=>by
  obtain⟨N,hN⟩:=(sound T n).2.1 hn (hok e he);refine⟨N,cK (aM _) ?_ hN⟩;rintro ex' e' st' ⟨s',hK,hf',σ',Z',ω',hk'⟩;cases ex' with
  |exit i=>exact hK.elim
  |normal=>
   obtain⟨v,r1,r2,r3⟩:=sQ hk' hf' (aM _) hK;rw[qo];simp only[r1];exact⟨r2,r3⟩
  |ret=>
   obtain⟨v,r1,r2,r3⟩:=sQ hk' hf' (aM _) hK;rw[sE];simp only[r1];exact⟨r2,r3⟩
 -- the test
 have start:∀ (b:Bool),Ga .bu v .bu=some b→(b=true→v=.bu)→∃ N,ct C M N 49 [v] st fun v st' =>Fl ⟨[],h,fl⟩∧∃ σ' Z' ω',Ok ⟨h.length,σ,gq σ ω h.length,Z,st,fun i=>h[i]? =some .gone⟩ σ' Z' ω' ⟨[],h,fl⟩ .e st'∧(∀ d,d≠0→ω' (.t d)=none)∧RR σ' Z' ω' h.length (.own .r 1 xs) v:=by
  intro b hbv hnil;have hinit:(cT [v] 0 .e).get 0=some v:=by rw[mj];rfl
  obtain⟨N,hN⟩:=key ((((cT [v] 0 .e).set 2 .bu).set 3 v).set 4 (.bool b)) (by simp[PT.iW,hinit]);refine⟨N+6,?_⟩;rw[Bg hC (by show[v].length≤8;simp)];have hbody:v49.body.er=.seq (.region [⟨some 2,.s (.aJ (.c .bu)),none,0⟩]) (.seq (.seq (.region [⟨some 3,.s (.aJ (.t 0)),none,0⟩,⟨some 4,.s (.bin .eql .bu (.t 3) (.c .bu)),none,1⟩]) (.cond (.t 4) (.seq (.region [⟨some 2,.s (.aJ (.c .bu)),none,0⟩]) .ret) .skip)) (ag.seq (.region Gu) .ret).er):=rfl;simp only[hbody];rw[qq,jV];simp only[eR,bZ,dw,cX,bB.ev,fB,oN];rw[qq,qq,jV];have h2:((cT [v] 0 .e).set 2 .bu).get 0=some v:=by simp[PT.iW,hinit]
  have h3:((((cT [v] 0 .e).set 2 .bu)).set 3 v).get 3=some v:=by simp[PT.iW]
  simp only[eR,bZ,dw,cX,bB.ev,fB,oN,h2,h3];have h4:cU .eql .bu v .bu=some (.bool b):=by
   cases v<;>simp_all [cU,Ga]
  simp only[h4];rw[zN (t:=b) (by simp[bB.ev,PT.iW])];cases b with
  |true=>
   obtain rfl:=hnil rfl;rw[if_pos rfl,qq,jV];simp only[eR,bZ,dw,cX,bB.ev,fB,oN];rw[F3,RD,sE];have hr:cV (((((cT [.bu] 0 .e).set 2 .bu).set 3 .bu).set 4 (.bool true)).set 2 .bu) st [.t 2]=some .bu:=by simp[cV,uT,Eb,PT.iW]
   have hres:v49.results=[.t 2]:=rfl;simp only[hres,hr];refine⟨hfl,σ,Z,ω,hk,fun d _=>ht d,?_⟩;show OR σ Z ω (.t 0) 1 xs .bu;unfold OR;rw[ht 0];cases hv;exact⟨rfl,.inl rfl⟩
  |false=>
   rw[if_neg (by simp),Bi,oN];exact cK (by omega) (fun _ _ _ h=>h) hN
 cases hv with
 |slnil=>exact start true rfl (fun _=>rfl)
 |zW=>exact start false rfl (fun h=>by cases h)
 |Cs=>exact start false rfl (fun h=>by cases h)
 |Cn=>exact start false rfl (fun h=>by cases h)
end Go.RE
namespace Go.RE
def qM:Ren:=fun _=>none
structure Kept(W W' :World):Prop where
 os:W'.os=W.os
 output:W'.output=W.output
 block:∀ k,k<W.heap.size→W'.heap[k]? =W.heap[k]?
theorem Kept.frame{W W' :World}(h:Kept W W')(may:MemPlace→Prop):W.keptBut W' may:=by
 refine⟨h.os,h.output,fun i hi=> ?_⟩;rw[h.block i hi];split<;>simp_all
theorem Kept.same{W W' :World}(h:Kept W W'){p:MemPlace}(hp:p.block<W.heap.size):W.sameAt W' p:=by
 cases p with
 |cell b o=>exact World.cell?_of_block (w:=W) (h.block b hp)
 |map b=>exact h.block b hp
theorem Kept.trod{H:Type}{enc:TypeId×Value→H}{P:Program}{t:TypeId}(hl:laidOutB P=true)(hr:P.readableRec t=true)(hrow:t<P.types.size){W W' :World}{v:Value}{d:DataW H}{ps:List MemPlace}
  (h:DataW.Trod enc P W 0 (fun _=>true) true t v d ps) (hb:Kept W W') (hlt:∀ x∈ps,x.block<W.heap.size):
  DataW.Trod enc P W' 0 (fun b=>decide (b<W.heap.size)) true t v d ps:=
 WideElems.Trod_stays hl hr hrow h (fun x hx=>hb.same (hlt x hx)) (fun x hx=>by simpa using hlt x hx)
def E6:St:={h:=.e,next:=0}
theorem Pt{P:Program}{C:Nat→Option dW}{M:eA}{W:World}(hC:LL P W C)(hM:qT P M)(hD:Bk P){f n:Nat}{vs:List V}{args:Array Value}{q:V}
  (hl:aX W qM vs args.toList) (h:ct C M n f vs E6 fun v _=>v=q):
  Calls P f args W fun e W' =>(∃ x ρ',e=.returned x∧aE W ρ' q x)∧Kept W W' :=by
 have hR:Rel W qM E6 W:={
  old:=fun _ _=>rfl
  size:=aM _
  os:=rfl
  output:=rfl
  dom:=fun _ _ _ _ e=>by cases e
  fresh:=fun n _=>by simp[E6,St.get]
  ob:=fun _ _ _ _ e=>by cases e
  inj:=fun _ _ _ _ _ _ _ e=>by cases e}
 obtain⟨_,hc⟩:=ZM (w0:=W) hC hM hD n f vs E6 _ qM W args.toList h hR hl;rw[Array.toArray_toList]at hc;refine hc.mono fun e W' h' => ?_;obtain⟨v,s',ρ',x,he,hk,hr,_,hv⟩:=h';subst hk;exact⟨⟨x,ρ',he,hv⟩,hr.os,hr.output,hr.old⟩
section
variable{H:Type}(enc:TypeId×Value→H)(P:Program)(w:World)
variable{enc P w}
def Bs(P:Program)(tot:Nat):Nat→List Field→Bool
 |off,[]=>off==tot
 |off,f::fs=>f.offset==off&&Bs P tot (off+P.cellsOf f.type) fs
theorem Ih{b o n:Nat}:(⟨b,o,none⟩:Addr).add n=⟨b,o+n,none⟩:=by
 unfold Addr.add;split
 ·rename_i h;subst h;rfl
 ·rfl
end
end Go.RE
namespace Go.RE
section
variable{H:Type}(enc:TypeId×Value→H)(P:Program)(w:World)(bk:DataW H→Nat)(B:Nat)
structure IQ:Prop where
 str:∀ b:List UInt8,b.length≤bk (.lit (.string b))
 len:∀ es sp,es.length≤bk (.slice es sp)
 elt:∀ es sp d,d∈es→bk d≤bk (.slice es sp)
 part:∀ ps d,d∈ps→bk d≤bk (.agg ps)
def gW(us:List U)(vs:List V):Prop:=∀ σ Z,LU σ Z 0 us vs
def C2(t:TypeId)(S:List U→Prop):Prop:=
 ∀ fuel cs x,DataW.trod enc P w 0 (fun _=>true) true fuel t cs=some x→bk x.1≤B→∃ vs us,aX w qM vs cs∧S us∧gW us vs
variable{enc P w bk B}
theorem gW.nil:gW [] []:=fun σ Z=>LU.nil
theorem gW.one{u:U}{v:V}(h:∀ σ Z,UR σ Z 0 u v):gW [u] [v]:=fun σ Z=>LU.cons (h σ Z) LU.nil
theorem gW.append{a c:List U}{b d:List V}(h:gW a b)(h' :gW c d):gW (a++c) (b++d):=fun σ Z=>(h σ Z).append (h' σ Z)
theorem fI{t:TypeId}{k:IntKind}(ht:P.underlying t=some (.int k)):C2 enc P w bk B t fun us=>∃ n,us=[.int k n]∧(Lit.int k n).wf=true:=by
 intro fuel cs x h hb;obtain⟨n,rfl,_,hw⟩:=DataW.trod_int ht h;exact⟨[.int k n],[.int k n],aX.cons (.int k n) .nil,⟨n,rfl,hw⟩,gW.one fun σ Z=> .int k n⟩
theorem fk{t:TypeId}(hk:IQ bk)(ht:P.underlying t=some .string):C2 enc P w bk B t fun us=>∃ l:List UInt8,us=[.str l]∧l.length≤B:=by
 intro fuel cs x h hb;obtain⟨s,rfl,hx,hs⟩:=DataW.trod_string ht h;subst hx;exact⟨[.str s.data.toList],[.str s.data.toList],aX.cons (.str rfl) .nil,⟨_,rfl,Nat.le_trans (hk.str _) hb⟩,gW.one fun σ Z=> .str _⟩
def FS:List (List U→Prop)→List U→Prop
 |[],us=>us=[]
 |S::Ss,us=>∃ a b,us=a++b∧S a∧FS Ss b
def qcV(enc:TypeId×Value→H)(P:Program)(w:World)(bk:DataW H→Nat)(B:Nat):List Field→List (List U→Prop)→Prop
 |[],[]=>True
 |f::fs,S::Ss=>C2 enc P w bk B f.type S∧qcV enc P w bk B fs Ss
 |_,_=>False
theorem IZ{cs:List Value}:∀ {fs:List Field} {Ss:List (List U→Prop)} {off:Nat},Bs P cs.length off fs=true→qcV enc P w bk B fs Ss→
  (∀ f∈fs,∃ fuel x,DataW.trod enc P w 0 (fun _=>true) true fuel f.type ((cs.drop f.offset).take (P.cellsOf f.type))=some x∧bk x.1≤B)→∃ vs us,aX w qM vs (cs.drop off)∧FS Ss us∧gW us vs:=by
 intro fs
 induction fs with
 |nil=>
  intro Ss off hl ho _;cases Ss with
  |cons=>exact ho.elim
  |nil=>
   simp only[Bs,beq_iff_eq]at hl;subst hl;exact⟨[],[],by rw[List.drop_length];exact .nil,rfl,gW.nil⟩
 |cons f fs ih=>
  intro Ss off hl ho hr;cases Ss with
  |nil=>exact ho.elim
  |cons S Ss=>
   simp only[Bs,cm,beq_iff_eq]at hl;obtain⟨rfl,hl⟩:=hl;obtain⟨fuel,x,hx,hxb⟩:=hr f k7;obtain⟨va,ua,ha,hq,hu⟩:=ho.1 fuel _ x hx hxb;obtain⟨vb,ub,hb,hqs,hus⟩:=ih hl ho.2 (fun g hg=>hr g (ki _ hg));refine⟨va++vb,ua++ub,?_,⟨ua,ub,rfl,hq,hqs⟩,hu.append hus⟩;have:=ha.append hb;rwa[←List.drop_drop,List.take_append_drop]at this
theorem iF{t:TypeId}{fs:Array Field}(hk:IQ bk)(ht:P.underlying t=some (.struct fs)){Ss:List (List U→Prop)}(hl:Bs P (P.cellsOf t) 0 fs.toList=true)(ho:qcV enc P w bk B fs.toList Ss):
  C2 enc P w bk B t (FS Ss):=by
 intro fuel cs x h hb;obtain⟨xs,n,rfl,hxe,hlen,hxs,hf⟩:=DataW.trod_struct ht h;subst hxe;rw[←hlen]at hl;obtain⟨vs,us,h1,h2,h3⟩:=IZ (off:=0) hl ho fun f hm=>by
  obtain⟨i,hi,rfl⟩:=List.getElem_of_mem hm;have hi' :i<fs.size:=by simpa using hi
  have:=hf i fs[i] (by rw[vS hi']);rw[dm (by omega)]at this;refine⟨n,_,by simpa using this,Nat.le_trans (hk.part _ _ ?_) hb⟩;exact fh.2 ⟨_,List.getElem_mem _,rfl⟩
 exact⟨vs,us,by simpa using h1,h2,h3⟩
theorem vW{t e:TypeId}{c:Nat}{S:List U→Prop}(hk:IQ bk)(ht:P.underlying t=some (.slice e))(hc:P.cellsOf e=c)(hpos:0<c)(he:C2 enc P w bk B e S):
  C2 enc P w bk B t fun us=>∃ rows:List (List U),us=[.sl c rows]∧(∀ r∈rows,S r∧r.length=c)∧rows.length≤B∧rows.length≤maxLen:=by
 intro fuel cs x h hb;rcases DataW.trod_slice ht h with⟨rfl,_⟩|⟨a,len,cap,elems,rest,n,_,rfl,hxe,_,hlc,hcm,hlen,hel,hsp,_⟩
 ·exact⟨[.bu],[.sl c []],aX.cons .bu .nil,⟨[],rfl,(fun r hr=>by cases hr),kN _,kN _⟩,gW.one fun σ Z=> .slnil⟩
 subst hxe;have hlenB:len≤B:=by
  have h1:=hk.len (elems.map (·.1)) (rest.map (·.1));simp only[List.length_map]at h1;have h2:=Nat.le_trans h1 hb;omega
 obtain⟨hrl,hre⟩:=hsp rfl;have each:∀ i,i<len→∃ xs:List Value,xs.length=c∧(∀ j,j<c→w.cell? ((a.add (i*c)).add j)=xs[j]?)∧∃ (r:List V) (u:List U),aX w qM r xs∧S u∧gW u r:=by
  intro i hi;have h1:=hel i hi;rw[dm (by omega),Option.bind_eq_some_iff]at h1;obtain⟨xs,hxs,hy⟩:=h1;have hyb:bk (elems[i]'(by omega)).1≤B:=Nat.le_trans (hk.elt _ _ _ (fh.2 ⟨_,List.getElem_mem _,rfl⟩)) hb;obtain⟨r,u,hr,hq,hu⟩:=he _ _ _ hy hyb;rw[hc]at hxs;unfold World.cells? at hxs;rw[if_pos (kN _)]at hxs;refine⟨xs,by simpa using mapM_some_length hxs,fun j hj=> ?_,r,u,hr,hq,hu⟩;exact mapM_some_get hxs j j (by rw[List.getElem?_range hj])
 have hspot:cap=0∨a.spot=none:=by
  by_cases h0:cap=0
  ·exact .inl h0
  right;by_cases hl0:len=0
  ·have h1:=hre 0 (by omega);rw[dm (by omega),Option.bind_eq_some_iff]at h1;obtain⟨xs,hxs,_⟩:=h1;rw[hc]at hxs;unfold World.cells? at hxs;rw[if_pos (kN _)]at hxs;have hl:=mapM_some_length hxs;have:=mapM_some_get hxs 0 0 (by rw[List.getElem?_range hpos]);rw[dm (by simp at hl;omega)]at this;simpa[Addr.add,hl0]using World.cell?_spot this
  ·obtain⟨xs,h1,h2,_⟩:=each 0 (by omega);have:=h2 0 hpos;rw[dm (by omega)]at this;simpa[Addr.add]using World.cell?_spot this
 obtain⟨b,off,spot⟩:=a;have pick:∀ i:Nat,∃ p:List V×List Value×List U,i<len→p.1.length=c∧p.2.1.length=c∧(∀ j,j<c→w.cell? ⟨b,off+i*c+j,none⟩=p.2.1[j]?)∧aX w qM p.1 p.2.1∧S p.2.2∧gW p.2.2 p.1:=by
  intro i;by_cases hi:i<len
  ·obtain⟨xs,h1,h2,r,u,h3,h4,h5⟩:=each i hi;refine⟨(r,xs,u),fun _=>⟨h3.1.trans h1,h1,fun j hj=> ?_,h3,h4,h5⟩⟩;rcases hspot with h0|h0
   ·omega
   ·simp only at h0;subst h0;have h5:=h2 j hj;rw[Ih,Ih]at h5;exact h5
  ·exact⟨([],[],[]),fun h=>absurd h hi⟩
 let g:=fun i=>Classical.choose (pick i);have hg:∀ i,i<len→(g i).1.length=c∧(g i).2.1.length=c∧(∀ j,j<c→w.cell? ⟨b,off+i*c+j,none⟩=(g i).2.1[j]?)∧aX w qM (g i).1 (g i).2.1∧S (g i).2.2∧gW (g i).2.2 (g i).1:=fun i=>Classical.choose_spec (pick i);let rows:=(List.range len).map fun i=>(g i).1;let urows:=(List.range len).map fun i=>(g i).2.2;have hrlen:rows.length=len:=by simp[rows]
 have hulen:urows.length=len:=by simp[urows]
 have hrow:∀ r∈rows,r.length=c:=by
  intro r hr;obtain⟨i,hi,rfl⟩:=fh.1 hr;exact(hg i (List.mem_range.1 hi)).1
 have hul:∀ i,i<len→(g i).2.2.length=c:=fun i hi=>by
  have h1:=(hg i hi).2.2.2.2.2 (fun i=>i) (fun _=>none);rw[h1.1];exact(hg i hi).1
 have hurow:∀ r∈urows,r.length=c:=by
  intro r hr;obtain⟨i,hi,rfl⟩:=fh.1 hr;exact hul i (List.mem_range.1 hi)
 have hget:∀ i (h:i<rows.length),rows[i]=(g i).1:=by intro i h;simp[rows]
 obtain⟨f1,f2⟩:=Ew hrow;have flat:∀ i j,i<len→j<c→rows.flatten[i*c+j]? =(g i).1[j]? :=by
  intro i j hi hj;have h2:=f2 i (by omega);rw[hget i (by omega)]at h2;have h3:=congrArg (·[j]?) h2;simp only[o3,td,if_pos hj]at h3;exact h3
 have flatU:gW urows.flatten rows.flatten:=by
  have key:∀ l:List Nat,(∀ i∈l,i<len)→gW ((l.map fun i=>(g i).2.2).flatten) ((l.map fun i=>(g i).1).flatten):=by
   intro l
   induction l with
   |nil=>intro _;exact gW.nil
   |cons i l ih=>
    intro hl;simp only[List.map_cons,List.flatten_cons];exact(hg i (hl i k7)).2.2.2.2.2.append (ih fun j hj=>hl j (ki _ hj))
  exact key _ fun i hi=>List.mem_range.1 hi
 have cell:∀ i (hi:i<rows.flatten.length),∃ y,w.cell? ⟨b,off+i,none⟩=some y∧aE w qM rows.flatten[i] y:=by
  intro i hi;rw[f1,hrlen]at hi;have hd:i / c<len:=Nat.div_lt_of_lt_mul (by rw[Nat.mul_comm];exact hi);have hm:i % c<c:=Nat.mod_lt _ hpos;have he:i / c*c+i % c=i:=by rw[Nat.mul_comm];exact Nat.div_add_mod i c
  obtain⟨g1,g2,g3,g4,_⟩:=hg (i / c) hd;have h1:=g3 (i % c) hm;rw[Nat.add_assoc,he,dm (by omega)]at h1;have h2:=flat (i / c) (i % c) hd hm;rw[he,dm (by omega),dm (by omega)]at h2;refine⟨_,h1,?_⟩;rw[Option.some.inj h2];exact g4.2 _ _ _
 refine⟨[.aj rows.flatten 0 rows.length c],[.sl c urows],aX.cons ?_ .nil,⟨urows,rfl,fun r hr=>⟨?_,hurow r hr⟩,by omega,by omega⟩,gW.one fun σ Z=> ?_⟩
 ·rw[hrlen];refine aE.aj (r:=b) (o:=off) (fun i=>(w.cell? ⟨b,off+i,none⟩).getD (.bool false)) (fun hne=> ?_) (fun i hi=> ?_) (fun i hi=> ?_) hlc ?_
  ·obtain⟨y,hy,_⟩:=cell 0 (by
    cases hf:rows.flatten with
    |nil=>exact absurd hf hne
    |cons=>simp)
   by_cases hb:b<w.heap.size
   ·exact hb
   ·unfold World.cell? at hy;have hn:w.heap[b]? =none:=zo (Nat.le_of_not_lt hb);simp only[hn]at hy;simp at hy
  ·obtain⟨y,hy,_⟩:=cell i hi;rw[hy];rfl
  ·obtain⟨y,hy,hv⟩:=cell i hi;rw[hy];exact hv
  ·rcases hspot with h0|h0
   ·exact .inl h0
   ·right;simp only at h0;subst h0;rfl
 ·obtain⟨i,hi,rfl⟩:=fh.1 hr;exact(hg i (List.mem_range.1 hi)).2.2.2.2.1
 ·have hfl:rows.flatten.length=rows.length*c:=f1;refine .Cn (by rw[hrlen,hulen]) hurow (by rw[hulen,←hrlen,←hfl];omega) ?_;have:=(flatU σ Z).2;intro j u v h1 h2;refine this j u v h1 ?_;rw[List.drop_zero,hulen,←hrlen,←hfl,List.take_length]at h2;exact h2
end
end Go.RE
namespace Go.RE
open Go.Proofs.YtigkmaeaoaejiaaGreatDoor
def erF(fn:aA):dW:=⟨fn.ntmps,fn.results,fn.body.er⟩
def CJ:Nat→Option dW:=fun f=>match f with
 |97=>some (vE 2 pAs)
 |90=>some (vE 1 xK)
 |f=>(ah f).map erF
def CH:eA:=fun t n=>match t,n with
 |58,"Get" =>some 28
 |58,"Scan" =>some 29
 |26,"Get" =>some 19
 |26,"Scan" =>some 21
 |_,_=>none
def muts:fq:=fun f=>match f with
 |90=>some nT
 |_=>none
def xO:gU:=fun f=>match f with
 |49=>some bU
 |97=>some pq
 |_=>none
theorem qmx:aG xO:=by
 intro f h1 h2;unfold xO;split<;>first|contradiction|rfl
theorem noQ:cI muts:=by
 intro f h1;unfold muts;split<;>first|contradiction|rfl
theorem qk7:Z9 CJ CH ah muts xO:=by
 refine⟨fun f fn h=> ?_,fun f q h=> ?_,fun f p h=> ?_⟩
 ·unfold CJ;split
  ·exact absurd h (by simp[ah])
  ·exact absurd h (by simp[ah])
  ·rw[h];rfl
 ·unfold muts at h;split at h
  ·simp only[ay]at h;subst h;intro xs rest ys hq E σ Z ω s e st g w v vs p0 hk hp0 hor hl _;exact V0 rfl hq hk hp0 hor hl
  ·cases h
 ·unfold xO at h;split at h
  ·simp only[ay]at h;subst h;exact UL rfl
  ·simp only[ay]at h;subst h;exact qhM rfl
  ·cases h
theorem qcN:qT Go.Proofs.Tryz.prog CH:=by
 intro t name f h;unfold CH at h;split at h<;>first|(simp only[ay]at h;subst h;kernel_rfl)|cases h
theorem mixed:Bk Go.Proofs.Tryz.prog:=by unfold Bk;kernel_rfl
theorem qey{W:World}(hg:kU W)
  (hS:zE Go.Proofs.Tryz.prog W 90 1 xK):LL Go.Proofs.Tryz.prog W CJ:=by
 intro f fn h;unfold CJ at h;split at h
 ·simp only[ay]at h;subst h;exact .inr ⟨2,pAs,rfl,PV hg⟩
 ·simp only[ay]at h;subst h;exact .inr ⟨1,xK,rfl,hS⟩
 ·left;unfold ah at h;split at h<;>first|(simp only[Option.map_some,ay]at h;subst h;kernel_rfl)|(simp at h)
end Go.RE
