/- Each operation that neither writes nor makes memory does what the evaluator says, all of them. -/
import Derived.Test.YtigkmaeaoaejiaaGreatDoorPart1
set_option linter.unusedVariables false
set_option linter.unusedSimpArgs false
namespace Go.RE
section
variable{P:Program}{w0:World}{ρ:Ren}{s:St}{w:World}{env:PT V}{e:Operand→Value}
def Ut(P:Program)(w0:World)(ρ:Ren)(w:World)(e:Operand→Value)(o:Oper)(v:V):Prop:=∃ x,(execOp e o).run P w=.ok (.value x) w∧aE w0 ρ v x
theorem bM{o:Oper}{v:V}{S:Sem Value}(he:execOp e o=(do pure (.value (←S))))(h:∃ x,S.run P w=.ok x w∧aE w0 ρ v x):Ut P w0 ρ w e o v:=by
 obtain⟨x,h1,h2⟩:=h;exact⟨x,by rw[he];simp[h1],h2⟩
theorem lX{x:Option Operand}{x' :Option bB}(h:oe x=some x'){d most n:Nat}(hn:aF env x' d most=some n)(H:∀ y,x=some y→kV w0 ρ env e y):
  (x=none∧n=d)∨(∃ y v,x=some y∧asNat v most=some n∧aE w0 ρ v (e y)):=by
 cases x with
 |none=>simp[oe]at h;subst h;simp[aF]at hn;exact .inl ⟨rfl,hn.symm⟩
 |some y=>
  simp only[oe]at h;split at h
  ·rename_i o ho;simp at h;subst h;simp only[aF]at hn;split at hn
   ·rename_i v hv;exact .inr ⟨y,v,rfl,hn,H y rfl o v ho hv⟩
   ·simp at hn
  ·simp at h
theorem zd{v:V}{most n:Nat}(h:asNat v most=some n):n≤most:=by
 obtain⟨k,m,rfl,h1,h2,h3⟩:=pM h;omega
theorem dN{isSlice:Bool}{len cap cap' :Nat}{lo hi mx:Option Operand}{lo' hi' mx' :Option bB}{l h m:Nat}(e1:oe lo=some lo')(e2:oe hi=some hi')(e3:oe mx=some mx')
  (hmx:mx.isSome=true→hi.isSome=true) (n3:aF env mx' cap cap=some m) (n2:aF env hi' len m=some h) (n1:aF env lo' 0 h=some l) (hcap:cap≤cap')
  (H1:∀ y,lo=some y→kV w0 ρ env e y) (H2:∀ y,hi=some y→kV w0 ρ env e y) (H3:∀ y,mx=some y→kV w0 ρ env e y) (w:World):
  (Instr.sliceBounds isSlice len cap' (lo.map e) (hi.map e) (mx.map e)).run P w=.ok (l,h,if mx.isSome then m else cap') w:=by
 have up:∀ {v:V} {a b n:Nat},asNat v a=some n→a≤b→asNat v b=some n:=fun {v a b n} hh hab=>by
  obtain⟨k,q,rfl,h1,h2,h3⟩:=pM hh;simp only[asNat];rw[if_pos ⟨h1,by omega⟩,h3]
 unfold Instr.sliceBounds;rcases lX e3 n3 H3 with⟨rfl,rfl⟩|⟨y3,v3,rfl,a3,r3⟩
 ·rcases lX e2 n2 H2 with⟨rfl,rfl⟩|⟨y2,v2,rfl,a2,r2⟩
  ·rcases lX e1 n1 H1 with⟨rfl,rfl⟩|⟨y1,v1,rfl,a1,r1⟩
   ·simp
   ·simp[run_sliceBound _ a1 r1]
  ·rcases lX e1 n1 H1 with⟨rfl,rfl⟩|⟨y1,v1,rfl,a1,r1⟩
   ·simp[run_sliceBound _ (up a2 hcap) r2]
   ·simp[run_sliceBound _ (up a2 hcap) r2,run_sliceBound _ a1 r1]
 ·rcases lX e2 n2 H2 with⟨rfl,rfl⟩|⟨y2,v2,rfl,a2,r2⟩
  ·simp at hmx
  ·rcases lX e1 n1 H1 with⟨rfl,rfl⟩|⟨y1,v1,rfl,a1,r1⟩
   ·simp[run_sliceBound _ (up a3 hcap) r3,run_sliceBound _ a2 r2]
   ·simp[run_sliceBound _ (up a3 hcap) r3,run_sliceBound _ a2 r2,run_sliceBound _ a1 r1]
theorem c7{x:Option bB}{d most n:Nat}(hd:d≤most)(h:aF env x d most=some n):n≤most:=by
 cases x with
 |none=>simp[aF]at h;omega
 |some o=>
  simp only[aF]at h;split at h
  ·exact zd h
  ·simp at h
theorem IY{t:TypeId}{n:Option Nat}{x:Operand}{o:bB}{v:V}(hn:spread P t=some n)(ho:cO x=some o)(hv:cX env s (.load n o)=some v)(hR:Rel w0 ρ s w)(H:kV w0 ρ env e x):
  ∃ y,(Instr.loadAt t (e x)).run P w=.ok y w∧aE w0 ρ v y:=by
 simp only[cX]at hv;split at hv
 ·rename_i b off ho';have hx:=H o _ ho ho';cases hs:s.row b with
  |none=>simp[hs]at hv
  |some cs=>
   simp only[hs]at hv;generalize e x=z at hx;cases hx with
   |ptr hρ=>
    obtain⟨y,h1,h2⟩:=nF (hR.cells hρ hs) hn hv;exact⟨y,by simp[Instr.loadAt,Instr.sureAddr,h1],h2⟩
 ·rename_i row off ho';have hx:=H o _ ho ho';generalize e x=z at hx;cases hx with
  |dI c hr hc hcv=>
   obtain⟨y,h1,h2⟩:=nF (P:=P) (hR.VX hr hc hcv) hn hv;exact⟨y,by simp[Instr.loadAt,Instr.sureAddr,h1],h2⟩
 ·simp at hv
theorem rV(cs:List V)(off:Nat)(vs:List V)(h:off+vs.length≤cs.length):(kT cs off vs).length=cs.length:=by
 simp[kT];omega
theorem aX.tM{a:List V}{b:List Value}(hl:a.length=b.length)(h:∀ (i:Nat) v,a[i]? =some v→∃ x,b[i]? =some x∧aE w0 ρ v x):aX w0 ρ a b:=
 ⟨hl,fun i h1 h2=>by
  obtain⟨x,hx,hr⟩:=h i a[i] (dm h1);rw[dm h2]at hx;simp at hx;rw[hx];exact hr⟩
theorem MY(cs:List V)(off:Nat)(vs:List V)(h:off+vs.length≤cs.length)(j:Nat):
  (kT cs off vs)[j]? =if j<off then cs[j]? else if j<off+vs.length then vs[j - off]? else cs[j]? :=by
 unfold kT;by_cases h1:j<off
 ·rw[if_pos h1,ow,gD (by simp;omega),o3,if_pos h1]
 ·rw[if_neg h1];by_cases h2:j<off+vs.length
  ·rw[if_pos h2,gD (by simp;omega),gf (by simp;omega)];simp[show min off cs.length=off from by omega]
  ·rw[if_neg h2,gf (by simp;omega),td];congr 1;simp;omega
theorem Pg(o:Nat):∀ (l:List Value) (k:Nat) (A:Array Value),∃ B:Array Value,(l.zipIdx k).foldl (fun cs (c,j)=>cs.setIfInBounds (o+j) c) A=B∧B.size=A.size∧
  ∀ j,B[j]? =if o+k≤j∧j<o+k+l.length∧j<A.size then l[j - (o+k)]? else A[j]? :=by
 intro l
 induction l with
 |nil=>intro k A;exact⟨A,rfl,rfl,fun j=>by rw[if_neg (by simp;omega)]⟩
 |cons c l ih=>
  intro k A;obtain⟨B,h1,h2,h3⟩:=ih (k+1) (A.setIfInBounds (o+k) c);refine⟨B,by simpa[List.zipIdx_cons]using h1,by simpa using h2,fun j=> ?_⟩;rw[h3,BI];simp only[Array.size_setIfInBounds,List.length_cons];by_cases hj:o+(k+1)≤j∧j<o+(k+1)+l.length∧j<A.size
  ·rw[if_pos hj,if_pos (by omega),show j - (o+k)=(j - (o+(k+1)))+1 from by omega];simp
  ·rw[if_neg hj];by_cases hk:o+k=j
   ·subst hk;by_cases hs:o+k<A.size
    ·rw[if_pos rfl,if_pos hs,if_pos (by omega)];simp
    ·rw[if_pos rfl,if_neg hs,if_neg (by omega),zo (by omega)]
   ·rw[if_neg hk,if_neg (by omega)]
theorem Bc{place:Nat→Option (Nat×Nat)}:∀ {parts:List (Nat×Operand)} {parts' :List (Nat×Nat×bB)} {cells:List V} {cells' :Array Value} {out:List V},oL place parts=some parts'→pY env cells parts' =some out→aX w0 ρ cells cells'.toList→(∀ p∈parts,kV w0 ρ env e p.2)→
  ∃ out' :Array Value,Instr.fill place cells' (parts.map fun p=>(p.1,e p.2))=some out'∧aX w0 ρ out out'.toList:=by
 intro parts
 induction parts with
 |nil=>
  intro parts' cells cells' out h h' hr _;simp[oL]at h;subst h;simp[pY]at h';subst h';exact⟨cells',rfl,hr⟩
 |cons p parts ih=>
  intro parts' cells cells' out h h' hr H;obtain⟨i,x⟩:=p;simp only[oL]at h;cases hp:place i with
  |none=>simp[hp]at h
  |some on=>
   obtain⟨o,n⟩:=on;cases hx:cO x with
   |none=>simp[hp,hx]at h
   |some xo=>
    cases hq:oL place parts with
    |none=>simp[hp,hx,hq]at h
    |some rest=>
     simp[hp,hx,hq]at h;subst h;simp only[pY]at h';cases hv:xo.ev env with
     |none=>simp[hv]at h'
     |some v=>
      simp only[hv]at h';cases hb:(Nat.beq v.cells.length n&&Nat.ble (o+v.cells.length) cells.length)with
      |false=>simp[hb]at h'
      |true=>
       simp only[hb,cond_true]at h';simp only[cm]at hb;have b1:v.cells.length=n:=bS hb.1;have b2:=ja hb.2;have hvr:=(H (i,x) (by simp) xo v hx hv).cells;have e1:(e x).cells.size=n:=by rw[←b1,hvr.1];simp
       have e2:cells'.size=cells.length:=by have:=hr.1;simp at this;omega
       obtain⟨B,h1,h2,h3⟩:=Pg o (e x).cells.toList 0 cells';have hB:(e x).cells.zipIdx.foldl (fun cs (c,j)=>cs.setIfInBounds (o+j) c) cells' =B:=by
        rw[←h1,←Array.foldl_toList];simp
       have hl:=hvr.1;simp only[Array.length_toList]at hl;have hnew:aX w0 ρ (kT cells o v.cells) B.toList:=aX.tM (by rw[rV _ _ _ b2];simp[h2,e2]) fun j u hu=>by
        rw[MY _ _ _ b2]at hu;rw[Array.getElem?_toList,h3];simp only[Nat.add_zero,Array.length_toList];by_cases c1:j<o
        ·rw[if_pos c1]at hu;rw[if_neg (by omega)];simpa using hr.get hu
        ·rw[if_neg c1]at hu;by_cases c2:j<o+v.cells.length
         ·rw[if_pos c2]at hu;rw[if_pos (by omega)];exact hvr.get hu
         ·rw[if_neg c2]at hu;rw[if_neg (by omega)];simpa using hr.get hu
       obtain⟨out',g1,g2⟩:=ih hq h' hnew fun p hp=>H p (by simp[hp]);refine⟨out',?_,g2⟩;simp only[List.map_cons,Instr.fill,hp];rw[if_neg]
       ·rw[hB];exact g1
       ·simp;omega
theorem Jz:∀ {fs:List Field} {ps:List (Nat×Nat)},places P fs=some ps→∀ w:World,(fs.mapM (m:=Sem) fun(f:Field)=>Prod.mk f.offset<$>sizeOf f.type).run P w=.ok ps w:=by
 intro fs
 induction fs with
 |nil=>intro ps h w;simp[places]at h;subst h;simp
 |cons f fs ih=>
  intro ps h w;simp only[places]at h;cases h1:iy P f.type with
  |none=>simp[h1]at h
  |some n=>
   cases h2:places P fs with
   |none=>simp[h1,h2]at h
   |some r=>simp[h1,h2]at h;subst h;simp[List.mapM_cons,dg h1,ih h2]
theorem HF{t:TypeId}{parts:List (Nat×Operand)}{fs:Array Field}{z:V}{ps:List (Nat×Nat)}{l:List (Nat×Nat×bB)}{out:List V}
  (hu:P.underlying t=some (.struct fs)) (hz:zeroOf P t=some z) (hp:places P fs.toList=some ps) (hl:oL (fun i=>ps[i]?) parts=some l) (hf:pY env z.cells l=some out)
  (H:∀ p∈parts,kV w0 ρ env e p.2) (w:World):∃ x,(Instr.build t (parts.toArray.map fun p=>(p.1,e p.2))).run P w=.ok x w∧aE w0 ρ (.agg out) x:=by
 obtain⟨zx,hzr,hzv⟩:=lR hz;obtain⟨out',h1,h2⟩:=Bc (cells' :=zx.cells) hl hf (hzv w0 ρ).cells H;refine⟨.agg out',?_,by simpa using aE.DF h2⟩;have hm:(fs.mapM (m:=Sem) fun(f:Field)=>do pure (f.offset,←sizeOf f.type)).run P w=.ok ps.toArray w:=by
  rw[show(fun(f:Field)=>(do pure (f.offset,←sizeOf f.type):Sem (Nat×Nat)))=(fun(f:Field)=>Prod.mk f.offset<$>sizeOf f.type)from by funext f;simp,Array.mapM_eq_mapM_toList];simp[Jz hp w]
 unfold Instr.build;simp only[Sem.run_bind,hzr,Result.andThen_ok,run_underlying hu,hm];have hfill:Instr.fill (fun x=>ps.toArray[x]?) zx.cells (parts.toArray.map fun p=>(p.1,e p.2)).toList=some out' :=by
  simpa using h1
 simp only[hfill];rfl
theorem Cv:∀ {cs:List V} {bs:List UInt8} {xs:List Value},bytesOf cs=some bs→aX w0 ρ cs xs→∃ ns:List Int,xs=ns.map (Value.int .u8)∧ns.map (fun n=>UInt8.ofNat n.toNat)=bs:=by
 intro cs
 induction cs with
 |nil=>intro bs xs h hr;simp[bytesOf]at h;subst h;exact⟨[],hr.eF,rfl⟩
 |cons c cs ih=>
  intro bs xs h hr;obtain⟨x,xs',rfl,hx,hxs⟩:=hr.cq;cases c with
  |int k n=>
   cases k<;>simp only[bytesOf,reduceCtorEq]at h;cases hb:bytesOf cs with
   |none=>simp[hb]at h
   |some r=>
    simp[hb]at h;subst h;obtain⟨ns,rfl,h2⟩:=ih hb hxs;exact⟨n::ns,by rw[hx.fN];rfl,by simp[h2]⟩
  |_=>simp[bytesOf]at h
theorem foldl_push(ns:List Int):∀ (b:ByteArray),(ns.foldl (fun r n=>r.push (UInt8.ofNat n.toNat)) b).data.toList=b.data.toList++ns.map (fun n=>UInt8.ofNat n.toNat):=by
 induction ns with
 |nil=>intro b;simp
 |cons n ns ih=>intro b;simp only[List.foldl_cons,ih,List.map_cons];simp[ByteArray.push]
theorem fY{wd:Nat}{v:V}{x:Value}{cs:List V}(hv:bx s wd v=some cs)(hR:Rel w0 ρ s w)(hx:aE w0 ρ v x):
  (x=.slice none 0 0∧cs=[])∨∃ a len cap xs,x=.slice (some a) len cap∧tT v=some len∧xs.length=len*wd∧(∀ j u,xs[j]? =some u→w.cell? (a.add j)=some u)∧aX w0 ρ cs xs:=by
 unfold bx at hv;split at hv
 ·simp at hv;subst hv;cases hx;exact .inl ⟨rfl,rfl⟩
 ·simp at hv;subst hv;cases hx;exact .inr ⟨_,0,0,[],rfl,rfl,by simp,fun j u hj=>by simp at hj,.nil⟩
 ·rename_i b off len cap sz ex;cases hs:s.row b with
  |none=>simp[hs]at hv
  |some row=>
   simp only[hs]at hv;cases hb:(Nat.beq sz wd&&Nat.ble (off+len*sz) row.length)with
   |false=>simp[hb]at hv
   |true=>
    simp only[hb,cond_true,ay]at hv;subst hv;simp only[cm]at hb;have b1:sz=wd:=bS hb.1;have b2:=ja hb.2;subst b1;cases hx with
    |slice hρ h1 h2 h3 h4=>
     obtain⟨xs,g1,g2,g3⟩:=(hR.cells hρ hs).list off (len*sz) b2;rename_i r o lim a cap';refine .inr ⟨a,len,cap',xs,rfl,rfl,g1,fun j u hj=> ?_,g3⟩;rcases h4 with h4|⟨rfl,_⟩
     ·have:len=0:=by omega
      subst this;have:xs=[]:=pQ (by rw[g1];simp);subst this;simp at hj
     ·rw[iL];exact g2 j u hj
 ·rename_i row off len sz;cases hb:(Nat.beq sz wd&&Nat.ble (off+len*sz) row.length)with
  |false=>simp[hb]at hv
  |true=>
   simp only[hb,cond_true,ay]at hv;subst hv;simp only[cm]at hb;have b1:sz=wd:=bS hb.1;have b2:=ja hb.2;subst b1;cases hx with
   |aj c hr hc hcv h3 h4=>
    obtain⟨xs,g1,g2,g3⟩:=(hR.VX hr hc hcv).list off (len*sz) b2;rename_i r o a cap';refine .inr ⟨a,len,cap',xs,rfl,rfl,g1,fun j u hj=> ?_,g3⟩;rcases h4 with h4|rfl
    ·have:len=0:=by omega
     subst this;have:xs=[]:=pQ (by rw[g1];simp);subst this;simp at hj
    ·rw[iL];exact g2 j u hj
 ·simp at hv
theorem HN{v:V}{x:Value}{cs:List V}{bs:List UInt8}(hv:bx s 1 v=some cs)(hb:bytesOf cs=some bs)(hR:Rel w0 ρ s w)(hx:aE w0 ρ v x):
  ∃ y,(Conv.bytesToString x).run P w=.ok (.string y) w∧y.data.toList=bs:=by
 rcases fY hv hR hx with⟨rfl,rfl⟩|⟨a,len,cap,xs,rfl,_,g1,g2,g3⟩
 ·simp[bytesOf]at hb;subst hb;exact⟨.empty,by simp[Conv.bytesToString],rfl⟩
 ·obtain⟨ns,rfl,h2⟩:=Cv hb g3;have hl:(loadCells a len).run P w=.ok (ns.map (Value.int .u8)).toArray w:=by
   have:=run_loadCells_list (P:=P) w a (ns.map (Value.int .u8)) g2;rwa[g1,Nat.mul_one]at this
  exact⟨_,run_bytesToString w a len cap ns hl,by rw[foldl_push,h2];rfl⟩
theorem ry{kk:fD}{k:V}{y:Value}{t:TypeId}(hk:rC P t kk)(hy:aE w0 ρ k y):∀ {es:List ME} {es' :List MapEntry} {i:Nat} {r:Option (Nat×V)},nM kk k es i=some r→es.length=es'.length→(∀ j (h:j<es.length) (h' :j<es'.length),aE w0 ρ es[j].key es'[j].key∧aE w0 ρ es[j].val es'[j].val∧es[j].born=es'[j].born)→
  ∃ D r',P.underlying t=some D∧Instr.findNow D y es' i=some r'∧(match r,r' with|none,none=>True|some (j,v),some (j',v')=>j=j'∧aE w0 ρ v v'∧i≤j∧∃ h:j - i<es'.length,Instr.sameNow D y (es'[j - i]).key=some true|_,_=>False):=by
 have hD:∃ D,P.underlying t=some D∧∀ {a b:V} {x z:Value} {q:Bool},jN kk a b=some q→aE w0 ρ a x→aE w0 ρ b z→Instr.sameNow D x z=some q:=by
  cases kk<;>simp only[rC]at hk<;>try exact hk.elim
  ·refine⟨_,hk,fun {a b x z q} h hx hz=> ?_⟩;rcases oY h with⟨p,q,hh,rfl,rfl,rfl⟩|⟨j,p,q,hh,rfl,rfl,rfl⟩|⟨p,q,hh,rfl,rfl,rfl⟩<;>try cases hh
   rw[hx.gB,hz.gB];rfl
  ·obtain⟨j,hj⟩:=hk;refine⟨_,hj,fun {a b x z q} h hx hz=> ?_⟩;rcases oY h with⟨p,q,hh,rfl,rfl,rfl⟩|⟨j,p,q,hh,rfl,rfl,rfl⟩|⟨p,q,hh,rfl,rfl,rfl⟩<;>try cases hh
   rw[hx.fN,hz.fN];simp[Instr.sameNow]
  ·refine⟨_,hk,fun {a b x z q} h hx hz=> ?_⟩;rcases oY h with⟨p,q,hh,rfl,rfl,rfl⟩|⟨j,p,q,hh,rfl,rfl,rfl⟩|⟨p,q,hh,rfl,rfl,rfl⟩<;>try cases hh
   obtain⟨p',rfl,hp⟩:=hx.gd;obtain⟨q',rfl,hq⟩:=hz.gd;simp only[Instr.sameNow];rw[beq_toListBytes,cu,cu,hp,hq]
 obtain⟨D,hD1,hD2⟩:=hD;intro es
 induction es with
 |nil=>
  intro es' i r h hl _;have:es' =[]:=pQ hl.symm;subst this;simp[nM]at h;subst h;exact⟨D,none,hD1,rfl,trivial⟩
 |cons m es ih=>
  intro es' i r h hl hes;cases es' with
  |nil=>simp at hl
  |cons m' es' =>
   have hm:=hes 0 (by simp) (by simp);simp only[List.getElem_cons_zero]at hm;simp only[nM]at h;cases hp:jN kk k m.key with
   |none=>simp[hp]at h
   |some q=>
    have hs:=hD2 hp hy hm.1;cases q with
    |true=>
     simp[hp]at h;subst h;exact⟨D,some (i,m'.val),hD1,by simp[Instr.findNow,hs],rfl,hm.2.1,aM _,by simp,by simpa using hs⟩
    |false=>
     simp only[hp]at h;obtain⟨D',r',e1,e2,e3⟩:=ih h (by simpa using hl) fun j h1 h2=>by
      have:=hes (j+1) (by simpa using h1) (by simpa using h2);simpa using this
     rw[hD1]at e1;cases e1;refine⟨D,r',hD1,by simp[Instr.findNow,hs,e2],?_⟩;cases r with
     |none=>cases r' <;>simp_all
     |some jv=>
      obtain⟨j,v⟩:=jv;cases r' with
      |none=>simp at e3
      |some jv' =>
       obtain⟨j',v'⟩:=jv';obtain⟨a1,a2,a3,a4,a5⟩:=e3;refine⟨a1,a2,by omega,by simp;omega,?_⟩;have:j - i=(j - (i+1))+1:=by omega
       simp only[this,List.getElem_cons_succ];exact a5
theorem ig{kk:fD}{k:V}{y:Value}{t:TypeId}(hk:rC P t kk)(hp:plainKey kk k=true)(hy:aE w0 ρ k y)(b:Bool)(n:Nat)(w:World):(Instr.checkKey b (n+1) t y).run P w=.ok () w:=by
 cases kk<;>simp only[rC]at hk<;>try exact hk.elim
 ·cases k<;>simp[plainKey]at hp;rw[hy.gB];simp[Instr.checkKey,run_underlying hk]
 ·obtain⟨j,hj⟩:=hk;cases k<;>simp[plainKey]at hp;rw[hy.fN];simp[Instr.checkKey,run_underlying hj]
 ·cases k<;>simp[plainKey]at hp;obtain⟨p,rfl,_⟩:=hy.gd;simp[Instr.checkKey,run_underlying hk]
theorem sv{t:TypeId}{kk:fD}(h:mh P t=some kk):rC P t kk:=by
 unfold mh at h;split at h<;>simp at h<;>subst h
 ·assumption
 ·exact⟨_,by assumption⟩
 ·assumption
theorem Rel.Kq(hR:Rel w0 ρ s w){m r o lim:Nat}{es:List ME}{clock:Nat}(hρ:ρ m=some (r,o,lim))(hs:s.get m=some (.map es clock)):
  ∃ es',w.heap[r]? =some (.map es' clock)∧es.length=es'.size∧∀ i (h:i<es.length) (h' :i<es'.size),aE w0 ρ es[i].key es'[i].key∧aE w0 ρ es[i].val es'[i].val∧es[i].born=es'[i].born:=by
 have:=hR.ob m r o lim hρ;rw[hs]at this;exact this
theorem run_getObj_map{r:Nat}{es' :Array MapEntry}{clock:Nat}(h:w.heap[r]? =some (.map es' clock)):(getObj r).run P w=.ok (.map es' clock) w:=by
 simp[getObj,Sem.run,h]
theorem Ev{t kt et:TypeId}{kk:fD}{z:V}{ok:Bool}{m k:V}{x y:Value}{v:V}(hu:P.underlying t=some (.map kt et))(hz:zeroOf P et=some z)(hkk:mh P kt=some kk)
  (hR:Rel w0 ρ s w) (hm:aE w0 ρ m x) (hk:aE w0 ρ k y) (hv:qu s kk z ok m k=some v):
  ∃ u,(Instr.lookup t x y ok).run P w=.ok u w∧aE w0 ρ v u:=by
 have hK:=sv hkk;obtain⟨zx,hzr,hzv⟩:=lR hz;simp only[qu]at hv;have fin:∀ {a:V} {a' :Value} (b:Bool),aE w0 ρ a a'→aE w0 ρ (if ok then .aP [a,.bool b]else a) (if ok then .tuple #[a',.bool b]else a'):=fun {a a'} b ha=>by
  cases ok
  ·simpa using ha
  ·simpa using aE.lC (aX.cons ha (aX.cons (.bool b) .nil))
 split at hv
 ·cases hp:plainKey kk k with
  |false=>simp[hp]at hv
  |true=>
   simp[hp]at hv;cases hm;refine⟨if ok then .tuple #[zx,.bool false]else zx,?_,by rw[←hv];exact fin false (hzv w0 ρ)⟩;have hc:=ig (P:=P) hK hp hk true 9999 w;have hf:(Instr.findKey kt y []).run P w=.ok none w:=by
    obtain⟨D,r',e1,e2,e3⟩:=ry (P:=P) (es:=[]) (es' :=[]) (i:=0) hK hk rfl rfl (fun j h=>by simp at h);simp[Instr.findKey,run_underlying e1,Instr.findNow]
   simp[Instr.lookup,run_underlying hu,hc,hf,hzr]
 ·rename_i mm;cases hs:s.get mm with
  |none=>simp[hs]at hv
  |some ob=>
   cases ob<;>simp only[hs,reduceCtorEq]at hv;rename_i es clock;cases hp:plainKey kk k with
   |false=>simp[hp]at hv
   |true=>
    simp only[hp,cond_true]at hv;cases hm with
    |map hρ=>
     rename_i r o lim;obtain⟨es',g1,g2,g3⟩:=hR.Kq hρ hs;have hc:=ig (P:=P) hK hp hk es'.isEmpty 9999 w;cases hf:nM kk k es 0 with
     |none=>simp[hf]at hv
     |some res=>
      obtain⟨D,r',e1,e2,e3⟩:=ry (P:=P) (es:=es) (es' :=es'.toList) (i:=0) hK hk hf (by simpa using g2) (fun j h h' =>by simpa using g3 j h (by simpa using h'));have hfk:(Instr.findKey kt y es'.toList).run P w=.ok r' w:=by simp[Instr.findKey,run_underlying e1,e2]
      simp only[hf]at hv;cases res with
      |none=>
       cases r' with
       |some _=>simp at e3
       |none=>
        simp only[ay]at hv;refine⟨if ok then .tuple #[zx,.bool false]else zx,?_,by rw[←hv];exact fin false (hzv w0 ρ)⟩;simp[Instr.lookup,run_underlying hu,run_getObj_map g1,hc,hfk,hzr]
      |some jv=>
       obtain⟨j,u⟩:=jv;cases r' with
       |none=>simp at e3
       |some jv' =>
        obtain⟨j',u'⟩:=jv';simp only[ay]at hv;refine⟨if ok then .tuple #[u',.bool true]else u',?_,by rw[←hv];exact fin true e3.2.1⟩;simp[Instr.lookup,run_underlying hu,run_getObj_map g1,hc,hfk]
 ·simp at hv
end
end Go.RE
namespace Go.RE
section
variable{P:Program}{w0:World}{ρ:Ren}{s:St}{w:World}{env:PT V}{e:Operand→Value}
theorem K7{op:BinOp}{t:TypeId}{x y:Operand}{a b v:V}{u z:Value}(h:cU op (Qp P op t x y) a b=some v)(hu:aE w0 ρ a u)(hz:aE w0 ρ b z)(w:World):
  ∃ r,((do eqGuard op t x y u z;Go.binOp op t u z):Sem Value).run P w=.ok r w∧aE w0 ρ v r:=by
 have plain:wj u z=true→(∃ r,(Go.binOp op t u z).run P w=.ok r w∧aE w0 ρ v r)→∃ r,((do eqGuard op t x y u z;Go.binOp op t u z):Sem Value).run P w=.ok r w∧aE w0 ρ v r:=
  fun hg ⟨r,h1,h2⟩=>⟨r,by simp[aZ hg,h1],h2⟩
 have cmp:∀ (neg:Bool),op=(if neg then .neq else .eql)→(∀ k n,a≠.int k n)→(∀ l,a≠.str l)→(∃ r,Ga (Qp P op t x y) a b=some r∧V.bool (if neg then !r else r)=v)→
   ∃ r,((do eqGuard op t x y u z;Go.binOp op t u z):Sem Value).run P w=.ok r w∧aE w0 ρ v r:=fun neg hop ha1 ha2 hh=>by
  obtain⟨r,hq,rfl⟩:=hh
  ·obtain⟨g1,g2⟩:=PX (op:=op) (qdO (P:=P) op t x y) hq hu hz w;refine⟨.bool (if neg then !r else r),?_,.bool _⟩;simp only[Sem.run_bind,g2,Result.andThen_ok];have hnum:∀ (p q:Value),(∀ k n,p≠.int k n)→(∀ s,p≠.string s)→(∀ k n,p≠.float k n)→(∀ k n m,p≠.complex k n m)→(Go.binOp .eql t p q=do pure (.bool (←Op.equal t p q)))∧(Go.binOp .neq t p q=do pure (.bool (!(←Op.equal t p q)))):=fun p q n1 n2 n3 n4=>by
    cases p<;>first
     |exact absurd rfl (n1 _ _)
     |exact absurd rfl (n2 _)
     |exact absurd rfl (n3 _ _)
     |exact absurd rfl (n4 _ _ _)
     |exact⟨rfl,rfl⟩
   have hp:=hnum u z (by cases hu<;>simp at ha1⊢) (by cases hu<;>simp at ha2⊢) (by cases hu<;>simp) (by cases hu<;>simp);cases neg
   ·simp only[mF,if_false]at hop⊢;subst hop;rw[hp.1];simp[g1]
   ·simp only[if_true]at hop⊢;subst hop;rw[hp.2];simp[g1]
 unfold cU at h;split at h
 ·cases hu;cases hz;exact plain rfl (uR t (.inl rfl) h w)
 ·cases hu;cases hz;exact plain rfl (uR t (.inr rfl) h w)
 ·split at h
  ·rename_i hkj;subst hkj;cases hu;cases hz;exact plain rfl (Ef t h w)
  ·simp at h
 ·cases hu with
  |str hx=>
   cases hz with
   |str hy=>
    refine plain rfl ?_;have:∀ p q,Go.binOp op t (.string p) (.string q)=Op.stringOp op p q:=fun p q=>by cases op<;>rfl
    rw[this];exact EE hx hy h w
 ·rename_i h1 h2 h3 h4;refine cmp false rfl ?_ ?_ (by
   cases hq:Ga (Qp P .eql t x y) a b with
   |none=>rw[hq]at h;simp at h
   |some r=>rw[hq]at h;exact⟨r,rfl,by simpa using h⟩)
  ·rintro k n rfl;cases b<;>first
    |(simp[Ga]at h;done)
    |exact absurd rfl (h3 _ _ _ _ rfl)
    |(revert h;cases Qp P .eql t x y<;>simp[Ga])
  ·rintro l rfl;revert h;cases Qp P .eql t x y<;>simp[Ga]
 ·rename_i h1 h2 h3 h4 h5;refine cmp true rfl ?_ ?_ (by
   cases hq:Ga (Qp P .neq t x y) a b with
   |none=>rw[hq]at h;simp at h
   |some r=>rw[hq]at h;exact⟨r,rfl,by simpa using h⟩)
  ·rintro k n rfl;revert h;cases Qp P .neq t x y<;>simp[Ga]
  ·rintro l rfl;revert h;cases Qp P .neq t x y<;>simp[Ga]
 ·simp at h
theorem O1{op:UnOp}{a v:V}{u:Value}(h:unV op a=some v)(hu:aE w0 ρ a u)(w:World):∃ r,(Op.unary op u).run P w=.ok r w∧aE w0 ρ v r:=by
 unfold unV at h;split at h
 ·simp only[ay]at h;subst h;cases hu;exact⟨_,rfl,by rw[gy];exact .int _ _⟩
 ·simp only[ay]at h;subst h;cases hu;exact⟨_,rfl,.bool _⟩
 ·cases hu;simp only[kW,gy,ay]at h;subst h;exact⟨_,rfl,.int _ _⟩
 ·simp at h
theorem LD{a b c:V}{x y:Value}(h:Av a b=some c)(hx:aE w0 ρ a x)(hy:aE w0 ρ b y)(w:World):∃ z,(Builtin.max2 x y).run P w=.ok z w∧aE w0 ρ c z:=by
 unfold Av at h;split at h
 ·split at h
  ·simp only[ay]at h;subst h;cases hx;cases hy;exact⟨_,rfl,.int _ _⟩
  ·simp at h
 ·simp only[ay]at h;subst h;obtain⟨p,rfl,hp⟩:=hx.gd;obtain⟨q,rfl,hq⟩:=hy.gd;refine⟨.string (if Op.bytesLess p.toList q.toList then q else p),?_,?_⟩
  ·simp only[Builtin.max2,Op.stringOp,Sem.run_bind,Sem.run_pure,Result.andThen_ok,asBool];cases Op.bytesLess p.toList q.toList<;>simp
  ·rw[cu,cu,hp,hq];split
   ·exact .str hq
   ·exact .str hp
 ·simp at h
theorem LF{a b c:V}{x y:Value}(h:zA a b=some c)(hx:aE w0 ρ a x)(hy:aE w0 ρ b y)(w:World):∃ z,(Builtin.min2 x y).run P w=.ok z w∧aE w0 ρ c z:=by
 unfold zA at h;split at h
 ·split at h
  ·simp only[ay]at h;subst h;cases hx;cases hy;exact⟨_,rfl,.int _ _⟩
  ·simp at h
 ·simp only[ay]at h;subst h;obtain⟨p,rfl,hp⟩:=hx.gd;obtain⟨q,rfl,hq⟩:=hy.gd;refine⟨.string (if(Op.bytesLess p.toList q.toList||p.toList==q.toList)then p else q),?_,?_⟩
  ·simp only[Builtin.min2,Op.stringOp,Sem.run_bind,Sem.run_pure,Result.andThen_ok,asBool]
   first|done|(cases(Op.bytesLess p.toList q.toList||p.toList==q.toList)<;>simp)
  ·rw[cu,cu,hp,hq];split
   ·exact .str hp
   ·exact .str hq
 ·simp at h
theorem xN{f:V→V→Option V}{g:Value→Value→Sem Value}(hf:∀ {a b c x y},f a b=some c→aE w0 ρ a x→aE w0 ρ b y→∀ w:World,∃ z,(g x y).run P w=.ok z w∧aE w0 ρ c z):
  ∀ {l:List V} {l' :List Value} {a c:V} {x:Value},xR f a l=some c→aE w0 ρ a x→aX w0 ρ l l'→∀ w:World,∃ z,(l'.foldlM g x).run P w=.ok z w∧aE w0 ρ c z:=by
 intro l
 induction l with
 |nil=>intro l' a c x h hx hl w;rw[hl.eF];simp[xR]at h;subst h;exact⟨x,by simp,hx⟩
 |cons b l ih=>
  intro l' a c x h hx hl w;obtain⟨y,ys,rfl,hy,hys⟩:=hl.cq;simp only[xR]at h;cases hh:f a b with
  |none=>simp[hh]at h
  |some d=>
   simp only[hh]at h;obtain⟨z,z1,z2⟩:=hf hh hx hy w;obtain⟨z',z3,z4⟩:=ih h z2 hys w;exact⟨z',by simp[List.foldlM_cons,z1,z3],z4⟩
theorem FV{t:TypeId}(h:spread P t=some none)(w:World):(isAgg t).run P w=.ok false w:=by
 unfold spread at h;split at h
 ·split at h<;>simp at h
 ·split at h<;>simp at h
 ·rename_i d h1 h2 hu;unfold isAgg;rw[Sem.run_bind,run_underlying hu w];cases d<;>simp_all
 ·simp at h
theorem HQ{t:TypeId}{n:Nat}(h:spread P t=some (some n))(w:World):(isAgg t).run P w=.ok true w∧(sizeOf t).run P w=.ok n w:=by
 unfold spread at h;split at h
 ·rename_i fs hu;split at h<;>simp at h;rename_i m hm;subst h;exact⟨by unfold isAgg;rw[Sem.run_bind,run_underlying hu w];rfl,dg hm w⟩
 ·rename_i k el hu;split at h<;>simp at h;rename_i m hm;subst h;exact⟨by unfold isAgg;rw[Sem.run_bind,run_underlying hu w];rfl,dg hm w⟩
 ·simp at h
 ·simp at h
theorem JM{t:TypeId}{n:Option Nat}{cs:List V}{cs' :Array Value}{off:Nat}{v:V}(hn:spread P t=some n)(hr:aX w0 ρ cs cs'.toList)(hv:ei n cs off=some v)(w:World):
  ∃ x,(part t cs' off).run P w=.ok x w∧aE w0 ρ v x:=by
 cases n with
 |none=>
  simp only[ei]at hv;obtain⟨x,h1,h2⟩:=hr.get hv;refine⟨x,?_,h2⟩;have h1' :cs'[off]? =some x:=by simpa using h1
  simp[part,FV hn,h1']
 |some n=>
  simp only[ei]at hv;cases hb:Nat.ble (off+n) cs.length with
  |false=>simp[hb]at hv
  |true=>
   simp only[hb,cond_true,ay]at hv;subst hv;obtain⟨g1,g2⟩:=HQ hn w;refine⟨.agg (cs'.extract off (off+n)),by simp[part,g1,g2],?_⟩;have hh:=aE.DF ((hr.drop off).take n);have:(List.take n (List.drop off cs'.toList)).toArray=cs'.extract off (off+n):=by
    apply Array.ext';simp[List.take_drop]
   rwa[this]at hh
theorem Cl(b:ByteArray)(l h:Nat):(b.extract l h).data.toList=(b.data.toList.take h).drop l:=by
 rw[ByteArray.data_extract];simp[List.drop_take]
theorem YT(b:ByteArray)(i:Nat):b[i]? =b.data.toList[i]? :=by
 rw[Array.getElem?_toList];by_cases h:i<b.size
 ·rw[getElem?_pos b i h,getElem?_pos b.data i h];rfl
 ·rw[getElem?_neg b i h,getElem?_neg b.data i h]
theorem qmB{b:Builtin}{ts:List TypeId}{xs:List bB}{so:ga}(h:kZ P b ts xs=.s so):
  (b=.len∧∃ t ts' x xs',ts=t::ts'∧xs=x::xs'∧((P.underlying t=some .string∧so=.len 0 x)∨((∃ el,P.underlying t=some (.slice el))∧so=.len 1 x)∨((∃ k el,P.underlying t=some (.map k el))∧so=.len 2 x)))∨
  (b=.cap∧∃ t ts' x xs',ts=t::ts'∧xs=x::xs'∧(∃ el,P.underlying t=some (.slice el))∧so=.cap x)∨(b=.max∧so=.max xs)∨(b=.min∧so=.min xs):=by
 unfold kZ at h;split at h
 ·rename_i t ts' x xs';split at h<;>cases h
  ·exact .inl ⟨rfl,t,ts',x,xs',rfl,rfl,.inl ⟨by assumption,rfl⟩⟩
  ·exact .inl ⟨rfl,t,ts',x,xs',rfl,rfl,.inr (.inl ⟨⟨_,by assumption⟩,rfl⟩)⟩
  ·exact .inl ⟨rfl,t,ts',x,xs',rfl,rfl,.inr (.inr ⟨⟨_,_,by assumption⟩,rfl⟩)⟩
 ·rename_i t ts' x xs';split at h<;>cases h;exact .inr (.inl ⟨rfl,t,ts',x,xs',rfl,rfl,⟨_,by assumption⟩,rfl⟩)
 ·cases h;exact .inr (.inr (.inl ⟨rfl,rfl⟩))
 ·cases h;exact .inr (.inr (.inr ⟨rfl,rfl⟩))
 ·split at h
  ·split at h
   ·unfold cond at h;split at h<;>cases h
   ·unfold cond at h;split at h<;>cases h
   ·cases h
  ·cases h
 ·split at h
  ·split at h<;>cases h
  ·cases h
 ·split at h
  ·split at h<;>cases h
  ·cases h
 ·cases h
theorem sF{l:List Operand}{o:bB}{os:List bB}(h:nI l=some (o::os)):∃ x xs,l=x::xs∧cO x=some o∧nI xs=some os:=by
 cases l with
 |nil=>simp[nI]at h
 |cons x xs=>
  simp only[nI]at h;cases hx:cO x with
  |none=>simp[hx]at h
  |some o' =>
   cases hxs:nI xs with
   |none=>simp[hx,hxs]at h
   |some os' =>simp[hx,hxs]at h;obtain⟨rfl,rfl⟩:=h;exact⟨x,xs,rfl,hx,hxs⟩
theorem Rel.SY(h:Rel w0 ρ s w){b r o lim:Nat}{cs:List V}(e:ρ b=some (r,o,lim))(hs:s.row b=some cs):o+cs.length≤lim:=by
 have ho:=h.ob b r o lim e;unfold St.row at hs;split at hs
 ·rename_i cs' hg;simp at hs;subst hs;rw[hg]at ho;obtain⟨c,t,fr,h1,h2,h3,h4,h5⟩:=ho;exact h3
 ·simp at hs
theorem RF:Nat.beq 0 0=true:=rfl
theorem WJ:Nat.beq 0 1=false:=rfl
theorem VB:Nat.beq 0 2=false:=rfl
theorem RZ:Nat.beq 1 0=false:=rfl
theorem Qw:Nat.beq 1 1=true:=rfl
theorem Sl:Nat.beq 1 2=false:=rfl
theorem RV:Nat.beq 2 0=false:=rfl
theorem Xy:Nat.beq 2 1=false:=rfl
theorem WT:Nat.beq 2 2=true:=rfl
theorem SH{w0:World}{ρ:Ren}{n:Nat}:∀ (a:List ME) (b:List MapEntry),a.length=b.length→
  (∀ i (h:i<a.length) (h' :i<b.length),aE w0 ρ a[i].key b[i].key∧aE w0 ρ a[i].val b[i].val∧a[i].born=b[i].born)→∀ {e:ME},a.find? (fun e=>Nat.beq e.born n)=some e→
  ∃ e',b.find? (fun e=>e.born==n)=some e'∧aE w0 ρ e.key e'.key∧aE w0 ρ e.val e'.val:=by
 intro a
 induction a with
 |nil=>intro b _ _ e h;simp at h
 |cons x a ih=>
  intro b hl hr e h;cases b with
  |nil=>simp at hl
  |cons y b=>
   have h0:=hr 0 (by simp) (by simp);simp only[List.getElem_cons_zero]at h0;rw[List.find?_cons]at h⊢;have hb:Nat.beq x.born n=(y.born==n):=by
    rw[h0.2.2,Bool.eq_iff_iff,Nat.beq_eq,beq_iff_eq]
   rw[hb]at h;cases hq:(y.born==n)with
   |true=>rw[hq]at h;simp at h;subst h;exact⟨y,rfl,h0.1,h0.2.1⟩
   |false=>
    rw[hq]at h;exact ih b (by simpa using hl) (fun i h1 h2=>hr (i+1) (by simpa using h1) (by simpa using h2)) h
theorem C1{o:Oper}{so:ga}{v:V}(hc:cop P o.op=.s so)(hv:cX env s so=some v)(hR:Rel w0 ρ s w)(H:∀ x∈o.op.operands,kV w0 ρ env e x):Ut P w0 ρ w e o v:=by
 obtain⟨dst,op,type,pos,after,guard⟩:=o;simp only at hc H;cases op with
 |move x=>
  simp only[cop]at hc;split at hc<;>cases hc;rename_i o ho;exact⟨e x,rfl,H x (by simp[Op.operands]) o v ho hv⟩
 |assign x=>
  simp only[cop]at hc;split at hc<;>cases hc;rename_i o ho;exact⟨e x,rfl,H x (by simp[Op.operands]) o v ho hv⟩
 |pick c a b=>
  simp only[cop]at hc;split at hc<;>cases hc;rename_i co ao bo hco hao hbo;simp only[cX]at hv;split at hv
  ·rename_i hcv;have h1:=H c (by simp[Op.operands]) co _ hco hcv;refine⟨e a,?_,H a (by simp[Op.operands]) ao v hao hv⟩;simp[execOp,h1.gB,asBool]
  ·rename_i hcv;have h1:=H c (by simp[Op.operands]) co _ hco hcv;refine⟨e b,?_,H b (by simp[Op.operands]) bo v hbo hv⟩;simp[execOp,h1.gB,asBool]
  ·simp at hv
 |load t a=>
  simp only[cop]at hc;split at hc<;>cases hc;rename_i n ao hn hao;exact bM rfl (IY hn hao hv hR (H a (by simp[Op.operands])))
 |nilCheck x=>
  simp only[cop]at hc;split at hc<;>cases hc;rename_i xo hxo;simp only[cX]at hv;split at hv<;>try (simp at hv;done)
  rename_i h1 h2 h3;have hx:=H x (by simp[Op.operands]) xo v hxo hv;refine⟨e x,?_,hx⟩;simp only[execOp];generalize e x=ex at hx;cases hx<;>first|rfl|exact absurd hv h1|exact absurd hv h2|exact absurd hv h3
 |binOp op t x y yt=>
  simp only[cop]at hc;split at hc<;>cases hc;rename_i a b ha hb;simp only[cX]at hv;split at hv<;>try (simp at hv;done)
  rename_i p q hp hq;exact bM rfl (K7 hv (H x (by simp[Op.operands]) a p ha hp) (H y (by simp[Op.operands]) b q hb hq) w)
 |unOp op t x=>
  simp only[cop]at hc;split at hc<;>cases hc;rename_i a ha;simp only[cX]at hv;split at hv<;>try (simp at hv;done)
  rename_i p hp;exact bM rfl (O1 hv (H x (by simp[Op.operands]) a p ha hp) w)
 |convert src dst x=>
  simp only[cop]at hc;split at hc
  ·rename_i d k xo hs hd hxo;cases hc;simp only[cX]at hv;split at hv<;>try (simp at hv;done)
   rename_i k' n hn;simp only[ay]at hv;subst hv;have hx:=(H x (by simp[Op.operands]) xo _ hxo hn).fN;refine bM rfl ⟨.int k (k.wrap n),?_,by rw[gy];exact .int _ _⟩;rw[hx];simp[convert,run_underlying hs,run_underlying hd,Conv.intToInt]
  ·rename_i xo hs hd hxo;cases hc;simp only[cX]at hv;split at hv<;>try (simp at hv;done)
   rename_i b hb;simp only[ay]at hv;subst hv;have hx:=H x (by simp[Op.operands]) xo _ hxo hb;obtain⟨p,hp,hp2⟩:=hx.gd;refine bM rfl ⟨.string p,?_,.str hp2⟩;rw[hp];simp[convert,run_underlying hs,run_underlying hd]
  ·rename_i el xo hs hd hxo;cases hu8:Gn P el with
   |false=>simp[hu8]at hc
   |true=>
    simp only[hu8,cond_true,lH.s.injEq]at hc;subst hc;have he:P.underlying el=some (.int .u8):=by unfold Gn at hu8;split at hu8<;>simp_all
    simp only[cX]at hv;split at hv<;>try (simp at hv;done)
    rename_i u hu;cases hsc:bx s 1 u with
    |none=>simp[hsc]at hv
    |some cs=>
     cases hbs:bytesOf cs with
     |none=>simp[hsc,hbs]at hv
     |some bs=>
      simp only[hsc,hbs,ay]at hv;subst hv;have hx:=H x (by simp[Op.operands]) xo _ hxo hu;obtain⟨y,h1,h2⟩:=HN (P:=P) hsc hbs hR hx;refine bM rfl ⟨.string y,?_,.str h2⟩;have hsl:∃ a l c,e x=.slice a l c:=by
       rcases fY hsc hR hx with⟨h,_⟩|⟨a,l,c,_,h,_⟩
       ·exact⟨_,_,_,h⟩
       ·exact⟨_,_,_,h⟩
      obtain⟨a,l,c,hsl⟩:=hsl;rw[hsl]at h1⊢;rw[run_convert_bytes_string w src dst el a l c hs he hd];exact h1
  ·rename_i el xo hs hd hxo;cases hu8:Gn P el<;>simp[hu8]at hc
  ·cases hc
 |makeInterface t x=>
  simp only[cop]at hc;split at hc<;>cases hc;rename_i d xo h1 hu hxo;simp only[cX]at hv;split at hv<;>try (simp at hv;done)
  rename_i p hp;simp only[ay]at hv;subst hv;refine bM rfl ⟨.iface t (e x),?_,.iface (H x (by simp[Op.operands]) xo p hxo hp)⟩;simp only[Instr.makeInterface,Sem.run_bind,run_underlying hu,Result.andThen_ok];cases d<;>simp_all
 |makeFunc fn first captured=>
  cases fn<;>simp only[cop]at hc<;>try (cases hc;done)
  rename_i f;split at hc<;>cases hc;rename_i a b ha hb;simp only[cX]at hv;split at hv<;>try (simp at hv;done)
  rename_i p q hp hq;simp only[ay]at hv;subst hv;have h1:=pK ha hp fun x hx=>H x (by simp[Op.operands];exact .inl (by simpa using hx));have h2:=pK hb hq fun x hx=>H x (by simp[Op.operands];exact .inr (by simpa using hx));refine bM rfl ⟨.func (.func f) (first.map e) (captured.map e),rfl,?_⟩;exact .func (by simpa using h1.1) (by simpa using h2.1) (fun i g1 g2=>by have:=h1.2 i g1 (by simpa using g2);simpa[List.getElem_map]using this) (fun i g1 g2=>by have:=h2.2 i g1 (by simpa using g2);simpa[List.getElem_map]using this)
 |build t parts=>
  simp only[cop]at hc;split at hc<;>try (cases hc;done)
  rename_i fs hu;split at hc<;>try (cases hc;done)
  rename_i z ps hz hps;split at hc<;>cases hc;rename_i l hl;simp only[cX]at hv;cases hf:pY env z.cells l with
  |none=>simp[hf]at hv
  |some out=>
   simp only[hf,ay]at hv;subst hv;have:=HF (P:=P) (e:=e) hu hz hps hl hf (fun p hp=>H p.2 (by simp[Op.operands];exact⟨p.1,by simpa using hp⟩)) w;exact bM rfl (by simpa using this)
 |slice t x lo hi mx=>
  simp only[cop]at hc;have hx:=H x (by simp[Op.operands]);have hlo:∀ y,lo=some y→kV w0 ρ env e y:=fun y hy=>H y (by simp[Op.operands,hy]);have hhi:∀ y,hi=some y→kV w0 ρ env e y:=fun y hy=>H y (by simp[Op.operands,hy]);have hmx:∀ y,mx=some y→kV w0 ρ env e y:=fun y hy=>H y (by simp[Op.operands,hy]);split at hc
  ·rename_i xo lo' hi' hu hxo e1 e2 e3;cases hc;have hm:mx=none:=by
    cases mx with
    |none=>rfl
    |some y=>simp only[oe]at e3;split at e3<;>simp at e3
   subst hm;simp only[cX]at hv;split at hv<;>try (simp at hv;done)
   rename_i b hb;cases n2:aF env hi' b.length b.length with
   |none=>simp[n2]at hv
   |some h=>
    cases n1:aF env lo' 0 h with
    |none=>simp[n2,n1]at hv
    |some l=>
     simp only[n2,n1,ay]at hv;subst hv;obtain⟨p,hp,hp2⟩:=(hx xo _ hxo hb).gd;have hsz:p.size=b.length:=by rw[←hp2];simp
     have hbd:=dN (P:=P) (isSlice:=false) (len:=b.length) (cap:=b.length) (cap' :=b.length) (m:=b.length) e1 e2 (show oe none=some none from rfl) (by simp) (by simp[aF]) n2 n1 (aM _) hlo hhi (by simp) w;refine bM rfl ⟨.string (p.extract l h),?_,.str (by rw[Cl,hp2])⟩;simp only[Option.map_none]at hbd;simp only[Instr.sliceAt,Sem.run_bind,run_underlying hu,Result.andThen_ok,Instr.slice,hp,Option.map_none,Option.isSome_none,mF,if_false,hsz,hbd];rfl
  ·rename_i el xo lo' hi' mx' hu hxo e1 e2 e3;split at hc<;>try (cases hc;done)
   rename_i sz hsz;have hmxe:mx'.isSome=mx.isSome:=by
    cases mx with
    |none=>simp[oe]at e3;subst e3;rfl
    |some y=>simp only[oe]at e3;split at e3<;>simp at e3;subst e3;rfl
   have hhie:hi'.isSome=hi.isSome:=by
    cases hi with
    |none=>simp[oe]at e2;subst e2;rfl
    |some y=>simp only[oe]at e2;split at e2<;>simp at e2;subst e2;rfl
   rw[hmxe,hhie]at hc;cases hm:(mx.isSome&& !hi.isSome)with
   |true=>rw[hm]at hc;simp at hc
   |false=>
    rw[hm]at hc;simp only[cond_false,lH.s.injEq]at hc;subst hc;have hm' :mx.isSome=true→hi.isSome=true:=fun h=>by simpa[h]using hm
    have hrun:∀ {l h m len cap' :Nat} {a:Option Addr},(Instr.sliceBounds true len cap' (lo.map e) (hi.map e) (mx.map e)).run P w=.ok (l,h,m) w→
      (Instr.sliceAt t (.slice a len cap') (lo.map e) (hi.map e) (mx.map e)).run P w=.ok (.slice (if m=l then a else a.map (·.add (l*sz))) (h - l) (m - l)) w:=fun {l h m len cap' a} hb=>by
     simp only[Instr.sliceAt,Sem.run_bind,run_underlying hu,Result.andThen_ok,Instr.slice,hb,dg hsz];rfl
    simp only[cX]at hv;split at hv
    ·rename_i hxv;cases n3:aF env mx' 0 0 with
     |none=>simp[n3]at hv
     |some m=>
      cases n2:aF env hi' 0 m with
      |none=>simp[n3,n2]at hv
      |some h=>
       cases n1:aF env lo' 0 h with
       |none=>simp[n3,n2,n1]at hv
       |some l=>
        simp only[n3,n2,n1,ay]at hv;subst hv;have hbd:=dN (P:=P) (isSlice:=true) e1 e2 e3 hm' n3 n2 n1 (aM 0) hlo hhi hmx w;have b3:=c7 (aM 0) n3;have b2:h≤0:=by
         have:h≤m:=by
          cases hi' with
          |none=>simp[aF]at n2;omega
          |some o=>exact c7 (d:=0) (by omega) n2
         omega
        have b1:=c7 (kN h) n1;have hz:=hx xo _ hxo hxv;generalize hex:e x=ex at hz;cases hz;refine bM rfl ⟨.slice none 0 0,?_,.bu⟩;show(Instr.sliceAt t (e x) _ _ _).run P w=_;rw[hex,hrun hbd];have hl0:l=0:=by omega
        have hh0:h=0:=by omega
        have hm0:(if mx.isSome=true then m else 0)=0:=by split<;>omega
        simp[hl0,hh0,hm0]
    ·rename_i b off len cap sz' ex hxv;cases n3:aF env mx' cap cap with
     |none=>simp[n3]at hv
     |some m=>
      cases n2:aF env hi' len m with
      |none=>simp[n3,n2]at hv
      |some h=>
       cases n1:aF env lo' 0 h with
       |none=>simp[n3,n2,n1]at hv
       |some l=>
        simp only[n3,n2,n1]at hv;cases hbq:Nat.beq sz sz' with
        |false=>simp[hbq]at hv
        |true=>
         have hszz:sz=sz' :=bS hbq;subst hszz;simp only[hbq,cond_true]at hv;have hz:=hx xo _ hxo hxv;generalize hex:e x=ex' at hz;cases hz with
         |slice hρ h1 h2 h3 h4=>
          rename_i r o lim a cap';have hbd:=dN (P:=P) (isSlice:=true) e1 e2 e3 hm' n3 n2 n1 h1 hlo hhi hmx w;have b3:=c7 (aM cap) n3;have b1:=c7 (kN h) n1;have hm0:mx.isSome=false→m=cap:=fun hn=>by
           cases mx with
           |some _=>simp at hn
           |none=>simp[oe]at e3;subst e3;simp[aF]at n3;exact n3.symm
          have bh:h≤m:=by
           cases hi with
           |none=>
            simp[oe]at e2;subst e2;simp[aF]at n2;have:mx.isSome=false:=by cases hq:mx.isSome with|false=>rfl|true=>have:=hm' hq;simp at this
            rw[hm0 this];omega
           |some y=>
            simp only[oe]at e2;split at e2<;>simp at e2;subst e2;simp only[aF]at n2;split at n2
            ·exact zd n2
            ·simp at n2
          refine bM rfl ⟨_,by show(Instr.sliceAt t (e x) _ _ _).run P w=_;rw[hex];exact hrun hbd,?_⟩;generalize hM:(if mx.isSome=true then m else cap')=M;have hMm:m≤M∧M≤cap'∧(ex=true∨mx.isSome=true→M=m):=by
           subst hM;cases hq:mx.isSome with
           |true=>simp;omega
           |false=>
            have:=hm0 hq;simp;refine⟨by omega,fun hex=> ?_⟩;rw[h2 hex,this]
          have hsome:∃ a',(if M=l then some a else Option.map (fun x=>x.add (l*sz)) (some a))=some a'∧(M - l=0∨(a' =⟨r,o+(off+l*sz),none⟩∧o+(off+l*sz)+(M - l)*sz≤lim)):=by
           by_cases hml:M=l
           ·exact⟨a,by rw[if_pos hml],.inl (by omega)⟩
           ·refine⟨a.add (l*sz),by rw[if_neg hml];rfl,?_⟩;rcases h4 with h4|⟨rfl,h5⟩
            ·left;omega
            ·right;refine⟨by rw[iL];simp[Nat.add_assoc],?_⟩;have:l*sz+(M - l)*sz≤cap'*sz:=by rw[←Nat.add_mul];exact o7 _ (by omega)
             omega
          obtain⟨a',ha',hd⟩:=hsome;rw[ha'];cases hmz:(mx'.isSome&&Nat.beq m 0)with
          |true=>
           simp only[hmz,cond_true,ay]at hv;subst hv;simp only[cm]at hmz;have hm00:m=0:=bS hmz.2;have hM0:=hMm.2.2 (.inr (by rw[←hmxe];exact hmz.1));have z1:h - l=0:=by omega
           have z2:M - l=0:=by omega
           rw[z1,z2];exact .bQ
          |false=>
          simp only[hmz,cond_false,ay]at hv;subst hv;refine .slice hρ (by omega) (fun hx=> ?_) (by omega) hd;have:=hMm.2.2 (by
           rw[hmxe]at hx;cases ex
           ·simp at hx;exact .inr hx
           ·exact .inl rfl)
          omega
    ·rename_i hxv;cases n3:aF env mx' 0 0 with
     |none=>simp[n3]at hv
     |some m=>
      cases n2:aF env hi' 0 m with
      |none=>simp[n3,n2]at hv
      |some h=>
       cases n1:aF env lo' 0 h with
       |none=>simp[n3,n2,n1]at hv
       |some l=>
        simp only[n3,n2,n1,ay]at hv;subst hv;have hbd:=dN (P:=P) (isSlice:=true) e1 e2 e3 hm' n3 n2 n1 (aM 0) hlo hhi hmx w;have b3:=c7 (aM 0) n3;have b2:h≤0:=by
         have:h≤m:=by
          cases hi' with
          |none=>simp[aF]at n2;omega
          |some o=>exact c7 (d:=0) (by omega) n2
         omega
        have b1:=c7 (kN h) n1;have hz:=hx xo _ hxo hxv;generalize hex:e x=ex at hz;cases hz;rename_i a;refine bM rfl ⟨.slice (some a) 0 0,?_,.bQ⟩;show(Instr.sliceAt t (e x) _ _ _).run P w=_;rw[hex,hrun hbd];have hl0:l=0:=by omega
        have hh0:h=0:=by omega
        have hm0:(if mx.isSome=true then m else 0)=0:=by split<;>omega
        simp[hl0,hh0,hm0]
    ·rename_i row off len sz' hxv;cases n3:aF env mx' len len with
     |none=>simp[n3]at hv
     |some m=>
      cases n2:aF env hi' len m with
      |none=>simp[n3,n2]at hv
      |some h=>
       cases n1:aF env lo' 0 h with
       |none=>simp[n3,n2,n1]at hv
       |some l=>
        simp only[n3,n2,n1]at hv;cases hbq:Nat.beq sz sz' with
        |false=>simp[hbq]at hv
        |true=>
         have hszz:sz=sz' :=bS hbq;subst hszz;simp only[hbq,cond_true]at hv;have hz:=hx xo _ hxo hxv;generalize hex:e x=ex' at hz;cases hz with
         |aj c hr hc hcv h3 h4=>
          rename_i r o a cap';have hbd:=dN (P:=P) (isSlice:=true) e1 e2 e3 hm' n3 n2 n1 h3 hlo hhi hmx w;have b3:=c7 (aM len) n3;have b1:=c7 (kN h) n1;have hm0:mx.isSome=false→m=len:=fun hn=>by
           cases mx with
           |some _=>simp at hn
           |none=>simp[oe]at e3;subst e3;simp[aF]at n3;exact n3.symm
          have bh:h≤m:=by
           cases hi with
           |none=>
            simp[oe]at e2;subst e2;simp[aF]at n2;have:mx.isSome=false:=by cases hq:mx.isSome with|false=>rfl|true=>have:=hm' hq;simp at this
            rw[hm0 this];omega
           |some y=>
            simp only[oe]at e2;split at e2<;>simp at e2;subst e2;simp only[aF]at n2;split at n2
            ·exact zd n2
            ·simp at n2
          refine bM rfl ⟨_,by show(Instr.sliceAt t (e x) _ _ _).run P w=_;rw[hex];exact hrun hbd,?_⟩;generalize hM:(if mx.isSome=true then m else cap')=M;have hMm:m≤M∧M≤cap'∧(mx.isSome=true→M=m):=by
           subst hM;cases hq:mx.isSome with
           |true=>simp;omega
           |false=>
            have:=hm0 hq;simp;omega
          have hsome:∃ a',(if M=l then some a else Option.map (fun x=>x.add (l*sz)) (some a))=some a'∧(M - l=0∨a' =⟨r,o+(off+l*sz),none⟩):=by
           by_cases hml:M=l
           ·exact⟨a,by rw[if_pos hml],.inl (by omega)⟩
           ·refine⟨a.add (l*sz),by rw[if_neg hml];rfl,?_⟩;rcases h4 with h4|rfl
            ·left;omega
            ·right;rw[iL];simp[Nat.add_assoc]
          obtain⟨a',ha',hd⟩:=hsome;rw[ha'];cases hmz:(mx'.isSome&&Nat.beq m 0)with
          |true=>
           simp only[hmz,cond_true,ay]at hv;subst hv;simp only[cm]at hmz;have hm00:m=0:=bS hmz.2;have hM0:=hMm.2.2 (by rw[←hmxe];exact hmz.1);have z1:h - l=0:=by omega
           have z2:M - l=0:=by omega
           rw[z1,z2];exact .bQ
          |false=>
          simp only[hmz,cond_false,ay]at hv;subst hv;exact .aj c hr hc hcv (by omega) hd
    ·simp at hv
  ·rename_i n el xo lo' hi' hu hxo e1 e2 e3;split at hc<;>cases hc;rename_i sz hsz;have hm:mx=none:=by
    cases mx with
    |none=>rfl
    |some y=>simp only[oe]at e3;split at e3<;>simp at e3
   subst hm;simp only[cX]at hv;split at hv<;>try (simp at hv;done)
   rename_i b off hb;cases n2:aF env hi' n n with
   |none=>simp[n2]at hv
   |some h=>
    cases n1:aF env lo' 0 h with
    |none=>simp[n2,n1]at hv
    |some l=>
     simp only[n2,n1]at hv;cases hs:s.row b with
     |none=>simp[hs]at hv
     |some cs=>
      simp only[hs]at hv;cases hbl:Nat.ble (off+n*sz) cs.length with
      |false=>simp[hbl]at hv
      |true=>
       simp only[hbl,cond_true,ay]at hv;subst hv;have hble:=ja hbl;have hz:=hx xo _ hxo hb;generalize hex:e x=ex' at hz;cases hz with
       |ptr hρ=>
        rename_i r o lim;have hrow:=hR.SY hρ hs;have hbd:=dN (P:=P) (isSlice:=false) (len:=n) (cap:=n) (cap' :=n) (m:=n) e1 e2 (show oe none=some none from rfl) (by simp) (by simp[aF]) n2 n1 (aM _) hlo hhi (by simp) w;have b2:=c7 (aM n) n2;have b1:=c7 (kN h) n1;simp only[Option.map_none,Option.isSome_none,mF,if_false]at hbd;refine bM rfl ⟨.slice (some (if n=l then⟨r,o+off,none⟩else(⟨r,o+off,none⟩:Addr).add (l*sz))) (h - l) (n - l),?_,?_⟩
        ·simp only[Instr.sliceAt,Sem.run_bind,run_underlying hu,Result.andThen_ok,hex,Instr.sureAddr,Sem.run_pure,Option.map_none,hbd,dg hsz]
        ·refine .slice hρ (aM _) (fun _=>rfl) (by omega) ?_;by_cases hml:n=l
         ·left;omega
         ·right;rw[if_neg hml,iL];have:l*sz+(n - l)*sz=n*sz:=by rw[←Nat.add_mul];congr 1;omega
          exact⟨by simp[Nat.add_assoc],by omega⟩
  ·cases hc
 |fieldAddr t x f=>
  simp only[cop]at hc;split at hc<;>try (cases hc;done)
  rename_i fs xo hu hxo;split at hc<;>try (cases hc;done)
  rename_i fd hfd;split at hc<;>cases hc;rename_i k hk;simp only[cX]at hv;have hx:=H x (by simp[Op.operands]) xo;have hrun:∀ {r q:Nat},e x=.pointer (some ⟨r,q,none⟩)→(Instr.fieldAt t (e x) f).run P w=.ok (.pointer (some ⟨r,q+fd.offset,none⟩)) w:=fun {r q} hh=>by
   simp[Instr.fieldAt,run_underlying hu,hfd,hh,Instr.sureAddr,fieldPlace,dg hk,iL]
  split at hv<;>simp only[ay,reduceCtorEq]at hv<;>subst hv
  ·rename_i b o' hb;have hz:=hx _ hxo hb;generalize hex:e x=ex at hz;cases hz with
   |ptr hρ=>exact bM rfl ⟨_,hrun hex,by rw[Nat.add_assoc];exact .ptr hρ⟩
  ·rename_i row o' hb;have hz:=hx _ hxo hb;generalize hex:e x=ex at hz;cases hz with
   |dI c hr hc hcv=>exact bM rfl ⟨_,hrun hex,by rw[Nat.add_assoc];exact .dI c hr hc hcv⟩
 |field t x f=>
  simp only[cop]at hc;split at hc<;>try (cases hc;done)
  rename_i fs xo hu hxo;split at hc<;>try (cases hc;done)
  rename_i fd hfd;split at hc<;>cases hc;rename_i n hn;simp only[cX]at hv;split at hv<;>try (simp at hv;done)
  rename_i cs hcs;have hz:=H x (by simp[Op.operands]) xo _ hxo hcs;generalize hex:e x=ex at hz;cases hz with
  |agg ha va=>
   obtain⟨y,h1,h2⟩:=JM (P:=P) hn (aX.of_array ha va) hv w;refine bM rfl ⟨y,?_,h2⟩;simp[Instr.field,run_underlying hu,hfd,hex,asAgg,h1]
 |indexAddr t x i=>
  simp only[cop]at hc;have hx:=H x (by simp[Op.operands]);have hi:=H i (by simp[Op.operands]);split at hc
  ·rename_i el xo io hu hxo hio;split at hc<;>cases hc;rename_i sz hsz;simp only[cX]at hv;split at hv
   ·rename_i b off len cap z ex k n hb hn;split at hv<;>try (simp at hv;done)
    rename_i hlt;cases hbq:Nat.beq z sz with
    |false=>simp[hbq]at hv
    |true=>
     have hzz:z=sz:=bS hbq;subst hzz;simp only[hbq,cond_true,ay]at hv;subst hv;have hz:=hx xo _ hxo hb;have hii:=(hi io _ hio hn).fN;generalize hex:e x=ex' at hz;cases hz with
     |slice hρ h1 h2 h3 h4=>
      rename_i r o lim a cap';rcases h4 with h4|⟨rfl,h5⟩
      ·exfalso;omega
      ·refine bM rfl ⟨.pointer (some ⟨r,o+(off+n.toNat*z),none⟩),?_,.ptr hρ⟩;simp[Instr.indexAt,hii,hex,asIntOf,run_underlying hu,hlt,dg hsz,iL,Nat.add_assoc]
   ·rename_i row off len z k n hb hn;split at hv<;>try (simp at hv;done)
    rename_i hlt;cases hbq:Nat.beq z sz with
    |false=>simp[hbq]at hv
    |true=>
     have hzz:z=sz:=bS hbq;subst hzz;simp only[hbq,cond_true,ay]at hv;subst hv;have hz:=hx xo _ hxo hb;have hii:=(hi io _ hio hn).fN;generalize hex:e x=ex' at hz;cases hz with
     |aj c hr hc hcv h3 h4=>
      rename_i r o a cap';rcases h4 with h4|rfl
      ·exfalso;omega
      ·refine bM rfl ⟨.pointer (some ⟨r,o+(off+n.toNat*z),none⟩),?_,.dI c hr hc hcv⟩;simp[Instr.indexAt,hii,hex,asIntOf,run_underlying hu,hlt,dg hsz,iL,Nat.add_assoc]
   ·simp at hv
  ·rename_i len el xo io hu hxo hio;split at hc<;>cases hc;rename_i sz hsz;simp only[cX]at hv;have hrun:∀ {r q:Nat} {k:IntKind} {n:Int},e x=.pointer (some ⟨r,q,none⟩)→e i=.int k n→0≤n∧n<(len:Int)→(Instr.indexAt t (e x) (e i)).run P w=.ok (.pointer (some ⟨r,q+n.toNat*sz,none⟩)) w:=fun {r q k n} g1 g2 g3=>by
    simp[Instr.indexAt,g1,g2,asIntOf,run_underlying hu,g3,dg hsz,iL,Instr.sureAddr]
   split at hv
   ·rename_i b off k n hb hn;split at hv<;>simp only[ay,reduceCtorEq]at hv;rename_i hlt;subst hv;have hz:=hx xo _ hxo hb;have hii:=(hi io _ hio hn).fN;generalize hex:e x=ex' at hz;cases hz with
    |ptr hρ=>exact bM rfl ⟨_,hrun hex hii hlt,by rw[Nat.add_assoc];exact .ptr hρ⟩
   ·rename_i row off k n hb hn;split at hv<;>simp only[ay,reduceCtorEq]at hv;rename_i hlt;subst hv;have hz:=hx xo _ hxo hb;have hii:=(hi io _ hio hn).fN;generalize hex:e x=ex' at hz;cases hz with
    |dI c hr hc hcv=>exact bM rfl ⟨_,hrun hex hii hlt,by rw[Nat.add_assoc];exact .dI c hr hc hcv⟩
   ·simp at hv
  ·cases hc
 |index t x i=>
  simp only[cop]at hc;split at hc<;>cases hc;rename_i xo io hu hxo hio;simp only[cX]at hv;split at hv<;>try (simp at hv;done)
  rename_i b k n hb hn;split at hv<;>try (simp at hv;done)
  rename_i h0;cases hg:b[n.toNat]? with
  |none=>simp[hg]at hv
  |some c=>
   simp only[hg,ay]at hv;subst hv;obtain⟨p,hp,hp2⟩:=(H x (by simp[Op.operands]) xo _ hxo hb).gd;have hii:=(H i (by simp[Op.operands]) io _ hio hn).fN;refine bM rfl ⟨.int .u8 c.toNat,?_,.int _ _⟩;have:p[n.toNat]? =some c:=by rw[YT,hp2,hg]
   simp[Instr.index,hii,hp,asIntOf,run_underlying hu,h0,this]
 |lookup t x i ok=>
  simp only[cop]at hc;split at hc<;>try (cases hc;done)
  rename_i k el xo io hu hxo hio;split at hc<;>cases hc;rename_i z kk hz hkk;simp only[cX]at hv;split at hv<;>try (simp at hv;done)
  rename_i m kv hxv hiv;exact bM rfl (Ev hu hz hkk hR (H x (by simp[Op.operands]) xo m hxo hxv) (H i (by simp[Op.operands]) io kv hio hiv) hv)
 |entry x=>
  simp only[cop]at hc;split at hc<;>cases hc;rename_i xo hxo;simp only[cX]at hv;split at hv<;>try (simp at hv;done)
  rename_i b hb;have hz:=H x (by simp[Op.operands]) xo _ hxo hb;generalize hex:e x=ex at hz;cases hz with
  |ptr hρ=>
   rename_i r o lim;unfold zf at hv;have ho:=hR.ob b r o lim hρ;cases hs:s.get b with
   |none=>rw[hs]at hv;simp at hv
   |some ob=>
    rw[hs]at hv ho;cases ob with
    |row cs=>simp at hv
    |map es clock=>simp at hv
    |dead=>simp at hv
    |fS m since seen last=>
     obtain⟨m',e1,e2,rfl⟩:=ho;cases m with
     |none=>simp at hv
     |some mm=>
      obtain⟨r2,o2,lim2,hρ2,rfl⟩:=e2;simp only at hv;have ho2:=hR.ob mm r2 o2 lim2 hρ2;cases hs2:s.get mm with
      |none=>rw[hs2]at hv;simp at hv
      |some ob2=>
       rw[hs2]at hv ho2;cases ob2 with
       |row cs=>simp at hv
       |fS a b c d=>simp at hv
       |dead=>simp at hv
       |map es clock=>
        cases hl:seen.getLast? with
        |none=>rw[hl]at hv;simp at hv
        |some n=>
         rw[hl]at hv;simp only at hv;cases hq:Nat.beq clock last with
         |false=>simp[hq]at hv
         |true=>
          have hcl:clock=last:=bS hq;subst hcl;simp only[hq,cond_true]at hv;obtain⟨es',g1,g2,g3⟩:=ho2;cases hf:es.find? (fun e=>Nat.beq e.born n)with
          |none=>rw[hf]at hv;simp at hv
          |some en=>
           rw[hf]at hv;simp only[ay]at hv;subst hv;obtain⟨k1,k2,k3⟩:=SH (w0:=w0) (ρ:=ρ) (n:=n) es es'.toList (by simpa using g2) (fun i h1 h2=>by simpa using g3 i h1 (by simpa using h2)) hf;have hbk:seen.toArray.back? =some n:=by rw[←Array.getLast?_toList];exact hl
           have hfind:es'.find? (fun e=>e.born==n)=some k1:=by rw[←Array.find?_toList];exact k2
           refine bM rfl ⟨.tuple #[k1.key,k1.val],?_,?_⟩
           ·simp[hex,Instr.entry,getObj,Sem.run,e1,g1,hbk,hfind]
           ·simpa using aE.lC (aX.cons k3.1 (aX.cons k3.2 .nil))
 |extract x i=>
  simp only[cop]at hc;split at hc<;>cases hc;rename_i xo hxo;simp only[cX]at hv;split at hv<;>try (simp at hv;done)
  rename_i vs hvs;have hz:=H x (by simp[Op.operands]) xo _ hxo hvs;generalize hex:e x=ex at hz;cases hz with
  |aP ha va=>
   rename_i vs';obtain⟨y,h1,h2⟩:=(aX.of_array ha va).get hv;refine bM rfl ⟨y,?_,h2⟩;have h1' :vs'[i]? =some y:=by simpa using h1
   simp[hex,Instr.extract,h1']
 |typeAssert x xt t ok=>
  cases ok<;>simp only[cop]at hc<;>try (cases hc;done)
  split at hc<;>cases hc;rename_i d xo z h1 hu hxo hz;obtain⟨zx,hzr,hzv⟩:=lR hz;simp only[cX]at hv;split at hv
  ·rename_i hxv;simp only[ay]at hv;subst hv;have hx:=H x (by simp[Op.operands]) xo _ hxo hxv;generalize hex:e x=ex at hx;cases hx;refine bM rfl ⟨.tuple #[zx,.bool false],?_,by simpa using aE.lC (aX.cons (hzv w0 ρ) (aX.cons (.bool false) .nil))⟩;simp only[hex,Instr.typeAssert,Sem.run_bind,run_underlying hu,Result.andThen_ok];cases d<;>first|exact absurd hu (h1 _)|simp[hzr]
  ·rename_i u y hxv;simp only[ay]at hv;have hx:=H x (by simp[Op.operands]) xo _ hxo hxv;generalize hex:e x=ex at hx;cases hx with
   |iface hy=>
    rename_i y';by_cases hut:u=t
    ·rw[if_pos hut]at hv;subst hv;refine bM rfl ⟨.tuple #[y',.bool true],?_,by simpa using aE.lC (aX.cons hy (aX.cons (.bool true) .nil))⟩;simp only[hex,Instr.typeAssert,Sem.run_bind,run_underlying hu,Result.andThen_ok];cases d<;>first|exact absurd hu (h1 _)|simp[hut]
    ·rw[if_neg hut]at hv;subst hv;refine bM rfl ⟨.tuple #[zx,.bool false],?_,by simpa using aE.lC (aX.cons (hzv w0 ρ) (aX.cons (.bool false) .nil))⟩;simp only[hex,Instr.typeAssert,Sem.run_bind,run_underlying hu,Result.andThen_ok];cases d<;>first|exact absurd hu (h1 _)|simp[hut,hzr]
  ·simp at hv
 |call c=>
  simp only[cop]at hc;split at hc<;>try first|(cases hc;done)|(split at hc<;>cases hc;done)
  rename_i b args hcal hargs;have hHa:∀ x∈c.args.toList,kV w0 ρ env e x:=fun x hx=>H x (by simp[Op.operands,Call.operands];exact .inr (by simpa using hx));have hres:∀ {S:Sem Value} {r:V},(∀ cs,builtin b c.argTypes type cs (c.args.map e)=(do pure (.value (←S))))→(∃ x,S.run P w=.ok x w∧aE w0 ρ r x)→
    Ut P w0 ρ w e {dst,op:=.call c,type,pos,after,guard} r:=fun {S r} hb ⟨x,h1,h2⟩=>by
   refine⟨x,?_,h2⟩;simp only[execOp,resolve,hcal,Sem.run_bind,Sem.run_pure,Result.andThen_ok,invoke];rw[hb];simp[h1]
  rcases qmB hc with⟨rfl,t,ts',xo,xs',ht,hx,hh⟩|⟨rfl,t,ts',xo,xs',ht,hx,⟨el,hu⟩,rfl⟩|⟨rfl,rfl⟩|⟨rfl,rfl⟩
  ·subst hx;obtain⟨x,xs,ha,hxo,_⟩:=sF hargs;have hX:=hHa x (by rw[ha];simp);have ht0:c.argTypes[0]? =some t:=by rw[←Array.getElem?_toList,ht];rfl
   have hx0:(c.args.map e)[0]? =some (e x):=by rw[←Array.getElem?_toList];simp[ha]
   refine hres (fun _=>rfl) ?_;have fin:∀ {k:Nat},cX env s (.len k xo)=some v→∃ u n,xo.ev env=some u∧ov s k u=some n∧v=.int .i64 (n:Nat):=fun {k} hh=>by
    simp only[cX]at hh;cases hxv:xo.ev env with
    |none=>simp[hxv]at hh
    |some u=>
     cases hl:ov s k u with
     |none=>simp[hxv,hl]at hh
     |some n=>simp only[hxv,hl,ay]at hh;exact⟨u,n,rfl,hl,hh.symm⟩
   rcases hh with⟨hu,rfl⟩|⟨⟨el,hu⟩,rfl⟩|⟨⟨k,el,hu⟩,rfl⟩
   ·obtain⟨u,n,h1,h2,rfl⟩:=fin hv;have hr:=hX xo u hxo h1;generalize hex:e x=ex at hr hx0;cases hr<;>simp[ov,RF,WJ,VB,RZ,Qw,Sl,RV,Xy,WT]at h2;rename_i p hp;refine⟨goInt p.size,by simp[Builtin.len_,ht0,hx0,run_underlying hu],?_⟩;have:p.size=n:=by rw[←h2,←hp];simp
    rw[this];exact .int _ _
   ·obtain⟨u,n,h1,h2,rfl⟩:=fin hv;have hr:=hX xo u hxo h1;generalize hex:e x=ex at hr hx0;cases hr<;>simp[ov,RF,WJ,VB,RZ,Qw,Sl,RV,Xy,WT]at h2<;>subst h2
    ·exact⟨goInt 0,by simp[Builtin.len_,ht0,hx0,run_underlying hu],.int _ _⟩
    ·exact⟨goInt 0,by simp[Builtin.len_,ht0,hx0,run_underlying hu],.int _ _⟩
    ·exact⟨_,by simp[Builtin.len_,ht0,hx0,run_underlying hu];rfl,.int _ _⟩
    ·exact⟨_,by simp[Builtin.len_,ht0,hx0,run_underlying hu];rfl,.int _ _⟩
   ·obtain⟨u,n,h1,h2,rfl⟩:=fin hv;have hr:=hX xo u hxo h1;generalize hex:e x=ex at hr hx0;cases hr<;>simp[ov,RF,WJ,VB,RZ,Qw,Sl,RV,Xy,WT]at h2
    ·subst h2;exact⟨goInt 0,by simp[Builtin.len_,ht0,hx0,run_underlying hu],.int _ _⟩
    ·rename_i m r o lim hρ;cases hs:s.get m with
     |none=>simp[hs]at h2
     |some ob=>
      cases ob<;>simp[hs]at h2;rename_i es clock;obtain⟨es',g1,g2,g3⟩:=hR.Kq hρ hs;refine⟨goInt es'.size,by simp[Builtin.len_,ht0,hx0,run_underlying hu,run_getObj_map g1],?_⟩;rw[←g2,h2];exact .int _ _
  ·subst hx;obtain⟨x,xs,ha,hxo,_⟩:=sF hargs;have hX:=hHa x (by rw[ha];simp);have ht0:c.argTypes[0]? =some t:=by rw[←Array.getElem?_toList,ht];rfl
   have hx0:(c.args.map e)[0]? =some (e x):=by rw[←Array.getElem?_toList];simp[ha]
   refine hres (fun _=>rfl) ?_;simp only[cX]at hv;split at hv<;>simp only[ay,reduceCtorEq]at hv<;>subst hv
   ·rename_i h1;have hr:=hX xo _ hxo h1;generalize hex:e x=ex at hr hx0;cases hr;exact⟨goInt 0,by simp[Builtin.cap_,ht0,hx0,run_underlying hu],.int _ _⟩
   ·rename_i h1;have hr:=hX xo _ hxo h1;generalize hex:e x=ex at hr hx0;cases hr;exact⟨goInt 0,by simp[Builtin.cap_,ht0,hx0,run_underlying hu],.int _ _⟩
   ·rename_i h1;have hr:=hX xo _ hxo h1;generalize hex:e x=ex at hr hx0;cases hr with
    |slice hρ h1 h2 h3 h4=>
     rename_i cap';refine⟨goInt cap',by simp[Builtin.cap_,ht0,hx0,run_underlying hu],?_⟩;rw[h2 rfl];exact .int _ _
  ·simp only[cX]at hv;split at hv<;>try (simp at hv;done)
   rename_i a l hl;have hlr:=pK hargs hl hHa;obtain⟨y,ys,hy1,hy2,hy3⟩:=hlr.cq;obtain⟨z,z1,z2⟩:=xN (P:=P) LD hv hy2 hy3 w;exact hres (fun _=>rfl) ⟨z,by simp[Builtin.max_,hy1,z1],z2⟩
  ·simp only[cX]at hv;split at hv<;>try (simp at hv;done)
   rename_i a l hl;have hlr:=pK hargs hl hHa;obtain⟨y,ys,hy1,hy2,hy3⟩:=hlr.cq;obtain⟨z,z1,z2⟩:=xN (P:=P) LF hv hy2 hy3 w;exact hres (fun _=>rfl) ⟨z,by simp[Builtin.min_,hy1,z1],z2⟩
 |makeMap t r=>
  simp only[cop]at hc;split at hc<;>cases hc
 |makeSlice t l c=>
  simp only[cop]at hc;split at hc<;>try (cases hc;done)
  split at hc<;>try (cases hc;done)
  rename_i sz bs z l c h1 h2 h3 h4 h5;cases hq:(Nat.beq z.cells.length sz&&Nat.ble 1 sz)<;>simp[hq]at hc
 |buildSlice t len parts=>
  simp only[cop]at hc;split at hc<;>try (cases hc;done)
  split at hc<;>try (cases hc;done)
  rename_i sz z h1 h2;cases hq:(Nat.ble (len*sz) 16777216&&Nat.beq z.cells.length sz&&Nat.ble 1 sz)<;>simp only[hq,cond_true,cond_false,reduceCtorEq]at hc;split at hc<;>cases hc
 |next x b=>cases b<;>simp only[cop]at hc<;>(try split at hc)<;>cases hc
 |mapUpdate t m k x=>simp only[cop]at hc;split at hc<;>(try split at hc)<;>cases hc
 |insert t m k x=>simp only[cop]at hc;split at hc<;>(try split at hc)<;>cases hc
 |alloc t=>simp only[cop]at hc;split at hc<;>cases hc
 |box t x=>simp only[cop]at hc;split at hc<;>cases hc
 |store t a x=>simp only[cop]at hc;split at hc<;>cases hc
 |range t x=>simp only[cop]at hc;split at hc<;>cases hc
 |_=>simp[cop]at hc
end
end Go.RE
namespace Go.RE
section
variable{P:Program}{w0:World}{ρ:Ren}{s:St}{w:World}{env:PT V}{e:Operand→Value}
theorem Jp{cs:List V}{xs:List Value}(h:aX w0 ρ cs xs)(rest:List Value)(t:TypeId)(fr:Nat×Nat)(hf:∀ j,j<xs.length+rest.length→¬(fr.1≤j∧j<fr.2)):
  kO w0 ρ 0 (xs.length+rest.length) (some (.row cs)) (some (.cells (xs++rest).toArray t fr)):=by
 refine⟨_,t,fr,rfl,by simp,by rw[h.1];omega,hf,fun i hi=> ?_⟩;obtain⟨x,h1,h2⟩:=h.get (dm hi);refine⟨x,?_,h2⟩;have hl:=h.1;simp only[Nat.zero_add,List.getElem?_toArray];rw[gD (by omega)];exact h1
theorem yg{cs:List V}{A:Array Value}(h:aX w0 ρ cs A.toList)(t:TypeId):kO w0 ρ 0 A.size (some (.row cs)) (some (.cells A t (0,0))):=by
 have:=Jp h [] t (0,0) (by simp);simpa using this
theorem oc(z:List V):∀ n,(dP z n).length=n*z.length:=by
 intro n
 induction n with
 |zero=>simp[dP]
 |succ n ih=>simp[dP,ih,Nat.add_mul,Nat.add_comm]
theorem Ie(z:List V):∀ (n j:Nat),j<n*z.length→(dP z n)[j]? =z[j % z.length]? :=by
 intro n
 induction n with
 |zero=>intro j h;simp at h
 |succ n ih=>
  intro j h;simp only[dP];by_cases hj:j<z.length
  ·rw[gD hj,Nat.mod_eq_of_lt hj]
  ·rw[gf (by omega),ih _ (by rw[Nat.add_mul,Nat.one_mul]at h;omega)];congr 1;exact(Nat.mod_eq_sub_mod (by omega)).symm
theorem yH{z:List V}{zx:Array Value}(h:aX w0 ρ z zx.toList)(n:Nat)(g:Array Value)(hg:0<n*z.length→g=zx):
  aX w0 ρ (dP z n) ((Array.range (n*z.length)).map (fun j=>g[j % g.size]!)).toList:=by
 have hl:z.length=zx.size:=by simpa using h.1
 refine aX.tM (by simp[oc]) fun j v hv=> ?_;have hj:j<n*z.length:=by
  have:=(cz.1 hv).1;rwa[oc]at this
 have hg' :=hg (by omega);subst hg';rw[Ie _ _ _ hj]at hv;obtain⟨x,h1,h2⟩:=h.get hv;refine⟨x,?_,h2⟩;have hpos:0<z.length:=by
  rcases Nat.eq_zero_or_pos z.length with h0|h0
  ·rw[h0]at hj;simp at hj
  ·exact h0
 have hm:j % g.size<g.size:=Nat.mod_lt _ (by omega);simp only[Array.toList_map,Array.toList_range,List.getElem?_map,List.getElem?_range hj,Option.map_some];rw[Array.getElem?_toList,hl]at h1;rw[getElem!_pos g _ hm];rw[getElem?_pos g _ hm]at h1;exact h1
def U4(P:Program)(w0:World)(ρ:Ren)(w:World)(e:Operand→Value)(o:Oper)(ob:Ob)(f:Nat→V):Prop:=
 ∃ obj lim w' x,(execOp e o).run P w=.ok (.value x) w'∧w'.heap=w.heap.push obj∧w'.os=w.os∧w'.output=w.output∧kO w0 ρ 0 lim (some ob) (some obj)∧
  ∀ ρ' n,Ren.le ρ ρ'→ρ' n=some (w.heap.size,0,lim)→aE w0 ρ' (f n) x
theorem n7{o:Oper}{ob:Ob}{f:Nat→V}{S:Sem Value}(he:execOp e o=(do pure (.value (←S)))){obj:Obj}{lim:Nat}{w' :World}{x:Value}(h:S.run P w=.ok x w')
  (h1:w'.heap=w.heap.push obj) (h2:w'.os=w.os) (h3:w'.output=w.output) (h4:kO w0 ρ 0 lim (some ob) (some obj))
  (h5:∀ ρ' n,Ren.le ρ ρ'→ρ' n=some (w.heap.size,0,lim)→aE w0 ρ' (f n) x):U4 P w0 ρ w e o ob f:=
 ⟨obj,lim,w',x,by rw[he];simp[h],h1,h2,h3,h4,h5⟩
theorem wrap_small{n:Nat}(h:n≤aW):IntKind.i64.wrap (n:Int)=n:=by
 apply mZ
 ·simp only[IntKind.signed,IntKind.bits,if_true];omega
 ·simp only[IntKind.signed,IntKind.bits,if_true];unfold aW at h;omega
theorem qmm{b:Builtin}{ts:List TypeId}{xs:List bB}{mo:Gb}:kZ P b ts xs≠.m mo:=by
 intro h;unfold kZ at h;split at h
 ·split at h<;>cases h
 ·split at h<;>cases h
 ·cases h
 ·cases h
 ·split at h
  ·split at h
   ·unfold cond at h;split at h<;>cases h
   ·unfold cond at h;split at h<;>cases h
   ·cases h
  ·cases h
 ·split at h
  ·split at h<;>cases h
  ·cases h
 ·split at h
  ·split at h<;>cases h
  ·cases h
 ·cases h
theorem Ig(h:Array Obj)(x:Obj)(f:Obj→Obj):(h.push x).modify h.size f=h.push (f x):=by
 apply Array.ext_getElem?;intro i;rw[Array.getElem?_modify,Array.getElem?_push,Array.getElem?_push];by_cases hi:i=h.size
 ·subst hi;simp
 ·rw[if_neg (fun hh=>hi hh.symm),if_neg hi,if_neg hi]
theorem B3(p:ByteArray):aX w0 ρ (p.data.toList.map iM) (p.data.map (fun b=>Value.int .u8 b.toNat)).toList:=
 ⟨by simp,fun i h1 h2=>by simp only[List.getElem_map,iM,Array.toList_map];exact .int _ _⟩
theorem Ce{src dst el:TypeId}{x:Operand}{p:ByteArray}{b:List UInt8}(hs:P.underlying src=some .string)(hd:P.underlying dst=some (.slice el))(he:P.underlying el=some (.int .u8))
  (hp:e x=.string p) (hp2:p.data.toList=b) {dstT:Option Tmp} {type:TypeId} {pos:String} {after:Array Edge} {guard:Option (Nat×Bool)} (w:World):
  U4 P w0 ρ w e {dst:=dstT,op:=.convert src dst x,type,pos,after,guard} (.row (b.map iM)) (fun n=> .slice n 0 b.length b.length 1 false):=by
 have hsz:p.size=b.length:=by rw[←hp2];simp
 let c:=grownCap w p.size 0 el;have hc:p.size≤c:=grownCap_ge w p.size 0 el;let C:Array Value:=p.data.map (fun b=>Value.int .u8 b.toNat)++Array.replicate (c - p.size) (.int .u8 0);have hCs:C.size=c:=by simp[C];have:p.data.size=p.size:=rfl;omega
 have hrow:=Jp (B3 (w0:=w0) (ρ:=ρ) p) (List.replicate (c - p.size) (.int .u8 0)) el (C.size,C.size+1) (fun j hj=>by
  simp at hj;have:p.data.size=p.size:=rfl;omega)
 have hC:((p.data.map (fun b=>Value.int .u8 b.toNat)).toList++List.replicate (c - p.size) (Value.int .u8 0)).toArray=C:=by apply Array.ext';simp[C]
 have hlim:(p.data.map (fun b=>Value.int .u8 b.toNat)).toList.length+(List.replicate (c - p.size) (Value.int .u8 0)).length=C.size:=by simp[C]
 rw[hC,hlim,hp2]at hrow;refine n7 rfl (S:=convert src dst (e x)) (w' :={w.drew with heap:=w.heap.push (.cells C el (C.size,C.size+1))}) (x:=.slice (some ⟨w.heap.size,0,none⟩) p.size c) ?_ rfl rfl rfl hrow
  fun ρ' n hl hn=>by rw[←hsz];exact .slice hn hc (fun h=>by simp at h) (aM _) (.inr ⟨by simp,by simp[hCs]⟩)
 have h1:(convert src dst (e x)).run P w=(Conv.stringToBytes el p).run P w:=by
  rw[hp];simp[convert,run_underlying hs,run_underlying hd,run_underlying he]
 rw[h1];unfold Conv.stringToBytes;simp only[Sem.run_bind,run_choose,Question.forced,mF,if_false,Result.andThen_ok,newRow,run_newObj,Sem.run_pure,markStringish,run_shape];have hC2:Array.map (fun b=>Value.int .u8 (b.toNat:Int)) p.data++Array.replicate (Question.cut (Question.appendCap p.size 0 el) (w.tape w.drawn (Question.appendCap p.size 0 el)) - p.size) (Value.int .u8 0)=C:=rfl;rw[hC2];have hshape:({heap:=w.heap.push (Obj.cells C el),tape:=w.tape,drawn:=w.drawn+1,os:=w.os,output:=w.output}:World).shape? w.heap.size=some (el,C.size):=by
  simp[World.shape?]
 simp only[hshape,Sem.run_bind,run_freeze,Result.andThen_ok,Sem.run_pure];unfold World.freeze;rw[if_neg (by simp)];simp only[];rw[Ig];simp;exact⟨rfl,rfl,rfl⟩
set_option maxHeartbeats 1000000 in
theorem Dv{o:Oper}{mo:Gb}{ob:Ob}{f:Nat→V}(hc:cop P o.op=.m mo)(hv:Ai env mo=some (ob,f))(H:∀ x∈o.op.operands,kV w0 ρ env e x)(w:World):U4 P w0 ρ w e o ob f:=by
 obtain⟨dst,op,type,pos,after,guard⟩:=o;simp only at hc H;cases op with
 |alloc t=>
  simp only[cop]at hc;split at hc<;>cases hc;rename_i z hz;simp only[Ai,ay,aO]at hv;obtain⟨rfl,rfl⟩:=hv;obtain⟨zx,hzr,hzv⟩:=lR hz;exact n7 rfl (S:=Instr.alloc t true (.tuple #[])) (w' :=w.alloc (.cells zx.cells t)) (x:=.pointer (some ⟨w.heap.size,0,none⟩)) (by simp[Instr.alloc,hzr,newVar,newRow]) rfl rfl rfl
   (yg (hzv w0 ρ).cells t) fun ρ' n hl hn=>by simpa using aE.ptr (off:=0) hn
 |box t x=>
  simp only[cop]at hc;split at hc<;>cases hc;rename_i xo hxo;simp only[Ai]at hv;split at hv<;>simp only[ay,aO,reduceCtorEq]at hv;rename_i u hu;obtain⟨rfl,rfl⟩:=hv;have hx:=H x (by simp[Op.operands]) xo u hxo hu;exact n7 rfl (S:=Instr.box t (e x)) (w' :=w.alloc (.cells (e x).cells t)) (x:=.pointer (some ⟨w.heap.size,0,none⟩)) (by simp[Instr.box,newVar,newRow]) rfl rfl rfl
   (yg hx.cells t) fun ρ' n hl hn=>by simpa using aE.ptr (off:=0) hn
 |buildSlice t len parts=>
  simp only[cop]at hc;split at hc<;>try (cases hc;done)
  rename_i el hel;split at hc<;>try (cases hc;done)
  rename_i sz z hsz hz;cases hq:(Nat.ble (len*sz) 16777216&&Nat.beq z.cells.length sz&&Nat.ble 1 sz)with
  |false=>simp[hq]at hc
  |true=>
   simp only[hq,cond_true]at hc;split at hc<;>cases hc;rename_i l hl;simp only[cm]at hq;have q1:=ja hq.1.1;have q2:=bS hq.1.2;have q3:=ja hq.2;simp only[Ai]at hv;split at hv<;>simp only[ay,aO,reduceCtorEq]at hv;rename_i cs hcs;obtain⟨rfl,rfl⟩:=hv;obtain⟨zx,hzr,hzv⟩:=lR hz;have hu:P.underlying t=some (.slice el):=by unfold oQ at hel;split at hel<;>simp_all
   have hrep:∃ g:Array Value,((len*sz=0∧g= #[])∨(len*sz≠0∧g=zx.cells))∧
     aX w0 ρ (dP z.cells len) ((Array.range (len*sz)).map (fun j=>g[j % g.size]!)).toList:=by
    by_cases h0:len*sz=0
    ·refine⟨#[],.inl ⟨h0,rfl⟩,?_⟩;have:=yH (hzv w0 ρ).cells len #[] (fun h=>by rw[q2]at h;omega);rwa[q2]at this
    ·refine⟨zx.cells,.inr ⟨h0,rfl⟩,?_⟩;have:=yH (hzv w0 ρ).cells len zx.cells (fun _=>rfl);rwa[q2]at this
   obtain⟨g,hg1,hg2⟩:=hrep;obtain⟨out,f1,f2⟩:=Bc (e:=e) (cells' :=(Array.range (len*sz)).map (fun j=>g[j % g.size]!)) hl hcs hg2 (fun p hp=>H p.2 (by simp[Op.operands];exact⟨p.1,by simpa using hp⟩));have hol:out.size=len*sz:=by
    have h1:=f2.1;have h2:cs.length=len*sz:=by
     have:∀ {ps:List (Nat×Nat×bB)} {a b:List V},pY env a ps=some b→b.length=a.length:=by
      intro ps
      induction ps with
      |nil=>intro a b h;simp[pY]at h;rw[h]
      |cons p ps ih=>
       intro a b h;obtain⟨p1,p2,p3⟩:=p;simp only[pY]at h;split at h<;>try (simp at h;done)
       rename_i v _;cases hb:(Nat.beq v.cells.length p2&&Nat.ble (p1+v.cells.length) a.length)with
       |false=>simp[hb]at h
       |true=>
        simp only[hb,cond_true]at h;simp only[cm]at hb;rw[ih h,rV _ _ _ (ja hb.2)]
     rw[this hcs,oc,q2]
    simp at h1;omega
   refine n7 rfl (S:=Instr.buildSlice t len (parts.map fun p=>(p.1,e p.2))) (w' :=w.alloc (.cells out el)) (x:=.slice (some ⟨w.heap.size,0,none⟩) len len) ?_ rfl rfl rfl
    (yg f2 el) fun ρ' n hl hn=> .slice hn (aM _) (fun _=>rfl) (aM _) (.inr ⟨by simp,by simp[hol]⟩)
   unfold Instr.buildSlice;simp only[Sem.run_bind,run_underlying hu,Result.andThen_ok,dg hsz];rw[if_neg (by omega)];have hfill:Instr.fill (fun i=>some (i*sz,sz)) ((Array.range (len*sz)).map (fun j=>g[j % g.size]!)) (parts.map fun p=>(p.1,e p.2)).toList=some out:=by simpa using f1
   rcases hg1 with⟨h0,rfl⟩|⟨h0,rfl⟩
   ·rw[if_pos h0];simp only[Sem.run_bind,Sem.run_pure,Result.andThen_ok,hfill];simp[newRow]
   ·rw[if_neg h0];simp only[Sem.run_bind,Sem.run_pure,Result.andThen_ok,hzr,hfill];simp[newRow]
 |makeMap t r=>
  simp only[cop]at hc;split at hc<;>cases hc<;>simp only[Ai,ay,aO]at hv<;>obtain⟨rfl,rfl⟩:=hv
  ·exact n7 (S:=Instr.makeMap t none) rfl (lim:=0) (w' :=w.alloc (.map #[] 0)) (x:=.map (some w.heap.size)) (by simp[Instr.makeMap]) rfl rfl rfl ⟨#[],rfl,rfl,fun i h=>by simp at h⟩ fun ρ' n hl hn=> .map hn
  ·rename_i k n hu;have hx:=(H (.const (.int k n)) (by simp[Op.operands]) (.c (.int k n)) (.int k n) rfl rfl).fN;exact n7 (S:=Instr.makeMap t (some (e (.const (.int k n))))) rfl (lim:=0) (w' :=w.alloc (.map #[] 0)) (x:=.map (some w.heap.size)) (by simp[Instr.makeMap,run_underlying hu,hx,asInt,asIntOf]) rfl rfl rfl ⟨#[],rfl,rfl,fun i h=>by simp at h⟩ fun ρ' n hl hn=> .map hn
 |makeSlice t l c=>
  simp only[cop]at hc;split at hc<;>try (cases hc;done)
  rename_i el hel;split at hc<;>try (cases hc;done)
  rename_i sz bs z lo co hsz hbs hz hlo hco;cases hq:(Nat.beq z.cells.length sz&&Nat.ble 1 sz)with
  |false=>simp[hq]at hc
  |true=>
   simp only[hq,cond_true,lH.m.injEq]at hc;subst hc;simp only[cm]at hq;have q2:=bS hq.1;simp only[Ai]at hv;split at hv<;>try (simp at hv;done)
   rename_i lv cv hlv hcv;cases hcn:asNat cv aW with
   |none=>simp[hcn]at hv
   |some cn=>
    cases hln:asNat lv cn with
    |none=>simp[hcn,hln]at hv
    |some ln=>
     simp only[hcn,hln]at hv;cases hb:Nat.ble (cn*bs) aW with
     |false=>simp[hb]at hv
     |true=>
      simp only[hb,cond_true,ay,aO]at hv;obtain⟨rfl,rfl⟩:=hv;have hb' :=ja hb;obtain⟨k1,m1,rfl,a1,a2,a3⟩:=pM hcn;obtain⟨k2,m2,rfl,b1,b2,b3⟩:=pM hln;have hx1:=(H c (by simp[Op.operands]) co _ hco hcv).fN;have hx2:=(H l (by simp[Op.operands]) lo _ hlo hlv).fN;obtain⟨zx,hzr,hzv⟩:=lR hz;have hu:P.underlying t=some (.slice el):=by unfold oQ at hel;split at hel<;>simp_all
      have hm1:m1=(cn:Int):=by omega
      have hm2:m2=(ln:Int):=by omega
      subst hm1;subst hm2;have hcb:cn≤aW:=by omega
      have hlb:ln≤aW:=by omega
      obtain⟨ii,hii,hib⟩:∃ i,P.info? el=some i∧i.bytes=bs:=by
       unfold wI at hbs;split at hbs<;>simp at hbs;rename_i i hi;exact⟨i,hi,hbs⟩
      have hrep:∃ g:Array Value,((cn*sz=0∧g= #[])∨(cn*sz≠0∧g=zx.cells))∧
        aX w0 ρ (dP z.cells cn) ((Array.range (cn*sz)).map (fun j=>g[j % g.size]!)).toList:=by
       by_cases h0:cn*sz=0
       ·refine⟨#[],.inl ⟨h0,rfl⟩,?_⟩;have:=yH (hzv w0 ρ).cells cn #[] (fun h=>by rw[q2]at h;omega);rwa[q2]at this
       ·refine⟨zx.cells,.inr ⟨h0,rfl⟩,?_⟩;have:=yH (hzv w0 ρ).cells cn zx.cells (fun _=>rfl);rwa[q2]at this
      obtain⟨g,hg1,hg2⟩:=hrep;have hbi:((bs:Int))*(cn:Int)≤(aW:Int):=by rw[Int.mul_comm];exact_mod_cast hb'
      have hbig:(aW:Int)<2 ^ 48:=by unfold aW;omega
      refine n7 rfl (S:=Instr.makeSlice t (e l) (e c)) (w' :=w.alloc (.cells ((Array.range (cn*sz)).map (fun j=>g[j % g.size]!)) el)) (x:=.slice (some ⟨w.heap.size,0,none⟩) ln cn) ?_ rfl rfl rfl
       (yg hg2 el) fun ρ' n hl hn=> .slice hn (aM _) (fun _=>rfl) (by omega) (.inr ⟨by simp,by simp⟩)
      unfold Instr.makeSlice;simp only[Sem.run_bind,run_underlying hu,Result.andThen_ok,hx1,hx2,asInt,asIntOf,Sem.run_pure,typeInfo,run_program,hii,hib,wrap_small hcb,wrap_small hlb];rw[if_neg (by
       simp only[Bool.or_eq_true,decide_eq_true_eq,not_or];refine⟨⟨⟨?_,?_⟩,?_⟩,?_⟩<;>omega)]
      simp only[Sem.run_bind,run_askRoom,Result.andThen_ok,dg hsz,Int.toNat_natCast];rcases hg1 with⟨h0,rfl⟩|⟨h0,rfl⟩
      ·rw[if_pos h0];simp[newRow]
      ·rw[if_neg h0];simp[newRow,hzr]
 |convert src dst x=>
  simp only[cop]at hc;split at hc<;>try (cases hc;done)
  ·rename_i el xo hs hd hxo;cases hu8:Gn P el<;>simp[hu8]at hc
  ·rename_i el xo hs hd hxo;cases hu8:Gn P el with
   |false=>simp[hu8]at hc
   |true=>
    simp only[hu8,cond_true,lH.m.injEq]at hc;subst hc;have he:P.underlying el=some (.int .u8):=by unfold Gn at hu8;split at hu8<;>simp_all
    simp only[Ai]at hv;split at hv<;>simp only[ay,aO,reduceCtorEq]at hv;rename_i b hb;obtain⟨rfl,rfl⟩:=hv;obtain⟨p,hp,hp2⟩:=(H x (by simp[Op.operands]) xo _ hxo hb).gd;exact Ce hs hd he hp hp2 w
 |move x=>simp only[cop]at hc;split at hc<;>cases hc
 |assign x=>simp only[cop]at hc;split at hc<;>cases hc
 |pick c a b=>simp only[cop]at hc;split at hc<;>cases hc
 |build t parts=>
  simp only[cop]at hc;split at hc<;>try (cases hc;done)
  split at hc<;>try (cases hc;done)
  split at hc<;>cases hc
 |load t a=>simp only[cop]at hc;split at hc<;>cases hc
 |store t a x=>simp only[cop]at hc;split at hc<;>cases hc
 |nilCheck x=>simp only[cop]at hc;split at hc<;>cases hc
 |binOp op t x y yt=>simp only[cop]at hc;split at hc<;>cases hc
 |unOp op t x=>simp only[cop]at hc;split at hc<;>cases hc
 |makeInterface t x=>simp only[cop]at hc;split at hc<;>cases hc
 |makeFunc fn first captured=>
  cases fn<;>simp only[cop]at hc<;>try (cases hc;done)
  split at hc<;>cases hc
 |slice t x lo hi mx=>
  simp only[cop]at hc;split at hc<;>try (cases hc;done)
  ·split at hc<;>try (cases hc;done)
   rename_i lo' hi' mx' _ _ _ _ _ _ sz hsz;cases hq:(mx'.isSome&& !hi'.isSome)<;>rw[hq]at hc<;>cases hc
  ·split at hc<;>cases hc
 |fieldAddr t x f=>
  simp only[cop]at hc;split at hc<;>try (cases hc;done)
  split at hc<;>try (cases hc;done)
  split at hc<;>cases hc
 |field t x f=>
  simp only[cop]at hc;split at hc<;>try (cases hc;done)
  split at hc<;>try (cases hc;done)
  split at hc<;>cases hc
 |indexAddr t x i=>
  simp only[cop]at hc;split at hc<;>try (cases hc;done)
  ·split at hc<;>cases hc
  ·split at hc<;>cases hc
 |index t x i=>simp only[cop]at hc;split at hc<;>cases hc
 |lookup t x i ok=>
  simp only[cop]at hc;split at hc<;>try (cases hc;done)
  split at hc<;>cases hc
 |extract x i=>simp only[cop]at hc;split at hc<;>cases hc
 |typeAssert x xt t ok=>
  cases ok<;>simp only[cop]at hc<;>try (cases hc;done)
  split at hc<;>cases hc
 |call c=>
  simp only[cop]at hc;split at hc
  ·split at hc<;>cases hc
  ·exact absurd hc qmm
  ·split at hc<;>cases hc
  ·cases hc
 |next x b=>cases b<;>simp only[cop]at hc<;>(try split at hc)<;>cases hc
 |entry x=>simp only[cop]at hc;split at hc<;>cases hc
 |mapUpdate t m k x=>simp only[cop]at hc;split at hc<;>(try split at hc)<;>cases hc
 |insert t m k x=>simp only[cop]at hc;split at hc<;>(try split at hc)<;>cases hc
 |range t x=>simp only[cop]at hc;split at hc<;>cases hc
 |_=>simp[cop]at hc
end
end Go.RE
