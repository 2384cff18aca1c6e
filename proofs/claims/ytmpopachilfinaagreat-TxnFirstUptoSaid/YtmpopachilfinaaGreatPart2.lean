/- Each operation that neither writes nor makes memory does what the evaluator says. -/
import Derived.Test.YtmpopachilfinaaGreatPart1
import Derived.Deep.AppendSrc
import Derived.Laws.BytesString
import Derived.Laws.StructEq
set_option linter.unusedVariables false
set_option linter.unusedSimpArgs false
namespace Go.RE
def NL:TypeDesc→Bool
 | .struct _=>true
 | .array _ _=>true
 |_=>false
theorem gV(r o n:Nat):(⟨r,o,none⟩:Addr).add n=⟨r,o+n,none⟩:=by
 unfold Addr.add;split<;>simp_all
section
variable{P:Program}{w0:World}{ρ:Ren}{s:St}{w:World}{env:PT V}{e:Operand→Value}
def jm(w0:World)(ρ:Ren)(env:PT V)(e:Operand→Value)(x:Operand):Prop:=∀ o v,cB x=some o→o.ev env=some v→az w0 ρ v (e x)
theorem pL{x:Value}{v:V}(h:qQ x=some v):az w0 ρ v x:=by
 unfold qQ at h;split at h<;>simp at h<;>subst h
 ·exact .bool _
 ·exact .int _ _
 ·exact .str rfl
 ·exact .bA
 ·exact .bu
 ·exact .bQ
 ·exact .di
 ·exact .cO
theorem W0{f:Value→Option V}(hf:∀ x v,f x=some v→az w0 ρ v x):∀ {l:List Value} {vs:List V},ofL f l=some vs→aR w0 ρ vs l:=by
 intro l
 induction l with
 |nil=>intro vs h;simp[ofL]at h;subst h;exact .nil
 |cons x xs ih=>
  intro vs h;simp only[ofL]at h;cases hx:f x with
  |none=>simp[hx]at h
  |some v=>
   cases hxs:ofL f xs with
   |none=>simp[hx,hxs]at h
   |some us=>simp[hx,hxs]at h;subst h;exact .cons (hf _ _ hx) (ih hxs)
theorem qR{x:Value}{v:V}(h:ofValue x=some v):az w0 ρ v x:=by
 unfold ofValue at h;split at h
 ·split at h
  ·rename_i cs l hl;simp at h;subst h;have:=W0 (w0:=w0) (ρ:=ρ) (fun _ _=>pL) hl;simpa using az.zX this
  ·simp at h
 ·split at h
  ·rename_i y hy;simp at h;subst h;exact .iface (pL hy)
  ·simp at h
 ·exact pL h
theorem Dy{v:Value}{o:bJ}(h:cB (.const v)=some o):∃ x,o=.c x∧az w0 ρ x v:=by
 simp only[cB]at h;split at h
 ·rename_i x hx;simp at h;exact⟨x,h.symm,qR hx⟩
 ·simp at h
theorem oH:∀ {l:List Operand} {os:List bJ} {vs:List V},mY l=some os→Jr env os=some vs→(∀ x∈l,jm w0 ρ env e x)→aR w0 ρ vs (l.map e):=by
 intro l
 induction l with
 |nil=>intro os vs h h' _;simp[mY]at h;subst h;simp[Jr]at h';subst h';exact .nil
 |cons x xs ih=>
  intro os vs h h' H;simp only[mY]at h;cases hx:cB x with
  |none=>simp[hx]at h
  |some o=>
   cases hxs:mY xs with
   |none=>simp[hx,hxs]at h
   |some os' =>
    simp[hx,hxs]at h;subst h;simp only[Jr]at h';cases hv:o.ev env with
    |none=>simp[hv]at h'
    |some v=>
     cases hvs:Jr env os' with
     |none=>simp[hv,hvs]at h'
     |some us=>
      simp[hv,hvs]at h';subst h';exact .cons (H x (by simp) o v hx hv) (ih hxs hvs fun y hy=>H y (by simp[hy]))
theorem cU{t:TypeId}{n:Nat}(h:gd P t=some n)(w:World):(sizeOf t).run P w=.ok n w:=by
 unfold gd at h;split at h
 ·rename_i i hi;simp at h;simp[sizeOf,typeInfo,hi,h]
 ·simp at h
theorem jh{t:TypeId}{z:V}(h:zeroOf P t=some z):∃ x,(∀ w:World,(zeroValue t).run P w=.ok x w)∧∀ w0 ρ,az w0 ρ z x:=by
 unfold zeroOf at h;split at h
 ·rename_i i hi;split at h
  ·rename_i x hx;exact⟨x,fun w=>by simp[zeroValue,typeInfo,hi,hx],fun w0 ρ=>qR h⟩
  ·simp at h
 ·simp at h
theorem Eo{t:TypeId}{n:Nat}(h:gd P t=some n):∃ i,P.info? t=some i∧i.size=n:=by
 unfold gd at h;split at h
 ·rename_i i hi;simp at h;exact⟨i,hi,h⟩
 ·simp at h
def Cells(w0:World)(ρ:Ren)(w:World)(cs:List V)(r o:Nat):Prop:=∀ i v,cs[i]? =some v→∃ x,w.cell? ⟨r,o+i,none⟩=some x∧az w0 ρ v x
theorem Rel.cells(h:Rel w0 ρ s w){b r o lim:Nat}{cs:List V}(e:ρ b=some (r,o,lim))(hs:s.row b=some cs):Cells w0 ρ w cs r o:=by
 obtain⟨c,t,fr,h1,h2,h3,h4,h5⟩:=h.O1 e hs;intro i v hv;obtain⟨hi,rfl⟩:=bn.1 hv;obtain⟨x,hx,hr⟩:=h5 i hi;exact⟨x,by simp[World.cell?,h1,hx],hr⟩
theorem Rel.Pu(h:Rel w0 ρ s w){row:List V}{r o:Nat}{c:Nat→Value}(hr:row≠[]→r<w0.heap.size)(hc:∀ i,i<row.length→w0.cell? ⟨r,o+i,none⟩=some (c i))
  (hv:∀ i (h:i<row.length),az w0 ρ row[i] (c i)):Cells w0 ρ w row r o:=by
 intro i v he;obtain⟨hi,rfl⟩:=bn.1 he;refine⟨c i,?_,hv i hi⟩;have:=hc i hi;unfold World.cell? at this⊢;rw[h.old r (hr (fun e=>by subst e;simp at hi))];exact this
theorem Cells.list{cs:List V}{r o:Nat}(h:Cells w0 ρ w cs r o)(off n:Nat)(hn:off+n≤cs.length):
  ∃ xs:List Value,xs.length=n∧(∀ j x,xs[j]? =some x→w.cell? ⟨r,o+off+j,none⟩=some x)∧aR w0 ρ ((cs.drop off).take n) xs:=by
 have key:∀ i,i<n→∃ x,w.cell? ⟨r,o+off+i,none⟩=some x∧az w0 ρ (cs[off+i]?.getD .bA) x:=fun i hi=>by
  obtain⟨x,a,b⟩:=h (off+i) (cs[off+i]'(by omega)) (bP _);refine⟨x,by rw[Nat.add_assoc];exact a,?_⟩;rw[bP (by omega)];exact b
 refine⟨(List.range n).map fun i=>(w.cell? ⟨r,o+off+i,none⟩).getD undef,by simp,fun j x hj=> ?_,?_,fun i h1 h2=> ?_⟩
 ·simp only[List.getElem?_map]at hj;by_cases hjn:j<n
  ·rw[List.getElem?_range hjn]at hj;obtain⟨y,hy,_⟩:=key j hjn;simp[hy]at hj;rw[hy,hj]
  ·rw[List.getElem?_eq_none (by simp;omega)]at hj;simp at hj
 ·simp;omega
 ·simp at h1 h2;obtain⟨x,hx,hr⟩:=key i h2;simp only[List.getElem_map,List.getElem_range,hx,Option.getD_some,List.getElem_take,List.getElem_drop];rw[bP (by omega)]at hr;exact hr
theorem wM{cs:List V}{r o:Nat}(h:Cells w0 ρ w cs r o)(off n:Nat)(hn:off+n≤cs.length):
  ∃ xs:List Value,(loadCells ⟨r,o+off,none⟩ n).run P w=.ok xs.toArray w∧aR w0 ρ ((cs.drop off).take n) xs:=by
 obtain⟨xs,hl,hc,hr⟩:=h.list off n hn;refine⟨xs,?_,hr⟩;have:=run_loadCells_list (P:=P) w ⟨r,o+off,none⟩ xs (fun j v hv=>by rw[gV];exact hc j v hv);rwa[hl]at this
theorem nj{cs:List V}{r o:Nat}(h:Cells w0 ρ w cs r o){t:TypeId}{n:Option Nat}(hn:spread P t=some n){off:Nat}{v:V}(hv:dZ n cs off=some v):
  ∃ x,(loadVar t ⟨r,o+off,none⟩).run P w=.ok x w∧az w0 ρ v x:=by
 unfold spread at hn;have agg:∀ {d:TypeDesc},P.underlying t=some d→NL d=true→∀ m,gd P t=some m→n=some m→
   ∃ x,(loadVar t ⟨r,o+off,none⟩).run P w=.ok x w∧az w0 ρ v x:=fun {d} hu hd m hm hnm=>by
  subst hnm;simp only[dZ]at hv;cases hb:Nat.ble (off+m) cs.length with
  |false=>simp[hb]at hv
  |true=>
   simp[hb]at hv;subst hv;obtain⟨xs,hx,hr⟩:=wM (P:=P) h off m (gu hb);refine⟨.agg xs.toArray,?_,az.zX hr⟩;have hagg:(isAgg t).run P w=.ok true w:=by
    unfold isAgg;rw[Sem.run_bind,run_underlying hu w];cases d<;>simp_all [NL]
   simp[loadVar,hagg,cU hm,hx]
 split at hn
 ·rename_i fs hu;split at hn
  ·rename_i m hm;simp at hn;exact agg hu rfl m hm hn.symm
  ·simp at hn
 ·rename_i k el hu;split at hn
  ·rename_i m hm;simp at hn;exact agg hu rfl m hm hn.symm
  ·simp at hn
 ·rename_i d h1 h2 hu;simp at hn;subst hn;simp only[dZ]at hv;obtain⟨x,hx,hr⟩:=h off v hv;refine⟨x,?_,hr⟩;have hagg:(isAgg t).run P w=.ok false w:=by
   unfold isAgg;rw[Sem.run_bind,run_underlying hu w];cases d<;>simp_all [NL]
  simp[loadVar,hagg,hx]
 ·simp at hn
theorem ox{v:V}{most n:Nat}(h:asNat v most=some n):∃ k m,v=.int k m∧0≤m∧m≤(most:Int)∧m.toNat=n:=by
 unfold asNat at h;split at h
 ·rename_i k m;split at h
  ·rename_i hh;simp at h;exact⟨k,m,rfl,hh.1,hh.2,h⟩
  ·simp at h
 ·simp at h
theorem az.fG{k:IntKind}{n:Int}{x:Value}(h:az w0 ρ (.int k n) x):x=.int k n:=by cases h;rfl
theorem run_sliceBound{v:V}{x:Value}{y n:Nat}(c:BoundsCode)(h:asNat v y=some n)(hx:az w0 ρ v x)(w:World):
  (Instr.sliceBound x y c).run P w=.ok n w:=by
 obtain⟨k,m,rfl,h1,h2,h3⟩:=ox h;rw[hx.fG];simp[Instr.sliceBound,asIntOf,h1,h2,h3]
theorem Gy(k:IntKind)(n:Int)(h0:(if k.signed then -(2:Int)^(k.bits-1)else 0)≤n)(h1:n<(if k.signed then(2:Int)^(k.bits-1)else(2:Int)^k.bits)):k.wrap n=n:=by
 unfold IntKind.wrap;cases k<;>simp only[IntKind.signed,IntKind.bits,Bool.true_and,Bool.false_and,if_true,if_false,oS]at h0 h1⊢ <;>first
  |omega
  |(split
    ·rename_i hh;have hh' :=of_decide_eq_true hh;omega
    ·rename_i hh;have hh' :=of_decide_eq_false (Bool.eq_false_iff.2 hh);omega)
theorem rE(k:IntKind)(n:Int):aI k n=k.wrap n:=by
 unfold aI;cases n with
 |ofNat m=>
  simp only[];cases h:Nat.ble m (AK k)with
  |false=>rfl
  |true=>
   have:=gu h;simp only[cond_true];rw[Gy]
   ·cases k<;>simp only[IntKind.signed,IntKind.bits,if_true,if_false,oS]<;>show _≤(m:Int)<;>omega
   ·cases k<;>simp only[AK]at this<;>simp only[IntKind.signed,IntKind.bits,if_true,if_false,oS]<;>show(m:Int)<_<;>omega
 |negSucc m=>
  simp only[];cases h:k.signed&&Nat.ble m (AK k)with
  |false=>rfl
  |true=>
   rw[bC]at h;have:=gu h.2;have hs:=h.1;simp only[cond_true];rw[Gy]
   ·cases k<;>simp only[IntKind.signed,oS]at hs<;>simp only[AK]at this<;>simp only[IntKind.signed,IntKind.bits,if_true]<;>omega
   ·cases k<;>simp only[IntKind.signed,oS]at hs<;>simp only[IntKind.signed,IntKind.bits,if_true]<;>omega
theorem cg(b:ByteArray):b.toList=b.data.toList:=by
 have key:∀ (n i:Nat) (r:List UInt8),b.size - i=n→ByteArray.toList.loop b i r=r.reverse++b.data.toList.drop i:=by
  intro n
  induction n with
  |zero=>
   intro i r h;rw[ByteArray.toList.loop,if_neg (by omega),List.drop_eq_nil_of_le (by show b.data.toList.length≤i;simp;have:b.size=b.data.size:=rfl;omega)];simp
  |succ n ih=>
   intro i r h;have hi:i<b.size:=by omega
   have hi' :i<b.data.toList.length:=by simpa using hi
   rw[ByteArray.toList.loop,if_pos hi,ih (i+1) _ (by omega),XD hi'];have hg:b.get! i=b.data.toList[i]:=by
    show b.data[i]! =_;have h2:i<b.data.size:=hi;rw[getElem!_pos b.data i h2];simp
   simp[hg]
 have:=key b.size 0 [] (by omega);simpa[ByteArray.toList]using this
theorem Ep{op:BinOp}{k:IntKind}{a b:Int}{v:V}(t:TypeId)(h:jL op k a b=some v)(w:World):
  ∃ x,(Go.binOp op t (.int k a) (.int k b)).run P w=.ok x w∧az w0 ρ v x:=by
 cases op<;>simp only[jL,rE]at h<;>try (simp at h;done)
 case quo=>
  split at h
  ·simp at h
  ·rename_i hb;simp at h;subst h;exact⟨_,by simp[Go.binOp,Op.intDiv,hb],.int _ _⟩
 case rem=>
  split at h
  ·simp at h
  ·rename_i hb;simp at h;subst h;exact⟨_,by simp[Go.binOp,Op.intDiv,hb],.int _ _⟩
 all_goals (simp only[ai]at h;subst h;refine⟨_,?_,by first|exact .int _ _|exact .bool _⟩;simp only[Go.binOp,ne_eq,not_true_eq_false,if_false];rfl)
theorem uN{op:BinOp}{k j:IntKind}{a b:Int}{v:V}(t:TypeId)(ho:op=.shl∨op=.shr)(h:wN op k a b=some v)(w:World):
  ∃ x,(Go.binOp op t (.int k a) (.int j b)).run P w=.ok x w∧az w0 ρ v x:=by
 rcases ho with rfl|rfl<;>simp only[wN,rE]at h<;>split at h<;>simp only[reduceCtorEq,ai]at h<;>rename_i hb<;>subst h
 ·exact⟨_,by simp only[Go.binOp,Op.shift,hb,if_false,Sem.run_pure],.int _ _⟩
 ·exact⟨_,by simp only[Go.binOp,Op.shift,hb,if_false,Sem.run_pure],.int _ _⟩
theorem ET{op:BinOp}{a b:List UInt8}{x y:ByteArray}{v:V}(hx:x.data.toList=a)(hy:y.data.toList=b)(h:kL op a b=some v)(w:World):
  ∃ z,(Op.stringOp op x y).run P w=.ok z w∧az w0 ρ v z:=by
 have ex:x.toList=a:=(cg x).trans hx;have ey:y.toList=b:=(cg y).trans hy;have sx:x.size=a.length:=by rw[←hx];simp
 have sy:y.size=b.length:=by rw[←hy];simp
 cases op<;>simp only[kL]at h<;>try (simp at h;done)
 case add=>
  cases hb:Nat.ble (a.length+b.length) bp with
  |false=>simp[hb]at h
  |true=>
   have hb' :=gu hb;simp only[hb,cond_true,ai]at h;subst h;refine⟨.string (x++y),?_,.str (by rw[←hx,←hy];simp)⟩;have:¬((x.size+y.size:Nat):Int)>IntKind.i64.max:=by
    rw[sx,sy];unfold bp at hb';simp[IntKind.max,IntKind.bits];omega
   simp only[Op.stringOp];rw[if_neg this];rfl
 all_goals (simp only[ai]at h;subst h;refine⟨_,?_,.bool _⟩;simp only[Op.stringOp,ex,ey];rfl)
theorem az.gx{b:Bool}{x:Value}(h:az w0 ρ (.bool b) x):x=.bool b:=by cases h;rfl
theorem az.gi{l:List UInt8}{x:Value}(h:az w0 ρ (.str l) x):∃ s,x=.string s∧s.data.toList=l:=by cases h;exact⟨_,rfl,by assumption⟩
def qq(P:Program)(t:TypeId):gR→Prop
 | .bool=>P.underlying t=some .bool
 | .int=>∃ j,P.underlying t=some (.int j)
 | .str=>P.underlying t=some .string
 |_=>False
theorem nQ{k:gR}{a b:V}{r:Bool}(h:jM k a b=some r):
  (∃ x y,k=.bool∧a=.bool x∧b=.bool y∧r=(x==y))∨(∃ j x y,k=.int∧a=.int j x∧b=.int j y∧r=(x==y))∨(∃ x y,k=.str∧a=.str x∧b=.str y∧r=(x==y)):=by
 unfold jM at h;split at h
 ·simp only[ai]at h;exact .inl ⟨_,_,rfl,rfl,rfl,h.symm⟩
 ·split at h
  ·rename_i hjk;simp only[ai]at h;subst hjk;exact .inr (.inl ⟨_,_,_,rfl,rfl,rfl,h.symm⟩)
  ·simp at h
 ·simp only[ai]at h;exact .inr (.inr ⟨_,_,rfl,rfl,rfl,h.symm⟩)
 ·simp at h
theorem CM{k:gR}{a b:V}{x y:Value}{r:Bool}(h:jM k a b=some r)(hx:az w0 ρ a x)(hy:az w0 ρ b y){t:TypeId}
  (ht:qq P t k) (d:Nat) (w:World):(Op.equalIn (d+1) t x y).run P w=.ok r w:=by
 rcases nQ h with⟨p,q,rfl,rfl,rfl,rfl⟩|⟨j,p,q,rfl,rfl,rfl,rfl⟩|⟨p,q,rfl,rfl,rfl,rfl⟩
 ·rw[hx.gx,hy.gx];exact run_equalIn_bool' w d t _ _ ht
 ·rw[hx.fG,hy.fG];obtain⟨j',hj'⟩:=ht;exact run_equalIn_int w d t _ _ _ _ hj'
 ·obtain⟨p,rfl,hp⟩:=hx.gi;obtain⟨q,rfl,hq⟩:=hy.gi;rw[run_equalIn_string w d t _ _ ht,cg,cg,hp,hq]
theorem Jx{f:Field}{fs:List Field}{ks:List (Nat×gR)}(h:flatK P (f::fs)=some ks):
  ∃ k r,ks=(f.offset,k)::r∧flatK P fs=some r∧f.name≠ "_" ∧(∃ d,P.underlying f.type=some d∧NL d=false)∧qq P f.type k:=by
 simp only[flatK]at h;cases hn:f.name== "_" with
 |true=>simp[hn]at h
 |false=>
  have hn' :f.name≠ "_" :=by simpa using hn
  simp only[hn,cond_false]at h;cases hr:flatK P fs with
  |none=>rw[hr]at h;split at h<;>simp_all
  |some r=>
   rw[hr]at h;split at h<;>simp only[ai,reduceCtorEq]at h
   ·rename_i hu he;cases he;exact⟨.bool,r,h.symm,rfl,hn',⟨_,hu,rfl⟩,hu⟩
   ·rename_i j hu he;cases he;exact⟨.int,r,h.symm,rfl,hn',⟨_,hu,rfl⟩,⟨_,hu⟩⟩
   ·rename_i hu he;cases he;exact⟨.str,r,h.symm,rfl,hn',⟨_,hu,rfl⟩,hu⟩
theorem uM{t:TypeId}{d:TypeDesc}(hu:P.underlying t=some d)(hd:NL d=false){cs:Array Value}{off:Nat}{x:Value}
  (hx:cs[off]? =some x) (w:World):(part t cs off).run P w=.ok x w:=by
 have hagg:(isAgg t).run P w=.ok false w:=by
  unfold isAgg;rw[Sem.run_bind,run_underlying hu w];cases d<;>simp_all [NL]
 simp[part,hagg,hx]
theorem Ei{xs' ys' :Array Value}{xs ys:List V}(hx:aR w0 ρ xs xs'.toList)(hy:aR w0 ρ ys ys'.toList)(d:Nat)(w:World):
  ∀ {fs:List Field} {ks:List (Nat×gR)} {r:Bool},flatK P fs=some ks→qE ks xs ys=some r→(Op.eqFields (d+1) xs' ys' fs).run P w=.ok r w:=by
 intro fs
 induction fs with
 |nil=>
  intro ks r h h';simp[flatK]at h;subst h;simp[qE]at h';subst h';simp[Op.eqFields]
 |cons f fs ih=>
  intro ks r h h';obtain⟨k,rest,rfl,hr,hn,⟨dd,hu,hdd⟩,hk⟩:=Jx h;simp only[qE]at h';cases ha:xs[f.offset]? with
  |none=>simp[ha]at h'
  |some a=>
   cases hb:ys[f.offset]? with
   |none=>simp[ha,hb]at h'
   |some b=>
    simp only[ha,hb]at h';obtain⟨x,hx1,hx2⟩:=hx.get ha;obtain⟨y,hy1,hy2⟩:=hy.get hb;have px:=uM (P:=P) hu hdd (cs:=xs') (off:=f.offset) (x:=x) (by simpa using hx1) w;have py:=uM (P:=P) hu hdd (cs:=ys') (off:=f.offset) (x:=y) (by simpa using hy1) w;cases he:jM k a b with
    |none=>simp[he]at h'
    |some q=>
     have hq:=CM he hx2 hy2 hk d w;simp only[Op.eqFields,if_pos hn,Sem.run_bind,px,py,hq,Result.andThen_ok];cases q with
     |true=>simp only[he]at h';simpa using ih hr h'
     |false=>simp[he]at h';subst h';simp
def NJ(P:Program)(t:TypeId)(x y:Operand):gR→Prop
 | .bool=>P.underlying t=some .bool
 | .int=>∃ j,P.underlying t=some (.int j)
 | .str=>P.underlying t=some .string
 | .bA=>∃ el,P.underlying t=some (.pointer el)
 | .bu=>∃ el,P.underlying t=some (.slice el)
 | .bQ=>∃ a b,P.underlying t=some (.map a b)
 | .di=>∃ a b c,P.underlying t=some (.func a b c)
 | .iface g=>(∃ ms,P.underlying t=some (.interface ms))∧g= !(dU x||dU y)
 | .flat ks=>∃ fs,P.underlying t=some (.struct fs)∧flatK P fs.toList=some ks∧P.stoodInHeld t=false∧P.eqGuardType P.depth t=false
 | .no=>True
theorem qaC(op:BinOp)(t:TypeId)(x y:Operand):NJ P t x y (OW P op t x y):=by
 have key:NJ P t x y (OW P .eql t x y):=by
  simp only[OW];split
  ·assumption
  ·exact⟨_,by assumption⟩
  ·assumption
  ·exact⟨_,by assumption⟩
  ·exact⟨_,by assumption⟩
  ·exact⟨_,_,by assumption⟩
  ·exact⟨_,_,_,by assumption⟩
  ·exact⟨⟨_,by assumption⟩,rfl⟩
  ·rename_i fs hu;split
   ·rename_i ks hks;cases hs:P.stoodInHeld t with
    |true=>simp[NJ]
    |false=>
     cases hg:P.eqGuardType P.depth t with
     |true=>simp[NJ]
     |false=>exact⟨fs,hu,hks,hs,hg⟩
   ·trivial
  ·trivial
 cases op<;>first|exact key|trivial
theorem uj{t el:TypeId}(h:P.underlying t=some (.pointer el))(d:Nat)(w:World)(a:Addr):
  (Op.equalIn (d+1) t (.pointer none) (.pointer none)).run P w=.ok true w∧(Op.equalIn (d+1) t (.pointer none) (.pointer (some a))).run P w=.ok false w∧
  (Op.equalIn (d+1) t (.pointer (some a)) (.pointer none)).run P w=.ok false w:=by
 refine⟨?_,?_,?_⟩<;>(unfold Op.equalIn;rw[Sem.run_bind,run_underlying h];rfl)
theorem pe{t el:TypeId}(h:P.underlying t=some (.slice el))(d:Nat)(w:World)(a:Addr)(l c:Nat):
  (Op.equalIn (d+1) t (.slice none 0 0) (.slice none 0 0)).run P w=.ok true w∧(Op.equalIn (d+1) t (.slice none 0 0) (.slice (some a) l c)).run P w=.ok false w∧
  (Op.equalIn (d+1) t (.slice (some a) l c) (.slice none 0 0)).run P w=.ok false w:=by
 refine⟨?_,?_,?_⟩<;>(unfold Op.equalIn;rw[Sem.run_bind,run_underlying h];rfl)
theorem Ee{t k el:TypeId}(h:P.underlying t=some (.map k el))(d:Nat)(w:World)(a:Nat):
  (Op.equalIn (d+1) t (.map none) (.map none)).run P w=.ok true w∧(Op.equalIn (d+1) t (.map none) (.map (some a))).run P w=.ok false w∧
  (Op.equalIn (d+1) t (.map (some a)) (.map none)).run P w=.ok false w:=by
 refine⟨?_,?_,?_⟩<;>(unfold Op.equalIn;rw[Sem.run_bind,run_underlying h];rfl)
theorem Ec{t:TypeId}{p q:Array TypeId}{b:Bool}(h:P.underlying t=some (.func p q b))(d:Nat)(w:World)(f:Fn)(x y:Array Value):
  (Op.equalIn (d+1) t .nilFunc .nilFunc).run P w=.ok true w∧(Op.equalIn (d+1) t .nilFunc (.func f x y)).run P w=.ok false w∧
  (Op.equalIn (d+1) t (.func f x y) .nilFunc).run P w=.ok false w:=by
 refine⟨?_,?_,?_⟩<;>(unfold Op.equalIn;rw[Sem.run_bind,run_underlying h];rfl)
theorem Ed{t:TypeId}{ms:Array (String×TypeId)}(h:P.underlying t=some (.interface ms))(d:Nat)(w:World)(u:TypeId)(x:Value):
  (Op.equalIn (d+1) t .nilIface .nilIface).run P w=.ok true w∧(Op.equalIn (d+1) t .nilIface (.iface u x)).run P w=.ok false w∧
  (Op.equalIn (d+1) t (.iface u x) .nilIface).run P w=.ok false w:=by
 refine⟨?_,?_,?_⟩<;>(unfold Op.equalIn;rw[Sem.run_bind,run_underlying h];rfl)
def wR:Value→Value→Bool
 | .nilIface,.nilIface=>false
 | .agg _,.agg _=>false
 |_,_=>true
theorem aY{op:BinOp}{t:TypeId}{x y:Operand}{u v:Value}(h:wR u v=true)(w:World):(eqGuard op t x y u v).run P w=.ok () w:=by
 cases op<;>first
  |rfl
  |(unfold eqGuard
    simp only[Bool.not_true,oS,if_false];split<;>first|(simp[wR]at h;done)|rfl)
theorem Jo(d:Nat){op:BinOp}{ek:gR}{t:TypeId}{x y:Operand}{a b:V}{r:Bool}{u v:Value}(hk:NJ P t x y ek)(h:GC ek a b=some r)(hu:az w0 ρ a u)(hv:az w0 ρ b v)(w:World):
  (Op.equalIn (d+2) t u v).run P w=.ok r w∧(eqGuard op t x y u v).run P w=.ok () w:=by
 unfold GC at h;split at h
 ·simp only[ai]at h;subst h;rw[hu.gx,hv.gx];exact⟨run_equalIn_bool' w _ t _ _ hk,aY rfl w⟩
 ·simp only[ai]at h;subst h;obtain⟨el,hk⟩:=hk;cases hu;cases hv;exact⟨(uj hk _ w ⟨0,0,none⟩).1,aY rfl w⟩
 ·simp only[ai]at h;subst h;obtain⟨el,hk⟩:=hk;cases hu;cases hv;exact⟨(uj hk _ w _).2.1,aY rfl w⟩
 ·simp only[ai]at h;subst h;obtain⟨el,hk⟩:=hk;cases hu;cases hv;exact⟨(uj hk _ w _).2.1,aY rfl w⟩
 ·simp only[ai]at h;subst h;obtain⟨el,hk⟩:=hk;cases hu;cases hv;exact⟨(uj hk _ w _).2.2,aY rfl w⟩
 ·simp only[ai]at h;subst h;obtain⟨el,hk⟩:=hk;cases hu;cases hv;exact⟨(uj hk _ w _).2.2,aY rfl w⟩
 ·simp only[ai]at h;subst h;obtain⟨el,hk⟩:=hk;cases hu;cases hv;exact⟨(pe hk _ w ⟨0,0,none⟩ 0 0).1,aY rfl w⟩
 ·simp only[ai]at h;subst h;obtain⟨el,hk⟩:=hk;cases hu;cases hv;exact⟨(pe hk _ w _ _ _).2.1,aY rfl w⟩
 ·simp only[ai]at h;subst h;obtain⟨el,hk⟩:=hk;cases hu;cases hv;exact⟨(pe hk _ w _ _ _).2.1,aY rfl w⟩
 ·simp only[ai]at h;subst h;obtain⟨el,hk⟩:=hk;cases hu;cases hv;exact⟨(pe hk _ w _ _ _).2.1,aY rfl w⟩
 ·simp only[ai]at h;subst h;obtain⟨el,hk⟩:=hk;cases hu;cases hv;exact⟨(pe hk _ w _ _ _).2.2,aY rfl w⟩
 ·simp only[ai]at h;subst h;obtain⟨el,hk⟩:=hk;cases hu;cases hv;exact⟨(pe hk _ w _ _ _).2.2,aY rfl w⟩
 ·simp only[ai]at h;subst h;obtain⟨el,hk⟩:=hk;cases hu;cases hv;exact⟨(pe hk _ w _ _ _).2.2,aY rfl w⟩
 ·simp only[ai]at h;subst h;obtain⟨k,el,hk⟩:=hk;cases hu;cases hv;exact⟨(Ee hk _ w 0).1,aY rfl w⟩
 ·simp only[ai]at h;subst h;obtain⟨k,el,hk⟩:=hk;cases hu;cases hv;exact⟨(Ee hk _ w _).2.1,aY rfl w⟩
 ·simp only[ai]at h;subst h;obtain⟨k,el,hk⟩:=hk;cases hu;cases hv;exact⟨(Ee hk _ w _).2.2,aY rfl w⟩
 ·simp only[ai]at h;subst h;obtain⟨p,q,bb,hk⟩:=hk;cases hu;cases hv;exact⟨(Ec hk _ w (.func 0) #[] #[]).1,aY rfl w⟩
 ·simp only[ai]at h;subst h;obtain⟨p,q,bb,hk⟩:=hk;cases hu;cases hv;exact⟨(Ec hk _ w _ _ _).2.1,aY rfl w⟩
 ·simp only[ai]at h;subst h;obtain⟨p,q,bb,hk⟩:=hk;cases hu;cases hv;exact⟨(Ec hk _ w _ _ _).2.2,aY rfl w⟩
 ·obtain⟨⟨ms,hk⟩,hg⟩:=hk;simp only[ai]at h;subst h;cases hu;cases hv;refine⟨(Ed hk _ w 0 .nilFunc).1,?_⟩;have hg' :dU x=true∨dU y=true:=by
   cases hx:dU x
   ·rw[hx]at hg;right;simpa using hg.symm
   ·exact .inl rfl
  cases op<;>first
   |rfl
   |(unfold eqGuard
     simp only[Bool.not_true,oS,if_false];rw[if_pos]
     ·rfl
     ·rcases hg' with hg' |hg'
      ·cases x<;>simp[dU]at hg'⊢
      ·cases y<;>simp[dU]at hg'⊢)
 ·obtain⟨⟨ms,hk⟩,hg⟩:=hk;simp only[ai]at h;subst h;cases hu;cases hv;exact⟨(Ed hk _ w _ _).2.1,aY rfl w⟩
 ·obtain⟨⟨ms,hk⟩,hg⟩:=hk;simp only[ai]at h;subst h;cases hu;cases hv;exact⟨(Ed hk _ w _ _).2.2,aY rfl w⟩
 ·obtain⟨fs,hk,hks,hs,hg⟩:=hk;cases hu with
  |agg ha va=>
   cases hv with
   |agg hb vb=>
    refine⟨?_,run_eqGuard_agg w op t x y _ _ hg⟩;have hf:P.fieldsOf t=fs:=by simp[Program.fieldsOf,hk]
    rw[run_equalIn_struct (P:=P) w (d+1) t _ _ (by rw[hf];exact hk) hs,hf];exact Ei (aR.of_array ha va) (aR.of_array hb vb) d w hks h
 ·simp at h
theorem N3{op:BinOp}{ek:gR}{t:TypeId}{x y:Operand}{a b:V}{r:Bool}{u v:Value}(hk:NJ P t x y ek)(h:GC ek a b=some r)(hu:az w0 ρ a u)(hv:az w0 ρ b v)(w:World):
  (Op.equal t u v).run P w=.ok r w∧(eqGuard op t x y u v).run P w=.ok () w:=Jo 9998 hk h hu hv w
end
end Go.RE
namespace Go.RE
section
variable{P:Program}{w0:World}{ρ:Ren}{s:St}{w:World}{env:PT V}{e:Operand→Value}
def OZ(P:Program)(w0:World)(ρ:Ren)(w:World)(e:Operand→Value)(o:Oper)(v:V):Prop:=∃ x,(execOp e o).run P w=.ok (.value x) w∧az w0 ρ v x
theorem bO{o:Oper}{v:V}{S:Sem Value}(he:execOp e o=(do pure (.value (←S))))(h:∃ x,S.run P w=.ok x w∧az w0 ρ v x):OZ P w0 ρ w e o v:=by
 obtain⟨x,h1,h2⟩:=h;exact⟨x,by rw[he];simp[h1],h2⟩
theorem kH{x:Option Operand}{x' :Option bJ}(h:mX x=some x'){d most n:Nat}(hn:au env x' d most=some n)(H:∀ y,x=some y→jm w0 ρ env e y):
  (x=none∧n=d)∨(∃ y v,x=some y∧asNat v most=some n∧az w0 ρ v (e y)):=by
 cases x with
 |none=>simp[mX]at h;subst h;simp[au]at hn;exact .inl ⟨rfl,hn.symm⟩
 |some y=>
  simp only[mX]at h;split at h
  ·rename_i o ho;simp at h;subst h;simp only[au]at hn;split at hn
   ·rename_i v hv;exact .inr ⟨y,v,rfl,hn,H y rfl o v ho hv⟩
   ·simp at hn
  ·simp at h
theorem zY{v:V}{most n:Nat}(h:asNat v most=some n):n≤most:=by
 obtain⟨k,m,rfl,h1,h2,h3⟩:=ox h;omega
theorem ep{isSlice:Bool}{len cap cap' :Nat}{lo hi mx:Option Operand}{lo' hi' mx' :Option bJ}{l h m:Nat}(e1:mX lo=some lo')(e2:mX hi=some hi')(e3:mX mx=some mx')
  (hmx:mx.isSome=true→hi.isSome=true) (n3:au env mx' cap cap=some m) (n2:au env hi' len m=some h) (n1:au env lo' 0 h=some l) (hcap:cap≤cap')
  (H1:∀ y,lo=some y→jm w0 ρ env e y) (H2:∀ y,hi=some y→jm w0 ρ env e y) (H3:∀ y,mx=some y→jm w0 ρ env e y) (w:World):
  (Instr.sliceBounds isSlice len cap' (lo.map e) (hi.map e) (mx.map e)).run P w=.ok (l,h,if mx.isSome then m else cap') w:=by
 have up:∀ {v:V} {a b n:Nat},asNat v a=some n→a≤b→asNat v b=some n:=fun {v a b n} hh hab=>by
  obtain⟨k,q,rfl,h1,h2,h3⟩:=ox hh;simp only[asNat];rw[if_pos ⟨h1,by omega⟩,h3]
 unfold Instr.sliceBounds;rcases kH e3 n3 H3 with⟨rfl,rfl⟩|⟨y3,v3,rfl,a3,r3⟩
 ·rcases kH e2 n2 H2 with⟨rfl,rfl⟩|⟨y2,v2,rfl,a2,r2⟩
  ·rcases kH e1 n1 H1 with⟨rfl,rfl⟩|⟨y1,v1,rfl,a1,r1⟩
   ·simp
   ·simp[run_sliceBound _ a1 r1]
  ·rcases kH e1 n1 H1 with⟨rfl,rfl⟩|⟨y1,v1,rfl,a1,r1⟩
   ·simp[run_sliceBound _ (up a2 hcap) r2]
   ·simp[run_sliceBound _ (up a2 hcap) r2,run_sliceBound _ a1 r1]
 ·rcases kH e2 n2 H2 with⟨rfl,rfl⟩|⟨y2,v2,rfl,a2,r2⟩
  ·simp at hmx
  ·rcases kH e1 n1 H1 with⟨rfl,rfl⟩|⟨y1,v1,rfl,a1,r1⟩
   ·simp[run_sliceBound _ (up a3 hcap) r3,run_sliceBound _ a2 r2]
   ·simp[run_sliceBound _ (up a3 hcap) r3,run_sliceBound _ a2 r2,run_sliceBound _ a1 r1]
theorem dm{x:Option bJ}{d most n:Nat}(hd:d≤most)(h:au env x d most=some n):n≤most:=by
 cases x with
 |none=>simp[au]at h;omega
 |some o=>
  simp only[au]at h;split at h
  ·exact zY h
  ·simp at h
theorem JR{t:TypeId}{n:Option Nat}{x:Operand}{o:bJ}{v:V}(hn:spread P t=some n)(ho:cB x=some o)(hv:cD env s (.load n o)=some v)(hR:Rel w0 ρ s w)(H:jm w0 ρ env e x):
  ∃ y,(Instr.loadAt t (e x)).run P w=.ok y w∧az w0 ρ v y:=by
 simp only[cD]at hv;split at hv
 ·rename_i b off ho';have hx:=H o _ ho ho';cases hs:s.row b with
  |none=>simp[hs]at hv
  |some cs=>
   simp only[hs]at hv;generalize e x=z at hx;cases hx with
   |ptr hρ=>
    obtain⟨y,h1,h2⟩:=nj (hR.cells hρ hs) hn hv;exact⟨y,by simp[Instr.loadAt,Instr.sureAddr,h1],h2⟩
 ·rename_i row off ho';have hx:=H o _ ho ho';generalize e x=z at hx;cases hx with
  |eD c hr hc hcv=>
   obtain⟨y,h1,h2⟩:=nj (P:=P) (hR.Pu hr hc hcv) hn hv;exact⟨y,by simp[Instr.loadAt,Instr.sureAddr,h1],h2⟩
 ·simp at hv
theorem qX(cs:List V)(off:Nat)(vs:List V)(h:off+vs.length≤cs.length):(jQ cs off vs).length=cs.length:=by
 simp[jQ];omega
theorem aR.tF{a:List V}{b:List Value}(hl:a.length=b.length)(h:∀ (i:Nat) v,a[i]? =some v→∃ x,b[i]? =some x∧az w0 ρ v x):aR w0 ρ a b:=
 ⟨hl,fun i h1 h2=>by
  obtain⟨x,hx,hr⟩:=h i a[i] (bP h1);rw[bP h2]at hx;simp at hx;rw[hx];exact hr⟩
theorem Mx(cs:List V)(off:Nat)(vs:List V)(h:off+vs.length≤cs.length)(j:Nat):
  (jQ cs off vs)[j]? =if j<off then cs[j]? else if j<off+vs.length then vs[j - off]? else cs[j]? :=by
 unfold jQ;by_cases h1:j<off
 ·rw[if_pos h1,kO,cz (by simp;omega),jN,if_pos h1]
 ·rw[if_neg h1];by_cases h2:j<off+vs.length
  ·rw[if_pos h2,cz (by simp;omega),fh (by simp;omega)];simp[show min off cs.length=off from by omega]
  ·rw[if_neg h2,fh (by simp;omega),qd];congr 1;simp;omega
theorem Oa(o:Nat):∀ (l:List Value) (k:Nat) (A:Array Value),∃ B:Array Value,(l.zipIdx k).foldl (fun cs (c,j)=>cs.setIfInBounds (o+j) c) A=B∧B.size=A.size∧
  ∀ j,B[j]? =if o+k≤j∧j<o+k+l.length∧j<A.size then l[j - (o+k)]? else A[j]? :=by
 intro l
 induction l with
 |nil=>intro k A;exact⟨A,rfl,rfl,fun j=>by rw[if_neg (by simp;omega)]⟩
 |cons c l ih=>
  intro k A;obtain⟨B,h1,h2,h3⟩:=ih (k+1) (A.setIfInBounds (o+k) c);refine⟨B,by simpa[List.zipIdx_cons]using h1,by simpa using h2,fun j=> ?_⟩;rw[h3,GA];simp only[Array.size_setIfInBounds,List.length_cons];by_cases hj:o+(k+1)≤j∧j<o+(k+1)+l.length∧j<A.size
  ·rw[if_pos hj,if_pos (by omega),show j - (o+k)=(j - (o+(k+1)))+1 from by omega];simp
  ·rw[if_neg hj];by_cases hk:o+k=j
   ·subst hk;by_cases hs:o+k<A.size
    ·rw[if_pos rfl,if_pos hs,if_pos (by omega)];simp
    ·rw[if_pos rfl,if_neg hs,if_neg (by omega),CW (by omega)]
   ·rw[if_neg hk,if_neg (by omega)]
theorem tj{place:Nat→Option (Nat×Nat)}:∀ {parts:List (Nat×Operand)} {parts' :List (Nat×Nat×bJ)} {cells:List V} {cells' :Array Value} {out:List V},kS place parts=some parts'→mH env cells parts' =some out→aR w0 ρ cells cells'.toList→(∀ p∈parts,jm w0 ρ env e p.2)→
  ∃ out' :Array Value,Instr.fill place cells' (parts.map fun p=>(p.1,e p.2))=some out'∧aR w0 ρ out out'.toList:=by
 intro parts
 induction parts with
 |nil=>
  intro parts' cells cells' out h h' hr _;simp[kS]at h;subst h;simp[mH]at h';subst h';exact⟨cells',rfl,hr⟩
 |cons p parts ih=>
  intro parts' cells cells' out h h' hr H;obtain⟨i,x⟩:=p;simp only[kS]at h;cases hp:place i with
  |none=>simp[hp]at h
  |some on=>
   obtain⟨o,n⟩:=on;cases hx:cB x with
   |none=>simp[hp,hx]at h
   |some xo=>
    cases hq:kS place parts with
    |none=>simp[hp,hx,hq]at h
    |some rest=>
     simp[hp,hx,hq]at h;subst h;simp only[mH]at h';cases hv:xo.ev env with
     |none=>simp[hv]at h'
     |some v=>
      simp only[hv]at h';cases hb:(Nat.beq v.cells.length n&&Nat.ble (o+v.cells.length) cells.length)with
      |false=>simp[hb]at h'
      |true=>
       simp only[hb,cond_true]at h';simp only[bC]at hb;have b1:v.cells.length=n:=bR hb.1;have b2:=gu hb.2;have hvr:=(H (i,x) (by simp) xo v hx hv).cells;have e1:(e x).cells.size=n:=by rw[←b1,hvr.1];simp
       have e2:cells'.size=cells.length:=by have:=hr.1;simp at this;omega
       obtain⟨B,h1,h2,h3⟩:=Oa o (e x).cells.toList 0 cells';have hB:(e x).cells.zipIdx.foldl (fun cs (c,j)=>cs.setIfInBounds (o+j) c) cells' =B:=by
        rw[←h1,←Array.foldl_toList];simp
       have hl:=hvr.1;simp only[Array.length_toList]at hl;have hnew:aR w0 ρ (jQ cells o v.cells) B.toList:=aR.tF (by rw[qX _ _ _ b2];simp[h2,e2]) fun j u hu=>by
        rw[Mx _ _ _ b2]at hu;rw[Array.getElem?_toList,h3];simp only[Nat.add_zero,Array.length_toList];by_cases c1:j<o
        ·rw[if_pos c1]at hu;rw[if_neg (by omega)];simpa using hr.get hu
        ·rw[if_neg c1]at hu;by_cases c2:j<o+v.cells.length
         ·rw[if_pos c2]at hu;rw[if_pos (by omega)];exact hvr.get hu
         ·rw[if_neg c2]at hu;rw[if_neg (by omega)];simpa using hr.get hu
       obtain⟨out',g1,g2⟩:=ih hq h' hnew fun p hp=>H p (by simp[hp]);refine⟨out',?_,g2⟩;simp only[List.map_cons,Instr.fill,hp];rw[if_neg]
       ·rw[hB];exact g1
       ·simp;omega
theorem J6:∀ {fs:List Field} {ps:List (Nat×Nat)},places P fs=some ps→∀ w:World,(fs.mapM (m:=Sem) fun(f:Field)=>Prod.mk f.offset<$>sizeOf f.type).run P w=.ok ps w:=by
 intro fs
 induction fs with
 |nil=>intro ps h w;simp[places]at h;subst h;simp
 |cons f fs ih=>
  intro ps h w;simp only[places]at h;cases h1:gd P f.type with
  |none=>simp[h1]at h
  |some n=>
   cases h2:places P fs with
   |none=>simp[h1,h2]at h
   |some r=>simp[h1,h2]at h;subst h;simp[List.mapM_cons,cU h1,ih h2]
theorem GL{t:TypeId}{parts:List (Nat×Operand)}{fs:Array Field}{z:V}{ps:List (Nat×Nat)}{l:List (Nat×Nat×bJ)}{out:List V}
  (hu:P.underlying t=some (.struct fs)) (hz:zeroOf P t=some z) (hp:places P fs.toList=some ps) (hl:kS (fun i=>ps[i]?) parts=some l) (hf:mH env z.cells l=some out)
  (H:∀ p∈parts,jm w0 ρ env e p.2) (w:World):∃ x,(Instr.build t (parts.toArray.map fun p=>(p.1,e p.2))).run P w=.ok x w∧az w0 ρ (.agg out) x:=by
 obtain⟨zx,hzr,hzv⟩:=jh hz;obtain⟨out',h1,h2⟩:=tj (cells' :=zx.cells) hl hf (hzv w0 ρ).cells H;refine⟨.agg out',?_,by simpa using az.zX h2⟩;have hm:(fs.mapM (m:=Sem) fun(f:Field)=>do pure (f.offset,←sizeOf f.type)).run P w=.ok ps.toArray w:=by
  rw[show(fun(f:Field)=>(do pure (f.offset,←sizeOf f.type):Sem (Nat×Nat)))=(fun(f:Field)=>Prod.mk f.offset<$>sizeOf f.type)from by funext f;simp,Array.mapM_eq_mapM_toList];simp[J6 hp w]
 unfold Instr.build;simp only[Sem.run_bind,hzr,Result.andThen_ok,run_underlying hu,hm];have hfill:Instr.fill (fun x=>ps.toArray[x]?) zx.cells (parts.toArray.map fun p=>(p.1,e p.2)).toList=some out' :=by
  simpa using h1
 simp only[hfill];rfl
theorem NQ{t el:TypeId}{n sz:Nat}{parts:List (Nat×Operand)}{z:V}{l:List (Nat×Nat×bJ)}{out:List V}
  (hu:P.underlying t=some (.array n el)) (hz:zeroOf P t=some z) (hs:gd P el=some sz) (hl:kS (fun i=>some (i*sz,sz)) parts=some l) (hf:mH env z.cells l=some out)
  (H:∀ p∈parts,jm w0 ρ env e p.2) (w:World):∃ x,(Instr.build t (parts.toArray.map fun p=>(p.1,e p.2))).run P w=.ok x w∧az w0 ρ (.agg out) x:=by
 obtain⟨zx,hzr,hzv⟩:=jh hz;obtain⟨out',h1,h2⟩:=tj (cells' :=zx.cells) hl hf (hzv w0 ρ).cells H;refine⟨.agg out',?_,by simpa using az.zX h2⟩;unfold Instr.build;simp only[Sem.run_bind,hzr,Result.andThen_ok,run_underlying hu,cU hs];have hfill:Instr.fill (fun i=>some (i*sz,sz)) zx.cells (parts.toArray.map fun p=>(p.1,e p.2)).toList=some out' :=by
  simpa using h1
 simp only[hfill];rfl
theorem CD:∀ {cs:List V} {bs:List UInt8} {xs:List Value},bytesOf cs=some bs→aR w0 ρ cs xs→∃ ns:List Int,xs=ns.map (Value.int .u8)∧ns.map (fun n=>UInt8.ofNat n.toNat)=bs:=by
 intro cs
 induction cs with
 |nil=>intro bs xs h hr;simp[bytesOf]at h;subst h;exact⟨[],hr.dY,rfl⟩
 |cons c cs ih=>
  intro bs xs h hr;obtain⟨x,xs',rfl,hx,hxs⟩:=hr.bx;cases c with
  |int k n=>
   cases k<;>simp only[bytesOf,reduceCtorEq]at h;cases hb:bytesOf cs with
   |none=>simp[hb]at h
   |some r=>
    simp[hb]at h;subst h;obtain⟨ns,rfl,h2⟩:=ih hb hxs;exact⟨n::ns,by rw[hx.fG];rfl,by simp[h2]⟩
  |_=>simp[bytesOf]at h
theorem foldl_push(ns:List Int):∀ (b:ByteArray),(ns.foldl (fun r n=>r.push (UInt8.ofNat n.toNat)) b).data.toList=b.data.toList++ns.map (fun n=>UInt8.ofNat n.toNat):=by
 induction ns with
 |nil=>intro b;simp
 |cons n ns ih=>intro b;simp only[List.foldl_cons,ih,List.map_cons];simp[ByteArray.push]
theorem gb{wd:Nat}{v:V}{x:Value}{cs:List V}(hv:bH s wd v=some cs)(hR:Rel w0 ρ s w)(hx:az w0 ρ v x):
  (x=.slice none 0 0∧cs=[])∨∃ a len cap xs,x=.slice (some a) len cap∧tw v=some len∧xs.length=len*wd∧(∀ j u,xs[j]? =some u→w.cell? (a.add j)=some u)∧aR w0 ρ cs xs:=by
 unfold bH at hv;split at hv
 ·simp at hv;subst hv;cases hx;exact .inl ⟨rfl,rfl⟩
 ·simp at hv;subst hv;cases hx;exact .inr ⟨_,0,0,[],rfl,rfl,by simp,fun j u hj=>by simp at hj,.nil⟩
 ·rename_i b off len cap sz ex;cases hs:s.row b with
  |none=>simp[hs]at hv
  |some row=>
   simp only[hs]at hv;cases hb:(Nat.beq sz wd&&Nat.ble (off+len*sz) row.length)with
   |false=>simp[hb]at hv
   |true=>
    simp only[hb,cond_true,ai]at hv;subst hv;simp only[bC]at hb;have b1:sz=wd:=bR hb.1;have b2:=gu hb.2;subst b1;cases hx with
    |slice hρ h1 h2 h3 h4 hcb=>
     obtain⟨xs,g1,g2,g3⟩:=(hR.cells hρ hs).list off (len*sz) b2;rename_i r o lim a cap';refine .inr ⟨a,len,cap',xs,rfl,rfl,g1,fun j u hj=> ?_,g3⟩;rcases h4 with h4|⟨rfl,_⟩
     ·have:len=0:=by omega
      subst this;have:xs=[]:=jT (by rw[g1];simp);subst this;simp at hj
     ·rw[gV];exact g2 j u hj
 ·rename_i row off len sz;cases hb:(Nat.beq sz wd&&Nat.ble (off+len*sz) row.length)with
  |false=>simp[hb]at hv
  |true=>
   simp only[hb,cond_true,ai]at hv;subst hv;simp only[bC]at hb;have b1:sz=wd:=bR hb.1;have b2:=gu hb.2;subst b1;cases hx with
   |ag c hr hc hcv h3 h4=>
    obtain⟨xs,g1,g2,g3⟩:=(hR.Pu hr hc hcv).list off (len*sz) b2;rename_i r o a cap';refine .inr ⟨a,len,cap',xs,rfl,rfl,g1,fun j u hj=> ?_,g3⟩;rcases h4 with h4|rfl
    ·have:len=0:=by omega
     subst this;have:xs=[]:=jT (by rw[g1];simp);subst this;simp at hj
    ·rw[gV];exact g2 j u hj
 ·simp at hv
theorem Ir{v:V}{x:Value}{cs:List V}{bs:List UInt8}(hv:bH s 1 v=some cs)(hb:bytesOf cs=some bs)(hR:Rel w0 ρ s w)(hx:az w0 ρ v x):
  ∃ y,(Conv.bytesToString x).run P w=.ok (.string y) w∧y.data.toList=bs:=by
 rcases gb hv hR hx with⟨rfl,rfl⟩|⟨a,len,cap,xs,rfl,_,g1,g2,g3⟩
 ·simp[bytesOf]at hb;subst hb;exact⟨.empty,by simp[Conv.bytesToString],rfl⟩
 ·obtain⟨ns,rfl,h2⟩:=CD hb g3;have hl:(loadCells a len).run P w=.ok (ns.map (Value.int .u8)).toArray w:=by
   have:=run_loadCells_list (P:=P) w a (ns.map (Value.int .u8)) g2;rwa[g1,Nat.mul_one]at this
  exact⟨_,run_bytesToString w a len cap ns hl,by rw[foldl_push,h2];rfl⟩
theorem qB{kk:gR}{k:V}{y:Value}{t:TypeId}(hk:qq P t kk)(hy:az w0 ρ k y):∀ {es:List ME} {es' :List MapEntry} {i:Nat} {r:Option (Nat×V)},mI kk k es i=some r→es.length=es'.length→(∀ j (h:j<es.length) (h' :j<es'.length),az w0 ρ es[j].key es'[j].key∧az w0 ρ es[j].val es'[j].val∧es[j].born=es'[j].born)→
  ∃ D r',P.underlying t=some D∧Instr.findNow D y es' i=some r'∧(match r,r' with|none,none=>True|some (j,v),some (j',v')=>j=j'∧az w0 ρ v v'∧i≤j∧∃ h:j - i<es'.length,Instr.sameNow D y (es'[j - i]).key=some true|_,_=>False):=by
 have hD:∃ D,P.underlying t=some D∧∀ {a b:V} {x z:Value} {q:Bool},jM kk a b=some q→az w0 ρ a x→az w0 ρ b z→Instr.sameNow D x z=some q:=by
  cases kk<;>simp only[qq]at hk<;>try exact hk.elim
  ·refine⟨_,hk,fun {a b x z q} h hx hz=> ?_⟩;rcases nQ h with⟨p,q,hh,rfl,rfl,rfl⟩|⟨j,p,q,hh,rfl,rfl,rfl⟩|⟨p,q,hh,rfl,rfl,rfl⟩<;>try cases hh
   rw[hx.gx,hz.gx];rfl
  ·obtain⟨j,hj⟩:=hk;refine⟨_,hj,fun {a b x z q} h hx hz=> ?_⟩;rcases nQ h with⟨p,q,hh,rfl,rfl,rfl⟩|⟨j,p,q,hh,rfl,rfl,rfl⟩|⟨p,q,hh,rfl,rfl,rfl⟩<;>try cases hh
   rw[hx.fG,hz.fG];simp[Instr.sameNow]
  ·refine⟨_,hk,fun {a b x z q} h hx hz=> ?_⟩;rcases nQ h with⟨p,q,hh,rfl,rfl,rfl⟩|⟨j,p,q,hh,rfl,rfl,rfl⟩|⟨p,q,hh,rfl,rfl,rfl⟩<;>try cases hh
   obtain⟨p',rfl,hp⟩:=hx.gi;obtain⟨q',rfl,hq⟩:=hz.gi;simp only[Instr.sameNow];rw[beq_toListBytes,cg,cg,hp,hq]
 obtain⟨D,hD1,hD2⟩:=hD;intro es
 induction es with
 |nil=>
  intro es' i r h hl _;have:es' =[]:=jT hl.symm;subst this;simp[mI]at h;subst h;exact⟨D,none,hD1,rfl,trivial⟩
 |cons m es ih=>
  intro es' i r h hl hes;cases es' with
  |nil=>simp at hl
  |cons m' es' =>
   have hm:=hes 0 (by simp) (by simp);simp only[List.getElem_cons_zero]at hm;simp only[mI]at h;cases hp:jM kk k m.key with
   |none=>simp[hp]at h
   |some q=>
    have hs:=hD2 hp hy hm.1;cases q with
    |true=>
     simp[hp]at h;subst h;exact⟨D,some (i,m'.val),hD1,by simp[Instr.findNow,hs],rfl,hm.2.1,aq _,by simp,by simpa using hs⟩
    |false=>
     simp only[hp]at h;obtain⟨D',r',e1,e2,e3⟩:=ih h (by simpa using hl) fun j h1 h2=>by
      have:=hes (j+1) (by simpa using h1) (by simpa using h2);simpa using this
     rw[hD1]at e1;cases e1;refine⟨D,r',hD1,by simp[Instr.findNow,hs,e2],?_⟩;cases r with
     |none=>cases r' <;>simp_all
     |some jv=>
      obtain⟨j,v⟩:=jv;cases r' with
      |none=>simp at e3
      |some jv' =>
       obtain⟨j',v'⟩:=jv';obtain⟨a1,a2,a3,a4,a5⟩:=e3;refine⟨a1,a2,by omega,by simp;omega,?_⟩;have:j - i=(j - (i+1))+1:=by omega
       simp only[this,List.getElem_cons_succ];exact a5
theorem gY{kk:gR}{k:V}{y:Value}{t:TypeId}(hk:qq P t kk)(hp:plainKey kk k=true)(hy:az w0 ρ k y)(b:Bool)(n:Nat)(w:World):(Instr.checkKey b (n+1) t y).run P w=.ok () w:=by
 cases kk<;>simp only[qq]at hk<;>try exact hk.elim
 ·cases k<;>simp[plainKey]at hp;rw[hy.gx];simp[Instr.checkKey,run_underlying hk]
 ·obtain⟨j,hj⟩:=hk;cases k<;>simp[plainKey]at hp;rw[hy.fG];simp[Instr.checkKey,run_underlying hj]
 ·cases k<;>simp[plainKey]at hp;obtain⟨p,rfl,_⟩:=hy.gi;simp[Instr.checkKey,run_underlying hk]
theorem qu{t:TypeId}{kk:gR}(h:kT P t=some kk):qq P t kk:=by
 unfold kT at h;split at h<;>simp at h<;>subst h
 ·assumption
 ·exact⟨_,by assumption⟩
 ·assumption
theorem Rel.JS(hR:Rel w0 ρ s w){m r o lim:Nat}{es:List ME}{clock:Nat}(hρ:ρ m=some (r,o,lim))(hs:s.get m=some (.map es clock)):
  ∃ es',w.heap[r]? =some (.map es' clock)∧es.length=es'.size∧∀ i (h:i<es.length) (h' :i<es'.size),az w0 ρ es[i].key es'[i].key∧az w0 ρ es[i].val es'[i].val∧es[i].born=es'[i].born:=by
 have:=hR.ob m r o lim hρ;rw[hs]at this;exact this
theorem run_getObj_map{r:Nat}{es' :Array MapEntry}{clock:Nat}(h:w.heap[r]? =some (.map es' clock)):(getObj r).run P w=.ok (.map es' clock) w:=by
 simp[getObj,Sem.run,h]
theorem Eu{t kt et:TypeId}{kk:gR}{z:V}{ok:Bool}{m k:V}{x y:Value}{v:V}(hu:P.underlying t=some (.map kt et))(hz:zeroOf P et=some z)(hkk:kT P kt=some kk)
  (hR:Rel w0 ρ s w) (hm:az w0 ρ m x) (hk:az w0 ρ k y) (hv:pJ s kk z ok m k=some v):
  ∃ u,(Instr.lookup t x y ok).run P w=.ok u w∧az w0 ρ v u:=by
 have hK:=qu hkk;obtain⟨zx,hzr,hzv⟩:=jh hz;simp only[pJ]at hv;have fin:∀ {a:V} {a' :Value} (b:Bool),az w0 ρ a a'→az w0 ρ (if ok then .aV [a,.bool b]else a) (if ok then .tuple #[a',.bool b]else a'):=fun {a a'} b ha=>by
  cases ok
  ·simpa using ha
  ·simpa using az.kN (aR.cons ha (aR.cons (.bool b) .nil))
 split at hv
 ·cases hp:plainKey kk k with
  |false=>simp[hp]at hv
  |true=>
   simp[hp]at hv;cases hm;refine⟨if ok then .tuple #[zx,.bool false]else zx,?_,by rw[←hv];exact fin false (hzv w0 ρ)⟩;have hc:=gY (P:=P) hK hp hk true 9999 w;have hf:(Instr.findKey kt y []).run P w=.ok none w:=by
    obtain⟨D,r',e1,e2,e3⟩:=qB (P:=P) (es:=[]) (es' :=[]) (i:=0) hK hk rfl rfl (fun j h=>by simp at h);simp[Instr.findKey,run_underlying e1,Instr.findNow]
   simp[Instr.lookup,run_underlying hu,hc,hf,hzr]
 ·rename_i mm;cases hs:s.get mm with
  |none=>simp[hs]at hv
  |some ob=>
   cases ob<;>simp only[hs,reduceCtorEq]at hv;rename_i es clock;cases hp:plainKey kk k with
   |false=>simp[hp]at hv
   |true=>
    simp only[hp,cond_true]at hv;cases hm with
    |map hρ=>
     rename_i r o lim;obtain⟨es',g1,g2,g3⟩:=hR.JS hρ hs;have hc:=gY (P:=P) hK hp hk es'.isEmpty 9999 w;cases hf:mI kk k es 0 with
     |none=>simp[hf]at hv
     |some res=>
      obtain⟨D,r',e1,e2,e3⟩:=qB (P:=P) (es:=es) (es' :=es'.toList) (i:=0) hK hk hf (by simpa using g2) (fun j h h' =>by simpa using g3 j h (by simpa using h'));have hfk:(Instr.findKey kt y es'.toList).run P w=.ok r' w:=by simp[Instr.findKey,run_underlying e1,e2]
      simp only[hf]at hv;cases res with
      |none=>
       cases r' with
       |some _=>simp at e3
       |none=>
        simp only[ai]at hv;refine⟨if ok then .tuple #[zx,.bool false]else zx,?_,by rw[←hv];exact fin false (hzv w0 ρ)⟩;simp[Instr.lookup,run_underlying hu,run_getObj_map g1,hc,hfk,hzr]
      |some jv=>
       obtain⟨j,u⟩:=jv;cases r' with
       |none=>simp at e3
       |some jv' =>
        obtain⟨j',u'⟩:=jv';simp only[ai]at hv;refine⟨if ok then .tuple #[u',.bool true]else u',?_,by rw[←hv];exact fin true e3.2.1⟩;simp[Instr.lookup,run_underlying hu,run_getObj_map g1,hc,hfk]
 ·simp at hv
end
end Go.RE
