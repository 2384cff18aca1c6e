/- Each small operation, as it is compiled, does what the evaluator says. -/
import Derived.Test.YtmpopachilfinaaGreatPart2
import Derived.Laws.IdiomCopy
import Derived.Deep.Upon
set_option linter.unusedVariables false
set_option linter.unusedSimpArgs false
namespace Go.RE
section
variable{P:Program}{w0:World}{ρ:Ren}{s:St}{w:World}{env:PT V}{e:Operand→Value}
theorem Ja{op:BinOp}{t:TypeId}{x y:Operand}{a b v:V}{u z:Value}(h:jF op (OW P op t x y) a b=some v)(hu:az w0 ρ a u)(hz:az w0 ρ b z)(w:World):
  ∃ r,((do eqGuard op t x y u z;Go.binOp op t u z):Sem Value).run P w=.ok r w∧az w0 ρ v r:=by
 have plain:wR u z=true→(∃ r,(Go.binOp op t u z).run P w=.ok r w∧az w0 ρ v r)→∃ r,((do eqGuard op t x y u z;Go.binOp op t u z):Sem Value).run P w=.ok r w∧az w0 ρ v r:=
  fun hg ⟨r,h1,h2⟩=>⟨r,by simp[aY hg,h1],h2⟩
 have cmp:∀ (neg:Bool),op=(if neg then .neq else .eql)→(∀ k n,a≠.int k n)→(∀ l,a≠.str l)→(∃ r,GC (OW P op t x y) a b=some r∧V.bool (if neg then !r else r)=v)→
   ∃ r,((do eqGuard op t x y u z;Go.binOp op t u z):Sem Value).run P w=.ok r w∧az w0 ρ v r:=fun neg hop ha1 ha2 hh=>by
  obtain⟨r,hq,rfl⟩:=hh
  ·obtain⟨g1,g2⟩:=N3 (op:=op) (qaC (P:=P) op t x y) hq hu hz w;refine⟨.bool (if neg then !r else r),?_,.bool _⟩;simp only[Sem.run_bind,g2,Result.andThen_ok];have hnum:∀ (p q:Value),(∀ k n,p≠.int k n)→(∀ s,p≠.string s)→(∀ k n,p≠.float k n)→(∀ k n m,p≠.complex k n m)→(Go.binOp .eql t p q=do pure (.bool (←Op.equal t p q)))∧(Go.binOp .neq t p q=do pure (.bool (!(←Op.equal t p q)))):=fun p q n1 n2 n3 n4=>by
    cases p<;>first
     |exact absurd rfl (n1 _ _)
     |exact absurd rfl (n2 _)
     |exact absurd rfl (n3 _ _)
     |exact absurd rfl (n4 _ _ _)
     |exact⟨rfl,rfl⟩
   have hp:=hnum u z (by cases hu<;>simp at ha1⊢) (by cases hu<;>simp at ha2⊢) (by cases hu<;>simp) (by cases hu<;>simp);cases neg
   ·simp only[oS,if_false]at hop⊢;subst hop;rw[hp.1];simp[g1]
   ·simp only[if_true]at hop⊢;subst hop;rw[hp.2];simp[g1]
 unfold jF at h;split at h
 ·cases hu;cases hz;exact plain rfl (uN t (.inl rfl) h w)
 ·cases hu;cases hz;exact plain rfl (uN t (.inr rfl) h w)
 ·split at h
  ·rename_i hkj;subst hkj;cases hu;cases hz;exact plain rfl (Ep t h w)
  ·simp at h
 ·cases hu with
  |str hx=>
   cases hz with
   |str hy=>
    refine plain rfl ?_;have:∀ p q,Go.binOp op t (.string p) (.string q)=Op.stringOp op p q:=fun p q=>by cases op<;>rfl
    rw[this];exact ET hx hy h w
 ·rename_i h1 h2 h3 h4;refine cmp false rfl ?_ ?_ (by
   cases hq:GC (OW P .eql t x y) a b with
   |none=>rw[hq]at h;simp at h
   |some r=>rw[hq]at h;exact⟨r,rfl,by simpa using h⟩)
  ·rintro k n rfl;cases b<;>first
    |(simp[GC]at h;done)
    |exact absurd rfl (h3 _ _ _ _ rfl)
    |(revert h;cases OW P .eql t x y<;>simp[GC])
  ·rintro l rfl;revert h;cases OW P .eql t x y<;>simp[GC]
 ·rename_i h1 h2 h3 h4 h5;refine cmp true rfl ?_ ?_ (by
   cases hq:GC (OW P .neq t x y) a b with
   |none=>rw[hq]at h;simp at h
   |some r=>rw[hq]at h;exact⟨r,rfl,by simpa using h⟩)
  ·rintro k n rfl;revert h;cases OW P .neq t x y<;>simp[GC]
  ·rintro l rfl;revert h;cases OW P .neq t x y<;>simp[GC]
 ·simp at h
theorem ON{op:UnOp}{a v:V}{u:Value}(h:unV op a=some v)(hu:az w0 ρ a u)(w:World):∃ r,(Op.unary op u).run P w=.ok r w∧az w0 ρ v r:=by
 unfold unV at h;split at h
 ·simp only[ai]at h;subst h;cases hu;exact⟨_,rfl,by rw[rE];exact .int _ _⟩
 ·simp only[ai]at h;subst h;cases hu;exact⟨_,rfl,.bool _⟩
 ·cases hu;simp only[jL,rE,ai]at h;subst h;exact⟨_,rfl,.int _ _⟩
 ·simp at h
theorem JT{a b c:V}{x y:Value}(h:yf a b=some c)(hx:az w0 ρ a x)(hy:az w0 ρ b y)(w:World):∃ z,(Builtin.max2 x y).run P w=.ok z w∧az w0 ρ c z:=by
 unfold yf at h;split at h
 ·split at h
  ·simp only[ai]at h;subst h;cases hx;cases hy;exact⟨_,rfl,.int _ _⟩
  ·simp at h
 ·simp only[ai]at h;subst h;obtain⟨p,rfl,hp⟩:=hx.gi;obtain⟨q,rfl,hq⟩:=hy.gi;refine⟨.string (if Op.bytesLess p.toList q.toList then q else p),?_,?_⟩
  ·simp only[Builtin.max2,Op.stringOp,Sem.run_bind,Sem.run_pure,Result.andThen_ok,asBool];cases Op.bytesLess p.toList q.toList<;>simp
  ·rw[cg,cg,hp,hq];split
   ·exact .str hq
   ·exact .str hp
 ·simp at h
theorem JU{a b c:V}{x y:Value}(h:AY a b=some c)(hx:az w0 ρ a x)(hy:az w0 ρ b y)(w:World):∃ z,(Builtin.min2 x y).run P w=.ok z w∧az w0 ρ c z:=by
 unfold AY at h;split at h
 ·split at h
  ·simp only[ai]at h;subst h;cases hx;cases hy;exact⟨_,rfl,.int _ _⟩
  ·simp at h
 ·simp only[ai]at h;subst h;obtain⟨p,rfl,hp⟩:=hx.gi;obtain⟨q,rfl,hq⟩:=hy.gi;refine⟨.string (if(Op.bytesLess p.toList q.toList||p.toList==q.toList)then p else q),?_,?_⟩
  ·simp only[Builtin.min2,Op.stringOp,Sem.run_bind,Sem.run_pure,Result.andThen_ok,asBool]
   first|done|(cases(Op.bytesLess p.toList q.toList||p.toList==q.toList)<;>simp)
  ·rw[cg,cg,hp,hq];split
   ·exact .str hp
   ·exact .str hq
 ·simp at h
theorem yc{f:V→V→Option V}{g:Value→Value→Sem Value}(hf:∀ {a b c x y},f a b=some c→az w0 ρ a x→az w0 ρ b y→∀ w:World,∃ z,(g x y).run P w=.ok z w∧az w0 ρ c z):
  ∀ {l:List V} {l' :List Value} {a c:V} {x:Value},yb f a l=some c→az w0 ρ a x→aR w0 ρ l l'→∀ w:World,∃ z,(l'.foldlM g x).run P w=.ok z w∧az w0 ρ c z:=by
 intro l
 induction l with
 |nil=>intro l' a c x h hx hl w;rw[hl.dY];simp[yb]at h;subst h;exact⟨x,by simp,hx⟩
 |cons b l ih=>
  intro l' a c x h hx hl w;obtain⟨y,ys,rfl,hy,hys⟩:=hl.bx;simp only[yb]at h;cases hh:f a b with
  |none=>simp[hh]at h
  |some d=>
   simp only[hh]at h;obtain⟨z,z1,z2⟩:=hf hh hx hy w;obtain⟨z',z3,z4⟩:=ih h z2 hys w;exact⟨z',by simp[List.foldlM_cons,z1,z3],z4⟩
theorem EP{t:TypeId}(h:spread P t=some none)(w:World):(isAgg t).run P w=.ok false w:=by
 unfold spread at h;split at h
 ·split at h<;>simp at h
 ·split at h<;>simp at h
 ·rename_i d h1 h2 hu;unfold isAgg;rw[Sem.run_bind,run_underlying hu w];cases d<;>simp_all
 ·simp at h
theorem Ip{t:TypeId}{n:Nat}(h:spread P t=some (some n))(w:World):(isAgg t).run P w=.ok true w∧(sizeOf t).run P w=.ok n w:=by
 unfold spread at h;split at h
 ·rename_i fs hu;split at h<;>simp at h;rename_i m hm;subst h;exact⟨by unfold isAgg;rw[Sem.run_bind,run_underlying hu w];rfl,cU hm w⟩
 ·rename_i k el hu;split at h<;>simp at h;rename_i m hm;subst h;exact⟨by unfold isAgg;rw[Sem.run_bind,run_underlying hu w];rfl,cU hm w⟩
 ·simp at h
 ·simp at h
theorem A3{t:TypeId}{n:Option Nat}{cs:List V}{cs' :Array Value}{off:Nat}{v:V}(hn:spread P t=some n)(hr:aR w0 ρ cs cs'.toList)(hv:dZ n cs off=some v)(w:World):
  ∃ x,(part t cs' off).run P w=.ok x w∧az w0 ρ v x:=by
 cases n with
 |none=>
  simp only[dZ]at hv;obtain⟨x,h1,h2⟩:=hr.get hv;refine⟨x,?_,h2⟩;have h1' :cs'[off]? =some x:=by simpa using h1
  simp[part,EP hn,h1']
 |some n=>
  simp only[dZ]at hv;cases hb:Nat.ble (off+n) cs.length with
  |false=>simp[hb]at hv
  |true=>
   simp only[hb,cond_true,ai]at hv;subst hv;obtain⟨g1,g2⟩:=Ip hn w;refine⟨.agg (cs'.extract off (off+n)),by simp[part,g1,g2],?_⟩;have hh:=az.zX ((hr.drop off).take n);have:(List.take n (List.drop off cs'.toList)).toArray=cs'.extract off (off+n):=by
    apply Array.ext';simp[List.take_drop]
   rwa[this]at hh
theorem CP(b:ByteArray)(l h:Nat):(b.extract l h).data.toList=(b.data.toList.take h).drop l:=by
 rw[ByteArray.data_extract];simp[List.drop_take]
theorem Xk(b:ByteArray)(i:Nat):b[i]? =b.data.toList[i]? :=by
 rw[Array.getElem?_toList];by_cases h:i<b.size
 ·rw[getElem?_pos b i h,getElem?_pos b.data i h];rfl
 ·rw[getElem?_neg b i h,getElem?_neg b.data i h]
theorem qhi{b:Builtin}{ts:List TypeId}{xs:List bJ}{so:fS}(h:jH P b ts xs=.s so):
  (b=.len∧∃ t ts' x xs',ts=t::ts'∧xs=x::xs'∧((P.underlying t=some .string∧so=.len 0 x)∨((∃ el,P.underlying t=some (.slice el))∧so=.len 1 x)∨((∃ k el,P.underlying t=some (.map k el))∧so=.len 2 x)))∨
  (b=.cap∧∃ t ts' x xs',ts=t::ts'∧xs=x::xs'∧(∃ el,P.underlying t=some (.slice el))∧so=.cap x)∨(b=.max∧so=.max xs)∨(b=.min∧so=.min xs):=by
 unfold jH at h;split at h
 ·rename_i t ts' x xs';split at h<;>cases h
  ·exact .inl ⟨rfl,t,ts',x,xs',rfl,rfl,.inl ⟨by assumption,rfl⟩⟩
  ·exact .inl ⟨rfl,t,ts',x,xs',rfl,rfl,.inr (.inl ⟨⟨_,by assumption⟩,rfl⟩)⟩
  ·exact .inl ⟨rfl,t,ts',x,xs',rfl,rfl,.inr (.inr ⟨⟨_,_,by assumption⟩,rfl⟩)⟩
 ·rename_i t ts' x xs';split at h<;>cases h;exact .inr (.inl ⟨rfl,t,ts',x,xs',rfl,rfl,⟨_,by assumption⟩,rfl⟩)
 ·cases h;exact .inr (.inr (.inl ⟨rfl,rfl⟩))
 ·cases h;exact .inr (.inr (.inr ⟨rfl,rfl⟩))
 ·split at h
  ·split at h
   ·unfold cond at h;split at h<;>cases h
   ·unfold cond at h;split at h<;>cases h
   ·cases h
  ·cases h
 ·split at h
  ·split at h<;>cases h
  ·cases h
 ·split at h
  ·split at h<;>cases h
  ·cases h
 ·cases h
theorem r9{l:List Operand}{o:bJ}{os:List bJ}(h:mY l=some (o::os)):∃ x xs,l=x::xs∧cB x=some o∧mY xs=some os:=by
 cases l with
 |nil=>simp[mY]at h
 |cons x xs=>
  simp only[mY]at h;cases hx:cB x with
  |none=>simp[hx]at h
  |some o' =>
   cases hxs:mY xs with
   |none=>simp[hx,hxs]at h
   |some os' =>simp[hx,hxs]at h;obtain⟨rfl,rfl⟩:=h;exact⟨x,xs,rfl,hx,hxs⟩
theorem Rel.QI(h:Rel w0 ρ s w){b r o lim:Nat}{cs:List V}(e:ρ b=some (r,o,lim))(hs:s.row b=some cs):o+cs.length≤lim:=by
 obtain⟨c,t,fr,h1,h2,h3,h4,h5⟩:=h.O1 e hs;exact h3
theorem O7:Nat.beq 0 0=true:=rfl
theorem O8:Nat.beq 0 1=false:=rfl
theorem O9:Nat.beq 0 2=false:=rfl
theorem Pb:Nat.beq 1 0=false:=rfl
theorem Pc:Nat.beq 1 1=true:=rfl
theorem Pd:Nat.beq 1 2=false:=rfl
theorem Pe:Nat.beq 2 0=false:=rfl
theorem Pf:Nat.beq 2 1=false:=rfl
theorem Pg:Nat.beq 2 2=true:=rfl
theorem PI{w0:World}{ρ:Ren}{n:Nat}:∀ (a:List ME) (b:List MapEntry),a.length=b.length→
  (∀ i (h:i<a.length) (h' :i<b.length),az w0 ρ a[i].key b[i].key∧az w0 ρ a[i].val b[i].val∧a[i].born=b[i].born)→∀ {e:ME},a.find? (fun e=>Nat.beq e.born n)=some e→
  ∃ e',b.find? (fun e=>e.born==n)=some e'∧az w0 ρ e.key e'.key∧az w0 ρ e.val e'.val:=by
 intro a
 induction a with
 |nil=>intro b _ _ e h;simp at h
 |cons x a ih=>
  intro b hl hr e h;cases b with
  |nil=>simp at hl
  |cons y b=>
   have h0:=hr 0 (by simp) (by simp);simp only[List.getElem_cons_zero]at h0;rw[List.find?_cons]at h⊢;have hb:Nat.beq x.born n=(y.born==n):=by
    rw[h0.2.2,Bool.eq_iff_iff,Nat.beq_eq,beq_iff_eq]
   rw[hb]at h;cases hq:(y.born==n)with
   |true=>rw[hq]at h;simp at h;subst h;exact⟨y,rfl,h0.1,h0.2.1⟩
   |false=>
    rw[hq]at h;exact ih b (by simpa using hl) (fun i h1 h2=>hr (i+1) (by simpa using h1) (by simpa using h2)) h
theorem Df{o:Oper}{so:fS}{v:V}(hc:cop P o.op=.s so)(hv:cD env s so=some v)(hR:Rel w0 ρ s w)(H:∀ x∈o.op.operands,jm w0 ρ env e x):OZ P w0 ρ w e o v:=by
 obtain⟨dst,op,type,pos,after,guard⟩:=o;simp only at hc H;cases op with
 |move x=>
  simp only[cop]at hc;split at hc<;>cases hc;rename_i o ho;exact⟨e x,rfl,H x (by simp[Op.operands]) o v ho hv⟩
 |assign x=>
  simp only[cop]at hc;split at hc<;>cases hc;rename_i o ho;exact⟨e x,rfl,H x (by simp[Op.operands]) o v ho hv⟩
 |pick c a b=>
  simp only[cop]at hc;split at hc<;>cases hc;rename_i co ao bo hco hao hbo;simp only[cD]at hv;split at hv
  ·rename_i hcv;have h1:=H c (by simp[Op.operands]) co _ hco hcv;refine⟨e a,?_,H a (by simp[Op.operands]) ao v hao hv⟩;simp[execOp,h1.gx,asBool]
  ·rename_i hcv;have h1:=H c (by simp[Op.operands]) co _ hco hcv;refine⟨e b,?_,H b (by simp[Op.operands]) bo v hbo hv⟩;simp[execOp,h1.gx,asBool]
  ·simp at hv
 |load t a=>
  simp only[cop]at hc;split at hc<;>cases hc;rename_i n ao hn hao;exact bO rfl (JR hn hao hv hR (H a (by simp[Op.operands])))
 |nilCheck x=>
  simp only[cop]at hc;split at hc<;>cases hc;rename_i xo hxo;simp only[cD]at hv;split at hv<;>try (simp at hv;done)
  rename_i h1 h2 h3;have hx:=H x (by simp[Op.operands]) xo v hxo hv;refine⟨e x,?_,hx⟩;simp only[execOp];generalize e x=ex at hx;cases hx<;>first|rfl|exact absurd hv h1|exact absurd hv h2|exact absurd hv h3
 |binOp op t x y yt=>
  simp only[cop]at hc;split at hc<;>cases hc;rename_i a b ha hb;simp only[cD]at hv;split at hv<;>try (simp at hv;done)
  rename_i p q hp hq;exact bO rfl (Ja hv (H x (by simp[Op.operands]) a p ha hp) (H y (by simp[Op.operands]) b q hb hq) w)
 |unOp op t x=>
  simp only[cop]at hc;split at hc<;>cases hc;rename_i a ha;simp only[cD]at hv;split at hv<;>try (simp at hv;done)
  rename_i p hp;exact bO rfl (ON hv (H x (by simp[Op.operands]) a p ha hp) w)
 |convert src dst x=>
  simp only[cop]at hc;split at hc
  ·rename_i d k xo hs hd hxo;cases hc;simp only[cD]at hv;split at hv<;>try (simp at hv;done)
   rename_i k' n hn;simp only[ai]at hv;subst hv;have hx:=(H x (by simp[Op.operands]) xo _ hxo hn).fG;refine bO rfl ⟨.int k (k.wrap n),?_,by rw[rE];exact .int _ _⟩;rw[hx];simp[convert,run_underlying hs,run_underlying hd,Conv.intToInt]
  ·rename_i xo hs hd hxo;cases hc;simp only[cD]at hv;split at hv<;>try (simp at hv;done)
   rename_i b hb;simp only[ai]at hv;subst hv;have hx:=H x (by simp[Op.operands]) xo _ hxo hb;obtain⟨p,hp,hp2⟩:=hx.gi;refine bO rfl ⟨.string p,?_,.str hp2⟩;rw[hp];simp[convert,run_underlying hs,run_underlying hd]
  ·rename_i el xo hs hd hxo;cases hu8:Hs P el with
   |false=>simp[hu8]at hc
   |true=>
    simp only[hu8,cond_true,jE.s.injEq]at hc;subst hc;have he:P.underlying el=some (.int .u8):=by unfold Hs at hu8;split at hu8<;>simp_all
    simp only[cD]at hv;split at hv<;>try (simp at hv;done)
    rename_i u hu;cases hsc:bH s 1 u with
    |none=>simp[hsc]at hv
    |some cs=>
     cases hbs:bytesOf cs with
     |none=>simp[hsc,hbs]at hv
     |some bs=>
      simp only[hsc,hbs,ai]at hv;subst hv;have hx:=H x (by simp[Op.operands]) xo _ hxo hu;obtain⟨y,h1,h2⟩:=Ir (P:=P) hsc hbs hR hx;refine bO rfl ⟨.string y,?_,.str h2⟩;have hsl:∃ a l c,e x=.slice a l c:=by
       rcases gb hsc hR hx with⟨h,_⟩|⟨a,l,c,_,h,_⟩
       ·exact⟨_,_,_,h⟩
       ·exact⟨_,_,_,h⟩
      obtain⟨a,l,c,hsl⟩:=hsl;rw[hsl]at h1⊢;rw[run_convert_bytes_string w src dst el a l c hs he hd];exact h1
  ·rename_i el xo hs hd hxo;cases hu8:Hs P el<;>simp[hu8]at hc
  ·cases hc
 |makeInterface t x=>
  simp only[cop]at hc;split at hc<;>cases hc;rename_i d xo h1 hu hxo;simp only[cD]at hv;split at hv<;>try (simp at hv;done)
  rename_i p hp;simp only[ai]at hv;subst hv;refine bO rfl ⟨.iface t (e x),?_,.iface (H x (by simp[Op.operands]) xo p hxo hp)⟩;simp only[Instr.makeInterface,Sem.run_bind,run_underlying hu,Result.andThen_ok];cases d<;>simp_all
 |makeFunc fn first captured=>
  cases fn<;>simp only[cop]at hc<;>try (cases hc;done)
  rename_i f;split at hc<;>cases hc;rename_i a b ha hb;simp only[cD]at hv;split at hv<;>try (simp at hv;done)
  rename_i p q hp hq;simp only[ai]at hv;subst hv;have h1:=oH ha hp fun x hx=>H x (by simp[Op.operands];exact .inl (by simpa using hx));have h2:=oH hb hq fun x hx=>H x (by simp[Op.operands];exact .inr (by simpa using hx));refine bO rfl ⟨.func (.func f) (first.map e) (captured.map e),rfl,?_⟩;exact .func (by simpa using h1.1) (by simpa using h2.1) (fun i g1 g2=>by have:=h1.2 i g1 (by simpa using g2);simpa[List.getElem_map]using this) (fun i g1 g2=>by have:=h2.2 i g1 (by simpa using g2);simpa[List.getElem_map]using this)
 |build t parts=>
  simp only[cop]at hc;split at hc<;>try (cases hc;done)
  ·rename_i fs hu;split at hc<;>try (cases hc;done)
   rename_i z ps hz hps;split at hc<;>cases hc;rename_i l hl;simp only[cD]at hv;cases hf:mH env z.cells l with
   |none=>simp[hf]at hv
   |some out=>
    simp only[hf,ai]at hv;subst hv;have:=GL (P:=P) (e:=e) hu hz hps hl hf (fun p hp=>H p.2 (by simp[Op.operands];exact⟨p.1,by simpa using hp⟩)) w;exact bO rfl (by simpa using this)
  ·rename_i n el hu;split at hc<;>try (cases hc;done)
   rename_i z sz hz hsz;split at hc<;>cases hc;rename_i l hl;simp only[cD]at hv;cases hf:mH env z.cells l with
   |none=>simp[hf]at hv
   |some out=>
    simp only[hf,ai]at hv;subst hv;have:=NQ (P:=P) (e:=e) hu hz hsz hl hf (fun p hp=>H p.2 (by simp[Op.operands];exact⟨p.1,by simpa using hp⟩)) w;exact bO rfl (by simpa using this)
 |slice t x lo hi mx=>
  simp only[cop]at hc;have hx:=H x (by simp[Op.operands]);have hlo:∀ y,lo=some y→jm w0 ρ env e y:=fun y hy=>H y (by simp[Op.operands,hy]);have hhi:∀ y,hi=some y→jm w0 ρ env e y:=fun y hy=>H y (by simp[Op.operands,hy]);have hmx:∀ y,mx=some y→jm w0 ρ env e y:=fun y hy=>H y (by simp[Op.operands,hy]);split at hc
  ·rename_i xo lo' hi' hu hxo e1 e2 e3;cases hc;have hm:mx=none:=by
    cases mx with
    |none=>rfl
    |some y=>simp only[mX]at e3;split at e3<;>simp at e3
   subst hm;simp only[cD]at hv;split at hv<;>try (simp at hv;done)
   rename_i b hb;cases n2:au env hi' b.length b.length with
   |none=>simp[n2]at hv
   |some h=>
    cases n1:au env lo' 0 h with
    |none=>simp[n2,n1]at hv
    |some l=>
     simp only[n2,n1,ai]at hv;subst hv;obtain⟨p,hp,hp2⟩:=(hx xo _ hxo hb).gi;have hsz:p.size=b.length:=by rw[←hp2];simp
     have hbd:=ep (P:=P) (isSlice:=false) (len:=b.length) (cap:=b.length) (cap' :=b.length) (m:=b.length) e1 e2 (show mX none=some none from rfl) (by simp) (by simp[au]) n2 n1 (aq _) hlo hhi (by simp) w;refine bO rfl ⟨.string (p.extract l h),?_,.str (by rw[CP,hp2])⟩;simp only[Option.map_none]at hbd;simp only[Instr.sliceAt,Sem.run_bind,run_underlying hu,Result.andThen_ok,Instr.slice,hp,Option.map_none,Option.isSome_none,oS,if_false,hsz,hbd];rfl
  ·rename_i el xo lo' hi' mx' hu hxo e1 e2 e3;split at hc<;>try (cases hc;done)
   rename_i sz hsz;have hmxe:mx'.isSome=mx.isSome:=by
    cases mx with
    |none=>simp[mX]at e3;subst e3;rfl
    |some y=>simp only[mX]at e3;split at e3<;>simp at e3;subst e3;rfl
   have hhie:hi'.isSome=hi.isSome:=by
    cases hi with
    |none=>simp[mX]at e2;subst e2;rfl
    |some y=>simp only[mX]at e2;split at e2<;>simp at e2;subst e2;rfl
   rw[hmxe,hhie]at hc;cases hm:(mx.isSome&& !hi.isSome)with
   |true=>rw[hm]at hc;simp at hc
   |false=>
    rw[hm]at hc;simp only[cond_false,jE.s.injEq]at hc;subst hc;have hm' :mx.isSome=true→hi.isSome=true:=fun h=>by simpa[h]using hm
    have hrun:∀ {l h m len cap' :Nat} {a:Option Addr},(Instr.sliceBounds true len cap' (lo.map e) (hi.map e) (mx.map e)).run P w=.ok (l,h,m) w→
      (Instr.sliceAt t (.slice a len cap') (lo.map e) (hi.map e) (mx.map e)).run P w=.ok (.slice (if m=l then a else a.map (·.add (l*sz))) (h - l) (m - l)) w:=fun {l h m len cap' a} hb=>by
     simp only[Instr.sliceAt,Sem.run_bind,run_underlying hu,Result.andThen_ok,Instr.slice,hb,cU hsz];rfl
    simp only[cD]at hv;split at hv
    ·rename_i hxv;cases n3:au env mx' 0 0 with
     |none=>simp[n3]at hv
     |some m=>
      cases n2:au env hi' 0 m with
      |none=>simp[n3,n2]at hv
      |some h=>
       cases n1:au env lo' 0 h with
       |none=>simp[n3,n2,n1]at hv
       |some l=>
        simp only[n3,n2,n1,ai]at hv;subst hv;have hbd:=ep (P:=P) (isSlice:=true) e1 e2 e3 hm' n3 n2 n1 (aq 0) hlo hhi hmx w;have b3:=dm (aq 0) n3;have b2:h≤0:=by
         have:h≤m:=by
          cases hi' with
          |none=>simp[au]at n2;omega
          |some o=>exact dm (d:=0) (by omega) n2
         omega
        have b1:=dm (dW h) n1;have hz:=hx xo _ hxo hxv;generalize hex:e x=ex at hz;cases hz;refine bO rfl ⟨.slice none 0 0,?_,.bu⟩;show(Instr.sliceAt t (e x) _ _ _).run P w=_;rw[hex,hrun hbd];have hl0:l=0:=by omega
        have hh0:h=0:=by omega
        have hm0:(if mx.isSome=true then m else 0)=0:=by split<;>omega
        simp[hl0,hh0,hm0]
    ·rename_i b off len cap sz' ex hxv;cases n3:au env mx' cap cap with
     |none=>simp[n3]at hv
     |some m=>
      cases n2:au env hi' len m with
      |none=>simp[n3,n2]at hv
      |some h=>
       cases n1:au env lo' 0 h with
       |none=>simp[n3,n2,n1]at hv
       |some l=>
        simp only[n3,n2,n1]at hv;cases hbq:Nat.beq sz sz' with
        |false=>simp[hbq]at hv
        |true=>
         have hszz:sz=sz' :=bR hbq;subst hszz;simp only[hbq,cond_true]at hv;have hz:=hx xo _ hxo hxv;generalize hex:e x=ex' at hz;cases hz with
         |slice hρ h1 h2 h3 h4 hcb=>
          rename_i r o lim a cap';have hbd:=ep (P:=P) (isSlice:=true) e1 e2 e3 hm' n3 n2 n1 h1 hlo hhi hmx w;have b3:=dm (aq cap) n3;have b1:=dm (dW h) n1;have hm0:mx.isSome=false→m=cap:=fun hn=>by
           cases mx with
           |some _=>simp at hn
           |none=>simp[mX]at e3;subst e3;simp[au]at n3;exact n3.symm
          have bh:h≤m:=by
           cases hi with
           |none=>
            simp[mX]at e2;subst e2;simp[au]at n2;have:mx.isSome=false:=by cases hq:mx.isSome with|false=>rfl|true=>have:=hm' hq;simp at this
            rw[hm0 this];omega
           |some y=>
            simp only[mX]at e2;split at e2<;>simp at e2;subst e2;simp only[au]at n2;split at n2
            ·exact zY n2
            ·simp at n2
          refine bO rfl ⟨_,by show(Instr.sliceAt t (e x) _ _ _).run P w=_;rw[hex];exact hrun hbd,?_⟩;generalize hM:(if mx.isSome=true then m else cap')=M;have hMm:m≤M∧M≤cap'∧(ex=true∨mx.isSome=true→M=m):=by
           subst hM;cases hq:mx.isSome with
           |true=>simp;omega
           |false=>
            have:=hm0 hq;simp;refine⟨by omega,fun hex=> ?_⟩;rw[h2 hex,this]
          have hsome:∃ a',(if M=l then some a else Option.map (fun x=>x.add (l*sz)) (some a))=some a'∧(M - l=0∨(a' =⟨r,o+(off+l*sz),none⟩∧o+(off+l*sz)+(M - l)*sz≤lim)):=by
           by_cases hml:M=l
           ·exact⟨a,by rw[if_pos hml],.inl (by omega)⟩
           ·refine⟨a.add (l*sz),by rw[if_neg hml];rfl,?_⟩;rcases h4 with h4|⟨rfl,h5⟩
            ·left;omega
            ·right;refine⟨by rw[gV];simp[Nat.add_assoc],?_⟩;have:l*sz+(M - l)*sz≤cap'*sz:=by rw[←Nat.add_mul];exact lY _ (by omega)
             omega
          obtain⟨a',ha',hd⟩:=hsome;rw[ha'];cases hmz:(mx'.isSome&&Nat.beq m 0)with
          |true=>
           simp only[hmz,cond_true,ai]at hv;subst hv;simp only[bC]at hmz;have hm00:m=0:=bR hmz.2;have hM0:=hMm.2.2 (.inr (by rw[←hmxe];exact hmz.1));have z1:h - l=0:=by omega
           have z2:M - l=0:=by omega
           rw[z1,z2];exact .bM
          |false=>
          simp only[hmz,cond_false,ai]at hv;subst hv;refine .slice hρ (by omega) (fun hx=> ?_) (by omega) hd (by omega);have:=hMm.2.2 (by
           rw[hmxe]at hx;cases ex
           ·simp at hx;exact .inr hx
           ·exact .inl rfl)
          omega
    ·rename_i hxv;cases n3:au env mx' 0 0 with
     |none=>simp[n3]at hv
     |some m=>
      cases n2:au env hi' 0 m with
      |none=>simp[n3,n2]at hv
      |some h=>
       cases n1:au env lo' 0 h with
       |none=>simp[n3,n2,n1]at hv
       |some l=>
        simp only[n3,n2,n1,ai]at hv;subst hv;have hbd:=ep (P:=P) (isSlice:=true) e1 e2 e3 hm' n3 n2 n1 (aq 0) hlo hhi hmx w;have b3:=dm (aq 0) n3;have b2:h≤0:=by
         have:h≤m:=by
          cases hi' with
          |none=>simp[au]at n2;omega
          |some o=>exact dm (d:=0) (by omega) n2
         omega
        have b1:=dm (dW h) n1;have hz:=hx xo _ hxo hxv;generalize hex:e x=ex at hz;cases hz;rename_i a;refine bO rfl ⟨.slice (some a) 0 0,?_,.bM⟩;show(Instr.sliceAt t (e x) _ _ _).run P w=_;rw[hex,hrun hbd];have hl0:l=0:=by omega
        have hh0:h=0:=by omega
        have hm0:(if mx.isSome=true then m else 0)=0:=by split<;>omega
        simp[hl0,hh0,hm0]
    ·rename_i row off len sz' hxv;cases n3:au env mx' len len with
     |none=>simp[n3]at hv
     |some m=>
      cases n2:au env hi' len m with
      |none=>simp[n3,n2]at hv
      |some h=>
       cases n1:au env lo' 0 h with
       |none=>simp[n3,n2,n1]at hv
       |some l=>
        simp only[n3,n2,n1]at hv;cases hbq:Nat.beq sz sz' with
        |false=>simp[hbq]at hv
        |true=>
         have hszz:sz=sz' :=bR hbq;subst hszz;simp only[hbq,cond_true]at hv;have hz:=hx xo _ hxo hxv;generalize hex:e x=ex' at hz;cases hz with
         |ag c hr hc hcv h3 h4=>
          rename_i r o a cap';have hbd:=ep (P:=P) (isSlice:=true) e1 e2 e3 hm' n3 n2 n1 h3 hlo hhi hmx w;have b3:=dm (aq len) n3;have b1:=dm (dW h) n1;have hm0:mx.isSome=false→m=len:=fun hn=>by
           cases mx with
           |some _=>simp at hn
           |none=>simp[mX]at e3;subst e3;simp[au]at n3;exact n3.symm
          have bh:h≤m:=by
           cases hi with
           |none=>
            simp[mX]at e2;subst e2;simp[au]at n2;have:mx.isSome=false:=by cases hq:mx.isSome with|false=>rfl|true=>have:=hm' hq;simp at this
            rw[hm0 this];omega
           |some y=>
            simp only[mX]at e2;split at e2<;>simp at e2;subst e2;simp only[au]at n2;split at n2
            ·exact zY n2
            ·simp at n2
          refine bO rfl ⟨_,by show(Instr.sliceAt t (e x) _ _ _).run P w=_;rw[hex];exact hrun hbd,?_⟩;generalize hM:(if mx.isSome=true then m else cap')=M;have hMm:m≤M∧M≤cap'∧(mx.isSome=true→M=m):=by
           subst hM;cases hq:mx.isSome with
           |true=>simp;omega
           |false=>
            have:=hm0 hq;simp;omega
          have hsome:∃ a',(if M=l then some a else Option.map (fun x=>x.add (l*sz)) (some a))=some a'∧(M - l=0∨a' =⟨r,o+(off+l*sz),none⟩):=by
           by_cases hml:M=l
           ·exact⟨a,by rw[if_pos hml],.inl (by omega)⟩
           ·refine⟨a.add (l*sz),by rw[if_neg hml];rfl,?_⟩;rcases h4 with h4|rfl
            ·left;omega
            ·right;rw[gV];simp[Nat.add_assoc]
          obtain⟨a',ha',hd⟩:=hsome;rw[ha'];cases hmz:(mx'.isSome&&Nat.beq m 0)with
          |true=>
           simp only[hmz,cond_true,ai]at hv;subst hv;simp only[bC]at hmz;have hm00:m=0:=bR hmz.2;have hM0:=hMm.2.2 (by rw[←hmxe];exact hmz.1);have z1:h - l=0:=by omega
           have z2:M - l=0:=by omega
           rw[z1,z2];exact .bM
          |false=>
          simp only[hmz,cond_false,ai]at hv;subst hv;exact .ag c hr hc hcv (by omega) hd
    ·simp at hv
  ·rename_i n el xo lo' hi' hu hxo e1 e2 e3;split at hc<;>try (cases hc;done)
   rename_i sz hsz;cases hnb:Nat.ble n 16777216 with
   |false=>rw[hnb]at hc;cases hc
   |true=>
   rw[hnb]at hc;cases hc;have hnb:=gu hnb;have hm:mx=none:=by
    cases mx with
    |none=>rfl
    |some y=>simp only[mX]at e3;split at e3<;>simp at e3
   subst hm;simp only[cD]at hv;split at hv<;>try (simp at hv;done)
   rename_i b off hb;cases n2:au env hi' n n with
   |none=>simp[n2]at hv
   |some h=>
    cases n1:au env lo' 0 h with
    |none=>simp[n2,n1]at hv
    |some l=>
     simp only[n2,n1]at hv;cases hs:s.row b with
     |none=>simp[hs]at hv
     |some cs=>
      simp only[hs]at hv;cases hbl:Nat.ble (off+n*sz) cs.length with
      |false=>simp[hbl]at hv
      |true=>
       simp only[hbl,cond_true,ai]at hv;subst hv;have hble:=gu hbl;have hz:=hx xo _ hxo hb;generalize hex:e x=ex' at hz;cases hz with
       |ptr hρ=>
        rename_i r o lim;have hrow:=hR.QI hρ hs;have hbd:=ep (P:=P) (isSlice:=false) (len:=n) (cap:=n) (cap' :=n) (m:=n) e1 e2 (show mX none=some none from rfl) (by simp) (by simp[au]) n2 n1 (aq _) hlo hhi (by simp) w;have b2:=dm (aq n) n2;have b1:=dm (dW h) n1;simp only[Option.map_none,Option.isSome_none,oS,if_false]at hbd;refine bO rfl ⟨.slice (some (if n=l then⟨r,o+off,none⟩else(⟨r,o+off,none⟩:Addr).add (l*sz))) (h - l) (n - l),?_,?_⟩
        ·simp only[Instr.sliceAt,Sem.run_bind,run_underlying hu,Result.andThen_ok,hex,Instr.sureAddr,Sem.run_pure,Option.map_none,hbd,cU hsz]
        ·refine .slice hρ (aq _) (fun _=>rfl) (by omega) ?_ (by omega);by_cases hml:n=l
         ·left;omega
         ·right;rw[if_neg hml,gV];have:l*sz+(n - l)*sz=n*sz:=by rw[←Nat.add_mul];congr 1;omega
          exact⟨by simp[Nat.add_assoc],by omega⟩
  ·cases hc
 |fieldAddr t x f=>
  simp only[cop]at hc;split at hc<;>try (cases hc;done)
  rename_i fs xo hu hxo;split at hc<;>try (cases hc;done)
  rename_i fd hfd;split at hc<;>cases hc;rename_i k hk;simp only[cD]at hv;have hx:=H x (by simp[Op.operands]) xo;have hrun:∀ {r q:Nat},e x=.pointer (some ⟨r,q,none⟩)→(Instr.fieldAt t (e x) f).run P w=.ok (.pointer (some ⟨r,q+fd.offset,none⟩)) w:=fun {r q} hh=>by
   simp[Instr.fieldAt,run_underlying hu,hfd,hh,Instr.sureAddr,fieldPlace,cU hk,gV]
  split at hv<;>simp only[ai,reduceCtorEq]at hv<;>subst hv
  ·rename_i b o' hb;have hz:=hx _ hxo hb;generalize hex:e x=ex at hz;cases hz with
   |ptr hρ=>exact bO rfl ⟨_,hrun hex,by rw[Nat.add_assoc];exact .ptr hρ⟩
  ·rename_i row o' hb;have hz:=hx _ hxo hb;generalize hex:e x=ex at hz;cases hz with
   |eD c hr hc hcv=>exact bO rfl ⟨_,hrun hex,by rw[Nat.add_assoc];exact .eD c hr hc hcv⟩
 |field t x f=>
  simp only[cop]at hc;split at hc<;>try (cases hc;done)
  rename_i fs xo hu hxo;split at hc<;>try (cases hc;done)
  rename_i fd hfd;split at hc<;>cases hc;rename_i n hn;simp only[cD]at hv;split at hv<;>try (simp at hv;done)
  rename_i cs hcs;have hz:=H x (by simp[Op.operands]) xo _ hxo hcs;generalize hex:e x=ex at hz;cases hz with
  |agg ha va=>
   obtain⟨y,h1,h2⟩:=A3 (P:=P) hn (aR.of_array ha va) hv w;refine bO rfl ⟨y,?_,h2⟩;simp[Instr.field,run_underlying hu,hfd,hex,asAgg,h1]
 |indexAddr t x i=>
  simp only[cop]at hc;have hx:=H x (by simp[Op.operands]);have hi:=H i (by simp[Op.operands]);split at hc
  ·rename_i el xo io hu hxo hio;split at hc<;>cases hc;rename_i sz hsz;simp only[cD]at hv;split at hv
   ·rename_i b off len cap z ex k n hb hn;split at hv<;>try (simp at hv;done)
    rename_i hlt;cases hbq:Nat.beq z sz with
    |false=>simp[hbq]at hv
    |true=>
     have hzz:z=sz:=bR hbq;subst hzz;simp only[hbq,cond_true,ai]at hv;subst hv;have hz:=hx xo _ hxo hb;have hii:=(hi io _ hio hn).fG;generalize hex:e x=ex' at hz;cases hz with
     |slice hρ h1 h2 h3 h4 hcb=>
      rename_i r o lim a cap';rcases h4 with h4|⟨rfl,h5⟩
      ·exfalso;omega
      ·refine bO rfl ⟨.pointer (some ⟨r,o+(off+n.toNat*z),none⟩),?_,.ptr hρ⟩;simp[Instr.indexAt,hii,hex,asIntOf,run_underlying hu,hlt,cU hsz,gV,Nat.add_assoc]
   ·rename_i row off len z k n hb hn;split at hv<;>try (simp at hv;done)
    rename_i hlt;cases hbq:Nat.beq z sz with
    |false=>simp[hbq]at hv
    |true=>
     have hzz:z=sz:=bR hbq;subst hzz;simp only[hbq,cond_true,ai]at hv;subst hv;have hz:=hx xo _ hxo hb;have hii:=(hi io _ hio hn).fG;generalize hex:e x=ex' at hz;cases hz with
     |ag c hr hc hcv h3 h4=>
      rename_i r o a cap';rcases h4 with h4|rfl
      ·exfalso;omega
      ·refine bO rfl ⟨.pointer (some ⟨r,o+(off+n.toNat*z),none⟩),?_,.eD c hr hc hcv⟩;simp[Instr.indexAt,hii,hex,asIntOf,run_underlying hu,hlt,cU hsz,gV,Nat.add_assoc]
   ·simp at hv
  ·rename_i len el xo io hu hxo hio;split at hc<;>cases hc;rename_i sz hsz;simp only[cD]at hv;have hrun:∀ {r q:Nat} {k:IntKind} {n:Int},e x=.pointer (some ⟨r,q,none⟩)→e i=.int k n→0≤n∧n<(len:Int)→(Instr.indexAt t (e x) (e i)).run P w=.ok (.pointer (some ⟨r,q+n.toNat*sz,none⟩)) w:=fun {r q k n} g1 g2 g3=>by
    simp[Instr.indexAt,g1,g2,asIntOf,run_underlying hu,g3,cU hsz,gV,Instr.sureAddr]
   split at hv
   ·rename_i b off k n hb hn;split at hv<;>simp only[ai,reduceCtorEq]at hv;rename_i hlt;subst hv;have hz:=hx xo _ hxo hb;have hii:=(hi io _ hio hn).fG;generalize hex:e x=ex' at hz;cases hz with
    |ptr hρ=>exact bO rfl ⟨_,hrun hex hii hlt,by rw[Nat.add_assoc];exact .ptr hρ⟩
   ·rename_i row off k n hb hn;split at hv<;>simp only[ai,reduceCtorEq]at hv;rename_i hlt;subst hv;have hz:=hx xo _ hxo hb;have hii:=(hi io _ hio hn).fG;generalize hex:e x=ex' at hz;cases hz with
    |eD c hr hc hcv=>exact bO rfl ⟨_,hrun hex hii hlt,by rw[Nat.add_assoc];exact .eD c hr hc hcv⟩
   ·simp at hv
  ·cases hc
 |index t x i=>
  simp only[cop]at hc;split at hc<;>try (cases hc;done)
  ·cases hc;rename_i xo io hu hxo hio;simp only[cD]at hv;split at hv<;>try (simp at hv;done)
   rename_i b k n hb hn;split at hv<;>try (simp at hv;done)
   rename_i h0;cases hg:b[n.toNat]? with
   |none=>simp[hg]at hv
   |some c=>
    simp only[hg,ai]at hv;subst hv;obtain⟨p,hp,hp2⟩:=(H x (by simp[Op.operands]) xo _ hxo hb).gi;have hii:=(H i (by simp[Op.operands]) io _ hio hn).fG;refine bO rfl ⟨.int .u8 c.toNat,?_,.int _ _⟩;have:p[n.toNat]? =some c:=by rw[Xk,hp2,hg]
    simp[Instr.index,hii,hp,asIntOf,run_underlying hu,h0,this]
  ·rename_i len el xo io hu hxo hio;split at hc<;>try (cases hc;done)
   rename_i hsz hsp;cases hc;simp only[cD]at hv;split at hv<;>try (simp at hv;done)
   rename_i cs k n hb hn;split at hv<;>try (simp at hv;done)
   rename_i h0;have hz:=H x (by simp[Op.operands]) xo _ hxo hb;have hii:=(H i (by simp[Op.operands]) io _ hio hn).fG;generalize hex:e x=ex at hz;cases hz with
   |agg ha va=>
    obtain⟨y,h1,h2⟩:=A3 (P:=P) hsp (aR.of_array ha va) (off:=n.toNat) (by simpa only[dZ]using hv) w;refine bO rfl ⟨y,?_,h2⟩;simp[Instr.index,hii,hex,asIntOf,run_underlying hu,h0.1,h0.2,cU hsz,h1]
 |lookup t x i ok=>
  simp only[cop]at hc;split at hc<;>try (cases hc;done)
  rename_i k el xo io hu hxo hio;split at hc<;>cases hc;rename_i z kk hz hkk;simp only[cD]at hv;split at hv<;>try (simp at hv;done)
  rename_i m kv hxv hiv;exact bO rfl (Eu hu hz hkk hR (H x (by simp[Op.operands]) xo m hxo hxv) (H i (by simp[Op.operands]) io kv hio hiv) hv)
 |entry x=>
  simp only[cop]at hc;split at hc<;>cases hc;rename_i xo hxo;simp only[cD]at hv;split at hv<;>try (simp at hv;done)
  rename_i b hb;have hz:=H x (by simp[Op.operands]) xo _ hxo hb;generalize hex:e x=ex at hz;cases hz with
  |ptr hρ=>
   rename_i r o lim;unfold Aq at hv;have ho:=hR.ob b r o lim hρ;cases hs:s.get b with
   |none=>rw[hs]at hv;simp at hv
   |some ob=>
    rw[hs]at hv ho;cases ob with
    |row cs=>simp at hv
    |uK cs=>simp at hv
    |map es clock=>simp at hv
    |dead=>simp at hv
    |ga m since seen last=>
     obtain⟨m',e1,e2,rfl⟩:=ho;cases m with
     |none=>simp at hv
     |some mm=>
      obtain⟨r2,o2,lim2,hρ2,rfl⟩:=e2;simp only at hv;have ho2:=hR.ob mm r2 o2 lim2 hρ2;cases hs2:s.get mm with
      |none=>rw[hs2]at hv;simp at hv
      |some ob2=>
       rw[hs2]at hv ho2;cases ob2 with
       |row cs=>simp at hv
       |uK cs=>simp at hv
       |ga a b c d=>simp at hv
       |dead=>simp at hv
       |map es clock=>
        cases hl:seen.getLast? with
        |none=>rw[hl]at hv;simp at hv
        |some n=>
         rw[hl]at hv;simp only at hv;cases hq:Nat.beq clock last with
         |false=>simp[hq]at hv
         |true=>
          have hcl:clock=last:=bR hq;subst hcl;simp only[hq,cond_true]at hv;obtain⟨es',g1,g2,g3⟩:=ho2;cases hf:es.find? (fun e=>Nat.beq e.born n)with
          |none=>rw[hf]at hv;simp at hv
          |some en=>
           rw[hf]at hv;simp only[ai]at hv;subst hv;obtain⟨k1,k2,k3⟩:=PI (w0:=w0) (ρ:=ρ) (n:=n) es es'.toList (by simpa using g2) (fun i h1 h2=>by simpa using g3 i h1 (by simpa using h2)) hf;have hbk:seen.toArray.back? =some n:=by rw[←Array.getLast?_toList];exact hl
           have hfind:es'.find? (fun e=>e.born==n)=some k1:=by rw[←Array.find?_toList];exact k2
           refine bO rfl ⟨.tuple #[k1.key,k1.val],?_,?_⟩
           ·simp[hex,Instr.entry,getObj,Sem.run,e1,g1,hbk,hfind]
           ·simpa using az.kN (aR.cons k3.1 (aR.cons k3.2 .nil))
 |extract x i=>
  simp only[cop]at hc;split at hc<;>cases hc;rename_i xo hxo;simp only[cD]at hv;split at hv<;>try (simp at hv;done)
  rename_i vs hvs;have hz:=H x (by simp[Op.operands]) xo _ hxo hvs;generalize hex:e x=ex at hz;cases hz with
  |aV ha va=>
   rename_i vs';obtain⟨y,h1,h2⟩:=(aR.of_array ha va).get hv;refine bO rfl ⟨y,?_,h2⟩;have h1' :vs'[i]? =some y:=by simpa using h1
   simp[hex,Instr.extract,h1']
 |typeAssert x xt t ok=>
  cases ok<;>simp only[cop]at hc<;>try (cases hc;done)
  split at hc<;>cases hc;rename_i d xo z h1 hu hxo hz;obtain⟨zx,hzr,hzv⟩:=jh hz;simp only[cD]at hv;split at hv
  ·rename_i hxv;simp only[ai]at hv;subst hv;have hx:=H x (by simp[Op.operands]) xo _ hxo hxv;generalize hex:e x=ex at hx;cases hx;refine bO rfl ⟨.tuple #[zx,.bool false],?_,by simpa using az.kN (aR.cons (hzv w0 ρ) (aR.cons (.bool false) .nil))⟩;simp only[hex,Instr.typeAssert,Sem.run_bind,run_underlying hu,Result.andThen_ok];cases d<;>first|exact absurd hu (h1 _)|simp[hzr]
  ·rename_i u y hxv;simp only[ai]at hv;have hx:=H x (by simp[Op.operands]) xo _ hxo hxv;generalize hex:e x=ex at hx;cases hx with
   |iface hy=>
    rename_i y';by_cases hut:u=t
    ·rw[if_pos hut]at hv;subst hv;refine bO rfl ⟨.tuple #[y',.bool true],?_,by simpa using az.kN (aR.cons hy (aR.cons (.bool true) .nil))⟩;simp only[hex,Instr.typeAssert,Sem.run_bind,run_underlying hu,Result.andThen_ok];cases d<;>first|exact absurd hu (h1 _)|simp[hut]
    ·rw[if_neg hut]at hv;subst hv;refine bO rfl ⟨.tuple #[zx,.bool false],?_,by simpa using az.kN (aR.cons (hzv w0 ρ) (aR.cons (.bool false) .nil))⟩;simp only[hex,Instr.typeAssert,Sem.run_bind,run_underlying hu,Result.andThen_ok];cases d<;>first|exact absurd hu (h1 _)|simp[hut,hzr]
  ·simp at hv
 |call c=>
  simp only[cop]at hc;split at hc<;>try first|(cases hc;done)|(split at hc<;>cases hc;done)
  rename_i b args hcal hargs;have hHa:∀ x∈c.args.toList,jm w0 ρ env e x:=fun x hx=>H x (by simp[Op.operands,Call.operands];exact .inr (by simpa using hx));have hres:∀ {S:Sem Value} {r:V},(∀ cs,builtin b c.argTypes type cs (c.args.map e)=(do pure (.value (←S))))→(∃ x,S.run P w=.ok x w∧az w0 ρ r x)→
    OZ P w0 ρ w e {dst,op:=.call c,type,pos,after,guard} r:=fun {S r} hb ⟨x,h1,h2⟩=>by
   refine⟨x,?_,h2⟩;simp only[execOp,resolve,hcal,Sem.run_bind,Sem.run_pure,Result.andThen_ok,invoke];rw[hb];simp[h1]
  rcases qhi hc with⟨rfl,t,ts',xo,xs',ht,hx,hh⟩|⟨rfl,t,ts',xo,xs',ht,hx,⟨el,hu⟩,rfl⟩|⟨rfl,rfl⟩|⟨rfl,rfl⟩
  ·subst hx;obtain⟨x,xs,ha,hxo,_⟩:=r9 hargs;have hX:=hHa x (by rw[ha];simp);have ht0:c.argTypes[0]? =some t:=by rw[←Array.getElem?_toList,ht];rfl
   have hx0:(c.args.map e)[0]? =some (e x):=by rw[←Array.getElem?_toList];simp[ha]
   refine hres (fun _=>rfl) ?_;have fin:∀ {k:Nat},cD env s (.len k xo)=some v→∃ u n,xo.ev env=some u∧lG s k u=some n∧v=.int .i64 (n:Nat):=fun {k} hh=>by
    simp only[cD]at hh;cases hxv:xo.ev env with
    |none=>simp[hxv]at hh
    |some u=>
     cases hl:lG s k u with
     |none=>simp[hxv,hl]at hh
     |some n=>simp only[hxv,hl,ai]at hh;exact⟨u,n,rfl,hl,hh.symm⟩
   rcases hh with⟨hu,rfl⟩|⟨⟨el,hu⟩,rfl⟩|⟨⟨k,el,hu⟩,rfl⟩
   ·obtain⟨u,n,h1,h2,rfl⟩:=fin hv;have hr:=hX xo u hxo h1;generalize hex:e x=ex at hr hx0;cases hr<;>simp[lG,O7,O8,O9,Pb,Pc,Pd,Pe,Pf,Pg]at h2;rename_i p hp;refine⟨goInt p.size,by simp[Builtin.len_,ht0,hx0,run_underlying hu],?_⟩;have:p.size=n:=by rw[←h2,←hp];simp
    rw[this];exact .int _ _
   ·obtain⟨u,n,h1,h2,rfl⟩:=fin hv;have hr:=hX xo u hxo h1;generalize hex:e x=ex at hr hx0;cases hr<;>simp[lG,O7,O8,O9,Pb,Pc,Pd,Pe,Pf,Pg]at h2<;>subst h2
    ·exact⟨goInt 0,by simp[Builtin.len_,ht0,hx0,run_underlying hu],.int _ _⟩
    ·exact⟨goInt 0,by simp[Builtin.len_,ht0,hx0,run_underlying hu],.int _ _⟩
    ·exact⟨_,by simp[Builtin.len_,ht0,hx0,run_underlying hu];rfl,.int _ _⟩
    ·exact⟨_,by simp[Builtin.len_,ht0,hx0,run_underlying hu];rfl,.int _ _⟩
   ·obtain⟨u,n,h1,h2,rfl⟩:=fin hv;have hr:=hX xo u hxo h1;generalize hex:e x=ex at hr hx0;cases hr<;>simp[lG,O7,O8,O9,Pb,Pc,Pd,Pe,Pf,Pg]at h2
    ·subst h2;exact⟨goInt 0,by simp[Builtin.len_,ht0,hx0,run_underlying hu],.int _ _⟩
    ·rename_i m r o lim hρ;cases hs:s.get m with
     |none=>simp[hs]at h2
     |some ob=>
      cases ob<;>simp[hs]at h2;rename_i es clock;obtain⟨es',g1,g2,g3⟩:=hR.JS hρ hs;refine⟨goInt es'.size,by simp[Builtin.len_,ht0,hx0,run_underlying hu,run_getObj_map g1],?_⟩;rw[←g2,h2];exact .int _ _
  ·subst hx;obtain⟨x,xs,ha,hxo,_⟩:=r9 hargs;have hX:=hHa x (by rw[ha];simp);have ht0:c.argTypes[0]? =some t:=by rw[←Array.getElem?_toList,ht];rfl
   have hx0:(c.args.map e)[0]? =some (e x):=by rw[←Array.getElem?_toList];simp[ha]
   refine hres (fun _=>rfl) ?_;simp only[cD]at hv;split at hv<;>simp only[ai,reduceCtorEq]at hv<;>subst hv
   ·rename_i h1;have hr:=hX xo _ hxo h1;generalize hex:e x=ex at hr hx0;cases hr;exact⟨goInt 0,by simp[Builtin.cap_,ht0,hx0,run_underlying hu],.int _ _⟩
   ·rename_i h1;have hr:=hX xo _ hxo h1;generalize hex:e x=ex at hr hx0;cases hr;exact⟨goInt 0,by simp[Builtin.cap_,ht0,hx0,run_underlying hu],.int _ _⟩
   ·rename_i h1;have hr:=hX xo _ hxo h1;generalize hex:e x=ex at hr hx0;cases hr with
    |slice hρ h1 h2 h3 h4 hcb=>
     rename_i cap';refine⟨goInt cap',by simp[Builtin.cap_,ht0,hx0,run_underlying hu],?_⟩;rw[h2 rfl];exact .int _ _
  ·simp only[cD]at hv;split at hv<;>try (simp at hv;done)
   rename_i a l hl;have hlr:=oH hargs hl hHa;obtain⟨y,ys,hy1,hy2,hy3⟩:=hlr.bx;obtain⟨z,z1,z2⟩:=yc (P:=P) JT hv hy2 hy3 w;exact hres (fun _=>rfl) ⟨z,by simp[Builtin.max_,hy1,z1],z2⟩
  ·simp only[cD]at hv;split at hv<;>try (simp at hv;done)
   rename_i a l hl;have hlr:=oH hargs hl hHa;obtain⟨y,ys,hy1,hy2,hy3⟩:=hlr.bx;obtain⟨z,z1,z2⟩:=yc (P:=P) JU hv hy2 hy3 w;exact hres (fun _=>rfl) ⟨z,by simp[Builtin.min_,hy1,z1],z2⟩
 |makeMap t r=>
  simp only[cop]at hc;split at hc<;>cases hc
 |makeSlice t l c=>
  simp only[cop]at hc;split at hc<;>try (cases hc;done)
  split at hc<;>try (cases hc;done)
  rename_i sz bs z l c h1 h2 h3 h4 h5;cases hq:(Nat.beq z.cells.length sz&&Nat.ble 1 sz)<;>simp[hq]at hc
 |buildSlice t len parts=>
  simp only[cop]at hc;split at hc<;>try (cases hc;done)
  split at hc<;>try (cases hc;done)
  rename_i sz z h1 h2;cases hq:(Nat.ble (len*sz) 16777216&&Nat.beq z.cells.length sz&&Nat.ble 1 sz)<;>simp only[hq,cond_true,cond_false,reduceCtorEq]at hc;split at hc<;>cases hc
 |next x b=>cases b<;>simp only[cop]at hc<;>(try split at hc)<;>cases hc
 |mapUpdate t m k x=>simp only[cop]at hc;split at hc<;>(try split at hc)<;>cases hc
 |insert t m k x=>simp only[cop]at hc;split at hc<;>(try split at hc)<;>cases hc
 |alloc t=>simp only[cop]at hc;split at hc<;>cases hc
 |box t x=>simp only[cop]at hc;split at hc<;>cases hc
 |store t a x=>simp only[cop]at hc;split at hc<;>cases hc
 |range t x=>simp only[cop]at hc;split at hc<;>cases hc
 |_=>simp[cop]at hc
end
end Go.RE
namespace Go.RE
section
variable{P:Program}{w0:World}{ρ:Ren}{s:St}{w:World}{env:PT V}{e:Operand→Value}
theorem Qo{cs:List V}{xs:List Value}(h:aR w0 ρ cs xs)(rest:List Value)(t:TypeId)(fr:Nat×Nat)(hf:∀ j,j≤xs.length+rest.length→¬(fr.1≤j∧j<fr.2)):
  iK w0 ρ 0 (xs.length+rest.length) (some (.row cs)) (some (.cells (xs++rest).toArray t fr)):=by
 refine⟨_,t,fr,rfl,by simp,by rw[h.1];omega,hf,fun i hi=> ?_⟩;obtain⟨x,h1,h2⟩:=h.get (bP hi);refine⟨x,?_,h2⟩;have hl:=h.1;simp only[Nat.zero_add,List.getElem?_toArray];rw[cz (by omega)];exact h1
theorem WY{cs:List V}{xs:List Value}(h:aR w0 ρ cs xs)(rest:List Value)(t:TypeId)(fr:Nat×Nat)(hf:∀ j,j<xs.length+rest.length→¬(fr.1≤j∧j<fr.2)):
  iK w0 ρ 0 (xs.length+rest.length) (some (.uK cs)) (some (.cells (xs++rest).toArray t fr)):=by
 refine⟨_,t,fr,rfl,by simp,by rw[h.1];omega,hf,fun i hi=> ?_⟩;obtain⟨x,h1,h2⟩:=h.get (bP hi);refine⟨x,?_,h2⟩;have hl:=h.1;simp only[Nat.zero_add,List.getElem?_toArray];rw[cz (by omega)];exact h1
theorem yU{cs:List V}{A:Array Value}(h:aR w0 ρ cs A.toList)(t:TypeId):iK w0 ρ 0 A.size (some (.row cs)) (some (.cells A t (0,0))):=by
 have:=Qo h [] t (0,0) (by simp);simpa using this
theorem ng(z:List V):∀ n,(eF z n).length=n*z.length:=by
 intro n
 induction n with
 |zero=>simp[eF]
 |succ n ih=>simp[eF,ih,Nat.add_mul,Nat.add_comm]
theorem HW(z:List V):∀ (n j:Nat),j<n*z.length→(eF z n)[j]? =z[j % z.length]? :=by
 intro n
 induction n with
 |zero=>intro j h;simp at h
 |succ n ih=>
  intro j h;simp only[eF];by_cases hj:j<z.length
  ·rw[cz hj,Nat.mod_eq_of_lt hj]
  ·rw[fh (by omega),ih _ (by rw[Nat.add_mul,Nat.one_mul]at h;omega)];congr 1;exact(Nat.mod_eq_sub_mod (by omega)).symm
theorem y8{z:List V}{zx:Array Value}(h:aR w0 ρ z zx.toList)(n:Nat)(g:Array Value)(hg:0<n*z.length→g=zx):
  aR w0 ρ (eF z n) ((Array.range (n*z.length)).map (fun j=>g[j % g.size]!)).toList:=by
 have hl:z.length=zx.size:=by simpa using h.1
 refine aR.tF (by simp[ng]) fun j v hv=> ?_;have hj:j<n*z.length:=by
  have:=(bn.1 hv).1;rwa[ng]at this
 have hg' :=hg (by omega);subst hg';rw[HW _ _ _ hj]at hv;obtain⟨x,h1,h2⟩:=h.get hv;refine⟨x,?_,h2⟩;have hpos:0<z.length:=by
  rcases Nat.eq_zero_or_pos z.length with h0|h0
  ·rw[h0]at hj;simp at hj
  ·exact h0
 have hm:j % g.size<g.size:=Nat.mod_lt _ (by omega);simp only[Array.toList_map,Array.toList_range,List.getElem?_map,List.getElem?_range hj,Option.map_some];rw[Array.getElem?_toList,hl]at h1;rw[getElem!_pos g _ hm];rw[getElem?_pos g _ hm]at h1;exact h1
def O0(P:Program)(w0:World)(ρ:Ren)(w:World)(e:Operand→Value)(o:Oper)(ob:Ob)(f:Nat→V):Prop:=
 ∃ obj lim w' x,(execOp e o).run P w=.ok (.value x) w'∧w'.heap=w.heap.push obj∧w'.os=w.os∧w'.output=w.output∧iK w0 ρ 0 lim (some ob) (some obj)∧
  ∀ ρ' n,Ren.le ρ ρ'→ρ' n=some (w.heap.size,0,lim)→az w0 ρ' (f n) x
theorem mS{o:Oper}{ob:Ob}{f:Nat→V}{S:Sem Value}(he:execOp e o=(do pure (.value (←S)))){obj:Obj}{lim:Nat}{w' :World}{x:Value}(h:S.run P w=.ok x w')
  (h1:w'.heap=w.heap.push obj) (h2:w'.os=w.os) (h3:w'.output=w.output) (h4:iK w0 ρ 0 lim (some ob) (some obj))
  (h5:∀ ρ' n,Ren.le ρ ρ'→ρ' n=some (w.heap.size,0,lim)→az w0 ρ' (f n) x):O0 P w0 ρ w e o ob f:=
 ⟨obj,lim,w',x,by rw[he];simp[h],h1,h2,h3,h4,h5⟩
theorem wrap_small{n:Nat}(h:n≤bp):IntKind.i64.wrap (n:Int)=n:=by
 apply Gy
 ·simp only[IntKind.signed,IntKind.bits,if_true];omega
 ·simp only[IntKind.signed,IntKind.bits,if_true];unfold bp at h;omega
theorem qhh{b:Builtin}{ts:List TypeId}{xs:List bJ}{mo:GB}:jH P b ts xs≠.m mo:=by
 intro h;unfold jH at h;split at h
 ·split at h<;>cases h
 ·split at h<;>cases h
 ·cases h
 ·cases h
 ·split at h
  ·split at h
   ·unfold cond at h;split at h<;>cases h
   ·unfold cond at h;split at h<;>cases h
   ·cases h
  ·cases h
 ·split at h
  ·split at h<;>cases h
  ·cases h
 ·split at h
  ·split at h<;>cases h
  ·cases h
 ·cases h
theorem HH(h:Array Obj)(x:Obj)(f:Obj→Obj):(h.push x).modify h.size f=h.push (f x):=by
 apply Array.ext_getElem?;intro i;rw[Array.getElem?_modify,Array.getElem?_push,Array.getElem?_push];by_cases hi:i=h.size
 ·subst hi;simp
 ·rw[if_neg (fun hh=>hi hh.symm),if_neg hi,if_neg hi]
theorem CC(p:ByteArray):aR w0 ρ (p.data.toList.map gW) (p.data.map (fun b=>Value.int .u8 b.toNat)).toList:=
 ⟨by simp,fun i h1 h2=>by simp only[List.getElem_map,gW,Array.toList_map];exact .int _ _⟩
theorem grownCap_le{w:World}{need old:Nat}{e:TypeId}(h:need<9223372036854775808):grownCap w need old e≤9223372036854775807:=by
 show need+w.tape w.drawn (.appendCap need old e) % (2 ^ 63 - need)≤_;have:=Nat.mod_lt (w.tape w.drawn (.appendCap need old e)) (show 2 ^ 63 - need>0 by omega);omega
theorem CT{src dst el:TypeId}{x:Operand}{p:ByteArray}{b:List UInt8}(hs:P.underlying src=some .string)(hd:P.underlying dst=some (.slice el))(he:P.underlying el=some (.int .u8))
  (hp:e x=.string p) (hp2:p.data.toList=b) (hbb:b.length≤bp) {dstT:Option Tmp} {type:TypeId} {pos:String} {after:Array Edge} {guard:Option (Nat×Bool)} (w:World):
  O0 P w0 ρ w e {dst:=dstT,op:=.convert src dst x,type,pos,after,guard} (.uK (b.map gW)) (fun n=> .slice n 0 b.length b.length 1 false):=by
 have hsz:p.size=b.length:=by rw[←hp2];simp
 let c:=grownCap w p.size 0 el;have hc:p.size≤c:=grownCap_ge w p.size 0 el;let C:Array Value:=p.data.map (fun b=>Value.int .u8 b.toNat)++Array.replicate (c - p.size) (.int .u8 0);have hCs:C.size=c:=by simp[C];have:p.data.size=p.size:=rfl;omega
 have hrow:=WY (CC (w0:=w0) (ρ:=ρ) p) (List.replicate (c - p.size) (.int .u8 0)) el (C.size,C.size+1) (fun j hj=>by
  simp at hj;have:p.data.size=p.size:=rfl;omega)
 have hC:((p.data.map (fun b=>Value.int .u8 b.toNat)).toList++List.replicate (c - p.size) (Value.int .u8 0)).toArray=C:=by apply Array.ext';simp[C]
 have hlim:(p.data.map (fun b=>Value.int .u8 b.toNat)).toList.length+(List.replicate (c - p.size) (Value.int .u8 0)).length=C.size:=by simp[C]
 rw[hC,hlim,hp2]at hrow;refine mS rfl (S:=convert src dst (e x)) (w' :={w.drew with heap:=w.heap.push (.cells C el (C.size,C.size+1))}) (x:=.slice (some ⟨w.heap.size,0,none⟩) p.size c) ?_ rfl rfl rfl hrow
  fun ρ' n hl hn=>by rw[←hsz];exact .slice hn hc (fun h=>by simp at h) (aq _) (.inr ⟨by simp,by simp[hCs]⟩) (grownCap_le (by unfold bp at hbb;omega))
 have h1:(convert src dst (e x)).run P w=(Conv.stringToBytes el p).run P w:=by
  rw[hp];simp[convert,run_underlying hs,run_underlying hd,run_underlying he]
 rw[h1];unfold Conv.stringToBytes;simp only[Sem.run_bind,run_choose,Question.forced,oS,if_false,Result.andThen_ok,newRow,run_newObj,Sem.run_pure,markStringish,run_shape];have hC2:Array.map (fun b=>Value.int .u8 (b.toNat:Int)) p.data++Array.replicate (Question.cut (Question.appendCap p.size 0 el) (w.tape w.drawn (Question.appendCap p.size 0 el)) - p.size) (Value.int .u8 0)=C:=rfl;rw[hC2];have hshape:({heap:=w.heap.push (Obj.cells C el),tape:=w.tape,drawn:=w.drawn+1,os:=w.os,output:=w.output}:World).shape? w.heap.size=some (el,C.size):=by
  simp[World.shape?]
 simp only[hshape,Sem.run_bind,run_freeze,Result.andThen_ok,Sem.run_pure];unfold World.freeze;rw[if_neg (by simp)];simp only[];rw[HH];simp;exact⟨rfl,rfl,rfl⟩
set_option maxHeartbeats 1000000 in
theorem De{o:Oper}{mo:GB}{ob:Ob}{f:Nat→V}(hc:cop P o.op=.m mo)(hv:Ax env mo=some (ob,f))(H:∀ x∈o.op.operands,jm w0 ρ env e x)(w:World):O0 P w0 ρ w e o ob f:=by
 obtain⟨dst,op,type,pos,after,guard⟩:=o;simp only at hc H;cases op with
 |alloc t=>
  simp only[cop]at hc;split at hc<;>cases hc;rename_i z hz;simp only[Ax,ai,aJ]at hv;obtain⟨rfl,rfl⟩:=hv;obtain⟨zx,hzr,hzv⟩:=jh hz;exact mS rfl (S:=Instr.alloc t true (.tuple #[])) (w' :=w.alloc (.cells zx.cells t)) (x:=.pointer (some ⟨w.heap.size,0,none⟩)) (by simp[Instr.alloc,hzr,newVar,newRow]) rfl rfl rfl
   (yU (hzv w0 ρ).cells t) fun ρ' n hl hn=>by simpa using az.ptr (off:=0) hn
 |box t x=>
  simp only[cop]at hc;split at hc<;>cases hc;rename_i xo hxo;simp only[Ax]at hv;split at hv<;>simp only[ai,aJ,reduceCtorEq]at hv;rename_i u hu;obtain⟨rfl,rfl⟩:=hv;have hx:=H x (by simp[Op.operands]) xo u hxo hu;exact mS rfl (S:=Instr.box t (e x)) (w' :=w.alloc (.cells (e x).cells t)) (x:=.pointer (some ⟨w.heap.size,0,none⟩)) (by simp[Instr.box,newVar,newRow]) rfl rfl rfl
   (yU hx.cells t) fun ρ' n hl hn=>by simpa using az.ptr (off:=0) hn
 |buildSlice t len parts=>
  simp only[cop]at hc;split at hc<;>try (cases hc;done)
  rename_i el hel;split at hc<;>try (cases hc;done)
  rename_i sz z hsz hz;cases hq:(Nat.ble (len*sz) 16777216&&Nat.beq z.cells.length sz&&Nat.ble 1 sz)with
  |false=>simp[hq]at hc
  |true=>
   simp only[hq,cond_true]at hc;split at hc<;>cases hc;rename_i l hl;simp only[bC]at hq;have q1:=gu hq.1.1;have q2:=bR hq.1.2;have q3:=gu hq.2;simp only[Ax]at hv;split at hv<;>simp only[ai,aJ,reduceCtorEq]at hv;rename_i cs hcs;obtain⟨rfl,rfl⟩:=hv;obtain⟨zx,hzr,hzv⟩:=jh hz;have hu:P.underlying t=some (.slice el):=by unfold nP at hel;split at hel<;>simp_all
   have hrep:∃ g:Array Value,((len*sz=0∧g= #[])∨(len*sz≠0∧g=zx.cells))∧
     aR w0 ρ (eF z.cells len) ((Array.range (len*sz)).map (fun j=>g[j % g.size]!)).toList:=by
    by_cases h0:len*sz=0
    ·refine⟨#[],.inl ⟨h0,rfl⟩,?_⟩;have:=y8 (hzv w0 ρ).cells len #[] (fun h=>by rw[q2]at h;omega);rwa[q2]at this
    ·refine⟨zx.cells,.inr ⟨h0,rfl⟩,?_⟩;have:=y8 (hzv w0 ρ).cells len zx.cells (fun _=>rfl);rwa[q2]at this
   obtain⟨g,hg1,hg2⟩:=hrep;obtain⟨out,f1,f2⟩:=tj (e:=e) (cells' :=(Array.range (len*sz)).map (fun j=>g[j % g.size]!)) hl hcs hg2 (fun p hp=>H p.2 (by simp[Op.operands];exact⟨p.1,by simpa using hp⟩));have hol:out.size=len*sz:=by
    have h1:=f2.1;have h2:cs.length=len*sz:=by
     have:∀ {ps:List (Nat×Nat×bJ)} {a b:List V},mH env a ps=some b→b.length=a.length:=by
      intro ps
      induction ps with
      |nil=>intro a b h;simp[mH]at h;rw[h]
      |cons p ps ih=>
       intro a b h;obtain⟨p1,p2,p3⟩:=p;simp only[mH]at h;split at h<;>try (simp at h;done)
       rename_i v _;cases hb:(Nat.beq v.cells.length p2&&Nat.ble (p1+v.cells.length) a.length)with
       |false=>simp[hb]at h
       |true=>
        simp only[hb,cond_true]at h;simp only[bC]at hb;rw[ih h,qX _ _ _ (gu hb.2)]
     rw[this hcs,ng,q2]
    simp at h1;omega
   refine mS rfl (S:=Instr.buildSlice t len (parts.map fun p=>(p.1,e p.2))) (w' :=w.alloc (.cells out el)) (x:=.slice (some ⟨w.heap.size,0,none⟩) len len) ?_ rfl rfl rfl
    (yU f2 el) fun ρ' n hl hn=> .slice hn (aq _) (fun _=>rfl) (aq _) (.inr ⟨by simp,by simp[hol]⟩) (by have:=Nat.mul_le_mul_left len q3;omega)
   unfold Instr.buildSlice;simp only[Sem.run_bind,run_underlying hu,Result.andThen_ok,cU hsz];rw[if_neg (by omega)];have hfill:Instr.fill (fun i=>some (i*sz,sz)) ((Array.range (len*sz)).map (fun j=>g[j % g.size]!)) (parts.map fun p=>(p.1,e p.2)).toList=some out:=by simpa using f1
   rcases hg1 with⟨h0,rfl⟩|⟨h0,rfl⟩
   ·rw[if_pos h0];simp only[Sem.run_bind,Sem.run_pure,Result.andThen_ok,hfill];simp[newRow]
   ·rw[if_neg h0];simp only[Sem.run_bind,Sem.run_pure,Result.andThen_ok,hzr,hfill];simp[newRow]
 |makeMap t r=>
  simp only[cop]at hc;split at hc<;>cases hc<;>simp only[Ax,ai,aJ]at hv<;>obtain⟨rfl,rfl⟩:=hv
  ·exact mS (S:=Instr.makeMap t none) rfl (lim:=0) (w' :=w.alloc (.map #[] 0)) (x:=.map (some w.heap.size)) (by simp[Instr.makeMap]) rfl rfl rfl ⟨#[],rfl,rfl,fun i h=>by simp at h⟩ fun ρ' n hl hn=> .map hn
  ·rename_i k n hu;have hx:=(H (.const (.int k n)) (by simp[Op.operands]) (.c (.int k n)) (.int k n) rfl rfl).fG;exact mS (S:=Instr.makeMap t (some (e (.const (.int k n))))) rfl (lim:=0) (w' :=w.alloc (.map #[] 0)) (x:=.map (some w.heap.size)) (by simp[Instr.makeMap,run_underlying hu,hx,asInt,asIntOf]) rfl rfl rfl ⟨#[],rfl,rfl,fun i h=>by simp at h⟩ fun ρ' n hl hn=> .map hn
 |makeSlice t l c=>
  simp only[cop]at hc;split at hc<;>try (cases hc;done)
  rename_i el hel;split at hc<;>try (cases hc;done)
  rename_i sz bs z lo co hsz hbs hz hlo hco;cases hq:(Nat.beq z.cells.length sz&&Nat.ble 1 sz)with
  |false=>simp[hq]at hc
  |true=>
   simp only[hq,cond_true,jE.m.injEq]at hc;subst hc;simp only[bC]at hq;have q2:=bR hq.1;simp only[Ax]at hv;split at hv<;>try (simp at hv;done)
   rename_i lv cv hlv hcv;cases hcn:asNat cv bp with
   |none=>simp[hcn]at hv
   |some cn=>
    cases hln:asNat lv cn with
    |none=>simp[hcn,hln]at hv
    |some ln=>
     simp only[hcn,hln]at hv;cases hb:Nat.ble (cn*bs) bp with
     |false=>simp[hb]at hv
     |true=>
      simp only[hb,cond_true,ai,aJ]at hv;obtain⟨rfl,rfl⟩:=hv;have hb' :=gu hb;obtain⟨k1,m1,rfl,a1,a2,a3⟩:=ox hcn;obtain⟨k2,m2,rfl,b1,b2,b3⟩:=ox hln;have hx1:=(H c (by simp[Op.operands]) co _ hco hcv).fG;have hx2:=(H l (by simp[Op.operands]) lo _ hlo hlv).fG;obtain⟨zx,hzr,hzv⟩:=jh hz;have hu:P.underlying t=some (.slice el):=by unfold nP at hel;split at hel<;>simp_all
      have hm1:m1=(cn:Int):=by omega
      have hm2:m2=(ln:Int):=by omega
      subst hm1;subst hm2;have hcb:cn≤bp:=by omega
      have hlb:ln≤bp:=by omega
      obtain⟨ii,hii,hib⟩:∃ i,P.info? el=some i∧i.bytes=bs:=by
       unfold we at hbs;split at hbs<;>simp at hbs;rename_i i hi;exact⟨i,hi,hbs⟩
      have hrep:∃ g:Array Value,((cn*sz=0∧g= #[])∨(cn*sz≠0∧g=zx.cells))∧
        aR w0 ρ (eF z.cells cn) ((Array.range (cn*sz)).map (fun j=>g[j % g.size]!)).toList:=by
       by_cases h0:cn*sz=0
       ·refine⟨#[],.inl ⟨h0,rfl⟩,?_⟩;have:=y8 (hzv w0 ρ).cells cn #[] (fun h=>by rw[q2]at h;omega);rwa[q2]at this
       ·refine⟨zx.cells,.inr ⟨h0,rfl⟩,?_⟩;have:=y8 (hzv w0 ρ).cells cn zx.cells (fun _=>rfl);rwa[q2]at this
      obtain⟨g,hg1,hg2⟩:=hrep;have hbi:((bs:Int))*(cn:Int)≤(bp:Int):=by rw[Int.mul_comm];exact_mod_cast hb'
      have hbig:(bp:Int)<2 ^ 48:=by unfold bp;omega
      refine mS rfl (S:=Instr.makeSlice t (e l) (e c)) (w' :=w.alloc (.cells ((Array.range (cn*sz)).map (fun j=>g[j % g.size]!)) el)) (x:=.slice (some ⟨w.heap.size,0,none⟩) ln cn) ?_ rfl rfl rfl
       (yU hg2 el) fun ρ' n hl hn=> .slice hn (aq _) (fun _=>rfl) (by omega) (.inr ⟨by simp,by simp⟩) (by unfold bp at*;omega)
      unfold Instr.makeSlice;simp only[Sem.run_bind,run_underlying hu,Result.andThen_ok,hx1,hx2,asInt,asIntOf,Sem.run_pure,typeInfo,run_program,hii,hib,wrap_small hcb,wrap_small hlb];rw[if_neg (by
       simp only[Bool.or_eq_true,decide_eq_true_eq,not_or];refine⟨⟨⟨?_,?_⟩,?_⟩,?_⟩<;>omega)]
      simp only[Sem.run_bind,run_askRoom,Result.andThen_ok,cU hsz,Int.toNat_natCast];rcases hg1 with⟨h0,rfl⟩|⟨h0,rfl⟩
      ·rw[if_pos h0];simp[newRow]
      ·rw[if_neg h0];simp[newRow,hzr]
 |convert src dst x=>
  simp only[cop]at hc;split at hc<;>try (cases hc;done)
  ·rename_i el xo hs hd hxo;cases hu8:Hs P el<;>simp[hu8]at hc
  ·rename_i el xo hs hd hxo;cases hu8:Hs P el with
   |false=>simp[hu8]at hc
   |true=>
    simp only[hu8,cond_true,jE.m.injEq]at hc;subst hc;have he:P.underlying el=some (.int .u8):=by unfold Hs at hu8;split at hu8<;>simp_all
    simp only[Ax]at hv;split at hv<;>try (simp at hv;done)
    rename_i b hb;cases hbb:Nat.ble b.length bp with
    |false=>rw[hbb]at hv;cases hv
    |true=>
    rw[hbb]at hv;simp only[cond_true,ai,aJ]at hv;obtain⟨rfl,rfl⟩:=hv;obtain⟨p,hp,hp2⟩:=(H x (by simp[Op.operands]) xo _ hxo hb).gi;exact CT hs hd he hp hp2 (gu hbb) w
 |move x=>simp only[cop]at hc;split at hc<;>cases hc
 |assign x=>simp only[cop]at hc;split at hc<;>cases hc
 |pick c a b=>simp only[cop]at hc;split at hc<;>cases hc
 |build t parts=>
  simp only[cop]at hc;split at hc<;>try (cases hc;done)
  ·split at hc<;>try (cases hc;done)
   split at hc<;>cases hc
  ·split at hc<;>try (cases hc;done)
   split at hc<;>cases hc
 |load t a=>simp only[cop]at hc;split at hc<;>cases hc
 |store t a x=>simp only[cop]at hc;split at hc<;>cases hc
 |nilCheck x=>simp only[cop]at hc;split at hc<;>cases hc
 |binOp op t x y yt=>simp only[cop]at hc;split at hc<;>cases hc
 |unOp op t x=>simp only[cop]at hc;split at hc<;>cases hc
 |makeInterface t x=>simp only[cop]at hc;split at hc<;>cases hc
 |makeFunc fn first captured=>
  cases fn<;>simp only[cop]at hc<;>try (cases hc;done)
  split at hc<;>cases hc
 |slice t x lo hi mx=>
  simp only[cop]at hc;split at hc<;>try (cases hc;done)
  ·split at hc<;>try (cases hc;done)
   rename_i lo' hi' mx' _ _ _ _ _ _ sz hsz;cases hq:(mx'.isSome&& !hi'.isSome)<;>rw[hq]at hc<;>cases hc
  ·split at hc<;>try (cases hc;done)
   generalize Nat.ble _ 16777216=q at hc;cases q<;>cases hc
 |fieldAddr t x f=>
  simp only[cop]at hc;split at hc<;>try (cases hc;done)
  split at hc<;>try (cases hc;done)
  split at hc<;>cases hc
 |field t x f=>
  simp only[cop]at hc;split at hc<;>try (cases hc;done)
  split at hc<;>try (cases hc;done)
  split at hc<;>cases hc
 |indexAddr t x i=>
  simp only[cop]at hc;split at hc<;>try (cases hc;done)
  ·split at hc<;>cases hc
  ·split at hc<;>cases hc
 |index t x i=>
  simp only[cop]at hc;split at hc<;>try (cases hc;done)
  split at hc<;>cases hc
 |lookup t x i ok=>
  simp only[cop]at hc;split at hc<;>try (cases hc;done)
  split at hc<;>cases hc
 |extract x i=>simp only[cop]at hc;split at hc<;>cases hc
 |typeAssert x xt t ok=>
  cases ok<;>simp only[cop]at hc<;>try (cases hc;done)
  split at hc<;>cases hc
 |call c=>
  simp only[cop]at hc;split at hc
  ·split at hc<;>cases hc
  ·exact absurd hc qhh
  ·split at hc<;>cases hc
  ·cases hc
 |next x b=>cases b<;>simp only[cop]at hc<;>(try split at hc)<;>cases hc
 |entry x=>simp only[cop]at hc;split at hc<;>cases hc
 |mapUpdate t m k x=>simp only[cop]at hc;split at hc<;>(try split at hc)<;>cases hc
 |insert t m k x=>simp only[cop]at hc;split at hc<;>(try split at hc)<;>cases hc
 |range t x=>simp only[cop]at hc;split at hc<;>cases hc
 |_=>simp[cop]at hc
end
end Go.RE
namespace Go.RE
section
variable{P:Program}{w0:World}{ρ:Ren}{s s' :St}{w:World}{env:PT V}{e:Operand→Value}
theorem Ie(h:Array Obj)(b:Nat)(x:Obj)(hb:h[b]? =some x):h.setIfInBounds b x=h:=by
 apply Array.ext_getElem?;intro i;rw[GA];split
 ·rename_i hi;subst hi;split
  ·exact hb.symm
  ·rename_i hlt;rw[CW (by omega)]
 ·rfl
theorem fe(b:Nat)(t:TypeId)(fr:Nat×Nat):∀ (vs:List Value) (o:Nat) (w:World) (c:Array Value),w.heap[b]? =some (.cells c t fr)→
  ∃ c',w.setCells b o vs={w with heap:=w.heap.setIfInBounds b (.cells c' t fr)}∧c'.size=c.size∧∀ j,c'[j]? =if o≤j∧j<o+vs.length∧j<c.size then vs[j - o]? else c[j]? :=by
 intro vs
 induction vs with
 |nil=>intro o w c h;exact⟨c,by simp[World.setCells,Ie _ _ _ h],rfl,fun j=>by rw[if_neg (by simp;omega)]⟩
 |cons v vs ih=>
  intro o w c h;have hset:w.setCell ⟨b,o,none⟩ v={w with heap:=w.heap.setIfInBounds b (.cells (c.setIfInBounds o v) t fr)}:=by
   unfold World.setCell;congr 1;apply Array.ext_getElem?;intro i;rw[Array.getElem?_modify,GA];by_cases hi:b=i
   ·subst hi;rw[if_pos rfl,if_pos rfl,h];have:b<w.heap.size:=by
     rcases Nat.lt_or_ge b w.heap.size with h' |h'
     ·exact h'
     ·rw[CW h']at h;simp at h
    rw[if_pos this];simp
   ·rw[if_neg hi,if_neg hi]
  have hlt:b<w.heap.size:=by
   rcases Nat.lt_or_ge b w.heap.size with h' |h'
   ·exact h'
   ·rw[CW h']at h;simp at h
  obtain⟨c',h1,h2,h3⟩:=ih (o+1) (w.setCell ⟨b,o,none⟩ v) (c.setIfInBounds o v) (by rw[hset];exact Array.getElem?_setIfInBounds_self_of_lt hlt);refine⟨c',?_,by simpa using h2,fun j=> ?_⟩
  ·simp only[World.setCells];rw[h1,hset];simp
  ·rw[h3,GA];simp only[Array.size_setIfInBounds,List.length_cons];by_cases hj:o+1≤j∧j<o+1+vs.length∧j<c.size
   ·rw[if_pos hj,if_pos (by omega),show j - o=(j - (o+1))+1 from by omega];simp
   ·rw[if_neg hj];by_cases hk:o=j
    ·subst hk;by_cases hs:o<c.size
     ·rw[if_pos rfl,if_pos hs,if_pos (by omega)];simp
     ·rw[if_pos rfl,if_neg hs,if_neg (by omega),CW (by omega)]
    ·rw[if_neg hk,if_neg (by omega)]
theorem Qp{vs:List V}{xs:List Value}(h:aR w0 ρ vs xs)(h1:vs.all V.one=true):∀ x∈xs,x.oneCell' =true:=by
 intro x hx;obtain⟨i,hi,rfl⟩:=List.mem_iff_getElem.1 hx;have hi' :i<vs.length:=by rw[h.1];exact hi
 have hv:=h.2 i hi' hi;have ho:vs[i].one=true:=jD.1 h1 _ (List.getElem_mem hi');obtain⟨a,b⟩:=hv.one ho;generalize xs[i]=y at*;cases y<;>first|rfl|exact absurd rfl (a _)|exact absurd rfl (b _)
theorem OS{b off:Nat}{vs:List V}(h:s.write b off vs=some s'):∃ cs,s.get b=some (.row cs)∧off+vs.length≤cs.length∧vs.all V.one=true∧s' =s.put b (.row (jQ cs off vs)):=by
 unfold St.write at h;cases hs:s.vT b with
 |none=>simp[hs]at h
 |some cs=>
  simp only[hs]at h;cases hb:(Nat.ble (off+vs.length) cs.length&&vs.all V.one)with
  |false=>simp[hb]at h
  |true=>
   simp only[hb,cond_true,ai]at h;simp only[bC]at hb;exact⟨cs,rH hs,gu hb.1,hb.2,h.symm⟩
theorem rG{b off r o lim:Nat}{vs:List V}{xs:List Value}(h:s.write b off vs=some s')(hR:Rel w0 ρ s w)(hρ:ρ b=some (r,o,lim))(hx:aR w0 ρ vs xs):
  (storeCells ⟨r,o+off,none⟩ xs).run P w=.ok () (w.setCells r (o+off) xs)∧Rel w0 ρ s' (w.setCells r (o+off) xs)∧jO ρ s w ρ s' (w.setCells r (o+off) xs)∧
   (∀ j,j<xs.length→(w.cell? ⟨r,o+off+j,none⟩).isSome=true)∧(∀ j,j<xs.length→w.frozen? ⟨r,o+off+j,none⟩=false)∧(∀ x∈xs,x.oneCell' =true):=by
 obtain⟨cs,hg,hl,h1,rfl⟩:=OS h;have ho:=hR.ob b r o lim hρ;rw[hg]at ho;obtain⟨c,t,fr,e1,e2,e3,e4,e5⟩:=ho;have hlen:=hx.1;have hc:∀ j,j<xs.length→(w.cell? ⟨r,o+off+j,none⟩).isSome=true:=fun j hj=>by
  simp only[World.cell?,e1,Option.isSome_none,oS,if_false];rw[sV (by omega)];rfl
 have hf:∀ j,j<xs.length→w.frozen? ⟨r,o+off+j,none⟩=false:=fun j hj=>by
  obtain⟨lo,hi⟩:=fr;simp only[World.frozen?,e1];have:=e4 (o+off+j) (by omega);simp at this⊢;omega
 have ho1:=Qp hx h1;obtain⟨c',g1,g2,g3⟩:=fe r t fr xs (o+off) w c e1;have hput:=hR.put hρ (by rw[hg];trivial) (ob:=.row (jQ cs off vs)) (obj:=.cells c' t fr) ⟨c',t,fr,rfl,by omega,by rw[qX _ _ _ hl];exact e3,e4,fun i hi=>by
  rw[qX _ _ _ hl]at hi;have hget:=Mx cs off vs hl i;rw[bP (by rw[qX _ _ _ hl];exact hi)]at hget;rw[g3];by_cases c1:i<off
  ·rw[if_pos c1,bP hi]at hget;simp only[ai]at hget;rw[if_neg (by omega),hget];exact e5 i hi
  ·rw[if_neg c1]at hget;by_cases c2:i<off+vs.length
   ·rw[if_pos c2,bP (by omega)]at hget;simp only[ai]at hget;rw[if_pos (by omega),hget];obtain⟨x,a1,a2⟩:=hx.get (bP (show i - off<vs.length by omega));exact⟨x,by rw[←a1];congr 1;omega,a2⟩
   ·rw[if_neg c2,bP hi]at hget;simp only[ai]at hget;rw[if_neg (by omega),hget];exact e5 i hi⟩
 have hrun:=run_storeCells_cells (P:=P) r (o+off) xs 0 w (by simpa using hc) (by simpa using hf) ho1;simp only[Nat.add_zero]at hrun;rw[←g1]at hput;exact⟨hrun,hput.1,hput.2,hc,hf,ho1⟩
def qac(P:Program)(w0:World)(ρ:Ren)(s:St)(w:World)(e:Operand→Value)(o:Oper)(v:V)(s' :St):Prop:=
 ∃ ρ' w' nx,(execOp e o).run P w=.ok nx w'∧Rel w0 ρ' s' w'∧jO ρ s w ρ' s' w'∧((∃ x,nx=.value x∧az w0 ρ' v x)∨(nx=.skip∧v=.aV []))
theorem Bg{P:Program}{sz:Nat}{str:Bool}{x:V}{y:Value}{new:List V}{k:Nat}{tx:TypeId}(hk:if str then P.underlying tx=some .string else ∃ el,P.underlying tx=some (.slice el))
  (h:iu s sz str x=some new) (hl:tw x=some k) (hR:Rel w0 ρ s w) (hx:az w0 ρ x y) (h1:new.all V.one=true):∃ xs,Src P sz tx y k xs w∧aR w0 ρ new xs:=by
 cases str with
 |true=>
  cases x<;>simp[iu]at h;rename_i b;cases hb:Nat.beq sz 1 with
  |false=>simp[hb]at h
  |true=>
   simp[hb]at h;subst h;have:sz=1:=bR hb;subst this;simp[tw]at hl;subst hl;obtain⟨p,rfl,hp⟩:=hx.gi;have hs:p.size=b.length:=by rw[←hp];simp
   refine⟨byteCells p,by rw[←hs];exact Src.ofString w (by simpa using hk) p,?_⟩;subst hp;exact⟨by simp[byteCells],fun i h1 h2=>by simp only[byteCells,List.getElem_map,gW];exact .int _ _⟩
 |false=>
  obtain⟨el,hk⟩:∃ el,P.underlying tx=some (.slice el):=by simpa using hk
  have h' :bH s sz x=some new:=by cases x<;>simpa[iu]using h
  rcases gb h' hR hx with⟨rfl,rfl⟩|⟨a,len,cap,xs,rfl,g0,g1,g2,g3⟩
  ·have:k=0:=by cases hx;simp[tw]at hl;omega
   subst this;exact⟨[],Src.ofNil w hk 0,.nil⟩
  ·rw[g0]at hl;simp at hl;subst hl;exact⟨xs,Src.ofSlice w hk a len cap xs g1 g2 (Qp g3 h1),g3⟩
theorem Src.nil{sz:Nat}{tx:TypeId}{y:Value}{xs:List Value}(h:Src P sz tx y 0 xs w):xs=[]:=by
 have:=h.newsLen;simp at this;exact this
theorem D0{t tx el ty:TypeId}{sz bs:Nat}{str:Bool}{z a x v:V}{ax y:Value}(ht:P.underlying t=some (.slice el))(hk:if str then P.underlying tx=some .string else ∃ el,P.underlying tx=some (.slice el))
  (hsz:gd P el=some sz) (hbs:we P el=some bs) (hz:zeroOf P el=some z) (hzs:z.cells.length=sz) (hv:oZ s sz bs str a x=some (v,s')) (hR:Rel w0 ρ s w) (ha:az w0 ρ a ax) (hx:az w0 ρ x y):
  ∃ ρ' w' r,(Builtin.append_ #[t,tx] ty #[ax,y]).run P w=.ok r w'∧Rel w0 ρ' s' w'∧jO ρ s w ρ' s' w'∧az w0 ρ' v r:=by
 obtain⟨i,hi,his⟩:=Eo hsz;have hib:i.bytes=bs:=by unfold we at hbs;rw[hi]at hbs;simpa using hbs
 obtain⟨zx,hiz,hzx⟩:∃ zx,i.zero=some zx∧zx.cells.size=sz:=by
  unfold zeroOf at hz;rw[hi]at hz;cases hq:i.zero with
  |none=>simp[hq]at hz
  |some zx=>
   simp only[hq]at hz;have:=(qR (w0:=w0) (ρ:=ρ) hz).cells.1;exact⟨zx,rfl,by rw[←hzs,this];simp⟩
 subst his;subst hib;unfold oZ at hv;split at hv<;>try (simp at hv;done)
 rename_i new k hnew hlen;cases h1:new.all V.one with
 |false=>simp[h1]at hv
 |true=>
  simp only[h1,cond_true]at hv;obtain⟨xs,hsrc,hrel⟩:=Bg (P:=P) hk hnew hlen hR hx h1
  -- a new row
  have grow:∀ (s0:St) (base:Option Addr) (len cap:Nat) (old:List V) (olds:List Value),Rel w0 ρ s0 w→jO ρ s w ρ s0 w→aR w0 ρ old olds→
    (Builtin.firstCells i.size len (.slice base len cap)).run P w.drew=.ok olds.toArray w.drew→cap<len+k→(len+k)*i.bytes≤bp→len+k≤bp→olds.length=len*i.size→
    ∃ ρ' w' r,(Builtin.append_ #[t,tx] ty #[.slice base len cap,y]).run P w=.ok r w'∧Rel w0 ρ' (s0.alloc (.row (old++new))) w'∧jO ρ s w ρ' (s0.alloc (.row (old++new))) w'∧
     az w0 ρ' (.slice s0.next 0 (len+k) (len+k) i.size false) r:=fun s0 base len cap old olds hR0 hS0 hold hfirst hcap hb hb2 hol=>by
   have hrun:=run_append_grow_src (P:=P) w t tx ty el i zx ht hi hiz base len cap olds hfirst y k xs hsrc hcap (by unfold bp at hb2;omega) (growslice_fits hcap (by unfold bp at hb;omega));have hge:=grownCap_ge w (len+k) cap el;generalize hG:grownCap w (len+k) cap el=G at hrun hge;have hRd:Rel w0 ρ s0 w.drew:=hR0.same rfl rfl rfl;have hrow:=Qo (hold.append hrel) (Builtin.zeroCells zx.cells (G - (len+k))).toList el (0,0) (by simp);rw[show((olds++xs)++(Builtin.zeroCells zx.cells (G - (len+k))).toList).toArray=(olds++xs).toArray++Builtin.zeroCells zx.cells (G - (len+k))from by apply Array.ext';simp]at hrow;obtain⟨a1,a2⟩:=hRd.alloc hrow;refine⟨_,_,_,hrun,a1,hS0.trans ((jO.same (ρ:=ρ) (s:=s0) (w:=w) (w' :=w.drew) rfl).trans a2),.slice (Ren.add_same _ _ _) hge (fun h=>by simp at h) (aq _) (.inr ⟨rfl,?_⟩) (by rw[←hG];exact grownCap_le (by unfold bp at hb2;omega))⟩;have hzl:(Builtin.zeroCells zx.cells (G - (len+k))).toList.length=(G - (len+k))*i.size:=by simp[Builtin.zeroCells,hzx]
   rw[hzl,lZ,hol,hsrc.newsLen,←Nat.add_mul,←Nat.add_mul];simp only[Nat.zero_add];exact lY _ (by omega)
  split at hv
  ·cases ha;cases hk0:Nat.beq k 0 with
   |true=>
    have:k=0:=bR hk0;subst this;simp only[hk0,cond_true,ai,aJ]at hv;obtain⟨rfl,rfl⟩:=hv;rw[Src.nil hsrc]at hsrc;exact⟨ρ,w,_,run_append_nothing w t tx ty el i ht hi none 0 0 (aq _) y hsrc,hR,.refl _ _ _,.bu⟩
   |false=>
    have hkp:k≠0:=by intro h;subst h;simp[Nat.beq]at hk0
    simp only[hk0,cond_false]at hv;cases hb:(Nat.ble (k*i.bytes) bp&&Nat.ble k bp)with
    |false=>simp[hb]at hv
    |true=>
     simp only[hb,cond_true,ai,aJ]at hv;obtain⟨rfl,rfl⟩:=hv;simp only[bC]at hb;obtain⟨ρ',w',r,g1,g2,g3,g4⟩:=grow s none 0 0 [] [] hR (.refl _ _ _) .nil (by simp[Builtin.firstCells]) (by omega) (by simpa using gu hb.1) (by simpa using gu hb.2) (by simp);exact⟨ρ',w',r,g1,by simpa using g2,by simpa using g3,by simpa using g4⟩
  ·cases ha;rename_i za;cases hk0:Nat.beq k 0 with
   |true=>
    have:k=0:=bR hk0;subst this;simp only[hk0,cond_true,ai,aJ]at hv;obtain⟨rfl,rfl⟩:=hv;rw[Src.nil hsrc]at hsrc;exact⟨ρ,w,_,run_append_nothing w t tx ty el i ht hi (some za) 0 0 (aq _) y hsrc,hR,.refl _ _ _,.bM⟩
   |false=>
    have hkp:k≠0:=by intro h;subst h;simp[Nat.beq]at hk0
    simp only[hk0,cond_false]at hv;cases hb:(Nat.ble (k*i.bytes) bp&&Nat.ble k bp)with
    |false=>simp[hb]at hv
    |true=>
     simp only[hb,cond_true,ai,aJ]at hv;obtain⟨rfl,rfl⟩:=hv;simp only[bC]at hb;obtain⟨ρ',w',r,g1,g2,g3,g4⟩:=grow s (some za) 0 0 [] [] hR (.refl _ _ _) .nil (run_firstCells_some (P:=P) w.drew i.size 0 za 0 0 [] (by simp) (by simp)) (by omega) (by simpa using gu hb.1) (by simpa using gu hb.2) (by simp);exact⟨ρ',w',r,g1,by simpa using g2,by simpa using g3,by simpa using g4⟩
  ·rename_i row off len zz;cases hk0:Nat.beq k 0 with
   |false=>simp[hk0]at hv
   |true=>
    have:k=0:=bR hk0;subst this;simp only[hk0,cond_true,ai,aJ]at hv;obtain⟨rfl,rfl⟩:=hv;rw[Src.nil hsrc]at hsrc;cases ha with
    |ag c hr hc hcv h3 h4=>
     exact⟨ρ,w,_,run_append_nothing w t tx ty el i ht hi _ _ _ h3 y hsrc,hR,.refl _ _ _,.ag c hr hc hcv h3 h4⟩
  ·rename_i b off len cap zz ex;cases hb:(Nat.beq zz i.size&&Nat.ble ((len+k)*i.bytes) bp&&Nat.ble (len+k) bp)with
   |false=>simp[hb]at hv
   |true=>
    simp only[hb,cond_true]at hv;simp only[bC]at hb;have hzz:zz=i.size:=bR hb.1.1;have hb1:=gu hb.1.2;have hb2:=gu hb.2;subst hzz;cases ha with
    |slice hρ h1' h2 h3 h4 hcb=>
     rename_i r o lim aa cap';cases hc:Nat.ble (len+k) cap with
     |true=>
      have hc' :=gu hc;simp only[hc,cond_true]at hv;cases hk0:Nat.beq k 0 with
      |true=>
       have:k=0:=bR hk0;subst this;simp only[hk0,cond_true,ai,aJ]at hv;obtain⟨rfl,rfl⟩:=hv;rw[Src.nil hsrc]at hsrc;exact⟨ρ,w,_,run_append_nothing w t tx ty el i ht hi _ _ _ (by omega) y hsrc,hR,.refl _ _ _,.slice hρ h1' h2 h3 h4 hcb⟩
      |false=>
       have hkp:k≠0:=by intro h;subst h;simp[Nat.beq]at hk0
       simp only[hk0,cond_false]at hv;cases hw:s.write b (off+len*i.size) new with
       |none=>simp[hw]at hv
       |some s1=>
        simp only[hw,ai,aJ]at hv;obtain⟨rfl,rfl⟩:=hv;rcases h4 with h4|⟨rfl,h5⟩
        ·omega
        ·obtain⟨q1,q2,q3,q4,q5,q6⟩:=rG (P:=P) hw hR hρ hrel;rw[←Nat.add_assoc]at q1 q2 q3 q4 q5;have hrun:=run_append_room_src (P:=P) w t tx ty el i ht hi r (o+off) len cap' y k xs hsrc (by omega) q4 q5;exact⟨ρ,_,_,hrun,q2,q3,.slice hρ h1' h2 (by omega) (.inr ⟨rfl,h5⟩) hcb⟩
     |false=>
      have hc' :cap<len+k:=by
       rcases Nat.lt_or_ge cap (len+k)with h|h
       ·exact h
       ·rw[oT h]at hc;simp at hc
      simp only[hc,cond_false]at hv;cases hwr:s.vT b with
      |none=>simp[hwr]at hv
      |some wr=>
      cases hold:bH s i.size (.slice b off len cap i.size ex)with
      |none=>simp[hwr,hold]at hv
      |some old=>
       simp only[hwr,hold,ai,aJ]at hv;obtain⟨rfl,rfl⟩:=hv;rcases gb hold hR (.slice hρ h1' h2 h3 h4 hcb)with⟨hh,_⟩|⟨aa',len',cap'',olds,hh,g0,g1,g2,g3⟩
       ·cases hh
       ·cases hh;have hfirst:(Builtin.firstCells i.size len (.slice (some aa) len cap')).run P w.drew=.ok olds.toArray w.drew:=run_firstCells_some (P:=P) w.drew i.size len aa len cap' olds g1 (by simpa using g2);cases ex with
        |true=>
         have:cap' =cap:=h2 rfl;subst this;simpa using grow s (some aa) len cap' old olds hR (.refl _ _ _) g3 hfirst hc' hb1 hb2 g1
        |false=>
         obtain⟨k1,k2⟩:=hR.kill hρ;by_cases hcc:cap' <len+k
         ·exact grow (s.put b .dead) (some aa) len cap' old olds k1 k2 g3 hfirst hcc hb1 hb2 g1
         ·rcases h4 with h4|⟨rfl,h5⟩
          ·omega
          ·have hrow:∃ cs,s.get b=some (.row cs):=⟨wr,rH hwr⟩;obtain⟨cs,hg⟩:=hrow;have ho:=hR.ob b r o lim hρ;rw[hg]at ho;obtain⟨c,tt,fr,e1,e2,e3,e4,e5⟩:=ho;have hnl:=hsrc.newsLen;have hfit:(len+k)*i.size≤cap'*i.size:=lY _ (by omega);rw[Nat.add_mul]at hfit;have hcell:∀ j,j<xs.length→(w.cell? ⟨r,o+off+len*i.size+j,none⟩).isSome=true:=fun j hj=>by
            simp only[World.cell?,e1,Option.isSome_none,oS,if_false];rw[sV (by omega)];rfl
           have hfz:∀ j,j<xs.length→w.frozen? ⟨r,o+off+len*i.size+j,none⟩=false:=fun j hj=>by
            obtain⟨lo,hi⟩:=fr;simp only[World.frozen?,e1];have:=e4 (o+off+len*i.size+j) (by omega);simp at this⊢;omega
           have hrun:=run_append_room_src (P:=P) w t tx ty el i ht hi r (o+off) len cap' y k xs hsrc (by omega) hcell hfz;obtain⟨c',s1,s2,s3⟩:=fe r tt fr xs (o+off+len*i.size) w c e1;have hol:=g3.1;have hnr:=hrel.1;have hgrow:=hR.grow hρ (by rw[hg];trivial) (ob:=.row (old++new)) (obj:=.cells c' tt fr) (o' :=o+off) ⟨c',tt,fr,rfl,by omega,by simp;omega,e4,fun j hj=>by
            simp only[lZ]at hj;rw[s3];by_cases hjo:j<old.length
            ·rw[if_neg (by omega)];obtain⟨x1,x2,x3⟩:=g3.get (bP hjo);have hx4:=g2 j x1 x2;rw[gV]at hx4;simp only[World.cell?,e1,Option.isSome_none,oS,if_false]at hx4;exact⟨x1,hx4,by rw[List.getElem_append_left hjo];exact x3⟩
            ·rw[if_pos (by omega)];obtain⟨x1,x2,x3⟩:=hrel.get (bP (show j - old.length<new.length by omega));refine⟨x1,by rw[←x2];congr 1;omega,?_⟩;rw[List.getElem_append_right (by omega)];exact x3⟩
           rw[←s1]at hgrow;exact⟨_,_,_,hrun,hgrow.1,hgrow.2,.slice (Ren.add_same _ _ _) (by omega) (fun h=>by simp at h) (aq _) (.inr ⟨rfl,by simpa using h5⟩) hcb⟩
  ·simp at hv
end
end Go.RE
