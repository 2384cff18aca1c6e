/- A part of a proof. -/
import Derived.Test.YtmpopachilfinaaGreatPart1
import Derived.Laws.IdiomCopy
import Derived.Deep.Upon
set_option linter.unusedVariables false
set_option linter.unusedSimpArgs false
namespace Go.RE
section
variable{P:Program}{w0:World}{ρ:Ren}{s:St}{w:World}{env:PT V}{e:Operand→Value}
theorem KS{op:BinOp}{t:TypeId}{x y:Operand}{a b v:V}{u z:Value}(h:j8 op (Rp P op t x y) a b=some v)(hu:aF w0 ρ a u)(hz:aF w0 ρ b z)(w:World):
  ∃ r,((do eqGuard op t x y u z;Go.binOp op t u z):Sem Value).run P w=.ok r w∧aF w0 ρ v r:=by
 have plain:yD u z=true→(∃ r,(Go.binOp op t u z).run P w=.ok r w∧aF w0 ρ v r)→∃ r,((do eqGuard op t x y u z;Go.binOp op t u z):Sem Value).run P w=.ok r w∧aF w0 ρ v r:=
  fun hg ⟨r,h1,h2⟩=>⟨r,by simp[bp hg,h1],h2⟩
 have cmp:∀ (neg:Bool),op=(if neg then .neq else .eql)→(∀ k n,a≠.int k n)→(∀ l,a≠.str l)→(∃ r,Ip (Rp P op t x y) a b=some r∧V.bool (if neg then !r else r)=v)→
   ∃ r,((do eqGuard op t x y u z;Go.binOp op t u z):Sem Value).run P w=.ok r w∧aF w0 ρ v r:=fun neg hop ha1 ha2 hh=>by
  obtain⟨r,hq,rfl⟩:=hh
  ·obtain⟨g1,g2⟩:=Qp (op:=op) (qdz (P:=P) op t x y) hq hu hz w;refine⟨.bool (if neg then !r else r),?_,.bool _⟩;simp only[Sem.run_bind,g2,Result.andThen_ok];have hnum:∀ (p q:Value),(∀ k n,p≠.int k n)→(∀ s,p≠.string s)→(∀ k n,p≠.float k n)→(∀ k n m,p≠.complex k n m)→(Go.binOp .eql t p q=do pure (.bool (←Op.equal t p q)))∧(Go.binOp .neq t p q=do pure (.bool (!(←Op.equal t p q)))):=fun p q n1 n2 n3 n4=>by
    cases p<;>first
     |exact absurd rfl (n1 _ _)
     |exact absurd rfl (n2 _)
     |exact absurd rfl (n3 _ _)
     |exact absurd rfl (n4 _ _ _)
     |exact⟨rfl,rfl⟩
   have hp:=hnum u z (by cases hu<;>simp at ha1⊢) (by cases hu<;>simp at ha2⊢) (by cases hu<;>simp) (by cases hu<;>simp);cases neg
   ·simp only[jV,if_false]at hop⊢;subst hop;rw[hp.1];simp[g1]
   ·simp only[if_true]at hop⊢;subst hop;rw[hp.2];simp[g1]
 unfold j8 at h;split at h
 ·cases hu;cases hz;exact plain rfl (wJ t (.inl rfl) h w)
 ·cases hu;cases hz;exact plain rfl (wJ t (.inr rfl) h w)
 ·split at h
  ·rename_i hkj;subst hkj;cases hu;cases hz;exact plain rfl (Gb t h w)
  ·simp at h
 ·cases hu with
  |str hx=>
   cases hz with
   |str hy=>
    refine plain rfl ?_;have:∀ p q,Go.binOp op t (.string p) (.string q)=Op.stringOp op p q:=fun p q=>by cases op<;>rfl
    rw[this];exact GD hx hy h w
 ·rename_i h1 h2 h3 h4;refine cmp false rfl ?_ ?_ (by
   cases hq:Ip (Rp P .eql t x y) a b with
   |none=>rw[hq]at h;simp at h
   |some r=>rw[hq]at h;exact⟨r,rfl,by simpa using h⟩)
  ·rintro k n rfl;cases b<;>first
    |(simp[Ip]at h;done)
    |exact absurd rfl (h3 _ _ _ _ rfl)
    |(revert h;cases Rp P .eql t x y<;>simp[Ip])
  ·rintro l rfl;revert h;cases Rp P .eql t x y<;>simp[Ip]
 ·rename_i h1 h2 h3 h4 h5;refine cmp true rfl ?_ ?_ (by
   cases hq:Ip (Rp P .neq t x y) a b with
   |none=>rw[hq]at h;simp at h
   |some r=>rw[hq]at h;exact⟨r,rfl,by simpa using h⟩)
  ·rintro k n rfl;revert h;cases Rp P .neq t x y<;>simp[Ip]
  ·rintro l rfl;revert h;cases Rp P .neq t x y<;>simp[Ip]
 ·simp at h
theorem Rb{op:UnOp}{a v:V}{u:Value}(h:unV op a=some v)(hu:aF w0 ρ a u)(w:World):∃ r,(Op.unary op u).run P w=.ok r w∧aF w0 ρ v r:=by
 unfold unV at h;split at h
 ·simp only[ag]at h;subst h;cases hu;exact⟨_,rfl,by rw[sW];exact .int _ _⟩
 ·simp only[ag]at h;subst h;cases hu;exact⟨_,rfl,.bool _⟩
 ·cases hu;simp only[kj,sW,ag]at h;subst h;exact⟨_,rfl,.int _ _⟩
 ·simp at h
theorem LG{a b c:V}{x y:Value}(h:zN a b=some c)(hx:aF w0 ρ a x)(hy:aF w0 ρ b y)(w:World):∃ z,(Builtin.max2 x y).run P w=.ok z w∧aF w0 ρ c z:=by
 unfold zN at h;split at h
 ·split at h
  ·simp only[ag]at h;subst h;cases hx;cases hy;exact⟨_,rfl,.int _ _⟩
  ·simp at h
 ·simp only[ag]at h;subst h;obtain⟨p,rfl,hp⟩:=hx.gM;obtain⟨q,rfl,hq⟩:=hy.gM;refine⟨.string (if Op.bytesLess p.toList q.toList then q else p),?_,?_⟩
  ·simp only[Builtin.max2,Op.stringOp,Sem.run_bind,Sem.run_pure,Result.andThen_ok,asBool];cases Op.bytesLess p.toList q.toList<;>simp
  ·rw[cz,cz,hp,hq];split
   ·exact .str hq
   ·exact .str hp
 ·simp at h
theorem LH{a b c:V}{x y:Value}(h:Ch a b=some c)(hx:aF w0 ρ a x)(hy:aF w0 ρ b y)(w:World):∃ z,(Builtin.min2 x y).run P w=.ok z w∧aF w0 ρ c z:=by
 unfold Ch at h;split at h
 ·split at h
  ·simp only[ag]at h;subst h;cases hx;cases hy;exact⟨_,rfl,.int _ _⟩
  ·simp at h
 ·simp only[ag]at h;subst h;obtain⟨p,rfl,hp⟩:=hx.gM;obtain⟨q,rfl,hq⟩:=hy.gM;refine⟨.string (if(Op.bytesLess p.toList q.toList||p.toList==q.toList)then p else q),?_,?_⟩
  ·simp only[Builtin.min2,Op.stringOp,Sem.run_bind,Sem.run_pure,Result.andThen_ok,asBool]
   first|done|(cases(Op.bytesLess p.toList q.toList||p.toList==q.toList)<;>simp)
  ·rw[cz,cz,hp,hq];split
   ·exact .str hp
   ·exact .str hq
 ·simp at h
theorem zK{f:V→V→Option V}{g:Value→Value→Sem Value}(hf:∀ {a b c x y},f a b=some c→aF w0 ρ a x→aF w0 ρ b y→∀ w:World,∃ z,(g x y).run P w=.ok z w∧aF w0 ρ c z):
  ∀ {l:List V} {l' :List Value} {a c:V} {x:Value},zJ f a l=some c→aF w0 ρ a x→aV w0 ρ l l'→∀ w:World,∃ z,(l'.foldlM g x).run P w=.ok z w∧aF w0 ρ c z:=by
 intro l
 induction l with
 |nil=>intro l' a c x h hx hl w;rw[hl.eF];simp[zJ]at h;subst h;exact⟨x,by simp,hx⟩
 |cons b l ih=>
  intro l' a c x h hx hl w;obtain⟨y,ys,rfl,hy,hys⟩:=hl.bD;simp only[zJ]at h;cases hh:f a b with
  |none=>simp[hh]at h
  |some d=>
   simp only[hh]at h;obtain⟨z,z1,z2⟩:=hf hh hx hy w;obtain⟨z',z3,z4⟩:=ih h z2 hys w;exact⟨z',by simp[List.foldlM_cons,z1,z3],z4⟩
theorem GA{t:TypeId}(h:spread P t=some none)(w:World):(isAgg t).run P w=.ok false w:=by
 unfold spread at h;split at h
 ·split at h<;>simp at h
 ·split at h<;>simp at h
 ·rename_i d h1 h2 hu;unfold isAgg;rw[Sem.run_bind,run_underlying hu w];cases d<;>simp_all
 ·simp at h
theorem JY{t:TypeId}{n:Nat}(h:spread P t=some (some n))(w:World):(isAgg t).run P w=.ok true w∧(sizeOf t).run P w=.ok n w:=by
 unfold spread at h;split at h
 ·rename_i fs hu;split at h<;>simp at h;rename_i m hm;subst h;exact⟨by unfold isAgg;rw[Sem.run_bind,run_underlying hu w];rfl,dw hm w⟩
 ·rename_i k el hu;split at h<;>simp at h;rename_i m hm;subst h;exact⟨by unfold isAgg;rw[Sem.run_bind,run_underlying hu w];rfl,dw hm w⟩
 ·simp at h
 ·simp at h
theorem Cl{t:TypeId}{n:Option Nat}{cs:List V}{cs' :Array Value}{off:Nat}{v:V}(hn:spread P t=some n)(hr:aV w0 ρ cs cs'.toList)(hv:eG n cs off=some v)(w:World):
  ∃ x,(part t cs' off).run P w=.ok x w∧aF w0 ρ v x:=by
 cases n with
 |none=>
  simp only[eG]at hv;obtain⟨x,h1,h2⟩:=hr.get hv;refine⟨x,?_,h2⟩;have h1' :cs'[off]? =some x:=by simpa using h1
  simp[part,GA hn,h1']
 |some n=>
  simp only[eG]at hv;cases hb:Nat.ble (off+n) cs.length with
  |false=>simp[hb]at hv
  |true=>
   simp only[hb,cond_true,ag]at hv;subst hv;obtain⟨g1,g2⟩:=JY hn w;refine⟨.agg (cs'.extract off (off+n)),by simp[part,g1,g2],?_⟩;have hh:=aF.Br ((hr.drop off).take n);have:(List.take n (List.drop off cs'.toList)).toArray=cs'.extract off (off+n):=by
    apply Fv;simp[List.take_drop]
   rwa[this]at hh
theorem Ei(b:ByteArray)(l h:Nat):(b.extract l h).data.toList=(b.data.toList.take h).drop l:=by
 rw[ByteArray.data_extract];simp[Ac]
theorem qak(b:ByteArray)(i:Nat):b[i]? =b.data.toList[i]? :=by
 rw[s4];by_cases h:i<b.size
 ·rw[getElem?_pos b i h,getElem?_pos b.data i h];rfl
 ·rw[getElem?_neg b i h,getElem?_neg b.data i h]
theorem qkx{b:Builtin}{ts:List TypeId}{xs:List bO}{so:gv}(h:kg P b ts xs=.s so):
  (b=.len∧∃ t ts' x xs',ts=t::ts'∧xs=x::xs'∧((P.underlying t=some .string∧so=.len 0 x)∨((∃ el,P.underlying t=some (.slice el))∧so=.len 1 x)∨((∃ k el,P.underlying t=some (.map k el))∧so=.len 2 x)))∨
  (b=.cap∧∃ t ts' x xs',ts=t::ts'∧xs=x::xs'∧(∃ el,P.underlying t=some (.slice el))∧so=.cap x)∨(b=.max∧so=.max xs)∨(b=.min∧so=.min xs):=by
 unfold kg at h;split at h
 ·rename_i t ts' x xs';split at h<;>cases h
  ·exact .inl ⟨rfl,t,ts',x,xs',rfl,rfl,.inl ⟨by assumption,rfl⟩⟩
  ·exact .inl ⟨rfl,t,ts',x,xs',rfl,rfl,.inr (.inl ⟨⟨_,by assumption⟩,rfl⟩)⟩
  ·exact .inl ⟨rfl,t,ts',x,xs',rfl,rfl,.inr (.inr ⟨⟨_,_,by assumption⟩,rfl⟩)⟩
 ·rename_i t ts' x xs';split at h<;>cases h;exact .inr (.inl ⟨rfl,t,ts',x,xs',rfl,rfl,⟨_,by assumption⟩,rfl⟩)
 ·cases h;exact .inr (.inr (.inl ⟨rfl,rfl⟩))
 ·cases h;exact .inr (.inr (.inr ⟨rfl,rfl⟩))
 ·split at h
  ·split at h
   ·unfold cond at h;split at h<;>cases h
   ·unfold cond at h;split at h<;>cases h
   ·cases h
  ·cases h
 ·split at h
  ·split at h<;>cases h
  ·cases h
 ·split at h
  ·split at h<;>cases h
  ·cases h
 ·cases h
theorem tK{l:List Operand}{o:bO}{os:List bO}(h:nW l=some (o::os)):∃ x xs,l=x::xs∧cW x=some o∧nW xs=some os:=by
 cases l with
 |nil=>simp[nW]at h
 |cons x xs=>
  simp only[nW]at h;cases hx:cW x with
  |none=>simp[hx]at h
  |some o' =>
   cases hxs:nW xs with
   |none=>simp[hx,hxs]at h
   |some os' =>simp[hx,hxs]at h;obtain⟨rfl,rfl⟩:=h;exact⟨x,xs,rfl,hx,hxs⟩
theorem Rel.Tl(h:Rel w0 ρ s w){b r o lim:Nat}{cs:List V}(e:ρ b=some (r,o,lim))(hs:s.row b=some cs):o+cs.length≤lim:=by
 obtain⟨c,t,fr,h1,h2,h3,h4,h5⟩:=h.Ry e hs;exact h3
theorem RF:Nat.beq 0 0=true:=rfl
theorem RG:Nat.beq 0 1=false:=rfl
theorem RH:Nat.beq 0 2=false:=rfl
theorem RI:Nat.beq 1 0=false:=rfl
theorem RJ:Nat.beq 1 1=true:=rfl
theorem RM:Nat.beq 1 2=false:=rfl
theorem RN:Nat.beq 2 0=false:=rfl
theorem RO:Nat.beq 2 1=false:=rfl
theorem RP:Nat.beq 2 2=true:=rfl
theorem Sk{w0:World}{ρ:Ren}{n:Nat}:∀ (a:List ME) (b:List MapEntry),a.length=b.length→
  (∀ i (h:i<a.length) (h' :i<b.length),aF w0 ρ a[i].key b[i].key∧aF w0 ρ a[i].val b[i].val∧a[i].born=b[i].born)→∀ {e:ME},a.find? (fun e=>Nat.beq e.born n)=some e→
  ∃ e',b.find? (fun e=>e.born==n)=some e'∧aF w0 ρ e.key e'.key∧aF w0 ρ e.val e'.val:=by
 intro a
 induction a with
 |nil=>intro b _ _ e h;simp at h
 |cons x a ih=>
  intro b hl hr e h;cases b with
  |nil=>simp at hl
  |cons y b=>
   have h0:=hr 0 (by simp) (by simp);simp only[PD]at h0;rw[kO]at h⊢;have hb:Nat.beq x.born n=(y.born==n):=by
    rw[h0.2.2,DP,Nat.beq_eq,beq_iff_eq]
   rw[hb]at h;cases hq:(y.born==n)with
   |true=>rw[hq]at h;simp at h;subst h;exact⟨y,rfl,h0.1,h0.2.1⟩
   |false=>
    rw[hq]at h;exact ih b (by simpa using hl) (fun i h1 h2=>hr (i+1) (by simpa using h1) (by simpa using h2)) h
theorem EF{o:Oper}{so:gv}{v:V}(hc:cop P o.op=.s so)(hv:cZ env s so=some v)(hR:Rel w0 ρ s w)(H:∀ x∈o.op.operands,jP w0 ρ env e x):Rt P w0 ρ w e o v:=by
 obtain⟨dst,op,type,pos,after,guard⟩:=o;simp only at hc H;cases op with
 |move x=>
  simp only[cop]at hc;split at hc<;>cases hc;rename_i o ho;exact⟨e x,rfl,H x (by simp[Op.operands]) o v ho hv⟩
 |assign x=>
  simp only[cop]at hc;split at hc<;>cases hc;rename_i o ho;exact⟨e x,rfl,H x (by simp[Op.operands]) o v ho hv⟩
 |pick c a b=>
  simp only[cop]at hc;split at hc<;>cases hc;rename_i co ao bo hco hao hbo;simp only[cZ]at hv;split at hv
  ·rename_i hcv;have h1:=H c (by simp[Op.operands]) co _ hco hcv;refine⟨e a,?_,H a (by simp[Op.operands]) ao v hao hv⟩;simp[execOp,h1.gR,asBool]
  ·rename_i hcv;have h1:=H c (by simp[Op.operands]) co _ hco hcv;refine⟨e b,?_,H b (by simp[Op.operands]) bo v hbo hv⟩;simp[execOp,h1.gR,asBool]
  ·simp at hv
 |load t a=>
  simp only[cop]at hc;split at hc<;>cases hc;rename_i n ao hn hao;exact bR rfl (LD hn hao hv hR (H a (by simp[Op.operands])))
 |nilCheck x=>
  simp only[cop]at hc;split at hc<;>cases hc;rename_i xo hxo;simp only[cZ]at hv;split at hv<;>try (simp at hv;done)
  rename_i h1 h2 h3;have hx:=H x (by simp[Op.operands]) xo v hxo hv;refine⟨e x,?_,hx⟩;simp only[execOp];generalize e x=ex at hx;cases hx<;>first|rfl|exact absurd hv h1|exact absurd hv h2|exact absurd hv h3
 |binOp op t x y yt=>
  simp only[cop]at hc;split at hc<;>cases hc;rename_i a b ha hb;simp only[cZ]at hv;split at hv<;>try (simp at hv;done)
  rename_i p q hp hq;exact bR rfl (KS hv (H x (by simp[Op.operands]) a p ha hp) (H y (by simp[Op.operands]) b q hb hq) w)
 |unOp op t x=>
  simp only[cop]at hc;split at hc<;>cases hc;rename_i a ha;simp only[cZ]at hv;split at hv<;>try (simp at hv;done)
  rename_i p hp;exact bR rfl (Rb hv (H x (by simp[Op.operands]) a p ha hp) w)
 |convert src dst x=>
  simp only[cop]at hc;split at hc
  ·rename_i d k xo hs hd hxo;cases hc;simp only[cZ]at hv;split at hv<;>try (simp at hv;done)
   rename_i k' n hn;simp only[ag]at hv;subst hv;have hx:=(H x (by simp[Op.operands]) xo _ hxo hn).fP;refine bR rfl ⟨.int k (k.wrap n),?_,by rw[sW];exact .int _ _⟩;rw[hx];simp[convert,run_underlying hs,run_underlying hd,Conv.intToInt]
  ·rename_i xo hs hd hxo;cases hc;simp only[cZ]at hv;split at hv<;>try (simp at hv;done)
   rename_i b hb;simp only[ag]at hv;subst hv;have hx:=H x (by simp[Op.operands]) xo _ hxo hb;obtain⟨p,hp,hp2⟩:=hx.gM;refine bR rfl ⟨.string p,?_,.str hp2⟩;rw[hp];simp[convert,run_underlying hs,run_underlying hd]
  ·rename_i el xo hs hd hxo;cases hu8:Ja P el with
   |false=>simp[hu8]at hc
   |true=>
    simp only[hu8,cond_true,j7.s.injEq]at hc;subst hc;have he:P.underlying el=some (.int .u8):=by unfold Ja at hu8;split at hu8<;>simp_all
    simp only[cZ]at hv;split at hv<;>try (simp at hv;done)
    rename_i u hu;cases hsc:bN s 1 u with
    |none=>simp[hsc]at hv
    |some cs=>
     cases hbs:bytesOf cs with
     |none=>simp[hsc,hbs]at hv
     |some bs=>
      simp only[hsc,hbs,ag]at hv;subst hv;have hx:=H x (by simp[Op.operands]) xo _ hxo hu;obtain⟨y,h1,h2⟩:=J4 (P:=P) hsc hbs hR hx;refine bR rfl ⟨.string y,?_,.str h2⟩;have hsl:∃ a l c,e x=.slice a l c:=by
       rcases gB hsc hR hx with⟨h,_⟩|⟨a,l,c,_,h,_⟩
       ·exact⟨_,_,_,h⟩
       ·exact⟨_,_,_,h⟩
      obtain⟨a,l,c,hsl⟩:=hsl;rw[hsl]at h1⊢;rw[run_convert_bytes_string w src dst el a l c hs he hd];exact h1
  ·rename_i el xo hs hd hxo;cases hu8:Ja P el<;>simp[hu8]at hc
  ·cases hc
 |makeInterface t x=>
  simp only[cop]at hc;split at hc<;>cases hc;rename_i d xo h1 hu hxo;simp only[cZ]at hv;split at hv<;>try (simp at hv;done)
  rename_i p hp;simp only[ag]at hv;subst hv;refine bR rfl ⟨.iface t (e x),?_,.iface (H x (by simp[Op.operands]) xo p hxo hp)⟩;simp only[Instr.makeInterface,Sem.run_bind,run_underlying hu,Result.andThen_ok];cases d<;>simp_all
 |makeFunc fn first captured=>
  cases fn<;>simp only[cop]at hc<;>try (cases hc;done)
  rename_i f;split at hc<;>cases hc;rename_i a b ha hb;simp only[cZ]at hv;split at hv<;>try (simp at hv;done)
  rename_i p q hp hq;simp only[ag]at hv;subst hv;have h1:=pV ha hp fun x hx=>H x (by simp[Op.operands];exact .inl (by simpa using hx));have h2:=pV hb hq fun x hx=>H x (by simp[Op.operands];exact .inr (by simpa using hx));refine bR rfl ⟨.func (.func f) (first.map e) (captured.map e),rfl,?_⟩;exact .func (by simpa using h1.1) (by simpa using h2.1) (fun i g1 g2=>by have:=h1.2 i g1 (by simpa using g2);simpa[Fu]using this) (fun i g1 g2=>by have:=h2.2 i g1 (by simpa using g2);simpa[Fu]using this)
 |build t parts=>
  simp only[cop]at hc;split at hc<;>try (cases hc;done)
  ·rename_i fs hu;split at hc<;>try (cases hc;done)
   rename_i z ps hz hps;split at hc<;>cases hc;rename_i l hl;simp only[cZ]at hv;cases hf:nE env z.cells l with
   |none=>simp[hf]at hv
   |some out=>
    simp only[hf,ag]at hv;subst hv;have:=Iw (P:=P) (e:=e) hu hz hps hl hf (fun p hp=>H p.2 (by simp[Op.operands];exact⟨p.1,by simpa using hp⟩)) w;exact bR rfl (by simpa using this)
  ·rename_i n el hu;split at hc<;>try (cases hc;done)
   rename_i z sz hz hsz;split at hc<;>cases hc;rename_i l hl;simp only[cZ]at hv;cases hf:nE env z.cells l with
   |none=>simp[hf]at hv
   |some out=>
    simp only[hf,ag]at hv;subst hv;have:=Qa (P:=P) (e:=e) hu hz hsz hl hf (fun p hp=>H p.2 (by simp[Op.operands];exact⟨p.1,by simpa using hp⟩)) w;exact bR rfl (by simpa using this)
 |slice t x lo hi mx=>
  simp only[cop]at hc;have hx:=H x (by simp[Op.operands]);have hlo:∀ y,lo=some y→jP w0 ρ env e y:=fun y hy=>H y (by simp[Op.operands,hy]);have hhi:∀ y,hi=some y→jP w0 ρ env e y:=fun y hy=>H y (by simp[Op.operands,hy]);have hmx:∀ y,mx=some y→jP w0 ρ env e y:=fun y hy=>H y (by simp[Op.operands,hy]);split at hc
  ·rename_i xo lo' hi' hu hxo e1 e2 e3;cases hc;have hm:mx=none:=by
    cases mx with
    |none=>rfl
    |some y=>simp only[nV]at e3;split at e3<;>simp at e3
   subst hm;simp only[cZ]at hv;split at hv<;>try (simp at hv;done)
   rename_i b hb;cases n2:aD env hi' b.length b.length with
   |none=>simp[n2]at hv
   |some h=>
    cases n1:aD env lo' 0 h with
    |none=>simp[n2,n1]at hv
    |some l=>
     simp only[n2,n1,ag]at hv;subst hv;obtain⟨p,hp,hp2⟩:=(hx xo _ hxo hb).gM;have hsz:p.size=b.length:=by rw[←hp2];simp
     have hbd:=eM (P:=P) (isSlice:=false) (len:=b.length) (cap:=b.length) (cap' :=b.length) (m:=b.length) e1 e2 (show nV none=some none from rfl) (by simp) (by simp[aD]) n2 n1 (ak _) hlo hhi (by simp) w;refine bR rfl ⟨.string (p.extract l h),?_,.str (by rw[Ei,hp2])⟩;simp only[FA]at hbd;simp only[Instr.sliceAt,Sem.run_bind,run_underlying hu,Result.andThen_ok,Instr.slice,hp,FA,Ky,jV,if_false,hsz,hbd];rfl
  ·rename_i el xo lo' hi' mx' hu hxo e1 e2 e3;split at hc<;>try (cases hc;done)
   rename_i sz hsz;have hmxe:mx'.isSome=mx.isSome:=by
    cases mx with
    |none=>simp[nV]at e3;subst e3;rfl
    |some y=>simp only[nV]at e3;split at e3<;>simp at e3;subst e3;rfl
   have hhie:hi'.isSome=hi.isSome:=by
    cases hi with
    |none=>simp[nV]at e2;subst e2;rfl
    |some y=>simp only[nV]at e2;split at e2<;>simp at e2;subst e2;rfl
   rw[hmxe,hhie]at hc;cases hm:(mx.isSome&& !hi.isSome)with
   |true=>rw[hm]at hc;simp at hc
   |false=>
    rw[hm]at hc;simp only[cond_false,j7.s.injEq]at hc;subst hc;have hm' :mx.isSome=true→hi.isSome=true:=fun h=>by simpa[h]using hm
    have hrun:∀ {l h m len cap' :Nat} {a:Option Addr},(Instr.sliceBounds true len cap' (lo.map e) (hi.map e) (mx.map e)).run P w=.ok (l,h,m) w→
      (Instr.sliceAt t (.slice a len cap') (lo.map e) (hi.map e) (mx.map e)).run P w=.ok (.slice (if m=l then a else a.map (·.add (l*sz))) (h - l) (m - l)) w:=fun {l h m len cap' a} hb=>by
     simp only[Instr.sliceAt,Sem.run_bind,run_underlying hu,Result.andThen_ok,Instr.slice,hb,dw hsz];rfl
    simp only[cZ]at hv;split at hv
    ·rename_i hxv;cases n3:aD env mx' 0 0 with
     |none=>simp[n3]at hv
     |some m=>
      cases n2:aD env hi' 0 m with
      |none=>simp[n3,n2]at hv
      |some h=>
       cases n1:aD env lo' 0 h with
       |none=>simp[n3,n2,n1]at hv
       |some l=>
        simp only[n3,n2,n1,ag]at hv;subst hv;have hbd:=eM (P:=P) (isSlice:=true) e1 e2 e3 hm' n3 n2 n1 (ak 0) hlo hhi hmx w;have b3:=dK (ak 0) n3;have b2:h≤0:=by
         have:h≤m:=by
          cases hi' with
          |none=>simp[aD]at n2;omega
          |some o=>exact dK (d:=0) (by omega) n2
         omega
        have b1:=dK (bU h) n1;have hz:=hx xo _ hxo hxv;generalize hex:e x=ex at hz;cases hz;refine bR rfl ⟨.slice none 0 0,?_,.bB⟩;show(Instr.sliceAt t (e x) _ _ _).run P w=_;rw[hex,hrun hbd];have hl0:l=0:=by omega
        have hh0:h=0:=by omega
        have hm0:(if mx.isSome=true then m else 0)=0:=by split<;>omega
        simp[hl0,hh0,hm0]
    ·rename_i b off len cap sz' ex hxv;cases n3:aD env mx' cap cap with
     |none=>simp[n3]at hv
     |some m=>
      cases n2:aD env hi' len m with
      |none=>simp[n3,n2]at hv
      |some h=>
       cases n1:aD env lo' 0 h with
       |none=>simp[n3,n2,n1]at hv
       |some l=>
        simp only[n3,n2,n1]at hv;cases hbq:Nat.beq sz sz' with
        |false=>simp[hbq]at hv
        |true=>
         have hszz:sz=sz' :=aU hbq;subst hszz;simp only[hbq,cond_true]at hv;have hz:=hx xo _ hxo hxv;generalize hex:e x=ex' at hz;cases hz with
         |slice hρ h1 h2 h3 h4 hcb=>
          rename_i r o lim a cap';have hbd:=eM (P:=P) (isSlice:=true) e1 e2 e3 hm' n3 n2 n1 h1 hlo hhi hmx w;have b3:=dK (ak cap) n3;have b1:=dK (bU h) n1;have hm0:mx.isSome=false→m=cap:=fun hn=>by
           cases mx with
           |some _=>simp at hn
           |none=>simp[nV]at e3;subst e3;simp[aD]at n3;exact n3.symm
          have bh:h≤m:=by
           cases hi with
           |none=>
            simp[nV]at e2;subst e2;simp[aD]at n2;have:mx.isSome=false:=by cases hq:mx.isSome with|false=>rfl|true=>have:=hm' hq;simp at this
            rw[hm0 this];omega
           |some y=>
            simp only[nV]at e2;split at e2<;>simp at e2;subst e2;simp only[aD]at n2;split at n2
            ·exact Bt n2
            ·simp at n2
          refine bR rfl ⟨_,by show(Instr.sliceAt t (e x) _ _ _).run P w=_;rw[hex];exact hrun hbd,?_⟩;generalize hM:(if mx.isSome=true then m else cap')=M;have hMm:m≤M∧M≤cap'∧(ex=true∨mx.isSome=true→M=m):=by
           subst hM;cases hq:mx.isSome with
           |true=>simp;omega
           |false=>
            have:=hm0 hq;simp;refine⟨by omega,fun hex=> ?_⟩;rw[h2 hex,this]
          have hsome:∃ a',(if M=l then some a else Option.map (fun x=>x.add (l*sz)) (some a))=some a'∧(M - l=0∨(a' =⟨r,o+(off+l*sz),none⟩∧o+(off+l*sz)+(M - l)*sz≤lim)):=by
           by_cases hml:M=l
           ·exact⟨a,by rw[if_pos hml],.inl (by omega)⟩
           ·refine⟨a.add (l*sz),by rw[if_neg hml];rfl,?_⟩;rcases h4 with h4|⟨rfl,h5⟩
            ·left;omega
            ·right;refine⟨by rw[iJ];simp[gI],?_⟩;have:l*sz+(M - l)*sz≤cap'*sz:=by rw[←qj];exact iB _ (by omega)
             omega
          obtain⟨a',ha',hd⟩:=hsome;rw[ha'];cases hmz:(mx'.isSome&&Nat.beq m 0)with
          |true=>
           simp only[hmz,cond_true,ag]at hv;subst hv;simp only[aI]at hmz;have hm00:m=0:=aU hmz.2;have hM0:=hMm.2.2 (.inr (by rw[←hmxe];exact hmz.1));have z1:h - l=0:=by omega
           have z2:M - l=0:=by omega
           rw[z1,z2];exact .bQ
          |false=>
          simp only[hmz,cond_false,ag]at hv;subst hv;refine .slice hρ (by omega) (fun hx=> ?_) (by omega) hd (by omega);have:=hMm.2.2 (by
           rw[hmxe]at hx;cases ex
           ·simp at hx;exact .inr hx
           ·exact .inl rfl)
          omega
    ·rename_i hxv;cases n3:aD env mx' 0 0 with
     |none=>simp[n3]at hv
     |some m=>
      cases n2:aD env hi' 0 m with
      |none=>simp[n3,n2]at hv
      |some h=>
       cases n1:aD env lo' 0 h with
       |none=>simp[n3,n2,n1]at hv
       |some l=>
        simp only[n3,n2,n1,ag]at hv;subst hv;have hbd:=eM (P:=P) (isSlice:=true) e1 e2 e3 hm' n3 n2 n1 (ak 0) hlo hhi hmx w;have b3:=dK (ak 0) n3;have b2:h≤0:=by
         have:h≤m:=by
          cases hi' with
          |none=>simp[aD]at n2;omega
          |some o=>exact dK (d:=0) (by omega) n2
         omega
        have b1:=dK (bU h) n1;have hz:=hx xo _ hxo hxv;generalize hex:e x=ex at hz;cases hz;rename_i a;refine bR rfl ⟨.slice (some a) 0 0,?_,.bQ⟩;show(Instr.sliceAt t (e x) _ _ _).run P w=_;rw[hex,hrun hbd];have hl0:l=0:=by omega
        have hh0:h=0:=by omega
        have hm0:(if mx.isSome=true then m else 0)=0:=by split<;>omega
        simp[hl0,hh0,hm0]
    ·rename_i row off len sz' hxv;cases n3:aD env mx' len len with
     |none=>simp[n3]at hv
     |some m=>
      cases n2:aD env hi' len m with
      |none=>simp[n3,n2]at hv
      |some h=>
       cases n1:aD env lo' 0 h with
       |none=>simp[n3,n2,n1]at hv
       |some l=>
        simp only[n3,n2,n1]at hv;cases hbq:Nat.beq sz sz' with
        |false=>simp[hbq]at hv
        |true=>
         have hszz:sz=sz' :=aU hbq;subst hszz;simp only[hbq,cond_true]at hv;have hz:=hx xo _ hxo hxv;generalize hex:e x=ex' at hz;cases hz with
         |ah c hr hc hcv h3 h4=>
          rename_i r o a cap';have hbd:=eM (P:=P) (isSlice:=true) e1 e2 e3 hm' n3 n2 n1 h3 hlo hhi hmx w;have b3:=dK (ak len) n3;have b1:=dK (bU h) n1;have hm0:mx.isSome=false→m=len:=fun hn=>by
           cases mx with
           |some _=>simp at hn
           |none=>simp[nV]at e3;subst e3;simp[aD]at n3;exact n3.symm
          have bh:h≤m:=by
           cases hi with
           |none=>
            simp[nV]at e2;subst e2;simp[aD]at n2;have:mx.isSome=false:=by cases hq:mx.isSome with|false=>rfl|true=>have:=hm' hq;simp at this
            rw[hm0 this];omega
           |some y=>
            simp only[nV]at e2;split at e2<;>simp at e2;subst e2;simp only[aD]at n2;split at n2
            ·exact Bt n2
            ·simp at n2
          refine bR rfl ⟨_,by show(Instr.sliceAt t (e x) _ _ _).run P w=_;rw[hex];exact hrun hbd,?_⟩;generalize hM:(if mx.isSome=true then m else cap')=M;have hMm:m≤M∧M≤cap'∧(mx.isSome=true→M=m):=by
           subst hM;cases hq:mx.isSome with
           |true=>simp;omega
           |false=>
            have:=hm0 hq;simp;omega
          have hsome:∃ a',(if M=l then some a else Option.map (fun x=>x.add (l*sz)) (some a))=some a'∧(M - l=0∨a' =⟨r,o+(off+l*sz),none⟩):=by
           by_cases hml:M=l
           ·exact⟨a,by rw[if_pos hml],.inl (by omega)⟩
           ·refine⟨a.add (l*sz),by rw[if_neg hml];rfl,?_⟩;rcases h4 with h4|rfl
            ·left;omega
            ·right;rw[iJ];simp[gI]
          obtain⟨a',ha',hd⟩:=hsome;rw[ha'];cases hmz:(mx'.isSome&&Nat.beq m 0)with
          |true=>
           simp only[hmz,cond_true,ag]at hv;subst hv;simp only[aI]at hmz;have hm00:m=0:=aU hmz.2;have hM0:=hMm.2.2 (by rw[←hmxe];exact hmz.1);have z1:h - l=0:=by omega
           have z2:M - l=0:=by omega
           rw[z1,z2];exact .bQ
          |false=>
          simp only[hmz,cond_false,ag]at hv;subst hv;exact .ah c hr hc hcv (by omega) hd
    ·simp at hv
  ·rename_i n el xo lo' hi' hu hxo e1 e2 e3;split at hc<;>try (cases hc;done)
   rename_i sz hsz;cases hnb:Nat.ble n 16777216 with
   |false=>rw[hnb]at hc;cases hc
   |true=>
   rw[hnb]at hc;cases hc;have hnb:=dY hnb;have hm:mx=none:=by
    cases mx with
    |none=>rfl
    |some y=>simp only[nV]at e3;split at e3<;>simp at e3
   subst hm;simp only[cZ]at hv;split at hv<;>try (simp at hv;done)
   rename_i b off hb;cases n2:aD env hi' n n with
   |none=>simp[n2]at hv
   |some h=>
    cases n1:aD env lo' 0 h with
    |none=>simp[n2,n1]at hv
    |some l=>
     simp only[n2,n1]at hv;cases hs:s.row b with
     |none=>simp[hs]at hv
     |some cs=>
      simp only[hs]at hv;cases hbl:Nat.ble (off+n*sz) cs.length with
      |false=>simp[hbl]at hv
      |true=>
       simp only[hbl,cond_true,ag]at hv;subst hv;have hble:=dY hbl;have hz:=hx xo _ hxo hb;generalize hex:e x=ex' at hz;cases hz with
       |ptr hρ=>
        rename_i r o lim;have hrow:=hR.Tl hρ hs;have hbd:=eM (P:=P) (isSlice:=false) (len:=n) (cap:=n) (cap' :=n) (m:=n) e1 e2 (show nV none=some none from rfl) (by simp) (by simp[aD]) n2 n1 (ak _) hlo hhi (by simp) w;have b2:=dK (ak n) n2;have b1:=dK (bU h) n1;simp only[FA,Ky,jV,if_false]at hbd;refine bR rfl ⟨.slice (some (if n=l then⟨r,o+off,none⟩else(⟨r,o+off,none⟩:Addr).add (l*sz))) (h - l) (n - l),?_,?_⟩
        ·simp only[Instr.sliceAt,Sem.run_bind,run_underlying hu,Result.andThen_ok,hex,Instr.sureAddr,Sem.run_pure,FA,hbd,dw hsz]
        ·refine .slice hρ (ak _) (fun _=>rfl) (by omega) ?_ (by omega);by_cases hml:n=l
         ·left;omega
         ·right;rw[if_neg hml,iJ];have:l*sz+(n - l)*sz=n*sz:=by rw[←qj];congr 1;omega
          exact⟨by simp[gI],by omega⟩
  ·cases hc
 |fieldAddr t x f=>
  simp only[cop]at hc;split at hc<;>try (cases hc;done)
  rename_i fs xo hu hxo;split at hc<;>try (cases hc;done)
  rename_i fd hfd;split at hc<;>cases hc;rename_i k hk;simp only[cZ]at hv;have hx:=H x (by simp[Op.operands]) xo;have hrun:∀ {r q:Nat},e x=.pointer (some ⟨r,q,none⟩)→(Instr.fieldAt t (e x) f).run P w=.ok (.pointer (some ⟨r,q+fd.offset,none⟩)) w:=fun {r q} hh=>by
   simp[Instr.fieldAt,run_underlying hu,hfd,hh,Instr.sureAddr,fieldPlace,dw hk,iJ]
  split at hv<;>simp only[ag,reduceCtorEq]at hv<;>subst hv
  ·rename_i b o' hb;have hz:=hx _ hxo hb;generalize hex:e x=ex at hz;cases hz with
   |ptr hρ=>exact bR rfl ⟨_,hrun hex,by rw[gI];exact .ptr hρ⟩
  ·rename_i row o' hb;have hz:=hx _ hxo hb;generalize hex:e x=ex at hz;cases hz with
   |eR c hr hc hcv=>exact bR rfl ⟨_,hrun hex,by rw[gI];exact .eR c hr hc hcv⟩
 |field t x f=>
  simp only[cop]at hc;split at hc<;>try (cases hc;done)
  rename_i fs xo hu hxo;split at hc<;>try (cases hc;done)
  rename_i fd hfd;split at hc<;>cases hc;rename_i n hn;simp only[cZ]at hv;split at hv<;>try (simp at hv;done)
  rename_i cs hcs;have hz:=H x (by simp[Op.operands]) xo _ hxo hcs;generalize hex:e x=ex at hz;cases hz with
  |agg ha va=>
   obtain⟨y,h1,h2⟩:=Cl (P:=P) hn (aV.of_array ha va) hv w;refine bR rfl ⟨y,?_,h2⟩;simp[Instr.field,run_underlying hu,hfd,hex,asAgg,h1]
 |indexAddr t x i=>
  simp only[cop]at hc;have hx:=H x (by simp[Op.operands]);have hi:=H i (by simp[Op.operands]);split at hc
  ·rename_i el xo io hu hxo hio;split at hc<;>cases hc;rename_i sz hsz;simp only[cZ]at hv;split at hv
   ·rename_i b off len cap z ex k n hb hn;split at hv<;>try (simp at hv;done)
    rename_i hlt;cases hbq:Nat.beq z sz with
    |false=>simp[hbq]at hv
    |true=>
     have hzz:z=sz:=aU hbq;subst hzz;simp only[hbq,cond_true,ag]at hv;subst hv;have hz:=hx xo _ hxo hb;have hii:=(hi io _ hio hn).fP;generalize hex:e x=ex' at hz;cases hz with
     |slice hρ h1 h2 h3 h4 hcb=>
      rename_i r o lim a cap';rcases h4 with h4|⟨rfl,h5⟩
      ·exfalso;omega
      ·refine bR rfl ⟨.pointer (some ⟨r,o+(off+n.toNat*z),none⟩),?_,.ptr hρ⟩;simp[Instr.indexAt,hii,hex,asIntOf,run_underlying hu,hlt,dw hsz,iJ,gI]
   ·rename_i row off len z k n hb hn;split at hv<;>try (simp at hv;done)
    rename_i hlt;cases hbq:Nat.beq z sz with
    |false=>simp[hbq]at hv
    |true=>
     have hzz:z=sz:=aU hbq;subst hzz;simp only[hbq,cond_true,ag]at hv;subst hv;have hz:=hx xo _ hxo hb;have hii:=(hi io _ hio hn).fP;generalize hex:e x=ex' at hz;cases hz with
     |ah c hr hc hcv h3 h4=>
      rename_i r o a cap';rcases h4 with h4|rfl
      ·exfalso;omega
      ·refine bR rfl ⟨.pointer (some ⟨r,o+(off+n.toNat*z),none⟩),?_,.eR c hr hc hcv⟩;simp[Instr.indexAt,hii,hex,asIntOf,run_underlying hu,hlt,dw hsz,iJ,gI]
   ·simp at hv
  ·rename_i len el xo io hu hxo hio;split at hc<;>cases hc;rename_i sz hsz;simp only[cZ]at hv;have hrun:∀ {r q:Nat} {k:IntKind} {n:Int},e x=.pointer (some ⟨r,q,none⟩)→e i=.int k n→0≤n∧n<(len:Int)→(Instr.indexAt t (e x) (e i)).run P w=.ok (.pointer (some ⟨r,q+n.toNat*sz,none⟩)) w:=fun {r q k n} g1 g2 g3=>by
    simp[Instr.indexAt,g1,g2,asIntOf,run_underlying hu,g3,dw hsz,iJ,Instr.sureAddr]
   split at hv
   ·rename_i b off k n hb hn;split at hv<;>simp only[ag,reduceCtorEq]at hv;rename_i hlt;subst hv;have hz:=hx xo _ hxo hb;have hii:=(hi io _ hio hn).fP;generalize hex:e x=ex' at hz;cases hz with
    |ptr hρ=>exact bR rfl ⟨_,hrun hex hii hlt,by rw[gI];exact .ptr hρ⟩
   ·rename_i row off k n hb hn;split at hv<;>simp only[ag,reduceCtorEq]at hv;rename_i hlt;subst hv;have hz:=hx xo _ hxo hb;have hii:=(hi io _ hio hn).fP;generalize hex:e x=ex' at hz;cases hz with
    |eR c hr hc hcv=>exact bR rfl ⟨_,hrun hex hii hlt,by rw[gI];exact .eR c hr hc hcv⟩
   ·simp at hv
  ·cases hc
 |index t x i=>
  simp only[cop]at hc;split at hc<;>try (cases hc;done)
  ·cases hc;rename_i xo io hu hxo hio;simp only[cZ]at hv;split at hv<;>try (simp at hv;done)
   rename_i b k n hb hn;split at hv<;>try (simp at hv;done)
   rename_i h0;cases hg:b[n.toNat]? with
   |none=>simp[hg]at hv
   |some c=>
    simp only[hg,ag]at hv;subst hv;obtain⟨p,hp,hp2⟩:=(H x (by simp[Op.operands]) xo _ hxo hb).gM;have hii:=(H i (by simp[Op.operands]) io _ hio hn).fP;refine bR rfl ⟨.int .u8 c.toNat,?_,.int _ _⟩;have:p[n.toNat]? =some c:=by rw[qak,hp2,hg]
    simp[Instr.index,hii,hp,asIntOf,run_underlying hu,h0,this]
  ·rename_i len el xo io hu hxo hio;split at hc<;>try (cases hc;done)
   rename_i hsz hsp;cases hc;simp only[cZ]at hv;split at hv<;>try (simp at hv;done)
   rename_i cs k n hb hn;split at hv<;>try (simp at hv;done)
   rename_i h0;have hz:=H x (by simp[Op.operands]) xo _ hxo hb;have hii:=(H i (by simp[Op.operands]) io _ hio hn).fP;generalize hex:e x=ex at hz;cases hz with
   |agg ha va=>
    obtain⟨y,h1,h2⟩:=Cl (P:=P) hsp (aV.of_array ha va) (off:=n.toNat) (by simpa only[eG]using hv) w;refine bR rfl ⟨y,?_,h2⟩;simp[Instr.index,hii,hex,asIntOf,run_underlying hu,h0.1,h0.2,dw hsz,h1]
 |lookup t x i ok=>
  simp only[cop]at hc;split at hc<;>try (cases hc;done)
  rename_i k el xo io hu hxo hio;split at hc<;>cases hc;rename_i z kk hz hkk;simp only[cZ]at hv;split at hv<;>try (simp at hv;done)
  rename_i m kv hxv hiv;exact bR rfl (Gf hu hz hkk hR (H x (by simp[Op.operands]) xo m hxo hxv) (H i (by simp[Op.operands]) io kv hio hiv) hv)
 |entry x=>
  simp only[cop]at hc;split at hc<;>cases hc;rename_i xo hxo;simp only[cZ]at hv;split at hv<;>try (simp at hv;done)
  rename_i b hb;have hz:=H x (by simp[Op.operands]) xo _ hxo hb;generalize hex:e x=ex at hz;cases hz with
  |ptr hρ=>
   rename_i r o lim;unfold BJ at hv;have ho:=hR.ob b r o lim hρ;cases hs:s.get b with
   |none=>rw[hs]at hv;simp at hv
   |some ob=>
    rw[hs]at hv ho;cases ob with
    |row cs=>simp at hv
    |wG cs=>simp at hv
    |map es clock=>simp at hv
    |dead=>simp at hv
    |gA m since seen last=>
     obtain⟨m',e1,e2,rfl⟩:=ho;cases m with
     |none=>simp at hv
     |some mm=>
      obtain⟨r2,o2,lim2,hρ2,rfl⟩:=e2;simp only at hv;have ho2:=hR.ob mm r2 o2 lim2 hρ2;cases hs2:s.get mm with
      |none=>rw[hs2]at hv;simp at hv
      |some ob2=>
       rw[hs2]at hv ho2;cases ob2 with
       |row cs=>simp at hv
       |wG cs=>simp at hv
       |gA a b c d=>simp at hv
       |dead=>simp at hv
       |map es clock=>
        cases hl:seen.getLast? with
        |none=>rw[hl]at hv;simp at hv
        |some n=>
         rw[hl]at hv;simp only at hv;cases hq:Nat.beq clock last with
         |false=>simp[hq]at hv
         |true=>
          have hcl:clock=last:=aU hq;subst hcl;simp only[hq,cond_true]at hv;obtain⟨es',g1,g2,g3⟩:=ho2;cases hf:es.find? (fun e=>Nat.beq e.born n)with
          |none=>rw[hf]at hv;simp at hv
          |some en=>
           rw[hf]at hv;simp only[ag]at hv;subst hv;obtain⟨k1,k2,k3⟩:=Sk (w0:=w0) (ρ:=ρ) (n:=n) es es'.toList (by simpa using g2) (fun i h1 h2=>by simpa using g3 i h1 (by simpa using h2)) hf;have hbk:seen.toArray.back? =some n:=by rw[←Array.getLast?_toList];exact hl
           have hfind:es'.find? (fun e=>e.born==n)=some k1:=by rw[←Array.find?_toList];exact k2
           refine bR rfl ⟨.tuple #[k1.key,k1.val],?_,?_⟩
           ·simp[hex,Instr.entry,getObj,Sem.run,e1,g1,hbk,hfind]
           ·simpa using aF.lH (aV.cons k3.1 (aV.cons k3.2 .nil))
 |extract x i=>
  simp only[cop]at hc;split at hc<;>cases hc;rename_i xo hxo;simp only[cZ]at hv;split at hv<;>try (simp at hv;done)
  rename_i vs hvs;have hz:=H x (by simp[Op.operands]) xo _ hxo hvs;generalize hex:e x=ex at hz;cases hz with
  |aZ ha va=>
   rename_i vs';obtain⟨y,h1,h2⟩:=(aV.of_array ha va).get hv;refine bR rfl ⟨y,?_,h2⟩;have h1' :vs'[i]? =some y:=by simpa using h1
   simp[hex,Instr.extract,h1']
 |typeAssert x xt t ok=>
  cases ok<;>simp only[cop]at hc<;>try (cases hc;done)
  split at hc<;>cases hc;rename_i d xo z h1 hu hxo hz;obtain⟨zx,hzr,hzv⟩:=jM hz;simp only[cZ]at hv;split at hv
  ·rename_i hxv;simp only[ag]at hv;subst hv;have hx:=H x (by simp[Op.operands]) xo _ hxo hxv;generalize hex:e x=ex at hx;cases hx;refine bR rfl ⟨.tuple #[zx,.bool false],?_,by simpa using aF.lH (aV.cons (hzv w0 ρ) (aV.cons (.bool false) .nil))⟩;simp only[hex,Instr.typeAssert,Sem.run_bind,run_underlying hu,Result.andThen_ok];cases d<;>first|exact absurd hu (h1 _)|simp[hzr]
  ·rename_i u y hxv;simp only[ag]at hv;have hx:=H x (by simp[Op.operands]) xo _ hxo hxv;generalize hex:e x=ex at hx;cases hx with
   |iface hy=>
    rename_i y';by_cases hut:u=t
    ·rw[if_pos hut]at hv;subst hv;refine bR rfl ⟨.tuple #[y',.bool true],?_,by simpa using aF.lH (aV.cons hy (aV.cons (.bool true) .nil))⟩;simp only[hex,Instr.typeAssert,Sem.run_bind,run_underlying hu,Result.andThen_ok];cases d<;>first|exact absurd hu (h1 _)|simp[hut]
    ·rw[if_neg hut]at hv;subst hv;refine bR rfl ⟨.tuple #[zx,.bool false],?_,by simpa using aF.lH (aV.cons (hzv w0 ρ) (aV.cons (.bool false) .nil))⟩;simp only[hex,Instr.typeAssert,Sem.run_bind,run_underlying hu,Result.andThen_ok];cases d<;>first|exact absurd hu (h1 _)|simp[hut,hzr]
  ·simp at hv
 |call c=>
  simp only[cop]at hc;split at hc<;>try first|(cases hc;done)|(split at hc<;>cases hc;done)
  rename_i b args hcal hargs;have hHa:∀ x∈c.args.toList,jP w0 ρ env e x:=fun x hx=>H x (by simp[Op.operands,Call.operands];exact .inr (by simpa using hx));have hres:∀ {S:Sem Value} {r:V},(∀ cs,builtin b c.argTypes type cs (c.args.map e)=(do pure (.value (←S))))→(∃ x,S.run P w=.ok x w∧aF w0 ρ r x)→
    Rt P w0 ρ w e {dst,op:=.call c,type,pos,after,guard} r:=fun {S r} hb ⟨x,h1,h2⟩=>by
   refine⟨x,?_,h2⟩;simp only[execOp,resolve,hcal,Sem.run_bind,Sem.run_pure,Result.andThen_ok,invoke];rw[hb];simp[h1]
  rcases qkx hc with⟨rfl,t,ts',xo,xs',ht,hx,hh⟩|⟨rfl,t,ts',xo,xs',ht,hx,⟨el,hu⟩,rfl⟩|⟨rfl,rfl⟩|⟨rfl,rfl⟩
  ·subst hx;obtain⟨x,xs,ha,hxo,_⟩:=tK hargs;have hX:=hHa x (by rw[ha];simp);have ht0:c.argTypes[0]? =some t:=by rw[←s4,ht];rfl
   have hx0:(c.args.map e)[0]? =some (e x):=by rw[←s4];simp[ha]
   refine hres (fun _=>rfl) ?_;have fin:∀ {k:Nat},cZ env s (.len k xo)=some v→∃ u n,xo.ev env=some u∧mE s k u=some n∧v=.int .i64 (n:Nat):=fun {k} hh=>by
    simp only[cZ]at hh;cases hxv:xo.ev env with
    |none=>simp[hxv]at hh
    |some u=>
     cases hl:mE s k u with
     |none=>simp[hxv,hl]at hh
     |some n=>simp only[hxv,hl,ag]at hh;exact⟨u,n,rfl,hl,hh.symm⟩
   rcases hh with⟨hu,rfl⟩|⟨⟨el,hu⟩,rfl⟩|⟨⟨k,el,hu⟩,rfl⟩
   ·obtain⟨u,n,h1,h2,rfl⟩:=fin hv;have hr:=hX xo u hxo h1;generalize hex:e x=ex at hr hx0;cases hr<;>simp[mE,RF,RG,RH,RI,RJ,RM,RN,RO,RP]at h2;rename_i p hp;refine⟨goInt p.size,by simp[Builtin.len_,ht0,hx0,run_underlying hu],?_⟩;have:p.size=n:=by rw[←h2,←hp];simp
    rw[this];exact .int _ _
   ·obtain⟨u,n,h1,h2,rfl⟩:=fin hv;have hr:=hX xo u hxo h1;generalize hex:e x=ex at hr hx0;cases hr<;>simp[mE,RF,RG,RH,RI,RJ,RM,RN,RO,RP]at h2<;>subst h2
    ·exact⟨goInt 0,by simp[Builtin.len_,ht0,hx0,run_underlying hu],.int _ _⟩
    ·exact⟨goInt 0,by simp[Builtin.len_,ht0,hx0,run_underlying hu],.int _ _⟩
    ·exact⟨_,by simp[Builtin.len_,ht0,hx0,run_underlying hu];rfl,.int _ _⟩
    ·exact⟨_,by simp[Builtin.len_,ht0,hx0,run_underlying hu];rfl,.int _ _⟩
   ·obtain⟨u,n,h1,h2,rfl⟩:=fin hv;have hr:=hX xo u hxo h1;generalize hex:e x=ex at hr hx0;cases hr<;>simp[mE,RF,RG,RH,RI,RJ,RM,RN,RO,RP]at h2
    ·subst h2;exact⟨goInt 0,by simp[Builtin.len_,ht0,hx0,run_underlying hu],.int _ _⟩
    ·rename_i m r o lim hρ;cases hs:s.get m with
     |none=>simp[hs]at h2
     |some ob=>
      cases ob<;>simp[hs]at h2;rename_i es clock;obtain⟨es',g1,g2,g3⟩:=hR.LF hρ hs;refine⟨goInt es'.size,by simp[Builtin.len_,ht0,hx0,run_underlying hu,run_getObj_map g1],?_⟩;rw[←g2,h2];exact .int _ _
  ·subst hx;obtain⟨x,xs,ha,hxo,_⟩:=tK hargs;have hX:=hHa x (by rw[ha];simp);have ht0:c.argTypes[0]? =some t:=by rw[←s4,ht];rfl
   have hx0:(c.args.map e)[0]? =some (e x):=by rw[←s4];simp[ha]
   refine hres (fun _=>rfl) ?_;simp only[cZ]at hv;split at hv<;>simp only[ag,reduceCtorEq]at hv<;>subst hv
   ·rename_i h1;have hr:=hX xo _ hxo h1;generalize hex:e x=ex at hr hx0;cases hr;exact⟨goInt 0,by simp[Builtin.cap_,ht0,hx0,run_underlying hu],.int _ _⟩
   ·rename_i h1;have hr:=hX xo _ hxo h1;generalize hex:e x=ex at hr hx0;cases hr;exact⟨goInt 0,by simp[Builtin.cap_,ht0,hx0,run_underlying hu],.int _ _⟩
   ·rename_i h1;have hr:=hX xo _ hxo h1;generalize hex:e x=ex at hr hx0;cases hr with
    |slice hρ h1 h2 h3 h4 hcb=>
     rename_i cap';refine⟨goInt cap',by simp[Builtin.cap_,ht0,hx0,run_underlying hu],?_⟩;rw[h2 rfl];exact .int _ _
  ·simp only[cZ]at hv;split at hv<;>try (simp at hv;done)
   rename_i a l hl;have hlr:=pV hargs hl hHa;obtain⟨y,ys,hy1,hy2,hy3⟩:=hlr.bD;obtain⟨z,z1,z2⟩:=zK (P:=P) LG hv hy2 hy3 w;exact hres (fun _=>rfl) ⟨z,by simp[Builtin.max_,hy1,z1],z2⟩
  ·simp only[cZ]at hv;split at hv<;>try (simp at hv;done)
   rename_i a l hl;have hlr:=pV hargs hl hHa;obtain⟨y,ys,hy1,hy2,hy3⟩:=hlr.bD;obtain⟨z,z1,z2⟩:=zK (P:=P) LH hv hy2 hy3 w;exact hres (fun _=>rfl) ⟨z,by simp[Builtin.min_,hy1,z1],z2⟩
 |makeMap t r=>
  simp only[cop]at hc;split at hc<;>cases hc
 |makeSlice t l c=>
  simp only[cop]at hc;split at hc<;>try (cases hc;done)
  split at hc<;>try (cases hc;done)
  rename_i sz bs z l c h1 h2 h3 h4 h5;cases hq:(Nat.beq z.cells.length sz&&Nat.ble 1 sz)<;>simp[hq]at hc
 |buildSlice t len parts=>
  simp only[cop]at hc;split at hc<;>try (cases hc;done)
  split at hc<;>try (cases hc;done)
  rename_i sz z h1 h2;cases hq:(Nat.ble (len*sz) 16777216&&Nat.beq z.cells.length sz&&Nat.ble 1 sz)<;>simp only[hq,cond_true,cond_false,reduceCtorEq]at hc;split at hc<;>cases hc
 |next x b=>cases b<;>simp only[cop]at hc<;>(try split at hc)<;>cases hc
 |mapUpdate t m k x=>simp only[cop]at hc;split at hc<;>(try split at hc)<;>cases hc
 |insert t m k x=>simp only[cop]at hc;split at hc<;>(try split at hc)<;>cases hc
 |alloc t=>simp only[cop]at hc;split at hc<;>cases hc
 |box t x=>simp only[cop]at hc;split at hc<;>cases hc
 |store t a x=>simp only[cop]at hc;split at hc<;>cases hc
 |range t x=>simp only[cop]at hc;split at hc<;>cases hc
 |_=>simp[cop]at hc
end
end Go.RE
namespace Go.RE
section
variable{P:Program}{w0:World}{ρ:Ren}{s:St}{w:World}{env:PT V}{e:Operand→Value}
theorem S2{cs:List V}{xs:List Value}(h:aV w0 ρ cs xs)(rest:List Value)(t:TypeId)(fr:Nat×Nat)(hf:∀ j,j≤xs.length+rest.length→¬(fr.1≤j∧j<fr.2)):
  jm w0 ρ 0 (xs.length+rest.length) (some (.row cs)) (some (.cells (xs++rest).toArray t fr)):=by
 refine⟨_,t,fr,rfl,by simp,by rw[h.1];omega,hf,fun i hi=> ?_⟩;obtain⟨x,h1,h2⟩:=h.get (aQ hi);refine⟨x,?_,h2⟩;have hl:=h.1;simp only[kF,List.getElem?_toArray];rw[bG (by omega)];exact h1
theorem ZS{cs:List V}{xs:List Value}(h:aV w0 ρ cs xs)(rest:List Value)(t:TypeId)(fr:Nat×Nat)(hf:∀ j,j<xs.length+rest.length→¬(fr.1≤j∧j<fr.2)):
  jm w0 ρ 0 (xs.length+rest.length) (some (.wG cs)) (some (.cells (xs++rest).toArray t fr)):=by
 refine⟨_,t,fr,rfl,by simp,by rw[h.1];omega,hf,fun i hi=> ?_⟩;obtain⟨x,h1,h2⟩:=h.get (aQ hi);refine⟨x,?_,h2⟩;have hl:=h.1;simp only[kF,List.getElem?_toArray];rw[bG (by omega)];exact h1
theorem AD{cs:List V}{A:Array Value}(h:aV w0 ρ cs A.toList)(t:TypeId):jm w0 ρ 0 A.size (some (.row cs)) (some (.cells A t (0,0))):=by
 have:=S2 h [] t (0,0) (by simp);simpa using this
theorem nZ(z:List V):∀ n,(eT z n).length=n*z.length:=by
 intro n
 induction n with
 |zero=>simp[eT]
 |succ n ih=>simp[eT,ih,qj,Nat.add_comm]
theorem JD(z:List V):∀ (n j:Nat),j<n*z.length→(eT z n)[j]? =z[j % z.length]? :=by
 intro n
 induction n with
 |zero=>intro j h;simp at h
 |succ n ih=>
  intro j h;simp only[eT];by_cases hj:j<z.length
  ·rw[bG hj,Nat.mod_eq_of_lt hj]
  ·rw[dh (by omega),ih _ (by rw[qj,Nat.one_mul]at h;omega)];congr 1;exact(Nat.mod_eq_sub_mod (by omega)).symm
theorem AK{z:List V}{zx:Array Value}(h:aV w0 ρ z zx.toList)(n:Nat)(g:Array Value)(hg:0<n*z.length→g=zx):
  aV w0 ρ (eT z n) ((Array.range (n*z.length)).map (fun j=>g[j % g.size]!)).toList:=by
 have hl:z.length=zx.size:=by simpa using h.1
 refine aV.vj (by simp[nZ]) fun j v hv=> ?_;have hj:j<n*z.length:=by
  have:=(aH.1 hv).1;rwa[nZ]at this
 have hg' :=hg (by omega);subst hg';rw[JD _ _ _ hj]at hv;obtain⟨x,h1,h2⟩:=h.get hv;refine⟨x,?_,h2⟩;have hpos:0<z.length:=by
  rcases Nat.eq_zero_or_pos z.length with h0|h0
  ·rw[h0]at hj;simp at hj
  ·exact h0
 have hm:j % g.size<g.size:=Kw _ (by omega);simp only[Array.toList_map,Array.toList_range,gE,Fz hj,kP];rw[s4,hl]at h1;rw[getElem!_pos g _ hm];rw[getElem?_pos g _ hm]at h1;exact h1
def Ru(P:Program)(w0:World)(ρ:Ren)(w:World)(e:Operand→Value)(o:Oper)(ob:Ob)(f:Nat→V):Prop:=
 ∃ obj lim w' x,(execOp e o).run P w=.ok (.value x) w'∧w'.heap=w.heap.push obj∧w'.os=w.os∧w'.output=w.output∧jm w0 ρ 0 lim (some ob) (some obj)∧
  ∀ ρ' n,Ren.le ρ ρ'→ρ' n=some (w.heap.size,0,lim)→aF w0 ρ' (f n) x
theorem nR{o:Oper}{ob:Ob}{f:Nat→V}{S:Sem Value}(he:execOp e o=(do pure (.value (←S)))){obj:Obj}{lim:Nat}{w' :World}{x:Value}(h:S.run P w=.ok x w')
  (h1:w'.heap=w.heap.push obj) (h2:w'.os=w.os) (h3:w'.output=w.output) (h4:jm w0 ρ 0 lim (some ob) (some obj))
  (h5:∀ ρ' n,Ren.le ρ ρ'→ρ' n=some (w.heap.size,0,lim)→aF w0 ρ' (f n) x):Ru P w0 ρ w e o ob f:=
 ⟨obj,lim,w',x,by rw[he];simp[h],h1,h2,h3,h4,h5⟩
theorem wrap_small{n:Nat}(h:n≤bl):IntKind.i64.wrap (n:Int)=n:=by
 apply Il
 ·simp only[IntKind.signed,IntKind.bits,if_true];omega
 ·simp only[IntKind.signed,IntKind.bits,if_true];unfold bl at h;omega
theorem qkw{b:Builtin}{ts:List TypeId}{xs:List bO}{mo:Io}:kg P b ts xs≠.m mo:=by
 intro h;unfold kg at h;split at h
 ·split at h<;>cases h
 ·split at h<;>cases h
 ·cases h
 ·cases h
 ·split at h
  ·split at h
   ·unfold cond at h;split at h<;>cases h
   ·unfold cond at h;split at h<;>cases h
   ·cases h
  ·cases h
 ·split at h
  ·split at h<;>cases h
  ·cases h
 ·split at h
  ·split at h<;>cases h
  ·cases h
 ·cases h
theorem Jn(h:Array Obj)(x:Obj)(f:Obj→Obj):(h.push x).modify h.size f=h.push (f x):=by
 apply DR;intro i;rw[Yo,Kx,Kx];by_cases hi:i=h.size
 ·subst hi;simp
 ·rw[if_neg (fun hh=>hi hh.symm),if_neg hi,if_neg hi]
theorem D2(p:ByteArray):aV w0 ρ (p.data.toList.map iK) (p.data.map (fun b=>Value.int .u8 b.toNat)).toList:=
 ⟨by simp,fun i h1 h2=>by simp only[Fu,iK,Array.toList_map];exact .int _ _⟩
theorem grownCap_le{w:World}{need old:Nat}{e:TypeId}(h:need<9223372036854775808):grownCap w need old e≤9223372036854775807:=by
 show need+w.tape w.drawn (.appendCap need old e) % (2 ^ 63 - need)≤_;have:=Kw (w.tape w.drawn (.appendCap need old e)) (show 2 ^ 63 - need>0 by omega);omega
theorem El{src dst el:TypeId}{x:Operand}{p:ByteArray}{b:List UInt8}(hs:P.underlying src=some .string)(hd:P.underlying dst=some (.slice el))(he:P.underlying el=some (.int .u8))
  (hp:e x=.string p) (hp2:p.data.toList=b) (hbb:b.length≤bl) {dstT:Option Tmp} {type:TypeId} {pos:String} {after:Array Edge} {guard:Option (Nat×Bool)} (w:World):
  Ru P w0 ρ w e {dst:=dstT,op:=.convert src dst x,type,pos,after,guard} (.wG (b.map iK)) (fun n=> .slice n 0 b.length b.length 1 false):=by
 have hsz:p.size=b.length:=by rw[←hp2];simp
 let c:=grownCap w p.size 0 el;have hc:p.size≤c:=grownCap_ge w p.size 0 el;let C:Array Value:=p.data.map (fun b=>Value.int .u8 b.toNat)++Array.replicate (c - p.size) (.int .u8 0);have hCs:C.size=c:=by simp[C];have:p.data.size=p.size:=rfl;omega
 have hrow:=ZS (D2 (w0:=w0) (ρ:=ρ) p) (List.replicate (c - p.size) (.int .u8 0)) el (C.size,C.size+1) (fun j hj=>by
  simp at hj;have:p.data.size=p.size:=rfl;omega)
 have hC:((p.data.map (fun b=>Value.int .u8 b.toNat)).toList++List.replicate (c - p.size) (Value.int .u8 0)).toArray=C:=by apply Fv;simp[C]
 have hlim:(p.data.map (fun b=>Value.int .u8 b.toNat)).toList.length+(List.replicate (c - p.size) (Value.int .u8 0)).length=C.size:=by simp[C]
 rw[hC,hlim,hp2]at hrow;refine nR rfl (S:=convert src dst (e x)) (w' :={w.drew with heap:=w.heap.push (.cells C el (C.size,C.size+1))}) (x:=.slice (some ⟨w.heap.size,0,none⟩) p.size c) ?_ rfl rfl rfl hrow
  fun ρ' n hl hn=>by rw[←hsz];exact .slice hn hc (fun h=>by simp at h) (ak _) (.inr ⟨by simp,by simp[hCs]⟩) (grownCap_le (by unfold bl at hbb;omega))
 have h1:(convert src dst (e x)).run P w=(Conv.stringToBytes el p).run P w:=by
  rw[hp];simp[convert,run_underlying hs,run_underlying hd,run_underlying he]
 rw[h1];unfold Conv.stringToBytes;simp only[Sem.run_bind,run_choose,Question.forced,jV,if_false,Result.andThen_ok,newRow,run_newObj,Sem.run_pure,markStringish,run_shape];have hC2:Array.map (fun b=>Value.int .u8 (b.toNat:Int)) p.data++Array.replicate (Question.cut (Question.appendCap p.size 0 el) (w.tape w.drawn (Question.appendCap p.size 0 el)) - p.size) (Value.int .u8 0)=C:=rfl;rw[hC2];have hshape:({heap:=w.heap.push (Obj.cells C el),tape:=w.tape,drawn:=w.drawn+1,os:=w.os,output:=w.output}:World).shape? w.heap.size=some (el,C.size):=by
  simp[World.shape?]
 simp only[hshape,Sem.run_bind,run_freeze,Result.andThen_ok,Sem.run_pure];unfold World.freeze;rw[if_neg (by simp)];simp only[];rw[Jn];simp;exact⟨rfl,rfl,rfl⟩
set_option maxHeartbeats 1000000 in
theorem EE{o:Oper}{mo:Io}{ob:Ob}{f:Nat→V}(hc:cop P o.op=.m mo)(hv:BP env mo=some (ob,f))(H:∀ x∈o.op.operands,jP w0 ρ env e x)(w:World):Ru P w0 ρ w e o ob f:=by
 obtain⟨dst,op,type,pos,after,guard⟩:=o;simp only at hc H;cases op with
 |alloc t=>
  simp only[cop]at hc;split at hc<;>cases hc;rename_i z hz;simp only[BP,ag,ay]at hv;obtain⟨rfl,rfl⟩:=hv;obtain⟨zx,hzr,hzv⟩:=jM hz;exact nR rfl (S:=Instr.alloc t true (.tuple #[])) (w' :=w.alloc (.cells zx.cells t)) (x:=.pointer (some ⟨w.heap.size,0,none⟩)) (by simp[Instr.alloc,hzr,newVar,newRow]) rfl rfl rfl
   (AD (hzv w0 ρ).cells t) fun ρ' n hl hn=>by simpa using aF.ptr (off:=0) hn
 |box t x=>
  simp only[cop]at hc;split at hc<;>cases hc;rename_i xo hxo;simp only[BP]at hv;split at hv<;>simp only[ag,ay,reduceCtorEq]at hv;rename_i u hu;obtain⟨rfl,rfl⟩:=hv;have hx:=H x (by simp[Op.operands]) xo u hxo hu;exact nR rfl (S:=Instr.box t (e x)) (w' :=w.alloc (.cells (e x).cells t)) (x:=.pointer (some ⟨w.heap.size,0,none⟩)) (by simp[Instr.box,newVar,newRow]) rfl rfl rfl
   (AD hx.cells t) fun ρ' n hl hn=>by simpa using aF.ptr (off:=0) hn
 |buildSlice t len parts=>
  simp only[cop]at hc;split at hc<;>try (cases hc;done)
  rename_i el hel;split at hc<;>try (cases hc;done)
  rename_i sz z hsz hz;cases hq:(Nat.ble (len*sz) 16777216&&Nat.beq z.cells.length sz&&Nat.ble 1 sz)with
  |false=>simp[hq]at hc
  |true=>
   simp only[hq,cond_true]at hc;split at hc<;>cases hc;rename_i l hl;simp only[aI]at hq;have q1:=dY hq.1.1;have q2:=aU hq.1.2;have q3:=dY hq.2;simp only[BP]at hv;split at hv<;>simp only[ag,ay,reduceCtorEq]at hv;rename_i cs hcs;obtain⟨rfl,rfl⟩:=hv;obtain⟨zx,hzr,hzv⟩:=jM hz;have hu:P.underlying t=some (.slice el):=by unfold oL at hel;split at hel<;>simp_all
   have hrep:∃ g:Array Value,((len*sz=0∧g= #[])∨(len*sz≠0∧g=zx.cells))∧
     aV w0 ρ (eT z.cells len) ((Array.range (len*sz)).map (fun j=>g[j % g.size]!)).toList:=by
    by_cases h0:len*sz=0
    ·refine⟨#[],.inl ⟨h0,rfl⟩,?_⟩;have:=AK (hzv w0 ρ).cells len #[] (fun h=>by rw[q2]at h;omega);rwa[q2]at this
    ·refine⟨zx.cells,.inr ⟨h0,rfl⟩,?_⟩;have:=AK (hzv w0 ρ).cells len zx.cells (fun _=>rfl);rwa[q2]at this
   obtain⟨g,hg1,hg2⟩:=hrep;obtain⟨out,f1,f2⟩:=uX (e:=e) (cells' :=(Array.range (len*sz)).map (fun j=>g[j % g.size]!)) hl hcs hg2 (fun p hp=>H p.2 (by simp[Op.operands];exact⟨p.1,by simpa using hp⟩));have hol:out.size=len*sz:=by
    have h1:=f2.1;have h2:cs.length=len*sz:=by
     have:∀ {ps:List (Nat×Nat×bO)} {a b:List V},nE env a ps=some b→b.length=a.length:=by
      intro ps
      induction ps with
      |nil=>intro a b h;simp[nE]at h;rw[h]
      |cons p ps ih=>
       intro a b h;obtain⟨p1,p2,p3⟩:=p;simp only[nE]at h;split at h<;>try (simp at h;done)
       rename_i v _;cases hb:(Nat.beq v.cells.length p2&&Nat.ble (p1+v.cells.length) a.length)with
       |false=>simp[hb]at h
       |true=>
        simp only[hb,cond_true]at h;simp only[aI]at hb;rw[ih h,sD _ _ _ (dY hb.2)]
     rw[this hcs,nZ,q2]
    simp at h1;omega
   refine nR rfl (S:=Instr.buildSlice t len (parts.map fun p=>(p.1,e p.2))) (w' :=w.alloc (.cells out el)) (x:=.slice (some ⟨w.heap.size,0,none⟩) len len) ?_ rfl rfl rfl
    (AD f2 el) fun ρ' n hl hn=> .slice hn (ak _) (fun _=>rfl) (ak _) (.inr ⟨by simp,by simp[hol]⟩) (by have:=Nat.mul_le_mul_left len q3;omega)
   unfold Instr.buildSlice;simp only[Sem.run_bind,run_underlying hu,Result.andThen_ok,dw hsz];rw[if_neg (by omega)];have hfill:Instr.fill (fun i=>some (i*sz,sz)) ((Array.range (len*sz)).map (fun j=>g[j % g.size]!)) (parts.map fun p=>(p.1,e p.2)).toList=some out:=by simpa using f1
   rcases hg1 with⟨h0,rfl⟩|⟨h0,rfl⟩
   ·rw[if_pos h0];simp only[Sem.run_bind,Sem.run_pure,Result.andThen_ok,hfill];simp[newRow]
   ·rw[if_neg h0];simp only[Sem.run_bind,Sem.run_pure,Result.andThen_ok,hzr,hfill];simp[newRow]
 |makeMap t r=>
  simp only[cop]at hc;split at hc<;>cases hc<;>simp only[BP,ag,ay]at hv<;>obtain⟨rfl,rfl⟩:=hv
  ·exact nR (S:=Instr.makeMap t none) rfl (lim:=0) (w' :=w.alloc (.map #[] 0)) (x:=.map (some w.heap.size)) (by simp[Instr.makeMap]) rfl rfl rfl ⟨#[],rfl,rfl,fun i h=>by simp at h⟩ fun ρ' n hl hn=> .map hn
  ·rename_i k n hu;have hx:=(H (.const (.int k n)) (by simp[Op.operands]) (.c (.int k n)) (.int k n) rfl rfl).fP;exact nR (S:=Instr.makeMap t (some (e (.const (.int k n))))) rfl (lim:=0) (w' :=w.alloc (.map #[] 0)) (x:=.map (some w.heap.size)) (by simp[Instr.makeMap,run_underlying hu,hx,asInt,asIntOf]) rfl rfl rfl ⟨#[],rfl,rfl,fun i h=>by simp at h⟩ fun ρ' n hl hn=> .map hn
 |makeSlice t l c=>
  simp only[cop]at hc;split at hc<;>try (cases hc;done)
  rename_i el hel;split at hc<;>try (cases hc;done)
  rename_i sz bs z lo co hsz hbs hz hlo hco;cases hq:(Nat.beq z.cells.length sz&&Nat.ble 1 sz)with
  |false=>simp[hq]at hc
  |true=>
   simp only[hq,cond_true,j7.m.injEq]at hc;subst hc;simp only[aI]at hq;have q2:=aU hq.1;simp only[BP]at hv;split at hv<;>try (simp at hv;done)
   rename_i lv cv hlv hcv;cases hcn:asNat cv bl with
   |none=>simp[hcn]at hv
   |some cn=>
    cases hln:asNat lv cn with
    |none=>simp[hcn,hln]at hv
    |some ln=>
     simp only[hcn,hln]at hv;cases hb:Nat.ble (cn*bs) bl with
     |false=>simp[hb]at hv
     |true=>
      simp only[hb,cond_true,ag,ay]at hv;obtain⟨rfl,rfl⟩:=hv;have hb' :=dY hb;obtain⟨k1,m1,rfl,a1,a2,a3⟩:=pJ hcn;obtain⟨k2,m2,rfl,b1,b2,b3⟩:=pJ hln;have hx1:=(H c (by simp[Op.operands]) co _ hco hcv).fP;have hx2:=(H l (by simp[Op.operands]) lo _ hlo hlv).fP;obtain⟨zx,hzr,hzv⟩:=jM hz;have hu:P.underlying t=some (.slice el):=by unfold oL at hel;split at hel<;>simp_all
      have hm1:m1=(cn:Int):=by omega
      have hm2:m2=(ln:Int):=by omega
      subst hm1;subst hm2;have hcb:cn≤bl:=by omega
      have hlb:ln≤bl:=by omega
      obtain⟨ii,hii,hib⟩:∃ i,P.info? el=some i∧i.bytes=bs:=by
       unfold xY at hbs;split at hbs<;>simp at hbs;rename_i i hi;exact⟨i,hi,hbs⟩
      have hrep:∃ g:Array Value,((cn*sz=0∧g= #[])∨(cn*sz≠0∧g=zx.cells))∧
        aV w0 ρ (eT z.cells cn) ((Array.range (cn*sz)).map (fun j=>g[j % g.size]!)).toList:=by
       by_cases h0:cn*sz=0
       ·refine⟨#[],.inl ⟨h0,rfl⟩,?_⟩;have:=AK (hzv w0 ρ).cells cn #[] (fun h=>by rw[q2]at h;omega);rwa[q2]at this
       ·refine⟨zx.cells,.inr ⟨h0,rfl⟩,?_⟩;have:=AK (hzv w0 ρ).cells cn zx.cells (fun _=>rfl);rwa[q2]at this
      obtain⟨g,hg1,hg2⟩:=hrep;have hbi:((bs:Int))*(cn:Int)≤(bl:Int):=by rw[Int.mul_comm];exact_mod_cast hb'
      have hbig:(bl:Int)<2 ^ 48:=by unfold bl;omega
      refine nR rfl (S:=Instr.makeSlice t (e l) (e c)) (w' :=w.alloc (.cells ((Array.range (cn*sz)).map (fun j=>g[j % g.size]!)) el)) (x:=.slice (some ⟨w.heap.size,0,none⟩) ln cn) ?_ rfl rfl rfl
       (AD hg2 el) fun ρ' n hl hn=> .slice hn (ak _) (fun _=>rfl) (by omega) (.inr ⟨by simp,by simp⟩) (by unfold bl at*;omega)
      unfold Instr.makeSlice;simp only[Sem.run_bind,run_underlying hu,Result.andThen_ok,hx1,hx2,asInt,asIntOf,Sem.run_pure,typeInfo,run_program,hii,hib,wrap_small hcb,wrap_small hlb];rw[if_neg (by
       simp only[uN,decide_eq_true_eq,not_or];refine⟨⟨⟨?_,?_⟩,?_⟩,?_⟩<;>omega)]
      simp only[Sem.run_bind,run_askRoom,Result.andThen_ok,dw hsz,s7];rcases hg1 with⟨h0,rfl⟩|⟨h0,rfl⟩
      ·rw[if_pos h0];simp[newRow]
      ·rw[if_neg h0];simp[newRow,hzr]
 |convert src dst x=>
  simp only[cop]at hc;split at hc<;>try (cases hc;done)
  ·rename_i el xo hs hd hxo;cases hu8:Ja P el<;>simp[hu8]at hc
  ·rename_i el xo hs hd hxo;cases hu8:Ja P el with
   |false=>simp[hu8]at hc
   |true=>
    simp only[hu8,cond_true,j7.m.injEq]at hc;subst hc;have he:P.underlying el=some (.int .u8):=by unfold Ja at hu8;split at hu8<;>simp_all
    simp only[BP]at hv;split at hv<;>try (simp at hv;done)
    rename_i b hb;cases hbb:Nat.ble b.length bl with
    |false=>rw[hbb]at hv;cases hv
    |true=>
    rw[hbb]at hv;simp only[cond_true,ag,ay]at hv;obtain⟨rfl,rfl⟩:=hv;obtain⟨p,hp,hp2⟩:=(H x (by simp[Op.operands]) xo _ hxo hb).gM;exact El hs hd he hp hp2 (dY hbb) w
 |move x=>simp only[cop]at hc;split at hc<;>cases hc
 |assign x=>simp only[cop]at hc;split at hc<;>cases hc
 |pick c a b=>simp only[cop]at hc;split at hc<;>cases hc
 |build t parts=>
  simp only[cop]at hc;split at hc<;>try (cases hc;done)
  ·split at hc<;>try (cases hc;done)
   split at hc<;>cases hc
  ·split at hc<;>try (cases hc;done)
   split at hc<;>cases hc
 |load t a=>simp only[cop]at hc;split at hc<;>cases hc
 |store t a x=>simp only[cop]at hc;split at hc<;>cases hc
 |nilCheck x=>simp only[cop]at hc;split at hc<;>cases hc
 |binOp op t x y yt=>simp only[cop]at hc;split at hc<;>cases hc
 |unOp op t x=>simp only[cop]at hc;split at hc<;>cases hc
 |makeInterface t x=>simp only[cop]at hc;split at hc<;>cases hc
 |makeFunc fn first captured=>
  cases fn<;>simp only[cop]at hc<;>try (cases hc;done)
  split at hc<;>cases hc
 |slice t x lo hi mx=>
  simp only[cop]at hc;split at hc<;>try (cases hc;done)
  ·split at hc<;>try (cases hc;done)
   rename_i lo' hi' mx' _ _ _ _ _ _ sz hsz;cases hq:(mx'.isSome&& !hi'.isSome)<;>rw[hq]at hc<;>cases hc
  ·split at hc<;>try (cases hc;done)
   generalize Nat.ble _ 16777216=q at hc;cases q<;>cases hc
 |fieldAddr t x f=>
  simp only[cop]at hc;split at hc<;>try (cases hc;done)
  split at hc<;>try (cases hc;done)
  split at hc<;>cases hc
 |field t x f=>
  simp only[cop]at hc;split at hc<;>try (cases hc;done)
  split at hc<;>try (cases hc;done)
  split at hc<;>cases hc
 |indexAddr t x i=>
  simp only[cop]at hc;split at hc<;>try (cases hc;done)
  ·split at hc<;>cases hc
  ·split at hc<;>cases hc
 |index t x i=>
  simp only[cop]at hc;split at hc<;>try (cases hc;done)
  split at hc<;>cases hc
 |lookup t x i ok=>
  simp only[cop]at hc;split at hc<;>try (cases hc;done)
  split at hc<;>cases hc
 |extract x i=>simp only[cop]at hc;split at hc<;>cases hc
 |typeAssert x xt t ok=>
  cases ok<;>simp only[cop]at hc<;>try (cases hc;done)
  split at hc<;>cases hc
 |call c=>
  simp only[cop]at hc;split at hc
  ·split at hc<;>cases hc
  ·exact absurd hc qkw
  ·split at hc<;>cases hc
  ·cases hc
 |next x b=>cases b<;>simp only[cop]at hc<;>(try split at hc)<;>cases hc
 |entry x=>simp only[cop]at hc;split at hc<;>cases hc
 |mapUpdate t m k x=>simp only[cop]at hc;split at hc<;>(try split at hc)<;>cases hc
 |insert t m k x=>simp only[cop]at hc;split at hc<;>(try split at hc)<;>cases hc
 |range t x=>simp only[cop]at hc;split at hc<;>cases hc
 |_=>simp[cop]at hc
end
end Go.RE
namespace Go.RE
section
variable{P:Program}{w0:World}{ρ:Ren}{s s' :St}{w:World}{env:PT V}{e:Operand→Value}
theorem JP(h:Array Obj)(b:Nat)(x:Obj)(hb:h[b]? =some x):h.setIfInBounds b x=h:=by
 apply DR;intro i;rw[xO];split
 ·rename_i hi;subst hi;split
  ·exact hb.symm
  ·rename_i hlt;rw[uL (by omega)]
 ·rfl
theorem fE(b:Nat)(t:TypeId)(fr:Nat×Nat):∀ (vs:List Value) (o:Nat) (w:World) (c:Array Value),w.heap[b]? =some (.cells c t fr)→
  ∃ c',w.setCells b o vs={w with heap:=w.heap.setIfInBounds b (.cells c' t fr)}∧c'.size=c.size∧∀ j,c'[j]? =if o≤j∧j<o+vs.length∧j<c.size then vs[j - o]? else c[j]? :=by
 intro vs
 induction vs with
 |nil=>intro o w c h;exact⟨c,by simp[World.setCells,JP _ _ _ h],rfl,fun j=>by rw[if_neg (by simp;omega)]⟩
 |cons v vs ih=>
  intro o w c h;have hset:w.setCell ⟨b,o,none⟩ v={w with heap:=w.heap.setIfInBounds b (.cells (c.setIfInBounds o v) t fr)}:=by
   unfold World.setCell;congr 1;apply DR;intro i;rw[Yo,xO];by_cases hi:b=i
   ·subst hi;rw[if_pos rfl,if_pos rfl,h];have:b<w.heap.size:=by
     rcases uP b w.heap.size with h' |h'
     ·exact h'
     ·rw[uL h']at h;simp at h
    rw[if_pos this];simp
   ·rw[if_neg hi,if_neg hi]
  have hlt:b<w.heap.size:=by
   rcases uP b w.heap.size with h' |h'
   ·exact h'
   ·rw[uL h']at h;simp at h
  obtain⟨c',h1,h2,h3⟩:=ih (o+1) (w.setCell ⟨b,o,none⟩ v) (c.setIfInBounds o v) (by rw[hset];exact Kt hlt);refine⟨c',?_,by simpa using h2,fun j=> ?_⟩
  ·simp only[World.setCells];rw[h1,hset];simp
  ·rw[h3,xO];simp only[PS,fV];by_cases hj:o+1≤j∧j<o+1+vs.length∧j<c.size
   ·rw[if_pos hj,if_pos (by omega),show j - o=(j - (o+1))+1 from by omega];simp
   ·rw[if_neg hj];by_cases hk:o=j
    ·subst hk;by_cases hs:o<c.size
     ·rw[if_pos rfl,if_pos hs,if_pos (by omega)];simp
     ·rw[if_pos rfl,if_neg hs,if_neg (by omega),uL (by omega)]
    ·rw[if_neg hk,if_neg (by omega)]
theorem S3{vs:List V}{xs:List Value}(h:aV w0 ρ vs xs)(h1:vs.all V.one=true):∀ x∈xs,x.oneCell' =true:=by
 intro x hx;obtain⟨i,hi,rfl⟩:=s6.1 hx;have hi' :i<vs.length:=by rw[h.1];exact hi
 have hv:=h.2 i hi' hi;have ho:vs[i].one=true:=fF.1 h1 _ (xP hi');obtain⟨a,b⟩:=hv.one ho;generalize xs[i]=y at*;cases y<;>first|rfl|exact absurd rfl (a _)|exact absurd rfl (b _)
theorem Rj{b off:Nat}{vs:List V}(h:s.write b off vs=some s'):∃ cs,s.get b=some (.row cs)∧off+vs.length≤cs.length∧vs.all V.one=true∧s' =s.put b (.row (kI cs off vs)):=by
 unfold St.write at h;cases hs:s.xM b with
 |none=>simp[hs]at h
 |some cs=>
  simp only[hs]at h;cases hb:(Nat.ble (off+vs.length) cs.length&&vs.all V.one)with
  |false=>simp[hb]at h
  |true=>
   simp only[hb,cond_true,ag]at h;simp only[aI]at hb;exact⟨cs,sZ hs,dY hb.1,hb.2,h.symm⟩
theorem sY{b off r o lim:Nat}{vs:List V}{xs:List Value}(h:s.write b off vs=some s')(hR:Rel w0 ρ s w)(hρ:ρ b=some (r,o,lim))(hx:aV w0 ρ vs xs):
  (storeCells ⟨r,o+off,none⟩ xs).run P w=.ok () (w.setCells r (o+off) xs)∧Rel w0 ρ s' (w.setCells r (o+off) xs)∧kH ρ s w ρ s' (w.setCells r (o+off) xs)∧
   (∀ j,j<xs.length→(w.cell? ⟨r,o+off+j,none⟩).isSome=true)∧(∀ j,j<xs.length→w.frozen? ⟨r,o+off+j,none⟩=false)∧(∀ x∈xs,x.oneCell' =true):=by
 obtain⟨cs,hg,hl,h1,rfl⟩:=Rj h;have ho:=hR.ob b r o lim hρ;rw[hg]at ho;obtain⟨c,t,fr,e1,e2,e3,e4,e5⟩:=ho;have hlen:=hx.1;have hc:∀ j,j<xs.length→(w.cell? ⟨r,o+off+j,none⟩).isSome=true:=fun j hj=>by
  simp only[World.cell?,e1,Ky,jV,if_false];rw[mQ (by omega)];rfl
 have hf:∀ j,j<xs.length→w.frozen? ⟨r,o+off+j,none⟩=false:=fun j hj=>by
  obtain⟨lo,hi⟩:=fr;simp only[World.frozen?,e1];have:=e4 (o+off+j) (by omega);simp at this⊢;omega
 have ho1:=S3 hx h1;obtain⟨c',g1,g2,g3⟩:=fE r t fr xs (o+off) w c e1;have hput:=hR.put hρ (by rw[hg];trivial) (ob:=.row (kI cs off vs)) (obj:=.cells c' t fr) ⟨c',t,fr,rfl,by omega,by rw[sD _ _ _ hl];exact e3,e4,fun i hi=>by
  rw[sD _ _ _ hl]at hi;have hget:=Oe cs off vs hl i;rw[aQ (by rw[sD _ _ _ hl];exact hi)]at hget;rw[g3];by_cases c1:i<off
  ·rw[if_pos c1,aQ hi]at hget;simp only[ag]at hget;rw[if_neg (by omega),hget];exact e5 i hi
  ·rw[if_neg c1]at hget;by_cases c2:i<off+vs.length
   ·rw[if_pos c2,aQ (by omega)]at hget;simp only[ag]at hget;rw[if_pos (by omega),hget];obtain⟨x,a1,a2⟩:=hx.get (aQ (show i - off<vs.length by omega));exact⟨x,by rw[←a1];congr 1;omega,a2⟩
   ·rw[if_neg c2,aQ hi]at hget;simp only[ag]at hget;rw[if_neg (by omega),hget];exact e5 i hi⟩
 have hrun:=run_storeCells_cells (P:=P) r (o+off) xs 0 w (by simpa using hc) (by simpa using hf) ho1;simp only[Nat.add_zero]at hrun;rw[←g1]at hput;exact⟨hrun,hput.1,hput.2,hc,hf,ho1⟩
def qgG(P:Program)(w0:World)(ρ:Ren)(s:St)(w:World)(e:Operand→Value)(o:Oper)(v:V)(s' :St):Prop:=
 ∃ ρ' w' nx,(execOp e o).run P w=.ok nx w'∧Rel w0 ρ' s' w'∧kH ρ s w ρ' s' w'∧((∃ x,nx=.value x∧aF w0 ρ' v x)∨(nx=.skip∧v=.aZ []))
theorem Cx{P:Program}{sz:Nat}{str:Bool}{x:V}{y:Value}{new:List V}{k:Nat}{tx:TypeId}(hk:if str then P.underlying tx=some .string else ∃ el,P.underlying tx=some (.slice el))
  (h:iU s sz str x=some new) (hl:u7 x=some k) (hR:Rel w0 ρ s w) (hx:aF w0 ρ x y) (h1:new.all V.one=true):∃ xs,Src P sz tx y k xs w∧aV w0 ρ new xs:=by
 cases str with
 |true=>
  cases x<;>simp[iU]at h;rename_i b;cases hb:Nat.beq sz 1 with
  |false=>simp[hb]at h
  |true=>
   simp[hb]at h;subst h;have:sz=1:=aU hb;subst this;simp[u7]at hl;subst hl;obtain⟨p,rfl,hp⟩:=hx.gM;have hs:p.size=b.length:=by rw[←hp];simp
   refine⟨byteCells p,by rw[←hs];exact Src.ofString w (by simpa using hk) p,?_⟩;subst hp;exact⟨by simp[byteCells],fun i h1 h2=>by simp only[byteCells,Fu,iK];exact .int _ _⟩
 |false=>
  obtain⟨el,hk⟩:∃ el,P.underlying tx=some (.slice el):=by simpa using hk
  have h' :bN s sz x=some new:=by cases x<;>simpa[iU]using h
  rcases gB h' hR hx with⟨rfl,rfl⟩|⟨a,len,cap,xs,rfl,g0,g1,g2,g3⟩
  ·have:k=0:=by cases hx;simp[u7]at hl;omega
   subst this;exact⟨[],Src.ofNil w hk 0,.nil⟩
  ·rw[g0]at hl;simp at hl;subst hl;exact⟨xs,Src.ofSlice w hk a len cap xs g1 g2 (S3 g3 h1),g3⟩
theorem Src.nil{sz:Nat}{tx:TypeId}{y:Value}{xs:List Value}(h:Src P sz tx y 0 xs w):xs=[]:=by
 have:=h.newsLen;simp at this;exact this
theorem FJ{t tx el ty:TypeId}{sz bs:Nat}{str:Bool}{z a x v:V}{ax y:Value}(ht:P.underlying t=some (.slice el))(hk:if str then P.underlying tx=some .string else ∃ el,P.underlying tx=some (.slice el))
  (hsz:gH P el=some sz) (hbs:xY P el=some bs) (hz:zeroOf P el=some z) (hzs:z.cells.length=sz) (hv:qo s sz bs str a x=some (v,s')) (hR:Rel w0 ρ s w) (ha:aF w0 ρ a ax) (hx:aF w0 ρ x y):
  ∃ ρ' w' r,(Builtin.append_ #[t,tx] ty #[ax,y]).run P w=.ok r w'∧Rel w0 ρ' s' w'∧kH ρ s w ρ' s' w'∧aF w0 ρ' v r:=by
 obtain⟨i,hi,his⟩:=Ga hsz;have hib:i.bytes=bs:=by unfold xY at hbs;rw[hi]at hbs;simpa using hbs
 obtain⟨zx,hiz,hzx⟩:∃ zx,i.zero=some zx∧zx.cells.size=sz:=by
  unfold zeroOf at hz;rw[hi]at hz;cases hq:i.zero with
  |none=>simp[hq]at hz
  |some zx=>
   simp only[hq]at hz;have:=(sr (w0:=w0) (ρ:=ρ) hz).cells.1;exact⟨zx,rfl,by rw[←hzs,this];simp⟩
 subst his;subst hib;unfold qo at hv;split at hv<;>try (simp at hv;done)
 rename_i new k hnew hlen;cases h1:new.all V.one with
 |false=>simp[h1]at hv
 |true=>
  simp only[h1,cond_true]at hv;obtain⟨xs,hsrc,hrel⟩:=Cx (P:=P) hk hnew hlen hR hx h1
  -- a new row
  have grow:∀ (s0:St) (base:Option Addr) (len cap:Nat) (old:List V) (olds:List Value),Rel w0 ρ s0 w→kH ρ s w ρ s0 w→aV w0 ρ old olds→
    (Builtin.firstCells i.size len (.slice base len cap)).run P w.drew=.ok olds.toArray w.drew→cap<len+k→(len+k)*i.bytes≤bl→len+k≤bl→olds.length=len*i.size→
    ∃ ρ' w' r,(Builtin.append_ #[t,tx] ty #[.slice base len cap,y]).run P w=.ok r w'∧Rel w0 ρ' (s0.alloc (.row (old++new))) w'∧kH ρ s w ρ' (s0.alloc (.row (old++new))) w'∧
     aF w0 ρ' (.slice s0.next 0 (len+k) (len+k) i.size false) r:=fun s0 base len cap old olds hR0 hS0 hold hfirst hcap hb hb2 hol=>by
   have hrun:=run_append_grow_src (P:=P) w t tx ty el i zx ht hi hiz base len cap olds hfirst y k xs hsrc hcap (by unfold bl at hb2;omega) (growslice_fits hcap (by unfold bl at hb;omega));have hge:=grownCap_ge w (len+k) cap el;generalize hG:grownCap w (len+k) cap el=G at hrun hge;have hRd:Rel w0 ρ s0 w.drew:=hR0.same rfl rfl rfl;have hrow:=S2 (hold.append hrel) (Builtin.zeroCells zx.cells (G - (len+k))).toList el (0,0) (by simp);rw[show((olds++xs)++(Builtin.zeroCells zx.cells (G - (len+k))).toList).toArray=(olds++xs).toArray++Builtin.zeroCells zx.cells (G - (len+k))from by apply Fv;simp]at hrow;obtain⟨a1,a2⟩:=hRd.alloc hrow;refine⟨_,_,_,hrun,a1,hS0.trans ((kH.same (ρ:=ρ) (s:=s0) (w:=w) (w' :=w.drew) rfl).trans a2),.slice (Ren.add_same _ _ _) hge (fun h=>by simp at h) (ak _) (.inr ⟨rfl,?_⟩) (by rw[←hG];exact grownCap_le (by unfold bl at hb2;omega))⟩;have hzl:(Builtin.zeroCells zx.cells (G - (len+k))).toList.length=(G - (len+k))*i.size:=by simp[Builtin.zeroCells,hzx]
   rw[hzl,gX,hol,hsrc.newsLen,←qj,←qj];simp only[kF];exact iB _ (by omega)
  split at hv
  ·cases ha;cases hk0:Nat.beq k 0 with
   |true=>
    have:k=0:=aU hk0;subst this;simp only[hk0,cond_true,ag,ay]at hv;obtain⟨rfl,rfl⟩:=hv;rw[Src.nil hsrc]at hsrc;exact⟨ρ,w,_,run_append_nothing w t tx ty el i ht hi none 0 0 (ak _) y hsrc,hR,.refl _ _ _,.bB⟩
   |false=>
    have hkp:k≠0:=by intro h;subst h;simp[Nat.beq]at hk0
    simp only[hk0,cond_false]at hv;cases hb:(Nat.ble (k*i.bytes) bl&&Nat.ble k bl)with
    |false=>simp[hb]at hv
    |true=>
     simp only[hb,cond_true,ag,ay]at hv;obtain⟨rfl,rfl⟩:=hv;simp only[aI]at hb;obtain⟨ρ',w',r,g1,g2,g3,g4⟩:=grow s none 0 0 [] [] hR (.refl _ _ _) .nil (by simp[Builtin.firstCells]) (by omega) (by simpa using dY hb.1) (by simpa using dY hb.2) (by simp);exact⟨ρ',w',r,g1,by simpa using g2,by simpa using g3,by simpa using g4⟩
  ·cases ha;rename_i za;cases hk0:Nat.beq k 0 with
   |true=>
    have:k=0:=aU hk0;subst this;simp only[hk0,cond_true,ag,ay]at hv;obtain⟨rfl,rfl⟩:=hv;rw[Src.nil hsrc]at hsrc;exact⟨ρ,w,_,run_append_nothing w t tx ty el i ht hi (some za) 0 0 (ak _) y hsrc,hR,.refl _ _ _,.bQ⟩
   |false=>
    have hkp:k≠0:=by intro h;subst h;simp[Nat.beq]at hk0
    simp only[hk0,cond_false]at hv;cases hb:(Nat.ble (k*i.bytes) bl&&Nat.ble k bl)with
    |false=>simp[hb]at hv
    |true=>
     simp only[hb,cond_true,ag,ay]at hv;obtain⟨rfl,rfl⟩:=hv;simp only[aI]at hb;obtain⟨ρ',w',r,g1,g2,g3,g4⟩:=grow s (some za) 0 0 [] [] hR (.refl _ _ _) .nil (run_firstCells_some (P:=P) w.drew i.size 0 za 0 0 [] (by simp) (by simp)) (by omega) (by simpa using dY hb.1) (by simpa using dY hb.2) (by simp);exact⟨ρ',w',r,g1,by simpa using g2,by simpa using g3,by simpa using g4⟩
  ·rename_i row off len zz;cases hk0:Nat.beq k 0 with
   |false=>simp[hk0]at hv
   |true=>
    have:k=0:=aU hk0;subst this;simp only[hk0,cond_true,ag,ay]at hv;obtain⟨rfl,rfl⟩:=hv;rw[Src.nil hsrc]at hsrc;cases ha with
    |ah c hr hc hcv h3 h4=>
     exact⟨ρ,w,_,run_append_nothing w t tx ty el i ht hi _ _ _ h3 y hsrc,hR,.refl _ _ _,.ah c hr hc hcv h3 h4⟩
  ·rename_i b off len cap zz ex;cases hb:(Nat.beq zz i.size&&Nat.ble ((len+k)*i.bytes) bl&&Nat.ble (len+k) bl)with
   |false=>simp[hb]at hv
   |true=>
    simp only[hb,cond_true]at hv;simp only[aI]at hb;have hzz:zz=i.size:=aU hb.1.1;have hb1:=dY hb.1.2;have hb2:=dY hb.2;subst hzz;cases ha with
    |slice hρ h1' h2 h3 h4 hcb=>
     rename_i r o lim aa cap';cases hc:Nat.ble (len+k) cap with
     |true=>
      have hc' :=dY hc;simp only[hc,cond_true]at hv;cases hk0:Nat.beq k 0 with
      |true=>
       have:k=0:=aU hk0;subst this;simp only[hk0,cond_true,ag,ay]at hv;obtain⟨rfl,rfl⟩:=hv;rw[Src.nil hsrc]at hsrc;exact⟨ρ,w,_,run_append_nothing w t tx ty el i ht hi _ _ _ (by omega) y hsrc,hR,.refl _ _ _,.slice hρ h1' h2 h3 h4 hcb⟩
      |false=>
       have hkp:k≠0:=by intro h;subst h;simp[Nat.beq]at hk0
       simp only[hk0,cond_false]at hv;cases hw:s.write b (off+len*i.size) new with
       |none=>simp[hw]at hv
       |some s1=>
        simp only[hw,ag,ay]at hv;obtain⟨rfl,rfl⟩:=hv;rcases h4 with h4|⟨rfl,h5⟩
        ·omega
        ·obtain⟨q1,q2,q3,q4,q5,q6⟩:=sY (P:=P) hw hR hρ hrel;rw[←gI]at q1 q2 q3 q4 q5;have hrun:=run_append_room_src (P:=P) w t tx ty el i ht hi r (o+off) len cap' y k xs hsrc (by omega) q4 q5;exact⟨ρ,_,_,hrun,q2,q3,.slice hρ h1' h2 (by omega) (.inr ⟨rfl,h5⟩) hcb⟩
     |false=>
      have hc' :cap<len+k:=by
       rcases uP cap (len+k)with h|h
       ·exact h
       ·rw[jA h]at hc;simp at hc
      simp only[hc,cond_false]at hv;cases hwr:s.xM b with
      |none=>simp[hwr]at hv
      |some wr=>
      cases hold:bN s i.size (.slice b off len cap i.size ex)with
      |none=>simp[hwr,hold]at hv
      |some old=>
       simp only[hwr,hold,ag,ay]at hv;obtain⟨rfl,rfl⟩:=hv;rcases gB hold hR (.slice hρ h1' h2 h3 h4 hcb)with⟨hh,_⟩|⟨aa',len',cap'',olds,hh,g0,g1,g2,g3⟩
       ·cases hh
       ·cases hh;have hfirst:(Builtin.firstCells i.size len (.slice (some aa) len cap')).run P w.drew=.ok olds.toArray w.drew:=run_firstCells_some (P:=P) w.drew i.size len aa len cap' olds g1 (by simpa using g2);cases ex with
        |true=>
         have:cap' =cap:=h2 rfl;subst this;simpa using grow s (some aa) len cap' old olds hR (.refl _ _ _) g3 hfirst hc' hb1 hb2 g1
        |false=>
         obtain⟨k1,k2⟩:=hR.kill hρ;by_cases hcc:cap' <len+k
         ·exact grow (s.put b .dead) (some aa) len cap' old olds k1 k2 g3 hfirst hcc hb1 hb2 g1
         ·rcases h4 with h4|⟨rfl,h5⟩
          ·omega
          ·have hrow:∃ cs,s.get b=some (.row cs):=⟨wr,sZ hwr⟩;obtain⟨cs,hg⟩:=hrow;have ho:=hR.ob b r o lim hρ;rw[hg]at ho;obtain⟨c,tt,fr,e1,e2,e3,e4,e5⟩:=ho;have hnl:=hsrc.newsLen;have hfit:(len+k)*i.size≤cap'*i.size:=iB _ (by omega);rw[qj]at hfit;have hcell:∀ j,j<xs.length→(w.cell? ⟨r,o+off+len*i.size+j,none⟩).isSome=true:=fun j hj=>by
            simp only[World.cell?,e1,Ky,jV,if_false];rw[mQ (by omega)];rfl
           have hfz:∀ j,j<xs.length→w.frozen? ⟨r,o+off+len*i.size+j,none⟩=false:=fun j hj=>by
            obtain⟨lo,hi⟩:=fr;simp only[World.frozen?,e1];have:=e4 (o+off+len*i.size+j) (by omega);simp at this⊢;omega
           have hrun:=run_append_room_src (P:=P) w t tx ty el i ht hi r (o+off) len cap' y k xs hsrc (by omega) hcell hfz;obtain⟨c',s1,s2,s3⟩:=fE r tt fr xs (o+off+len*i.size) w c e1;have hol:=g3.1;have hnr:=hrel.1;have hgrow:=hR.grow hρ (by rw[hg];trivial) (ob:=.row (old++new)) (obj:=.cells c' tt fr) (o' :=o+off) ⟨c',tt,fr,rfl,by omega,by simp;omega,e4,fun j hj=>by
            simp only[gX]at hj;rw[s3];by_cases hjo:j<old.length
            ·rw[if_neg (by omega)];obtain⟨x1,x2,x3⟩:=g3.get (aQ hjo);have hx4:=g2 j x1 x2;rw[iJ]at hx4;simp only[World.cell?,e1,Ky,jV,if_false]at hx4;exact⟨x1,hx4,by rw[PN hjo];exact x3⟩
            ·rw[if_pos (by omega)];obtain⟨x1,x2,x3⟩:=hrel.get (aQ (show j - old.length<new.length by omega));refine⟨x1,by rw[←x2];congr 1;omega,?_⟩;rw[PO (by omega)];exact x3⟩
           rw[←s1]at hgrow;exact⟨_,_,_,hrun,hgrow.1,hgrow.2,.slice (Ren.add_same _ _ _) (by omega) (fun h=>by simp at h) (ak _) (.inr ⟨rfl,by simpa using h5⟩) hcb⟩
  ·simp at hv
end
end Go.RE
namespace Go.RE
section
variable{P:Program}{w0:World}{ρ:Ren}{s s' :St}{w:World}{env:PT V}{e:Operand→Value}
def kJ(w0:World)(ρ:Ren)(a:List ME)(b:List MapEntry):Prop:=a.length=b.length∧∀ i (h:i<a.length) (h' :i<b.length),aF w0 ρ a[i].key b[i].key∧aF w0 ρ a[i].val b[i].val∧a[i].born=b[i].born
theorem kJ.get{a:List ME}{b:List MapEntry}(h:kJ w0 ρ a b){i:Nat}{m:ME}(hm:a[i]? =some m):∃ x,b[i]? =some x∧aF w0 ρ m.key x.key∧aF w0 ρ m.val x.val∧m.born=x.born:=by
 obtain⟨hi,rfl⟩:=aH.1 hm;exact⟨b[i]'(h.1▸hi),aQ _,h.2 i hi (h.1▸hi)⟩
theorem kJ.vj{a:List ME}{b:List MapEntry}(hl:a.length=b.length)(h:∀ (i:Nat) m,a[i]? =some m→∃ x,b[i]? =some x∧aF w0 ρ m.key x.key∧aF w0 ρ m.val x.val∧m.born=x.born):kJ w0 ρ a b:=
 ⟨hl,fun i h1 h2=>by
  obtain⟨x,hx,hr⟩:=h i a[i] (aQ h1);rw[aQ h2]at hx;simp at hx;rw[hx];exact hr⟩
theorem SX(f:ME→ME):∀ (l:List ME) (i:Nat),lY i f l=l.modify i f:=by
 intro l
 induction l with
 |nil=>intro i;cases i<;>rfl
 |cons a l ih=>intro i;cases i with
  |zero=>rfl
  |succ i=>simp[lY,ih]
theorem K8:∀ (l:List ME) (i:Nat),iu i l=l.eraseIdx i:=by
 intro l
 induction l with
 |nil=>intro i;cases i<;>rfl
 |cons a l ih=>intro i;cases i with
  |zero=>rfl
  |succ i=>simp[iu,ih]
theorem kJ.modify{a:List ME}{b:List MapEntry}(h:kJ w0 ρ a b)(i:Nat){k v:V}{k' v' :Value}(hk:aF w0 ρ k k')(hv:aF w0 ρ v v'):
  kJ w0 ρ (a.modify i fun e=>{e with key:=k,val:=v}) (b.modify i fun e=>{e with key:=k',val:=v'}):=by
 refine kJ.vj (by simp[h.1]) fun j m hm=> ?_;rw[List.getElem?_modify]at hm;rw[List.getElem?_modify];by_cases hij:i=j
 ·subst hij;simp at hm;obtain⟨m0,h0,rfl⟩:=hm;obtain⟨x,x1,x2,x3,x4⟩:=h.get h0;exact⟨{x with key:=k',val:=v'},by simp[x1],hk,hv,x4⟩
 ·simp[hij]at hm⊢;exact h.get hm
theorem kJ.eraseIdx{a:List ME}{b:List MapEntry}(h:kJ w0 ρ a b)(i:Nat):kJ w0 ρ (a.eraseIdx i) (b.eraseIdx i):=by
 refine kJ.vj (by simp[List.length_eraseIdx,h.1]) fun j m hm=> ?_;rw[List.getElem?_eraseIdx]at hm⊢;split
 ·rename_i hlt;rw[if_pos hlt]at hm;exact h.get hm
 ·rename_i hlt;rw[if_neg hlt]at hm;exact h.get hm
theorem kJ.push{a:List ME}{b:List MapEntry}(h:kJ w0 ρ a b){k v:V}{k' v' :Value}(n:Nat)(hk:aF w0 ρ k k')(hv:aF w0 ρ v v'):
  kJ w0 ρ (a++[{key:=k,val:=v,born:=n}]) (b++[{key:=k',val:=v',born:=n}]):=by
 refine kJ.vj (by simp[h.1]) fun j m hm=> ?_;by_cases hj:j<a.length
 ·rw[bG hj]at hm;rw[bG (h.1▸hj)];exact h.get hm
 ·rw[dh (by omega)]at hm;rw[dh (by have:=h.1;omega),←h.1];have hz:j - a.length=0:=by
   rcases Nat.eq_zero_or_pos (j - a.length)with h0|h0
   ·exact h0
   ·rw[z8 (by simp;omega)]at hm;simp at hm
  rw[hz]at hm⊢;simp at hm;subst hm;exact⟨_,rfl,hk,hv,rfl⟩
theorem Rel.ZR(hR:Rel w0 ρ s w){m r o lim:Nat}{es:List ME}{clock:Nat}(hρ:ρ m=some (r,o,lim))(hs:s.get m=some (.map es clock)):
  ∃ es',w.heap[r]? =some (.map es' clock)∧kJ w0 ρ es es'.toList:=by
 obtain⟨es',g1,g2,g3⟩:=hR.LF hρ hs;exact⟨es',g1,by simpa using g2,fun i h h' =>by simpa using g3 i h (by simpa using h')⟩
theorem Rel.Gp(hR:Rel w0 ρ s w){m r o lim:Nat}{es:List ME}{clock:Nat}(hρ:ρ m=some (r,o,lim))(hs:s.get m=some (.map es clock)){es1:List ME}{es1' :Array MapEntry}{c:Nat}(h:kJ w0 ρ es1 es1'.toList):
  Rel w0 ρ (s.put m (.map es1 c)) {w with heap:=w.heap.setIfInBounds r (.map es1' c)}∧kH ρ s w ρ (s.put m (.map es1 c)) {w with heap:=w.heap.setIfInBounds r (.map es1' c)}:=
 hR.put hρ (by rw[hs];trivial) ⟨es1',rfl,by simpa using h.1,fun i h1 h2=>h.2 i h1 (by simpa using h2)⟩
theorem run_setObj_map{r:Nat}{es' :Array MapEntry}{clock:Nat}(h:w.heap[r]? =some (.map es' clock))(o:Obj):(setObj r o).run P w=.ok () {w with heap:=w.heap.setIfInBounds r o}:=by
 simp[setObj,Sem.run,h]
theorem uD{kk:iG}{k:V}{y:Value}{t:TypeId}{es:List ME}{es' :Array MapEntry}{res:Option (Nat×V)}(hK:rJ P t kk)(hk:aF w0 ρ k y)(h:kJ w0 ρ es es'.toList)(hf:nF kk k es 0=some res)(w:World):
  match res with
  |none=>(Instr.findKey t y es'.toList).run P w=.ok none w
  |some (j,_)=>∃ v',(Instr.findKey t y es'.toList).run P w=.ok (some (j,v')) w∧∃ x,es'[j]? =some x∧(Instr.keyThatStays x.key y).run P w=.ok y w:=by
 obtain⟨D,r',e1,e2,e3⟩:=rR (P:=P) (es:=es) (es' :=es'.toList) (i:=0) hK hk hf h.1 h.2;have hfk:(Instr.findKey t y es'.toList).run P w=.ok r' w:=by simp[Instr.findKey,run_underlying e1,e2]
 cases res with
 |none=>
  cases r' with
  |none=>exact hfk
  |some _=>simp at e3
 |some jv=>
  obtain⟨j,v⟩:=jv;cases r' with
  |none=>simp at e3
  |some jv' =>
   obtain⟨j',v'⟩:=jv';obtain⟨rfl,a2,a3,a4,a5⟩:=e3;refine⟨v',hfk,es'[j]'(by simpa using a4),by simp at a4;simp[a4],?_⟩;have a5' :Instr.sameNow D y (es'[j]'(by simpa using a4)).key=some true:=by simpa using a5
   generalize (es'[j]'(by simpa using a4)).key=q at a5';have:Instr.sameBits 10000 q y=true:=by
    unfold Instr.sameNow at a5';split at a5' <;>simp at a5'
    ·obtain⟨rfl,rfl⟩:=a5';simp[Instr.sameBits]
    ·rename_i p q;have:(q==p)=true:=by
      rw[beq_toListBytes]at a5'⊢;simp at a5'⊢;exact a5'.symm
     simp[Instr.sameBits,this]
    ·subst a5';simp[Instr.sameBits]
   simp[Instr.keyThatStays,this]
theorem rj{t kt et:TypeId}{kk:iG}{m k x:V}{mx kx xx:Value}(hu:P.underlying t=some (.map kt et))(hkk:lR P kt=some kk){mm:Nat}{es:List ME}{clock:Nat}(hm:m=.map mm)(hs:s.get mm=some (.map es clock))
  (hp:plainKey kk k=true) {res:Option (Nat×V)} (hf:nF kk k es 0=some res) (hR:Rel w0 ρ s w) (r1:aF w0 ρ m mx) (r2:aF w0 ρ k kx) (r3:aF w0 ρ x xx):
  ∃ w',(Instr.mapUpdate t mx kx xx).run P w=.ok () w'∧
   Rel w0 ρ (match res with|some (i,_)=>s.put mm (.map (lY i (fun e=>{e with key:=k,val:=x}) es) clock)|none=>s.put mm (.map (es++[{key:=k,val:=x,born:=clock}]) (clock+1))) w'∧
   kH ρ s w ρ (match res with|some (i,_)=>s.put mm (.map (lY i (fun e=>{e with key:=k,val:=x}) es) clock)|none=>s.put mm (.map (es++[{key:=k,val:=x,born:=clock}]) (clock+1))) w' :=by
 subst hm;have hK:=rM hkk;cases r1 with
 |map hρ=>
  rename_i r o lim;obtain⟨es',g1,g2⟩:=hR.ZR hρ hs;have hc:=iM (P:=P) hK hp r2 false 9999 w;have hfk:=uD (P:=P) hK r2 g2 hf w;cases res with
  |none=>
   simp only at hfk⊢;have hput:=hR.Gp hρ hs (es1' :=es'.push {key:=kx,val:=xx,born:=clock}) (c:=clock+1) (by simpa using g2.push clock r2 r3);exact⟨_,by simp[Instr.mapUpdate,run_underlying hu,run_getObj_map g1,hc,hfk,run_setObj_map g1],hput⟩
  |some jv=>
   obtain⟨j,v⟩:=jv;obtain⟨v',h1,y,h2,h3⟩:=hfk;simp only;have hput:=hR.Gp hρ hs (es1:=lY j (fun e=>{e with key:=k,val:=x}) es) (es1' :=es'.modify j fun e=>{e with key:=kx,val:=xx}) (c:=clock) (by rw[SX];simpa using g2.modify j r2 r3);exact⟨_,by simp[Instr.mapUpdate,run_underlying hu,run_getObj_map g1,hc,h1,h2,h3,run_setObj_map g1],hput⟩
theorem qkv{b:Builtin}{ts:List TypeId}{xs:List bO}{ho:zv}(h:kg P b ts xs=.h ho):
  (b=.append∧∃ t u a x el sz bs z str,ts=[t,u]∧xs=[a,x]∧P.underlying t=some (.slice el)∧(if str=true then P.underlying u=some .string else ∃ el,P.underlying u=some (.slice el))∧
   gH P el=some sz∧xY P el=some bs∧zeroOf P el=some z∧z.cells.length=sz∧ho=.append sz bs str a x)∨
  (b=.copy∧∃ t u d x el sz str,ts=[t,u]∧xs=[d,x]∧P.underlying t=some (.slice el)∧(if str=true then P.underlying u=some .string else ∃ el,P.underlying u=some (.slice el))∧gH P el=some sz∧ho=.copy sz str d x)∨
  (b=.delete∧∃ t ts' m k kt et kk,ts=t::ts'∧xs=[m,k]∧P.underlying t=some (.map kt et)∧lR P kt=some kk∧ho=.delete kk m k):=by
 have okS:∀ {t el:TypeId},oL P t=some el→P.underlying t=some (.slice el):=fun {t el} h=>by unfold oL at h;split at h<;>simp_all
 unfold kg at h;split at h
 ·split at h<;>cases h
 ·split at h<;>cases h
 ·cases h
 ·cases h
 ·rename_i t u a x;split at h<;>try (cases h;done)
  rename_i el ud h1 h2;split at h<;>try (cases h;done)
  ·rename_i el2 sz bs z g1 g2 g3;cases hq:Nat.beq z.cells.length sz with
   |false=>rw[hq]at h;cases h
   |true=>
    rw[hq]at h;cases h;exact .inl ⟨rfl,t,u,a,x,el,sz,bs,z,false,rfl,rfl,okS h1,by simpa using⟨_,h2⟩,g1,g2,g3,aU hq,rfl⟩
  ·rename_i sz bs z g1 g2 g3;cases hq:Nat.beq z.cells.length sz with
   |false=>rw[hq]at h;cases h
   |true=>
    rw[hq]at h;cases h;exact .inl ⟨rfl,t,u,a,x,el,sz,bs,z,true,rfl,rfl,okS h1,by simpa using h2,g1,g2,g3,aU hq,rfl⟩
 ·rename_i t u d x;split at h<;>try (cases h;done)
  rename_i el ud h1 h2;split at h<;>cases h
  ·rename_i g1;exact .inr (.inl ⟨rfl,t,u,d,x,el,_,false,rfl,rfl,okS h1,by simpa using⟨_,h2⟩,g1,rfl⟩)
  ·rename_i g1;exact .inr (.inl ⟨rfl,t,u,d,x,el,_,true,rfl,rfl,okS h1,by simpa using h2,g1,rfl⟩)
 ·rename_i t ts' m k;split at h<;>try (cases h;done)
  rename_i kt et hu;split at h<;>cases h;rename_i kk hkk;exact .inr (.inr ⟨rfl,t,ts',m,k,kt,et,kk,rfl,rfl,hu,hkk,rfl⟩)
 ·cases h
theorem Q6{sz:Nat}{str:Bool}{x:V}{y:Value}{new:List V}{k:Nat}(h:iU s sz str x=some new)(hl:u7 x=some k)(hR:Rel w0 ρ s w)(hx:aF w0 ρ x y):
  ∃ xs,aV w0 ρ new xs∧xs.length=k*sz∧(∀ w' :World,(Builtin.lenOf y).run P w' =.ok k w')∧∀ n,n≤k→(Builtin.firstCells sz n y).run P w=.ok (xs.take (n*sz)).toArray w:=by
 cases str with
 |true=>
  cases x<;>simp[iU]at h;rename_i b;cases hb:Nat.beq sz 1 with
  |false=>simp[hb]at h
  |true=>
   simp[hb]at h;subst h;have:sz=1:=aU hb;subst this;simp[u7]at hl;subst hl;obtain⟨p,rfl,hp⟩:=hx.gM;have hs:p.size=b.length:=by rw[←hp];simp
   subst hp;refine⟨byteCells p,⟨by simp[byteCells],fun i h1 h2=>by simp only[byteCells,Fu,iK];exact .int _ _⟩,by rw[byteCells_length,←hs,PA],fun w' =>by rw[←hs];rfl,fun n hn=> ?_⟩;simp[Builtin.firstCells,byteCells];apply Fv;simp
 |false=>
  have h' :bN s sz x=some new:=by cases x<;>simpa[iU]using h
  rcases gB h' hR hx with⟨rfl,rfl⟩|⟨a,len,cap,xs,rfl,g0,g1,g2,g3⟩
  ·have:k=0:=by cases hx;simp[u7]at hl;omega
   subst this;exact⟨[],.nil,by simp,fun _=>rfl,fun n hn=>by simp[Builtin.firstCells]⟩
  ·rw[g0]at hl;simp at hl;subst hl;exact⟨xs,g3,g1,fun _=>rfl,fun n hn=>run_firstCells_some (P:=P) w sz n a len cap _ (by rw[iD,g1];exact Fw (iB _ hn)) fun j u hj=>g2 j u (by
    rw[fU]at hj;split at hj<;>simp_all)⟩
theorem K2{dt tx el ty:TypeId}{sz:Nat}{str:Bool}{d x v:V}{dx y:Value}(hu:P.underlying dt=some (.slice el))(hsz:gH P el=some sz)(hv:copyV s sz str d x=some (v,s'))(hR:Rel w0 ρ s w)
  (hd:aF w0 ρ d dx) (hx:aF w0 ρ x y):∃ w' r,(Builtin.copy_ #[dt,tx] ty #[dx,y]).run P w=.ok r w'∧Rel w0 ρ s' w'∧kH ρ s w ρ s' w'∧aF w0 ρ v r:=by
 unfold copyV at hv;split at hv<;>try (simp at hv;done)
 rename_i new k hnew hl;obtain⟨xs,q1,q2,q3,q4⟩:=Q6 (P:=P) hnew hl hR hx;split at hv
 ·simp only[ag,ay]at hv;obtain⟨rfl,rfl⟩:=hv;cases hd;have h0:=q4 0 (bU _);refine⟨w,goInt 0,?_,hR,.refl _ _ _,.int _ _⟩;have hm:Nat.min k 0=0:=Nat.min_zero k;simp[Builtin.copy_,run_underlying hu,q3,dw hsz,h0,hm]
 ·simp only[ag,ay]at hv;obtain⟨rfl,rfl⟩:=hv;cases hd;have h0:=q4 0 (bU _);refine⟨w,goInt 0,?_,hR,.refl _ _ _,.int _ _⟩;have hm:Nat.min k 0=0:=Nat.min_zero k;simp[Builtin.copy_,run_underlying hu,q3,dw hsz,h0,hm,storeCells]
 ·rename_i b off len cap z ex;cases hz:Nat.beq z sz with
  |false=>simp[hz]at hv
  |true=>
   have hzz:z=sz:=aU hz;subst hzz;simp only[hz,cond_true]at hv;cases hw:s.write b off (new.take ((min k len)*z))with
   |none=>simp[hw]at hv
   |some s1=>
    simp only[hw,ag,ay]at hv;obtain⟨rfl,rfl⟩:=hv;cases hd with
    |slice hρ h1 h2 h3 h4 hcb=>
     rename_i r o lim a cap';have h0:=q4 (min k len) (Nat.min_le_left _ _);obtain⟨p1,p2,p3,_⟩:=sY (P:=P) hw hR hρ (q1.take ((min k len)*z));have hm:Nat.min k len=min k len:=rfl;rcases h4 with h4|⟨rfl,h5⟩
     ·have hl0:len=0:=by omega
      subst hl0;have hxs:List.take (min k 0*z) xs=[]:=by simp
      rw[hxs]at p1 p2 p3 h0;simp only[World.setCells]at p2 p3;exact⟨w,goInt 0,by simp[Builtin.copy_,run_underlying hu,q3,dw hsz,hm]at h0⊢;simp[h0,storeCells],p2,p3,by rw[show((min k 0:Nat):Int)=0 from by simp];exact .int _ _⟩
     ·exact⟨_,goInt (min k len:Nat),by simp[Builtin.copy_,run_underlying hu,q3,dw hsz,hm,h0,p1],p2,p3,.int _ _⟩
 ·simp at hv
theorem Qv{o:Oper}{ho:zv}{v:V}(hc:cop P o.op=.h ho)(hv:zH env s ho=some (v,s'))(hR:Rel w0 ρ s w)(H:∀ x∈o.op.operands,jP w0 ρ env e x):qgG P w0 ρ s w e o v s' :=by
 obtain⟨dst,op,type,pos,after,guard⟩:=o;simp only at hc H;cases op with
 |store t a x=>
  simp only[cop]at hc;split at hc<;>cases hc;rename_i n ao xo hn hao hxo;simp only[zH]at hv;split at hv<;>try (simp at hv;done)
  rename_i b off u ha hu;cases hq:Nat.beq u.cells.length n with
  |false=>simp[hq]at hv
  |true=>
   have hq' :u.cells.length=n:=aU hq;simp only[hq,cond_true]at hv;cases hw:s.write b off u.cells with
   |none=>simp[hw]at hv
   |some s1=>
    simp only[hw,ag,ay]at hv;obtain⟨rfl,rfl⟩:=hv;have hxr:=H x (by simp[Op.operands]) xo u hxo hu;have har:=H a (by simp[Op.operands]) ao _ hao ha;generalize hex:e a=ea at har;cases har with
    |ptr hρ=>
     rename_i r o lim;obtain⟨q1,q2,q3,_⟩:=sY (P:=P) hw hR hρ hxr.cells;refine⟨ρ,_,.skip,?_,q2,q3,.inr ⟨rfl,rfl⟩⟩;have hsize:¬(e x).cells.size≠n:=by
      have:=hxr.cells.1;simp at this;omega
     have:(Instr.storeAt t (e a) (e x)).run P w=.ok () (w.setCells r (o+off) (e x).cells.toList):=by
      simp only[Instr.storeAt,hex,Instr.sureAddr,Sem.run_bind,Sem.run_pure,Result.andThen_ok,storeVar,dw hn];rw[if_neg hsize];exact q1
     simp[execOp,this]
 |mapUpdate t m k x=>
  simp only[cop]at hc;split at hc<;>try (cases hc;done)
  rename_i kt et mo ko xo hu hmo hko hxo;split at hc<;>cases hc;rename_i kk hkk;simp only[zH]at hv;split at hv<;>try (simp at hv;done)
  rename_i mm kv xv hm hk hx;cases hs:s.get mm with
  |none=>simp[hs]at hv
  |some ob=>
   cases ob<;>simp only[hs,reduceCtorEq]at hv;rename_i es clock;cases hp:plainKey kk kv with
   |false=>simp[hp]at hv
   |true=>
    simp only[hp,cond_true]at hv;cases hf:nF kk kv es 0 with
    |none=>simp[hf]at hv
    |some res=>
     obtain⟨w',g1,g2,g3⟩:=rj (P:=P) hu hkk rfl hs hp hf hR (H m (by simp[Op.operands]) mo _ hmo hm) (H k (by simp[Op.operands]) ko kv hko hk) (H x (by simp[Op.operands]) xo xv hxo hx);have hrun:(execOp e ({dst,op:=.mapUpdate t m k x,type,pos,after,guard}:Oper)).run P w=.ok .skip w' :=by simp[execOp,g1]
     simp only[hf]at hv;cases res with
     |none=>simp only[ag,ay]at hv;obtain⟨rfl,rfl⟩:=hv;exact⟨ρ,w',.skip,hrun,g2,g3,.inr ⟨rfl,rfl⟩⟩
     |some jv=>simp only[ag,ay]at hv;obtain⟨rfl,rfl⟩:=hv;exact⟨ρ,w',.skip,hrun,g2,g3,.inr ⟨rfl,rfl⟩⟩
 |insert t m k x=>
  simp only[cop]at hc;split at hc<;>try (cases hc;done)
  rename_i kt et mo ko xo hu hmo hko hxo;split at hc<;>cases hc;rename_i kk hkk;simp only[zH]at hv;split at hv<;>try (simp at hv;done)
  rename_i mm kv xv hm hk hx;cases hs:s.get mm with
  |none=>simp[hs]at hv
  |some ob=>
   cases ob<;>simp only[hs,reduceCtorEq]at hv;rename_i es clock;cases hp:plainKey kk kv with
   |false=>simp[hp]at hv
   |true=>
    simp only[hp,cond_true]at hv;cases hf:nF kk kv es 0 with
    |none=>simp[hf]at hv
    |some res=>
     obtain⟨w',g1,g2,g3⟩:=rj (P:=P) hu hkk rfl hs hp hf hR (H m (by simp[Op.operands]) mo _ hmo hm) (H k (by simp[Op.operands]) ko kv hko hk) (H x (by simp[Op.operands]) xo xv hxo hx);have hrun:(execOp e ({dst,op:=.insert t m k x,type,pos,after,guard}:Oper)).run P w=.ok .skip w' :=by simp[execOp,g1]
     simp only[hf]at hv;cases res with
     |none=>simp only[ag,ay]at hv;obtain⟨rfl,rfl⟩:=hv;exact⟨ρ,w',.skip,hrun,g2,g3,.inr ⟨rfl,rfl⟩⟩
     |some jv=>simp only[ag,ay]at hv;obtain⟨rfl,rfl⟩:=hv;exact⟨ρ,w',.skip,hrun,g2,g3,.inr ⟨rfl,rfl⟩⟩
 |range t x=>
  simp only[cop]at hc;split at hc<;>cases hc;rename_i kt et xo hu hxo;simp only[zH]at hv;split at hv
  ·rename_i hx;simp only[ag,ay]at hv;obtain⟨rfl,rfl⟩:=hv;have hxr:=H x (by simp[Op.operands]) xo _ hxo hx;generalize hex:e x=ex at hxr;cases hxr;obtain⟨a1,a2⟩:=hR.alloc (ob:=.gA none 0 [] 0) (obj:=.mapIter none 0 #[] 0) (lim:=0) ⟨none,by simp,rfl,rfl⟩;exact⟨_,_,.value (.pointer (some ⟨w.heap.size,0,none⟩)),by simp[execOp,Instr.range,hex,run_underlying hu],a1,a2,.inl ⟨_,rfl,by simpa using aF.ptr (off:=0) (Ren.add_same ρ s.next (w.heap.size,0,0))⟩⟩
  ·rename_i m hx;cases hs:s.get m with
   |none=>simp[hs]at hv
   |some ob=>
    cases ob<;>simp only[hs,reduceCtorEq,ag,ay]at hv;rename_i es clock;obtain⟨rfl,rfl⟩:=hv;have hxr:=H x (by simp[Op.operands]) xo _ hxo hx;generalize hex:e x=ex at hxr;cases hxr with
    |map hρ=>
     rename_i r o lim;obtain⟨es',g1,g2⟩:=hR.ZR hρ hs;obtain⟨a1,a2⟩:=hR.alloc (ob:=.gA (some m) clock [] clock) (obj:=.mapIter (some r) clock #[] clock) (lim:=0) ⟨some r,by simp,⟨r,o,lim,hρ,rfl⟩,rfl⟩;exact⟨_,_,.value (.pointer (some ⟨w.heap.size,0,none⟩)),by simp[execOp,Instr.range,hex,run_underlying hu,run_getObj_map g1],a1,a2,.inl ⟨_,rfl,by simpa using aF.ptr (off:=0) (Ren.add_same ρ s.next (w.heap.size,0,0))⟩⟩
  ·simp at hv
 |call c=>
  simp only[cop]at hc;split at hc<;>try first|(cases hc;done)|(split at hc<;>cases hc;done)
  rename_i b args hcal hargs;have hHa:∀ x∈c.args.toList,jP w0 ρ env e x:=fun x hx=>H x (by simp[Op.operands,Call.operands];exact .inr (by simpa using hx));have hres:∀ {S:Sem Value} {r:V} {ρ' :Ren} {w' :World} {x:Value},(∀ cs,builtin b c.argTypes type cs (c.args.map e)=(do pure (.value (←S))))→S.run P w=.ok x w'→Rel w0 ρ' s' w'→kH ρ s w ρ' s' w'→aF w0 ρ' r x→
    qgG P w0 ρ s w e {dst,op:=.call c,type,pos,after,guard} r s' :=fun {S r ρ' w' x} hb h1 h2 h3 h4=>by
   refine⟨ρ',w',.value x,?_,h2,h3,.inl ⟨x,rfl,h4⟩⟩;simp only[execOp,resolve,hcal,Sem.run_bind,Sem.run_pure,Result.andThen_ok,invoke];rw[hb];simp[h1]
  have two:∀ {p q:bO},args=[p,q]→∃ x y,c.args= #[x,y]∧cW x=some p∧cW y=some q:=fun {p q} hh=>by
   subst hh;obtain⟨x,xs,ha,hx,hxs⟩:=tK hargs;obtain⟨y,ys,hb,hy,hys⟩:=tK hxs;have:ys=[]:=by
    cases ys with
    |nil=>rfl
    |cons z zs=>
     simp only[nW]at hys;split at hys
     ·split at hys<;>simp at hys
     ·simp at hys
   subst this;subst hb;exact⟨x,y,by rw[←PB (xs:=c.args),ha],hx,hy⟩
  rcases qkv hc with⟨rfl,t,u,ao,xo,el,sz,bs,z,str,ht,hx,hu,hk,h1,h2,h3,h4,rfl⟩|⟨rfl,t,u,ao,xo,el,sz,str,ht,hx,hu,hk,h1,rfl⟩|⟨rfl,t,ts',mo,ko,kt,et,kk,ht,hx,hu,hkk,rfl⟩
  ·obtain⟨a,x,hax,hao,hxo⟩:=two hx;have hA:=hHa a (by rw[hax];simp);have hX:=hHa x (by rw[hax];simp);have hts:c.argTypes= #[t,u]:=by rw[←PB (xs:=c.argTypes),ht]
   simp only[zH]at hv;split at hv<;>try (simp at hv;done)
   rename_i av xv hav hxv;obtain⟨ρ',w',r,g1,g2,g3,g4⟩:=FJ (P:=P) (ty:=type) hu hk h1 h2 h3 h4 hv hR (hA ao av hao hav) (hX xo xv hxo hxv);exact hres (S:=Builtin.append_ #[t,u] type #[e a,e x]) (fun cs=>by rw[hts,hax];simp only[PC,ct,jY];rfl) g1 g2 g3 g4
  ·obtain⟨a,x,hax,hao,hxo⟩:=two hx;have hA:=hHa a (by rw[hax];simp);have hX:=hHa x (by rw[hax];simp);have hts:c.argTypes= #[t,u]:=by rw[←PB (xs:=c.argTypes),ht]
   simp only[zH]at hv;split at hv<;>try (simp at hv;done)
   rename_i av xv hav hxv;obtain⟨w',r,g1,g2,g3,g4⟩:=K2 (P:=P) (ty:=type) (tx:=u) hu h1 hv hR (hA ao av hao hav) (hX xo xv hxo hxv);exact hres (S:=Builtin.copy_ #[t,u] type #[e a,e x]) (fun cs=>by rw[hts,hax];simp only[PC,ct,jY];rfl) g1 g2 g3 g4
  ·obtain⟨m,k,hmk,hmo,hko⟩:=two hx;have hM:=hHa m (by rw[hmk];simp);have hK' :=hHa k (by rw[hmk];simp);have ht0:c.argTypes[0]? =some t:=by rw[←s4,ht];rfl
   have hK:=rM hkk;simp only[zH]at hv;split at hv
   ·rename_i kv hm hk;cases hp:plainKey kk kv with
    |false=>simp[hp]at hv
    |true=>
     simp only[hp,cond_true,ag,ay]at hv;obtain⟨rfl,rfl⟩:=hv;have hmr:=hM mo _ hmo hm;generalize hex:e m=em at hmr;cases hmr;have hc' :=iM (P:=P) hK hp (hK' ko kv hko hk) true 9999 w;exact hres (S:=Builtin.delete_ c.argTypes type #[.map none,e k]) (fun cs=>by rw[hmk];simp only[PC,ct,jY,hex];rfl) (x:=.tuple #[]) (w' :=w)
      (by simp[Builtin.delete_,ht0,run_underlying hu,hc']) hR (.refl _ _ _) (by simpa using aF.lH (w0:=w0) (ρ:=ρ) .nil)
   ·rename_i mm kv hm hk;cases hs:s.get mm with
    |none=>simp[hs]at hv
    |some ob=>
     cases ob<;>simp only[hs,reduceCtorEq]at hv;rename_i es clock;cases hp:plainKey kk kv with
     |false=>simp[hp]at hv
     |true=>
      simp only[hp,cond_true]at hv;have hmr:=hM mo _ hmo hm;have hkr:=hK' ko kv hko hk;generalize hex:e m=em at hmr;cases hmr with
      |map hρ=>
       rename_i r o lim;obtain⟨es',g1,g2⟩:=hR.ZR hρ hs;have hc' :=iM (P:=P) hK hp hkr es'.isEmpty 9999 w;have hst:∀ cs,builtin .delete c.argTypes type cs (c.args.map e)=(do pure (.value (←Builtin.delete_ c.argTypes type #[.map (some r),e k]))):=fun cs=>by
        rw[hmk];simp only[PC,ct,jY,hex];rfl
       cases hf:nF kk kv es 0 with
       |none=>simp[hf]at hv
       |some res=>
        have hfk:=uD (P:=P) hK hkr g2 hf w;simp only[hf]at hv;cases res with
        |none=>
         simp only[ag,ay]at hv;obtain⟨rfl,rfl⟩:=hv;simp only at hfk;have hsame:({w with heap:=w.heap.setIfInBounds r (.map es' clock)}:World)=w:=by rw[JP _ _ _ g1]
         exact hres hst (x:=.tuple #[]) (w' :=w) (by simp[Builtin.delete_,ht0,run_underlying hu,run_getObj_map g1,hc',hfk,run_setObj_map g1,hsame]) hR (.refl _ _ _) (by simpa using aF.lH (w0:=w0) (ρ:=ρ) .nil)
        |some jv=>
         obtain⟨j,vv⟩:=jv;simp only[ag,ay]at hv;obtain⟨rfl,rfl⟩:=hv;obtain⟨v',q1,_⟩:=hfk;obtain⟨p1,p2⟩:=hR.Gp hρ hs (es1:=iu j es) (es1' :=es'.eraseIdxIfInBounds j) (c:=clock) (by rw[K8];simpa using g2.eraseIdx j);exact hres hst (x:=.tuple #[]) (by simp[Builtin.delete_,ht0,run_underlying hu,run_getObj_map g1,hc',q1,run_setObj_map g1]) p1 p2 (by simpa using aF.lH (w0:=w0) (ρ:=ρ) .nil)
   ·simp at hv
 |move x=>simp only[cop]at hc;split at hc<;>cases hc
 |assign x=>simp only[cop]at hc;split at hc<;>cases hc
 |pick c a b=>simp only[cop]at hc;split at hc<;>cases hc
 |build t parts=>
  simp only[cop]at hc;split at hc<;>try (cases hc;done)
  ·split at hc<;>try (cases hc;done)
   split at hc<;>cases hc
  ·split at hc<;>try (cases hc;done)
   split at hc<;>cases hc
 |load t a=>simp only[cop]at hc;split at hc<;>cases hc
 |nilCheck x=>simp only[cop]at hc;split at hc<;>cases hc
 |binOp op t x y yt=>simp only[cop]at hc;split at hc<;>cases hc
 |unOp op t x=>simp only[cop]at hc;split at hc<;>cases hc
 |makeInterface t x=>simp only[cop]at hc;split at hc<;>cases hc
 |makeFunc fn first captured=>
  cases fn<;>simp only[cop]at hc<;>try (cases hc;done)
  split at hc<;>cases hc
 |slice t x lo hi mx=>
  simp only[cop]at hc;split at hc<;>try (cases hc;done)
  ·split at hc<;>try (cases hc;done)
   unfold cond at hc;split at hc<;>cases hc
  ·split at hc<;>try (cases hc;done)
   unfold cond at hc;split at hc<;>cases hc
 |fieldAddr t x f=>
  simp only[cop]at hc;split at hc<;>try (cases hc;done)
  split at hc<;>try (cases hc;done)
  split at hc<;>cases hc
 |field t x f=>
  simp only[cop]at hc;split at hc<;>try (cases hc;done)
  split at hc<;>try (cases hc;done)
  split at hc<;>cases hc
 |indexAddr t x i=>
  simp only[cop]at hc;split at hc<;>try (cases hc;done)
  ·split at hc<;>cases hc
  ·split at hc<;>cases hc
 |index t x i=>
  simp only[cop]at hc;split at hc<;>try (cases hc;done)
  split at hc<;>cases hc
 |lookup t x i ok=>
  simp only[cop]at hc;split at hc<;>try (cases hc;done)
  split at hc<;>cases hc
 |extract x i=>simp only[cop]at hc;split at hc<;>cases hc
 |typeAssert x xt t ok=>
  cases ok<;>simp only[cop]at hc<;>try (cases hc;done)
  split at hc<;>cases hc
 |next x b=>cases b<;>simp only[cop]at hc<;>(try split at hc)<;>cases hc
 |entry x=>simp only[cop]at hc;split at hc<;>cases hc
 |alloc t=>simp only[cop]at hc;split at hc<;>cases hc
 |box t x=>simp only[cop]at hc;split at hc<;>cases hc
 |makeMap t r=>simp only[cop]at hc;split at hc<;>cases hc
 |makeSlice t l c=>
  simp only[cop]at hc;split at hc<;>try (cases hc;done)
  split at hc<;>try (cases hc;done)
  unfold cond at hc;split at hc<;>cases hc
 |buildSlice t len parts=>
  simp only[cop]at hc;split at hc<;>try (cases hc;done)
  split at hc<;>try (cases hc;done)
  unfold cond at hc;split at hc<;>try (cases hc;done)
  split at hc<;>cases hc
 |convert src dst x=>
  simp only[cop]at hc;split at hc<;>try (cases hc;done)
  ·unfold cond at hc;split at hc<;>cases hc
  ·unfold cond at hc;split at hc<;>cases hc
 |_=>simp[cop]at hc
end
end Go.RE
namespace Go.RE
section
variable{P:Program}{w0:World}
def oA(w0:World)(ρ:Ren)(n:Nat)(env:PT V)(a:Act):Prop:=n≤a.tmps.size∧∀ t v,env.get t=some v→aF w0 ρ v (a.tmps.getD t undef)
theorem oA.mono{ρ ρ' :Ren}{n:Nat}{env:PT V}{a:Act}(hρ:ρ.le ρ')(h:oA w0 ρ n env a):oA w0 ρ' n env a:=⟨h.1,fun t v e=>(h.2 t v e).mono hρ⟩
theorem oA.cW{ρ:Ren}{n:Nat}{env:PT V}{a:Act}(h:oA w0 ρ n env a)(x:Operand):jP w0 ρ env a.eval x:=by
 intro o v ho hv;cases x with
 |tmp t=>simp only[RE.cW,ag]at ho;subst ho;exact h.2 t v hv
 |const c=>
  obtain⟨y,rfl,hy⟩:=EZ (w0:=w0) (ρ:=ρ) ho;simp only[bO.ev,ag]at hv;subst hv;exact hy
 |global g=>simp[RE.cW]at ho
 |func f=>
  simp only[RE.cW,ag]at ho;subst ho;simp only[bO.ev,ag]at hv;subst hv;exact .func rfl rfl (fun i h=>by simp at h) (fun i h=>by simp at h)
theorem oA.put{ρ:Ren}{n:Nat}{env:PT V}{a:Act}(h:oA w0 ρ n env a){dst:Option Nat}(hd:∀ d,dst=some d→d<n){v:V}{x:Value}(hv:aF w0 ρ v x):oA w0 ρ n (fI dst v env) (a.put dst x):=by
 cases dst with
 |none=>exact h
 |some d=>
  have hd' :=hd d rfl;refine⟨by simpa[Act.put]using h.1,fun t u e=> ?_⟩;simp only[fI,PT.iX]at e;simp only[Act.put];by_cases ht:t=d
  ·subst ht;rw[if_pos rfl]at e;simp at e;subst e;have:t<a.tmps.size:=iC hd' h.1;simp[mu,Kt this];exact hv
  ·rw[if_neg ht]at e;have:=h.2 t u e;simp only[mu]at this⊢;rw[Aa (fun h=>ht h.symm)];exact this
theorem put_defers(a:Act)(dst:Option Nat)(x:Value):(a.put dst x).defers=a.defers:=by cases dst<;>rfl
theorem tQ{ρ:Ren}:aF w0 ρ (.aZ []) undef:=.aZ rfl fun i h=>by simp at h
theorem zL{ρ:Ren}{env:PT V}{tmps:Array Value}{ops:Array Oper}{o:Oper}{g:Option (Nat×Bool)}{b:Bool}(hg:guardOf ops.toList o=some g)(hv:bW g env=some b)
  (hr:∀ t v,g.map (·.1)=some t→env.get t=some v→aF w0 ρ v (tmps.getD t undef)):Region.wanted o (yielded ops tmps)=b:=by
 unfold guardOf at hg;split at hg
 ·rename_i h;simp only[ag]at hg;subst hg;simp[bW]at hv;subst hv;simp[Region.wanted,h]
 ·rename_i j want h;cases hj:ops.toList[j]? with
  |none=>simp[hj]at hg
  |some p=>
   have hj' :ops[j]? =some p:=by simpa using hj
   simp only[hj]at hg;cases hd:p.dst with
   |none=>simp[hd]at hg
   |some d=>
    simp only[hd,ag]at hg;subst hg;simp only[bW]at hv;cases he:env.get d with
    |none=>simp[he]at hv
    |some v=>
     have hvr:=hr d v rfl he;have hy:yielded ops tmps j=match tmps[d]? with|some (.bool b)=>some b|_=>none:=by
      simp only[yielded,hj',Option.bind_some,hd];rfl
     simp only[Region.wanted,h,hy];rw[mu]at hvr;cases v with
     |bool q=>
      simp[he]at hv;subst hv;have hb:=hvr.gR;cases ht:tmps[d]? with
      |none=>rw[ht]at hb;simp[undef]at hb
      |some y=>rw[ht]at hb;simp at hb;subst hb;cases q<;>cases want<;>rfl
     |_=>
      simp[he]at hv;subst hv;cases ht:tmps[d]? with
      |none=>rfl
      |some y=>
       rw[ht]at hvr;simp only[rB]at hvr;cases hvr<;>rfl
def xT(P:Program)(w0:World)(F:Nat→List V→St→(V→St→Prop)→Prop):Prop:=
 ∀ (f:Nat) (args:List V) (s:St) (k:V→St→Prop) (ρ:Ren) (w:World) (args' :List Value),F f args s k→Rel w0 ρ s w→aV w0 ρ args args'→
  (∃ fn b,P.funcs[f]? =some fn∧fn.body=some b∧(fn.name== "runtime.NumGoroutine")=false)∧
  Calls P f args'.toArray w fun e w' =>∃ v s' ρ' x,e=.returned x∧k v s'∧Rel w0 ρ' s' w'∧kH ρ s w ρ' s' w'∧aF w0 ρ' v x
theorem wH{f:Nat}{args:Array Value}(h:∃ fn b,P.funcs[f]? =some fn∧fn.body=some b∧(fn.name== "runtime.NumGoroutine")=false)(w:World):(callFunc f args).run P w=.ok (.enter f args) w:=by
 obtain⟨fn,b,h1,h2,h3⟩:=h;simp only[callFunc,Sem.run_bind,run_program,Result.andThen_ok,h1];rw[if_neg (by rw[h3];simp),if_neg (by simp[h2])];rfl
def rK(P:Program)(M:Nat→String→Option Nat):Prop:=∀ t name f,M t name=some f→methodOf P t name=some f
theorem L0{t:Nat}{name:String}{f:Nat}(h:methodOf P t name=some f)(v:Value)(n:Nat)(w:World):(method (n+1) t v name).run P w=.ok (f,v) w:=by
 unfold methodOf at h;split at h<;>try (simp at h;done)
 rename_i i hi;split at h<;>try (simp at h;done)
 rename_i m hm;cases hp:m.path.isEmpty with
 |false=>simp[hp]at h
 |true=>
  have hpe:m.path= #[]:=by simpa using hp
  simp only[hp,cond_true]at h;split at h<;>simp only[ag,reduceCtorEq]at h
  ·subst h;rename_i f' el hf hu;simp[method,typeInfo,hi,hm,hpe,follow,hf,receiverAt,run_underlying hu,Place.get]
  ·subst h;rename_i f' d hn hf hu;simp only[method,typeInfo,Sem.run_bind,run_program,Result.andThen_ok,hi,Sem.run_pure,hm,hpe,follow,hf,receiverAt,run_underlying hu];cases d<;>first|exact absurd hu (hn _ _ hf)|simp[Place.get]
theorem IA{ρ:Ren}{es:List ME}{es' :Array MapEntry}(h:kJ w0 ρ es es'.toList)(since:Nat)(seen:List Nat):
  let left:=es'.filter fun e=> !seen.toArray.contains e.born;let old:=left.filter (·.born<since);let new:=left.filter (·.born≥since);let cands:=(if old.isEmpty then #[none]else #[])++(old++new).map some
  (ep es since seen).length=cands.size∧∀ (i:Nat) c,(ep es since seen)[i]? =some c→∃ c',cands[i]? =some c'∧
   (match c,c' with|none,none=>True|some m,some m' =>aF w0 ρ m.key m'.key∧aF w0 ρ m.val m'.val∧m.born=m'.born|_,_=>False):=by
 have filt:∀ {p:ME→Bool} {q:MapEntry→Bool} {a:List ME} {b:List MapEntry},kJ w0 ρ a b→(∀ m m',m.born=m'.born→p m=q m')→kJ w0 ρ (a.filter p) (b.filter q):=by
  intro p q a
  induction a with
  |nil=>
   intro b h _;have:b=[]:=fT h.1.symm;subst this;exact⟨rfl,fun i h=>by simp at h⟩
  |cons m a ih=>
   intro b h hpq;cases b with
   |nil=>have:=h.1;simp at this
   |cons m' b=>
    have hm:=h.2 0 (by simp) (by simp);simp only[PD]at hm;have hrest:kJ w0 ρ a b:=⟨by simpa using h.1,fun i h1 h2=>h.2 (i+1) (by simpa using h1) (by simpa using h2)⟩;have hh:=ih hrest hpq;rw[mw,mw,hpq m m' hm.2.2];split
    ·refine⟨by simp[hh.1],fun i h1 h2=> ?_⟩;cases i with
     |zero=>simpa using hm
     |succ i=>simpa using hh.2 i (by simpa using h1) (by simpa using h2)
    ·exact hh
 intro left old new cands;have hleft:kJ w0 ρ (es.filter fun e=> !seen.contains e.born) left.toList:=by
  simp only[left,Yh];exact filt h fun m m' hb=>by rw[hb];simp
 have hold:kJ w0 ρ ((es.filter fun e=> !seen.contains e.born).filter fun e=>Nat.blt e.born since) old.toList:=by
  simp only[old,Yh];exact filt hleft fun m m' hb=>by rw[hb,DP,decide_eq_true_iff,Nat.blt_eq]
 have hnew:kJ w0 ρ ((es.filter fun e=> !seen.contains e.born).filter fun e=>Nat.ble since e.born) new.toList:=by
  simp only[new,Yh];exact filt hleft fun m m' hb=>by rw[hb,DP,decide_eq_true_iff,ez]
 have happ:kJ w0 ρ (((es.filter fun e=> !seen.contains e.born).filter fun e=>Nat.blt e.born since)++((es.filter fun e=> !seen.contains e.born).filter fun e=>Nat.ble since e.born)) (old.toList++new.toList):=by
  refine kJ.vj (by rw[gX,gX,hold.1,hnew.1]) fun i m hm=> ?_;by_cases hi:i<((es.filter fun e=> !seen.contains e.born).filter fun e=>Nat.blt e.born since).length
  ·rw[bG hi]at hm;rw[bG (hold.1▸hi)];exact hold.get hm
  ·rw[dh (by omega)]at hm;rw[dh (by have:=hold.1;omega),←hold.1];exact hnew.get hm
 have he:((es.filter fun e=> !seen.contains e.born).filter fun e=>Nat.blt e.born since).isEmpty=old.isEmpty:=by
  have h1:=hold.1;rw[DP,PE,qc1,h1];simp
 have hcl:cands.toList=(if old.isEmpty then[none]else[])++(old.toList++new.toList).map some:=by
  simp only[cands];cases old.isEmpty<;>simp
 have hget:∀ i:Nat,cands[i]? =((if old.isEmpty then[none]else[])++(old.toList++new.toList).map some)[i]? :=fun i=>by rw[←hcl];simp
 unfold ep;simp only[he];refine⟨?_,fun i c hc=> ?_⟩
 ·rw[←PF,hcl];have:=happ.1;cases old.isEmpty<;>simp at this⊢ <;>omega
 ·rw[hget];have one:∀ (j:Nat) c,((((es.filter fun e=> !seen.contains e.born).filter fun e=>Nat.blt e.born since)++((es.filter fun e=> !seen.contains e.born).filter fun e=>Nat.ble since e.born)).map some)[j]? =some c→
    ∃ c',((old.toList++new.toList).map some)[j]? =some c'∧(match c,c' with|none,none=>True|some m,some m' =>aF w0 ρ m.key m'.key∧aF w0 ρ m.val m'.val∧m.born=m'.born|_,_=>False):=fun j c hj=>by
   rw[gE]at hj;cases hq:(((es.filter fun e=> !seen.contains e.born).filter fun e=>Nat.blt e.born since)++((es.filter fun e=> !seen.contains e.born).filter fun e=>Nat.ble since e.born))[j]? with
   |none=>rw[hq]at hj;simp at hj
   |some m=>
    rw[hq]at hj;simp at hj;subst hj;obtain⟨x,hx,hr⟩:=happ.get hq;exact⟨some x,by rw[gE,hx];rfl,hr⟩
  cases ho:old.isEmpty with
  |false=>
   rw[ho]at hc;simp only[cond_false,jZ]at hc;simp only[jV,if_false,jZ];exact one i c hc
  |true=>
   rw[ho]at hc;simp only[cond_true,Ku]at hc;simp only[if_true,Ku];cases i with
   |zero=>simp at hc;subst hc;exact⟨none,by simp,trivial⟩
   |succ i=>simp only[DQ]at hc⊢;exact one i c hc
def B4:j7→Bool
 | .call _ _=>true
 | .invoke _ _ _=>true
 | .next _=>true
 |_=>false
theorem FO{o:Op}(h:B4 (cop P o)=true):(∃ c,o=.call c)∨(∃ x,o=.next x false):=by
 cases o with
 |call c=>exact .inl ⟨c,rfl⟩
 |next x b=>cases b with
  |false=>exact .inr ⟨x,rfl⟩
  |true=>simp[cop,B4]at h
 |makeFunc fn a b=>
  exfalso;revert h;cases fn<;>simp only[cop]<;>(repeat' split)<;>simp[B4]
 |typeAssert x t u b=>
  exfalso;revert h;cases b<;>simp only[cop]<;>(repeat' split)<;>simp[B4]
 |_=>
  exfalso;revert h;simp only[cop]
  repeat' (first|split|(unfold cond;split))
  all_goals simp[B4]
theorem KX{b:Builtin}{ts:List TypeId}{xs:List bO}(h:B4 (kg P b ts xs)=true):False:=by
 revert h;unfold kg
 repeat' (first|split|(unfold cond;split))
 all_goals simp[B4]
theorem Cr{P:Program}{w:World}{r:Nat}{m:Option Nat}{s:Nat}{seen:Array Nat}{c:Nat}(hr:w.heap[r]? =some (.mapIter m s seen c))(o' :Obj):(setObj r o').run P w=.ok () {w with heap:=w.heap.setIfInBounds r o'}:=by
 simp[setObj,Sem.run,hr]
theorem Jt{M:Nat→String→Option Nat}{F:Nat→List V→St→(V→St→Prop)→Prop}(hM:rK P M)(hF:xT P w0 F){ρ:Ren}{s:St}{w:World}{env:PT V}{a:Act}{o:Oper}{k:V→St→Prop}
  {next:Act→World→Prop} {Q:Exit→Act→World→Prop} (h:dN M F env s (cop P o.op) k) (hR:Rel w0 ρ s w) (H:∀ x∈o.op.operands,jP w0 ρ env a.eval x)
  (hk:∀ v s' ρ' x w',k v s'→Rel w0 ρ' s' w'→kH ρ s w ρ' s' w'→aF w0 ρ' v x→next (a.put o.dst x) w'):o.wp P a w next Q:=by
 unfold Oper.wp;cases hc:cop P o.op with
 |bad=>rw[hc]at h;exact h.elim
 |s so=>
  rw[hc]at h;simp only[dN]at h;cases hv:cZ env s so with
  |none=>rw[hv]at h;exact h.elim
  |some v=>
   rw[hv]at h;obtain⟨x,h1,h2⟩:=EF hc hv hR H;rw[h1];exact hk v s ρ x w h hR (.refl _ _ _) h2
 |m mo=>
  rw[hc]at h;simp only[dN]at h;cases hv:BP env mo with
  |none=>rw[hv]at h;exact h.elim
  |some obf=>
   obtain⟨ob,f⟩:=obf;rw[hv]at h;obtain⟨obj,lim,w',x,h1,h2,h3,h4,h5,h6⟩:=EE (ρ:=ρ) (w0:=w0) hc hv H w;rw[h1];obtain⟨a1,a2⟩:=hR.alloc h5;have hw:w'.heap=(w.alloc obj).heap:=h2;have hle:=Ren.B7 (ρ:=ρ) (n:=s.next) (w.heap.size,0,lim) (hR.unnamed (ak _));exact hk (f s.next) (s.alloc ob) _ x w' h (a1.same hw h3 h4) (a2.trans (kH.same hw)) (h6 _ _ hle (Ren.add_same _ _ _))
 |h ho=>
  rw[hc]at h;simp only[dN]at h;cases hv:zH env s ho with
  |none=>rw[hv]at h;exact h.elim
  |some vs=>
   obtain⟨v,s'⟩:=vs;rw[hv]at h;obtain⟨ρ',w',nx,h1,h2,h3,h4⟩:=Qv hc hv hR H;rw[h1];rcases h4 with⟨x,rfl,h5⟩|⟨rfl,rfl⟩
   ·exact hk v s' ρ' x w' h h2 h3 h5
   ·exact hk _ s' ρ' undef w' h h2 h3 tQ
 |call f args=>
  rw[hc]at h;simp only[dN]at h;split at h<;>try exact h.elim
  rename_i fn first captured vs hf hargs
  obtain⟨dst,op,type,pos,after,guard⟩:=o;simp only at hc H;have hcall:∃ c fo,op=.call c∧c.callee=.value fo∧cW fo=some f∧nW c.args.toList=some args:=by
   rcases FO (P:=P) (o:=op) (by rw[hc];rfl)with⟨c,rfl⟩|⟨x,rfl⟩
   ·simp only[cop]at hc;split at hc
    ·rename_i fo args' h1 h2;split at hc<;>cases hc;rename_i h3;exact⟨c,fo,rfl,h1,h3,h2⟩
    ·exact(KX (P:=P) (by rw[hc];rfl)).elim
    ·split at hc<;>cases hc
    ·cases hc
   ·simp only[cop]at hc;split at hc<;>cases hc
  obtain⟨c,fo,rfl,hcal,hfo,hca⟩:=hcall;have hFr:=H fo (by simp[Op.operands,Call.operands,hcal]) f _ hfo hf;have hAr:=pV hca hargs fun x hx=>H x (by simp[Op.operands,Call.operands];exact .inr (by simpa using hx));generalize hex:a.eval fo=ef at hFr;cases hFr with
  |func ha hb va vb=>
   rename_i a' b';obtain⟨g1,g2⟩:=hF _ _ _ _ _ _ _ h hR (((aV.of_array ha va).append hAr).append (aV.of_array hb vb));have hrun:(execOp a.eval ({dst,op:=.call c,type,pos,after,guard}:Oper)).run P w=.ok (.enter fn ((a'.toList++c.args.toList.map a.eval++b'.toList).toArray)) w:=by
    simp only[execOp,resolve,hcal,hex,Deferred.ofValue,Sem.run_bind,Sem.run_pure,Result.andThen_ok,invoke];rw[wH g1];congr 2;apply Fv;simp
   rw[hrun];exact g2.mono fun e w' ⟨v,s',ρ',x,he,hkk,r1,r2,r3⟩=>by subst he;exact hk v s' ρ' x w' hkk r1 r2 r3
 |invoke name x args=>
  rw[hc]at h;simp only[dN]at h;split at h<;>try exact h.elim
  rename_i t v vs hx hargs;cases hm:M t name with
  |none=>rw[hm]at h;exact h.elim
  |some fn=>
   rw[hm]at h;obtain⟨dst,op,type,pos,after,guard⟩:=o;simp only at hc H;have hcall:∃ c xo,op=.call c∧c.callee=.invoke xo name∧cW xo=some x∧nW c.args.toList=some args:=by
    rcases FO (P:=P) (o:=op) (by rw[hc];rfl)with⟨c,rfl⟩|⟨x,rfl⟩
    ·simp only[cop]at hc;split at hc
     ·split at hc<;>cases hc
     ·exact(KX (P:=P) (by rw[hc];rfl)).elim
     ·rename_i xo nm args' h1 h2;split at hc<;>cases hc;rename_i h3;exact⟨c,xo,rfl,h1,h3,h2⟩
     ·cases hc
    ·simp only[cop]at hc;split at hc<;>cases hc
   obtain⟨c,xo,rfl,hcal,hxo,hca⟩:=hcall;have hXr:=H xo (by simp[Op.operands,Call.operands,hcal]) x _ hxo hx;have hAr:=pV hca hargs fun x hx=>H x (by simp[Op.operands,Call.operands];exact .inr (by simpa using hx));generalize hex:a.eval xo=ex at hXr;cases hXr with
   |iface hv=>
    rename_i v';obtain⟨g1,g2⟩:=hF _ _ _ _ _ _ _ h hR (aV.cons hv hAr);have hrun:(execOp a.eval ({dst,op:=.call c,type,pos,after,guard}:Oper)).run P w=.ok (.enter fn ((v' ::c.args.toList.map a.eval).toArray)) w:=by
     simp only[execOp,resolve,hcal,hex,Sem.run_bind,Sem.run_pure,Result.andThen_ok,invoke];have h0:(#[Value.iface t v']++c.args.map a.eval)[0]? =some (Value.iface t v'):=by rw[Kv (by simp)];rfl
     have h1:(#[Value.iface t v']++c.args.map a.eval).extract 1 (#[Value.iface t v']++c.args.map a.eval).size=c.args.map a.eval:=by
      apply DR;intro i;rw[Array.getElem?_extract];by_cases hi:i<c.args.size
      ·rw[if_pos (by simp;omega),Array.getElem?_append_right (by simp)];simp
      ·rw[if_neg (by simp;omega),uL (by simp;omega)]
     rw[h0];simp only[h1,callMethod,Sem.run_bind,run_program,Result.andThen_ok];have hmeth:=L0 (P:=P) (hM t name fn hm) v' (P.types.size+Made.depth - 1) w;rw[show P.types.size+Made.depth - 1+1=P.types.size+Made.depth from by have:0<Made.depth:=(by decide);omega]at hmeth;rw[hmeth];simp only[Result.andThen_ok];rw[wH g1];congr 2;apply Fv;simp
    rw[hrun];exact g2.mono fun e w' ⟨v,s',ρ',x,he,hkk,r1,r2,r3⟩=>by subst he;exact hk v s' ρ' x w' hkk r1 r2 r3
 |next x=>
  rw[hc]at h;simp only[dN]at h;split at h<;>try exact h.elim
  rename_i b hx;obtain⟨dst,op,type,pos,after,guard⟩:=o;simp only at hc H;have hop:∃ xo,op=.next xo false∧cW xo=some x:=by
   rcases FO (P:=P) (o:=op) (by rw[hc];rfl)with⟨c,rfl⟩|⟨x,rfl⟩
   ·simp only[cop]at hc;split at hc
    ·split at hc<;>cases hc
    ·exact(KX (P:=P) (by rw[hc];rfl)).elim
    ·split at hc<;>cases hc
    ·cases hc
   ·simp only[cop]at hc;split at hc<;>cases hc;rename_i h1;exact⟨_,rfl,h1⟩
  obtain⟨xo,rfl,hxo⟩:=hop;have hXr:=H xo (by simp[Op.operands]) x _ hxo hx;generalize hex:a.eval xo=ex at hXr;cases hXr with
  |ptr hρ=>
   rename_i r o lim;unfold qw at h;have ho:=hR.ob b r o lim hρ;cases hs:s.get b with
   |none=>rw[hs]at h;exact h.elim
   |some ob=>
    cases ob with
    |row cs=>rw[hs]at h;exact h.elim
    |wG cs=>rw[hs]at h;exact h.elim
    |map es clock=>rw[hs]at h;exact h.elim
    |dead=>rw[hs]at h;exact h.elim
    |gA m since seen last=>
     rw[hs]at h ho;obtain⟨m',e1,e2,rfl⟩:=ho;have hg:(getObj r).run P w=.ok (.mapIter m' since seen.toArray last) w:=by simp[getObj,Sem.run,e1]
     have hrun:∀ {y:Value} {w' :World},(Instr.next (.pointer (some ⟨r,0,none⟩)) false type).run P w=.ok y w'→
       (execOp a.eval ({dst,op:=.next xo false,type,pos,after,guard}:Oper)).run P w=.ok (.value y) w' :=fun {y w'} h2=>by
      simp only[execOp,hex];simp[h2]
     cases m with
     |none=>
      simp only at e2 h;subst e2;rw[hrun (y:=.tuple #[.bool false]) (w' :=w) (by simp[Instr.next,hg])];exact hk _ s ρ _ w h hR (.refl _ _ _) (by simpa using aF.lH (aV.cons (aF.bool false) .nil))
     |some mm=>
      obtain⟨r2,o2,lim2,hρ2,rfl⟩:=e2;simp only at h;cases hs2:s.get mm with
      |none=>rw[hs2]at h;exact h.elim
      |some ob2=>
       cases ob2 with
       |row cs=>rw[hs2]at h;exact h.elim
       |wG cs=>rw[hs2]at h;exact h.elim
       |gA a b c d=>rw[hs2]at h;exact h.elim
       |dead=>rw[hs2]at h;exact h.elim
       |map es clock=>
        rw[hs2]at h;simp only at h;obtain⟨es',g1,g2⟩:=hR.ZR hρ2 hs2;cases hstop:(!seen.isEmpty&& !es.isEmpty&&es.all (fun e=>Nat.ble last e.born))with
        |true=>rw[hstop]at h;exact h.elim
        |false=>
         rw[hstop]at h;simp only[cond_false]at h;obtain⟨c1,c2⟩:=IA g2 since seen
         --
         generalize hcd:(if((es'.filter fun e=> !seen.toArray.contains e.born).filter (·.born<since)).isEmpty then #[none]else #[])++((es'.filter fun e=> !seen.toArray.contains e.born).filter (·.born<since)++(es'.filter fun e=> !seen.toArray.contains e.born).filter (·.born≥since)).map some=cands at c1 c2;have hstop' :(!seen.toArray.isEmpty&& !es'.isEmpty&&es'.all (·.born≥last))=false:=by
          rw[←hstop];have e1:seen.toArray.isEmpty=seen.isEmpty:=by simp
          have e2:es'.isEmpty=es.isEmpty:=by
           have:=g2.1;rw[DP,PE,qc1,this];simp
          have e3:es'.all (·.born≥last)=es.all (fun e=>Nat.ble last e.born):=by
           rw[←Array.all_toList];rw[DP,fF,fF];constructor
           ·intro hh m hm;obtain⟨i,hi,rfl⟩:=s6.1 hm;have hi' :i<es'.toList.length:=g2.1▸hi;have:=hh _ (xP hi');rw[ez,(g2.2 i hi hi').2.2];simpa using this
           ·intro hh m hm;obtain⟨i,hi,rfl⟩:=s6.1 hm;have hi' :i<es.length:=g2.1▸hi;have:=hh _ (xP hi');rw[ez,(g2.2 i hi' hi).2.2]at this;simpa using this
          rw[e1,e2,e3]
         have hch:∃ (j:Nat) (w1:World),j<cands.size∧(w1=w∨w1=w.drew)∧(choose (Question.mapNext cands.size)).run P w=.ok j w1:=by
          have hpos:0<cands.size:=by
           rw[←c1];unfold ep;simp only;cases hq:((es.filter fun e=> !seen.contains e.born).filter fun e=>Nat.blt e.born since)with
           |nil=>simp
           |cons a b=>simp
          by_cases hf:cands.size≤1
          ·exact⟨0,w,hpos,Or.inl rfl,by simp[choose,Sem.run,Question.forced,hf]⟩
          ·exact⟨_,w.drew,Kw _ hpos,Or.inr rfl,by
            simp only[choose,Sem.run,Question.forced,decide_eq_true_eq,hf,if_false,Question.cut];rfl⟩
         obtain⟨j,w1,hj,hal,hrunc⟩:=hch;have hRw:Rel w0 ρ s w1:=by
          rcases hal with rfl|rfl
          ·exact hR
          ·exact hR.same rfl rfl rfl
         have hSw:kH ρ s w ρ s w1:=by
          rcases hal with rfl|rfl
          ·exact .refl _ _ _
          ·exact kH.same rfl
         have hheap:w1.heap=w.heap:=by rcases hal with rfl|rfl<;>rfl
         have hj' :j<(ep es since seen).length:=by rw[c1];exact hj
         obtain⟨c,hcj⟩:∃ c,(ep es since seen)[j]? =some c:=⟨_,aQ hj'⟩;have hh:=h j hj';simp only[hcj]at hh;obtain⟨c',hc1,hc2⟩:=c2 j c hcj;cases c with
         |none=>
          cases c' with
          |some _=>exact hc2.elim
          |none=>
           simp only at hh;rw[hrun (y:=.tuple #[.bool false]) (w' :=w1) (by
            simp only[Instr.next,getObj,Sem.run_bind,Sem.run,e1,g1,Result.andThen,hstop',jV,if_false,hcd,hrunc,hc1];rfl)]
           exact hk _ s ρ _ w1 hh hRw hSw (by simpa using aF.lH (aV.cons (aF.bool false) .nil))
         |some m=>
          cases c' with
          |none=>exact hc2.elim
          |some m' =>
           simp only at hh;obtain⟨d1,d2,d3⟩:=hc2;have hr1:w1.heap[r]? =some (.mapIter (some r2) since seen.toArray last):=by rw[hheap];exact e1
           obtain⟨p1,p2⟩:=hRw.put hρ (by rw[hs];trivial) (ob:=.gA (some mm) since (seen++[m.born]) clock) (obj:=.mapIter (some r2) since (seen.toArray.push m'.born) clock)
            ⟨some r2,by rw[d3];simp,⟨r2,o2,lim2,hρ2,rfl⟩,rfl⟩
           rw[hrun (y:=.tuple #[.bool true,m'.key,m'.val]) (w' :={w1 with heap:=w1.heap.setIfInBounds r (.mapIter (some r2) since (seen.toArray.push m'.born) clock)}) (by
            simp only[Instr.next,getObj,Sem.run_bind,Sem.run,e1,g1,Result.andThen,hstop',jV,if_false,hcd,hrunc,hc1,Cr hr1];rfl)]
           exact hk _ _ ρ _ _ hh p1 (hSw.trans p2) (by simpa using aF.lH (aV.cons (aF.bool true) (aV.cons d1 (aV.cons d2 .nil))))
end
end Go.RE
