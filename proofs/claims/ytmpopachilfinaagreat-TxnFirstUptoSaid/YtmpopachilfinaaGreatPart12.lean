/- Rules for rewriting: code. -/
import Derived.Test.YtmpopachilfinaaGreatPart11
set_option linter.unusedVariables false
set_option linter.unusedSimpArgs false
set_option linter.constructorNameAsVariable false
namespace Go.RE
abbrev By:=List UInt8
theorem yP:∀ (x y:By),Op.bytesLess x y=decide (x<y)
 |[],[]=>by simp[Op.bytesLess]
 |_::_,[]=>by simp[Op.bytesLess]
 |[],_::_=>by simp[Op.bytesLess]
 |a::x,b::y=>by
  have ih:=yP x y;simp only[Op.bytesLess,ih,List.cons_lt_cons_iff];by_cases h1:a<b<;>by_cases h2:a=b<;>by_cases h3:x<y<;>simp[h1,h2,h3]
theorem AW(a:By):Op.bytesLess a a=false:=by rw[yP];simp[List.lt_irrefl]
theorem Dp{a b c:By}(h:Op.bytesLess a b=true)(k:Op.bytesLess b c=true):Op.bytesLess a c=true:=by
 rw[yP]at*;simp only[decide_eq_true_eq]at*;exact List.lt_trans h k
theorem wG(a b:By):Op.bytesLess a b=true∨a=b∨Op.bytesLess b a=true:=by
 simp only[yP,decide_eq_true_eq];rcases Classical.em (a<b)with h|h
 ·exact .inl h
 ·rcases Classical.em (b<a)with h' |h'
  ·exact .inr (.inr h')
  ·exact .inr (.inl (List.le_antisymm (List.not_lt.1 h') (List.not_lt.1 h)))
theorem tC{a b:By}(h:Op.bytesLess a b=true):Op.bytesLess b a=false:=by
 cases k:Op.bytesLess b a with
 |false=>rfl
 |true=>have:=Dp h k;rw[AW]at this;exact this.symm
theorem not_le(a b:By):(!(Op.bytesLess a b||a==b))=Op.bytesLess b a:=by
 rcases wG a b with h|h|h
 ·rw[h,tC h];rfl
 ·subst h;simp[AW]
 ·rw[tC h,h];have:(a==b)=false:=by
   cases k:a==b with
   |false=>rfl
   |true=>rw[eq_of_beq k,AW]at h;cases h
  rw[this];rfl
theorem qa1(a b:By):(Op.bytesLess a b||a==b)= !Op.bytesLess b a:=by rw[←not_le a b,Bool.not_not]
@[simp] theorem VB(a b:Nat):Nat.ble a b=decide (a≤b):=by
 by_cases h:a≤b
 ·rw[decide_eq_true h];exact oT h
 ·rw[decide_eq_false h];cases hb:Nat.ble a b with
  |false=>rfl
  |true=>exact absurd (gu hb) h
@[simp] theorem qgh(a b:Nat):Nat.blt a b=decide (a<b):=by unfold Nat.blt;rw[VB];rfl
@[simp] theorem IW(a b:Nat):Nat.beq a b=decide (a=b):=by
 by_cases h:a=b
 ·subst h;simp
 ·rw[decide_eq_false h];cases hb:Nat.beq a b with
  |false=>rfl
  |true=>exact absurd (bR hb) h
section
variable(op:BinOp)(ek:gR)
@[simp] theorem qdQ(x y:List UInt8):iW op ek (.str x) (.str y)=MD (kL op x y):=rfl
@[simp] theorem qdP(k:IntKind)(x y:Int):iW op ek (.int k x) (.int k y)=MD (jF op ek (.int k x) (.int k y)):=rfl
end
@[simp] theorem qfU(b:Bool):MD (some (.bool b))=some (.bool b):=rfl
@[simp] theorem qgW(k:IntKind)(n:Int):MD (some (.int k n))=some (.int k n):=rfl
@[simp] theorem qgX(s:List UInt8):MD (some (.str s))=some (.str s):=rfl
@[simp] theorem qbH(a b:List UInt8):kL .add a b=bif Nat.ble (a.length+b.length) bp then some (.str (a++b))else none:=rfl
@[simp] theorem qbI(a b:List UInt8):kL .eql a b=some (.bool (a==b)):=rfl
@[simp] theorem qbN(a b:List UInt8):kL .neq a b=some (.bool (!(a==b))):=rfl
@[simp] theorem qbM(a b:List UInt8):kL .lss a b=some (.bool (Op.bytesLess a b)):=rfl
@[simp] theorem qbL(a b:List UInt8):kL .leq a b=some (.bool (!Op.bytesLess b a)):=by rw[←qa1];rfl
@[simp] theorem qbK(a b:List UInt8):kL .gtr a b=some (.bool (Op.bytesLess b a)):=by rw[←not_le];rfl
@[simp] theorem qbJ(a b:List UInt8):kL .geq a b=some (.bool (!Op.bytesLess a b)):=rfl
@[simp] theorem qdW(ek:gR)(k:IntKind)(x y:Int):jF .lss ek (.int k x) (.int k y)=some (.bool (decide (x<y))):=by simp[jF,jL]
@[simp] theorem qdV(ek:gR)(k:IntKind)(x y:Int):jF .leq ek (.int k x) (.int k y)=some (.bool (decide (x≤y))):=by simp[jF,jL]
@[simp] theorem qdU(ek:gR)(k:IntKind)(x y:Int):jF .gtr ek (.int k x) (.int k y)=some (.bool (decide (x>y))):=by simp[jF,jL]
@[simp] theorem qdT(ek:gR)(k:IntKind)(x y:Int):jF .geq ek (.int k x) (.int k y)=some (.bool (decide (x≥y))):=by simp[jF,jL]
@[simp] theorem qdS(ek:gR)(k:IntKind)(x y:Int):jF .eql ek (.int k x) (.int k y)=some (.bool (x==y)):=by simp[jF,jL]
@[simp] theorem qdY(ek:gR)(k:IntKind)(x y:Int):jF .neq ek (.int k x) (.int k y)=some (.bool (x !=y)):=by simp[jF,jL]
@[simp] theorem qdR(ek:gR)(k:IntKind)(x y:Int):jF .add ek (.int k x) (.int k y)=some (.int k (aI k (x+y))):=by simp[jF,jL]
@[simp] theorem qdZ(ek:gR)(k:IntKind)(x y:Int):jF .sub ek (.int k x) (.int k y)=some (.int k (aI k (x - y))):=by simp[jF,jL]
@[simp] theorem qgV(b:Bool):unU .not (.bool b)=some (.bool (!b)):=rfl
@[simp] theorem Wh{i o:Nat}{g:Tg}{v:U}{a c:List U}:iW .eql .bA (.ptr i o) .bA=some (.bool false):=rfl
@[simp] theorem VI{i o:Nat}{g:Tg}{v:U}{a c:List U}:iW .eql .bA (.eD c o) .bA=some (.bool false):=rfl
@[simp] theorem VO{i o:Nat}{g:Tg}{v:U}{a c:List U}:iW .eql .bA (.bD g i o) .bA=some (.bool false):=rfl
@[simp] theorem VN{i o:Nat}{g:Tg}{v:U}{a c:List U}:iW .eql .bA .bA .bA=some (.bool true):=rfl
@[simp] theorem Wg{i o:Nat}{g:Tg}{v:U}{a c:List U}:iW .eql .bQ (.map i) .bQ=some (.bool false):=rfl
@[simp] theorem VM{i o:Nat}{g:Tg}{v:U}{a c:List U}:iW .eql .bQ .bQ .bQ=some (.bool true):=rfl
@[simp] theorem VJ{i o:Nat}{g:Tg}{v:U}{a c:List U}:iW .eql .di (.func i a c) .di=some (.bool false):=rfl
@[simp] theorem VK{i o:Nat}{g:Tg}{v:U}{a c:List U}:iW .eql .di .di .di=some (.bool true):=rfl
@[simp] theorem Ph{i o:Nat}{g:Tg}{v:U}{a c:List U}:iW .eql (.iface false) (.iface i v) .cO=some (.bool false):=rfl
@[simp] theorem VL{i o:Nat}{g:Tg}{v:U}{a c:List U}:iW .eql (.iface false) .cO .cO=some (.bool true):=rfl
@[simp] theorem Wf{i o:Nat}{g:Tg}{v:U}{a c:List U}:iW .eql (.iface true) (.iface i v) .cO=some (.bool false):=rfl
@[simp] theorem Wk{i o:Nat}{g:Tg}{v:U}{a c:List U}:iW .neq .bA (.ptr i o) .bA=some (.bool true):=rfl
@[simp] theorem VQ{i o:Nat}{g:Tg}{v:U}{a c:List U}:iW .neq .bA (.eD c o) .bA=some (.bool true):=rfl
@[simp] theorem VX{i o:Nat}{g:Tg}{v:U}{a c:List U}:iW .neq .bA (.bD g i o) .bA=some (.bool true):=rfl
@[simp] theorem VV{i o:Nat}{g:Tg}{v:U}{a c:List U}:iW .neq .bA .bA .bA=some (.bool false):=rfl
@[simp] theorem Wj{i o:Nat}{g:Tg}{v:U}{a c:List U}:iW .neq .bQ (.map i) .bQ=some (.bool true):=rfl
@[simp] theorem VU{i o:Nat}{g:Tg}{v:U}{a c:List U}:iW .neq .bQ .bQ .bQ=some (.bool false):=rfl
@[simp] theorem VR{i o:Nat}{g:Tg}{v:U}{a c:List U}:iW .neq .di (.func i a c) .di=some (.bool true):=rfl
@[simp] theorem VS{i o:Nat}{g:Tg}{v:U}{a c:List U}:iW .neq .di .di .di=some (.bool false):=rfl
@[simp] theorem Pj{i o:Nat}{g:Tg}{v:U}{a c:List U}:iW .neq (.iface false) (.iface i v) .cO=some (.bool true):=rfl
@[simp] theorem VT{i o:Nat}{g:Tg}{v:U}{a c:List U}:iW .neq (.iface false) .cO .cO=some (.bool false):=rfl
@[simp] theorem Wi{i o:Nat}{g:Tg}{v:U}{a c:List U}:iW .neq (.iface true) (.iface i v) .cO=some (.bool true):=rfl
@[simp] theorem VH(x y:Bool):iW .eql .bool (.bool x) (.bool y)=some (.bool (x==y)):=rfl
@[simp] theorem VP(x y:Bool):iW .neq .bool (.bool x) (.bool y)=some (.bool (!(x==y))):=rfl
@[simp] theorem qa5(cs:List U)(off:Nat):iE none cs off=(cs[off]?).bind fun v=>bif v.uB then some v else none:=by
 simp only[iE];cases cs[off]? <;>rfl
@[simp] theorem qa6(n:Nat)(cs:List U)(off:Nat):iE (some n) cs off=bif Nat.ble (off+n) cs.length&&((cs.drop off).take n).all U.uB then some (.agg ((cs.drop off).take n))else none:=rfl
def Qc(i off:Nat):U→Option U
 | .bF w xs=>some (.own (.c i off) w xs)
 |v=>bif v.uB then some v else none
attribute [simp] Qc
@[simp] theorem qa3(i:Nat)(cs:List U)(off:Nat):lN i none cs off=(cs[off]?).bind (Qc i off):=by
 simp only[lN];cases h:cs[off]? with
 |none=>simp[iE,h]
 |some v=>cases v<;>simp[iE,h,Qc]
@[simp] theorem qa4(i n:Nat)(cs:List U)(off:Nat):lN i (some n) cs off=iE (some n) cs off:=rfl
def XW(t:Nat)(ts:List Nat)(e:Env):Option U→Env
 |some (.own (.t g) w xs)=>(t,.own (.t t) w xs)::dg ts (Env.kill (.t g) e)
 |some (.own .r w xs)=>(t,.own (.t t) w xs)::dg ts (Env.kill .r e)
 |some (.bD (.t _) _ _)=>(t,.bad)::dg ts e
 |some (.bD .r _ _)=>(t,.bad)::dg ts e
 |some (.view (.t _) _ _ _)=>(t,.bad)::dg ts e
 |some (.view .r _ _ _)=>(t,.bad)::dg ts e
 |some v=>(t,v)::dg ts e
 |none=>dg ts e
attribute [simp] XW
@[simp] theorem qc4(e:Env):dg [] e=[]:=rfl
@[simp] theorem qaW(t:Nat)(ts:List Nat)(e:Env):dg (t::ts) e=XW t ts e (look e t):=by
 simp only[dg];cases look e t with
 |none=>rfl
 |some v=>
  cases v with
  |own g w xs=>cases g<;>rfl
  |bD g i f=>cases g<;>rfl
  |view g i f l=>cases g<;>rfl
  |_=>rfl
attribute [simp] HF
theorem gf{fl:Nat}{h l:List Uo}(hf:fl≤h.length):cut h.length fl (h++l)=h:=by
 unfold cut;rw[Nat.max_eq_left hf];simp
theorem aZ{fl:Nat}{h:List Uo}(hf:fl≤h.length):cut h.length fl h=h:=by
 unfold cut;rw[Nat.max_eq_left hf];simp
@[simp] theorem qgo(n fl:Nat):cut n fl []=[]:=by simp[cut]
@[simp] theorem qed(h:List Uo):cut 0 0 h=[]:=by simp[cut]
@[simp] theorem qgp(a:Uo)(r:List Uo):cut 1 0 (a::r)=[a]:=by simp[cut]
@[simp] theorem qgq(a b:Uo)(r:List Uo):cut 2 0 (a::b::r)=[a,b]:=by simp[cut]
@[simp] theorem qec(a b c d:Uo)(r:List Uo):cut 4 0 (a::b::c::d::r)=[a,b,c,d]:=by simp[cut]
@[simp] theorem qft(s:Vs)(w:Nat)(g:Tg)(xs:List (List U)):yG s w false (.own g w xs)=some xs:=by simp[yG,rowsOf]
@[simp] theorem qgO(s:Vs)(w:Nat)(xs:List (List U)):yG s w false (.sl w xs)=some xs:=by simp[yG,rowsOf]
@[simp] theorem qgk(d:Nat)(s:Vs)(w bytes:Nat)(ys:List (List U))(g:Tg)(xs:List (List U)):apV d s w bytes ys (.own g w xs)=bif !(decide (g=.a))&&Nat.ble ((xs.length+ys.length)*bytes) bp&&Nat.ble (xs.length+ys.length) bp&&ys.all (fun r=>r.all U.aH&&U.b8 0 r&&Nat.beq r.length w)then
      some (.own (.t d) w (xs++ys),(s.kill g).kill (.t d))else none:=by simp[apV]
@[simp] theorem qhf(d:Nat)(s:Vs)(w bytes:Nat)(ys:List (List U)):apV d s w bytes ys (.nl w)=bif Nat.ble (ys.length*bytes) bp&&Nat.ble ys.length bp&&ys.all (fun r=>r.all U.aH&&U.b8 0 r&&Nat.beq r.length w)then
      some (.own (.t d) w ys,(s.kill .r).kill (.t d))else none:=by simp[apV]
@[simp] theorem qhr(s:Vs)(g:Tg)(w:Nat)(xs:List (List U)):CI s 1 (.own g w xs)=some (.int .i64 xs.length,s):=rfl
def P5(n:Nat)(fl:Nat)(h:List Uo)(e:Env):Bool→Vs
 |true=>⟨e,cut n fl h,fl⟩
 |false=>⟨e,h,fl⟩
@[simp] theorem qaX(n fl:Nat)(h:List Uo)(e:Env):P5 n fl h e true=⟨e,cut n fl h,fl⟩:=rfl
@[simp] theorem XV(n fl:Nat)(h:List Uo)(e:Env):P5 n fl h e false=⟨e,h,fl⟩:=rfl
@[simp] theorem qgz(L:List Nat)(n:Nat)(e:Env)(h:List Uo)(fl:Nat):keep L n ⟨e,h,fl⟩=P5 n fl h (dg L e) (HF n (dg L e)):=by
 simp only[keep];cases HF n (dg L e)<;>rfl
attribute [simp] U.jA qG
def qbr(s:Vs)(i off:Nat)(n:Option Nat):Uo→Option U
 | .row cs=>lN i n cs off
 |_=>none
@[simp] theorem qe7(s:Vs)(i off:Nat)(n:Option Nat)(cs:List U):qbr s i off n (.row cs)=lN i n cs off:=rfl
def qbs(s:Vs)(n:Option Nat):U→Option U
 | .ptr i off=>(s.h[i]?).bind (qbr s i off n)
 |_=>none
@[simp] theorem qe8(s:Vs)(n:Option Nat)(i off:Nat):qbs s n (.ptr i off)=(s.h[i]?).bind (qbr s i off n):=rfl
@[simp] theorem qhG(s:Vs)(n:Nat):HY s (.t n)=look s.e n:=rfl
@[simp] theorem qds(s:Vs)(a:Nat)(n:Option Nat):HY s (.cell a n)=(look s.e a).bind (qbs s n):=by
 simp only[HY];cases look s.e a with
 |none=>rfl
 |some v=>
  cases v with
  |ptr i off=>
   simp only[Option.bind,qbs];cases s.h[i]? with
   |none=>rfl
   |some o=>cases o<;>rfl
  |_=>rfl
@[simp] theorem qdt(s:Vs):qi s []=some []:=rfl
@[simp] theorem qbt(s:Vs)(r:tZ)(rs:List tZ):qi s (r::rs)=Aj (HY s r) (qi s rs):=by
 simp only[qi];cases HY s r<;>simp only[Aj];cases qi s rs<;>simp only[Aj]
def PG(n:Nat)(s:Vs):Option U→Option (U×List Uo×Nat)
 |some r=>some (r,bif r.low n then cut n s.fl s.h else s.h,s.fl)
 |none=>none
@[simp] theorem qaJ(n:Nat)(s:Vs)(r:U):PG n s (some r)=some (r,bif r.low n then cut n s.fl s.h else s.h,s.fl):=rfl
def G3(n:Nat)(own:Bool)(s:Vs):Option (List U)→Option (U×List Uo×Nat)
 |some us=>some (.aV us,bif U.b8 n us then cut n s.fl s.h else bif own then s.h else GD n s.h,s.fl)
 |none=>none
@[simp] theorem qaK(n:Nat)(own:Bool)(s:Vs)(us:List U):G3 n own s (some us)=some (.aV us,bif U.b8 n us then cut n s.fl s.h else bif own then s.h else GD n s.h,s.fl):=rfl
def Ju(n:Nat)(own:Bool)(s:Vs):Option (List U)→Option (U×List Uo×Nat)
 |some [v]=>PG n s (v.jA own)
 |some vs=>G3 n own s (qG false vs)
 |none=>none
@[simp] theorem qen(n:Nat)(own:Bool)(s:Vs):Ju n own s (some [])=G3 n own s (qG false []):=rfl
@[simp] theorem qeo(n:Nat)(own:Bool)(s:Vs)(v:U):Ju n own s (some [v])=PG n s (v.jA own):=rfl
@[simp] theorem qep(n:Nat)(own:Bool)(s:Vs)(v w:U)(r:List U):Ju n own s (some (v::w::r))=G3 n own s (qG false (v::w::r)):=rfl
@[simp] theorem qgs(n:Nat)(fn:aC)(s:Vs):CF n fn s=Ju n fn.own s (qi s fn.results):=by
 unfold CF;cases qi s fn.results with
 |none=>rfl
 |some vs=>
  cases vs with
  |nil=>simp[Ju,G3]
  |cons v r=>
   cases r with
   |nil=>simp only[Ju];cases v.jA fn.own<;>rfl
   |cons w r=>simp only[Ju];cases qG false (v::w::r)<;>rfl
section
variable{VF:Nat→Option aC}{M:oW}{Q:mA}{Pm:XG}{fn:aC}{s:Vs}{K:Ex→Vs→Prop}
@[simp] theorem Yb{b:aj}:gI VF M Q Pm fn b K .normal s=gC VF M Q Pm fn b s K:=rfl
@[simp] theorem qdz{b:aj}{i:Nat}:gI VF M Q Pm fn b K (.exit i) s=K (.exit i) s:=rfl
@[simp] theorem qfj{b:aj}:gI VF M Q Pm fn b K .ret s=K .ret s:=rfl
attribute [simp] qaP
@[simp] theorem qdp:iq K (some s)=K .normal s:=rfl
@[simp] theorem qdo:iq K none=False:=rfl
attribute [simp] Od
@[simp] theorem qe6{F:FU}:jS M Q F s K []=K .normal s:=rfl
@[simp] theorem qhF{F:FU}{d:Option Nat}{o:fS}{g:Option (Nat×Bool)}{p:Nat}{r:List aD}:jS M Q F s K (⟨d,(.s o),g,p⟩::r)=iq K (gy M Q F (⟨d,(.s o),g,p⟩::r) s):=rfl
@[simp] theorem qhE{F:FU}{d:Option Nat}{o:GB}{g:Option (Nat×Bool)}{p:Nat}{r:List aD}:jS M Q F s K (⟨d,(.m o),g,p⟩::r)=iq K (gy M Q F (⟨d,(.m o),g,p⟩::r) s):=rfl
@[simp] theorem qhD{F:FU}{d:Option Nat}{o:xT}{g:Option (Nat×Bool)}{p:Nat}{r:List aD}:jS M Q F s K (⟨d,(.h o),g,p⟩::r)=iq K (gy M Q F (⟨d,(.h o),g,p⟩::r) s):=rfl
@[simp] theorem qdq{F:FU}{d:Option Nat}{f:bJ}{a:List bJ}{g:Option (Nat×Bool)}{p:Nat}{r:List aD}:jS M Q F s K (⟨d,.call f a,g,p⟩::r)=iq K (gy M Q F (⟨d,.call f a,g,p⟩::r) s):=rfl
@[simp] theorem X8{F:FU}{d:Option Nat}{n:String}{x:bJ}{a:List bJ}{g:Option (Nat×Bool)}{p:Nat}{r:List aD}:jS M Q F s K (⟨d,.invoke n x a,g,p⟩::r)=iq K (gy M Q F (⟨d,.invoke n x a,g,p⟩::r) s):=rfl
@[simp] theorem qdr{F:FU}{d:Option Nat}{x:bJ}{p:Nat}{r:List aD}:jS M Q F s K (⟨d,.next x,none,p⟩::r)=ig s d x (fun t=>iq K (gy M Q F r t)):=rfl
theorem ay{ops:List aD}{l:List Step}(h:sched (ops.length+1) (bq ops 0) 0=some l):gC VF M Q Pm fn (.draw ops) s K=iq K (bV M Q (gF VF M Q Pm) l s []):=by rw[WG,h];rfl
@[simp] theorem qaw{a b:aj}{t:Bool}:Pw VF M Q Pm fn a b s K (some (.bool t))=if t=true then gC VF M Q Pm fn a s K else gC VF M Q Pm fn b s K:=by cases t<;>rfl
attribute [simp] WE WH
@[simp] theorem qc0{id n:Nat}:kB fn id n K .normal s=K .normal (keep (fn.tail id) n s):=rfl
@[simp] theorem qhl{id n:Nat}:kB fn id n K .ret s=K .ret s:=rfl
@[simp] theorem WQ{id n i:Nat}:kB fn id n K (.exit i) s=if i=id then K .normal (keep (fn.tail id) n s)else K (.exit i) s:=by
 simp only[kB];by_cases h:i=id
 ·subst h;simp
 ·rw[if_neg h];have:Nat.beq i id=false:=by
   cases hb:Nat.beq i id with
   |false=>rfl
   |true=>exact absurd (bR hb) h
  rw[this];rfl
@[simp] theorem Ya{id k:Nat}{b:aj}:Xa VF M Q Pm fn id b k K .normal s=gL VF M Q Pm fn id b k (keep (fn.head id) k s) K:=rfl
@[simp] theorem qfa{id k:Nat}{b:aj}:Xa VF M Q Pm fn id b k K .ret s=K .ret s:=rfl
@[simp] theorem qdv{id k i:Nat}{b:aj}:Xa VF M Q Pm fn id b k K (.exit i) s=if i=id then K .normal (keep (fn.tail id) k s)else K (.exit i) s:=WQ
@[simp] theorem WD{id:Nat}{a b:aj}:gC VF M Q Pm fn (.block id (.seq a b)) s K=gC VF M Q Pm fn (.seq a b) s (kB fn id s.h.length K):=AE rfl
@[simp] theorem VZ{id:Nat}{l:List aD}:gC VF M Q Pm fn (.block id (.draw l)) s K=gC VF M Q Pm fn (.draw l) s (kB fn id s.h.length K):=AE rfl
@[simp] theorem PN{id:Nat}{i:Nat}{a:aj}:gC VF M Q Pm fn (.block id (.block i a)) s K=gC VF M Q Pm fn (.block i a) s (kB fn id s.h.length K):=AE rfl
@[simp] theorem qhm{k:Nat}{R:U×List Uo×Nat}:kE k fn R .ret s=(CF k fn s=some R):=rfl
@[simp] theorem qc1{k:Nat}{R:U×List Uo×Nat}:kE k fn R .normal s=(CF k fn s=some R):=rfl
end
section
variable{M:oW}{Q:mA}{F:FU}
def smS(M:oW)(Q:mA)(F:FU)(r:List Step)(dst:Option Nat)(ah:List (Nat×Rk))(i:Nat)(op:fS)(s0:Vs):Option (U×Vs)→Option Vs
 |some (v,t)=>bV M Q F r ⟨iN dst v t.e,t.h,t.fl⟩ (bif op.impure then(i,sZ s0 op v)::ah else ah)
 |none=>none
@[simp] theorem qfq(r:List Step)(dst:Option Nat)(ah:List (Nat×Rk))(i:Nat)(op:fS)(s0:Vs)(v:U)(t:Vs):smS M Q F r dst ah i op s0 (some (v,t))=bV M Q F r ⟨iN dst v t.e,t.h,t.fl⟩ (bif op.impure then(i,sZ s0 op v)::ah else ah):=rfl
def smM(M:oW)(Q:mA)(F:FU)(r:List Step)(dst:Option Nat)(ah:List (Nat×Rk)):Option (U×Vs)→Option Vs
 |some (v,t)=>bV M Q F r ⟨iN dst v t.e,t.h,t.fl⟩ ah
 |none=>none
@[simp] theorem qfp(r:List Step)(dst:Option Nat)(ah:List (Nat×Rk))(v:U)(t:Vs):smM M Q F r dst ah (some (v,t))=bV M Q F r ⟨iN dst v t.e,t.h,t.fl⟩ ah:=rfl
def bgF(M:oW)(Q:mA)(F:FU)(r:List Step)(dst:Option Nat)(ah:List (Nat×Rk))(p:Nat)(v:U)(t:Vs):Bool→Option Vs
 |true=>bV M Q F r ⟨iN dst v t.e,t.h,t.fl⟩ (fU p ah)
 |false=>none
@[simp] theorem qdM(r:List Step)(dst:Option Nat)(ah:List (Nat×Rk))(p:Nat)(v:U)(t:Vs):bgF M Q F r dst ah p v t true=bV M Q F r ⟨iN dst v t.e,t.h,t.fl⟩ (fU p ah):=rfl
def bgT(M:oW)(Q:mA)(F:FU)(r:List Step)(dst:Option Nat)(ah:List (Nat×Rk))(p:Nat)(s:Vs)(op:jE)(v:U)(t:Vs):Bool→Option Vs
 |true=>bV M Q F r ⟨iN dst v t.e,t.h,t.fl⟩ (fU p ah)
 |false=>bgF M Q F r dst ah p v t (gH M Q F s t op p ah)
@[simp] theorem qdO(r:List Step)(dst:Option Nat)(ah:List (Nat×Rk))(p:Nat)(s:Vs)(op:jE)(v:U)(t:Vs):bgT M Q F r dst ah p s op v t true=bV M Q F r ⟨iN dst v t.e,t.h,t.fl⟩ (fU p ah):=rfl
@[simp] theorem qcE(r:List Step)(dst:Option Nat)(ah:List (Nat×Rk))(p:Nat)(s:Vs)(op:jE)(v:U)(t:Vs):bgT M Q F r dst ah p s op v t false=bgF M Q F r dst ah p v t (gH M Q F s t op p ah):=rfl
def bgS(M:oW)(Q:mA)(F:FU)(r:List Step)(dst:Option Nat)(ah:List (Nat×Rk))(p:Nat)(s:Vs)(op:jE)(quiet:Bool):Option (U×Vs)→Option Vs
 |some (v,t)=>bgT M Q F r dst ah p s op v t (quiet||oI t p ah)
 |none=>none
@[simp] theorem qdN(r:List Step)(dst:Option Nat)(ah:List (Nat×Rk))(p:Nat)(s:Vs)(op:jE)(quiet:Bool)(v:U)(t:Vs):bgS M Q F r dst ah p s op quiet (some (v,t))=bgT M Q F r dst ah p s op v t (quiet||oI t p ah):=rfl
def Yf(M:oW)(Q:mA)(F:FU)(bp:Bool)(i:Nat)(dst:Option Nat)(op:jE)(p:Nat)(r:List Step)(s:Vs)(ah:List (Nat×Rk)):Option Bool→Option Vs
 |some true=>(match bp,op with
  |true,op=>bgS M Q F r dst ah p s op (fu Q s op) (kG M Q F s dst op)
  |false,.s o=>smS M Q F r dst ah i o s (kG M Q F s dst (.s o))
  |false,.m o=>smM M Q F r dst ah (kG M Q F s dst (.m o))
  |_,_=>none)
 |some false=>bV M Q F r ⟨iN dst (.aV []) s.e,s.h,s.fl⟩ ah
 |none=>none
section
variable(i:Nat)(dst:Option Nat)(p:Nat)(r:List Step)(s:Vs)(ah:List (Nat×Rk))
@[simp] theorem qgP(op:jE):Yf M Q F true i dst op p r s ah (some true)=bgS M Q F r dst ah p s op (fu Q s op) (kG M Q F s dst op):=rfl
@[simp] theorem qiO(o:fS):Yf M Q F false i dst (.s o) p r s ah (some true)=smS M Q F r dst ah i o s (kG M Q F s dst (.s o)):=rfl
@[simp] theorem qiN(o:GB):Yf M Q F false i dst (.m o) p r s ah (some true)=smM M Q F r dst ah (kG M Q F s dst (.m o)):=rfl
@[simp] theorem qdG(b:Bool)(op:jE):Yf M Q F b i dst op p r s ah (some false)=bV M Q F r ⟨iN dst (.aV []) s.e,s.h,s.fl⟩ ah:=rfl
@[simp] theorem qbG:bV M Q F [] s ah=some s:=rfl
@[simp] theorem qbF(op:jE)(g:Option (Nat×Bool)):bV M Q F (.bp i ⟨dst,op,g,p⟩::r) s ah=Yf M Q F true i dst op p r s ah (hU g s.e):=by
 simp only[bV];cases hU g s.e with
 |none=>rfl
 |some b=>
  cases b with
  |false=>rfl
  |true=>
   simp only[Yf];cases kG M Q F s dst op with
   |none=>rfl
   |some x=>
    obtain⟨v,t⟩:=x;simp only[bgS];generalize (fu Q s op||oI t p ah)=b;cases b with
    |true=>rfl
    |false=>
     simp only[Bool.false_or,bgT];cases gH M Q F s t op p ah<;>rfl
@[simp] theorem Xj(op:jE)(g:Option (Nat×Bool)):bV M Q F (.small i ⟨dst,op,g,p⟩::r) s ah=Yf M Q F false i dst op p r s ah (hU g s.e):=by
 simp only[bV];cases hU g s.e with
 |none=>rfl
 |some b=>
  cases b with
  |false=>rfl
  |true=>
   simp only[Yf];cases op with
   |s o=>simp only;cases kG M Q F s dst (.s o)<;>rfl
   |m o=>simp only;cases kG M Q F s dst (.m o)<;>rfl
   |h o=>simp only;cases kG M Q F s dst (.h o)<;>rfl
   |call f a=>simp only;cases kG M Q F s dst (.call f a)<;>rfl
   |invoke n x a=>simp only;cases kG M Q F s dst (.invoke n x a)<;>rfl
   |next x=>simp only;cases kG M Q F s dst (.next x)<;>rfl
   |bad=>simp only;cases kG M Q F s dst .bad<;>rfl
end
attribute [simp] fS.impure oI fU fu sZ
def clR(cs:List (Nat×Nat)):Option (U×List Uo×Nat)→Bool
 |some R=>cs.all (lF R.2.1)
 |none=>false
@[simp] theorem qd9(cs:List (Nat×Nat))(r:U)(h:List Uo)(fl:Nat):clR cs (some (r,h,fl))=cs.all (lF h):=rfl
def clH(F:FU)(f:Nat)(args:List U)(s:Vs)(hid:List Nat×List (Nat×Nat)):Option (List U)→Bool
 |some us=>clR hid.2 (F f us (eu hid.2 (fT hid.1 (aG args s).h)) (aG args s).fl)
 |none=>false
@[simp] theorem qd8(f:Nat)(args us:List U)(s:Vs)(hid:List Nat×List (Nat×Nat)):clH F f args s hid (some us)=clR hid.2 (F f us (eu hid.2 (fT hid.1 (aG args s).h)) (aG args s).fl):=rfl
@[simp] theorem qd5(f:Nat)(args:List U)(s:Vs)(hid:List Nat×List (Nat×Nat)):lK F f args s hid=clH F f args s hid (gK args):=by
 unfold lK;cases gK args with
 |none=>rfl
 |some us=>simp only[clH,clR];cases F f us (eu hid.2 (fT hid.1 (aG args s).h)) (aG args s).fl<;>rfl
def frQ(b:Bool)(F:FU)(s:Vs)(hid:List Nat×List (Nat×Nat))(f:Nat)(args:List U):Option (List (List U)→List U→Option (List (List U)))→Option (List (List U)→List U→Option (List (List U)))→Bool
 |none,none=>b&&lK F f args s hid
 |_,_=>false
@[simp] theorem qew(b:Bool)(s:Vs)(hid:List Nat×List (Nat×Nat))(f:Nat)(args:List U):frQ b F s hid f args none none=(b&&lK F f args s hid):=rfl
def frC(Q:mA)(F:FU)(s:Vs)(hid:List Nat×List (Nat×Nat)):Option U→Option (List U)→Bool
 |some (.func f a b),some vs=>frQ (Q.Jb f).isNone F s hid f (a++vs++b) (Q.q f) (Q.app f)
 |_,_=>false
@[simp] theorem qes(s:Vs)(hid:List Nat×List (Nat×Nat))(f:Nat)(a b vs:List U):frC Q F s hid (some (.func f a b)) (some vs)=frQ (Q.Jb f).isNone F s hid f (a++vs++b) (Q.q f) (Q.app f):=rfl
def frM(F:FU)(s:Vs)(hid:List Nat×List (Nat×Nat))(args:List U):Option Nat→Bool
 |some f=>lK F f args s hid
 |none=>false
@[simp] theorem qev(s:Vs)(hid:List Nat×List (Nat×Nat))(f:Nat)(args:List U):frM F s hid args (some f)=lK F f args s hid:=rfl
def frI(M:oW)(F:FU)(s:Vs)(hid:List Nat×List (Nat×Nat))(name:String):Option U→Option (List U)→Bool
 |some (.iface t v),some vs=>frM F s hid (v::vs) (M t name)
 |_,_=>false
@[simp] theorem qeu(s:Vs)(hid:List Nat×List (Nat×Nat))(name:String)(t:Nat)(v:U)(vs:List U):frI M F s hid name (some (.iface t v)) (some vs)=frM F s hid (v::vs) (M t name):=rfl
def frH(M:oW)(Q:mA)(F:FU)(s:Vs)(op:jE):Option (List Nat×List (Nat×Nat))→Bool
 |some hid=>(match op with
  | .call f args=>frC Q F s hid (cq s.e f) (jy s.e args)
  | .invoke name x args=>frI M F s hid name (cq s.e x) (jy s.e args)
  |_=>false)
 |none=>false
@[simp] theorem qet(s:Vs)(f:bJ)(args:List bJ)(hid:List Nat×List (Nat×Nat)):frH M Q F s (.call f args) (some hid)=frC Q F s hid (cq s.e f) (jy s.e args):=rfl
@[simp] theorem qaO(s:Vs)(name:String)(x:bJ)(args:List bJ)(hid:List Nat×List (Nat×Nat)):frH M Q F s (.invoke name x args) (some hid)=frI M F s hid name (cq s.e x) (jy s.e args):=rfl
@[simp] theorem qcV(s t:Vs)(op:jE)(p:Nat)(ah:List (Nat×Rk)):gH M Q F s t op p ah=frH M Q F s op (pH t p ah):=by
 unfold gH;cases pH t p ah with
 |none=>rfl
 |some hid=>
  cases op with
  |call f args=>
   simp only[frH];cases cq s.e f with
   |none=>rfl
   |some v=>
    cases v with
    |func g a b=>
     cases jy s.e args with
     |none=>rfl
     |some vs=>simp only[frC];cases Q.q g<;>cases Q.app g<;>rfl
    |_=>rfl
  |invoke name x args=>
   simp only[frH];cases cq s.e x with
   |none=>rfl
   |some v=>
    cases v with
    |iface t v=>
     cases jy s.e args with
     |none=>rfl
     |some vs=>simp only[frI];cases M t name<;>rfl
    |_=>rfl
  |_=>rfl
def qaQ(j:Nat)(n:Option Nat)(off:Nat)(u:U):Option (List Nat×List (Nat×Nat))→Option (List Nat×List (Nat×Nat))
 |some l=>some (JC j n off u l)
 |none=>none
@[simp] theorem qcW(j:Nat)(n:Option Nat)(off:Nat)(u:U)(l:List Nat×List (Nat×Nat)):qaQ j n off u (some l)=some (JC j n off u l):=rfl
attribute [simp] JC
def WI(s:Vs)(p:Nat)(rest:List (Nat×Rk))(r:Rk):Bool→Option (List Nat×List (Nat×Nat))
 |true=>pH s p rest
 |false=>(match r with
  | .ld j n off u=>qaQ j n off u (pH s p rest)
  |_=>none)
@[simp] theorem qcY(s:Vs)(p:Nat)(rest:List (Nat×Rk))(r:Rk):WI s p rest r true=pH s p rest:=rfl
@[simp] theorem qgy(s:Vs)(p:Nat)(rest:List (Nat×Rk))(j:Nat)(n:Option Nat)(off:Nat)(u:U):WI s p rest (.ld j n off u) false=qaQ j n off u (pH s p rest):=rfl
@[simp] theorem qeB(s:Vs)(p:Nat):pH s p []=some ([],[]):=rfl
@[simp] theorem qcX(s:Vs)(p i:Nat)(r:Rk)(rest:List (Nat×Rk)):pH s p ((i,r)::rest)=WI s p rest r (Nat.testBit p i||r.holds s):=by
 simp only[pH];generalize (Nat.testBit p i||r.holds s)=b;cases b with
 |true=>rfl
 |false=>
  cases r with
  |ld j n off u=>simp only[cond_false,WI];cases pH s p rest<;>rfl
  |_=>rfl
@[simp] theorem XU(h:List Uo):fT [] h=h:=rfl
@[simp] theorem WJ(j:Nat)(l:List Nat)(h:List Uo):fT (j::l) h=fT l (h.set j .gone):=rfl
def PV(u:U):Option U→Bool
 |some u' =>U.same u u'
 |none=>false
@[simp] theorem qaS(u u' :U):PV u (some u')=U.same u u' :=rfl
def PU(i:Nat)(n:Option Nat)(off:Nat)(u:U):Option Uo→Bool
 |some (.row cs)=>PV u (lN i n cs off)
 |_=>false
@[simp] theorem qcZ(i:Nat)(n:Option Nat)(off:Nat)(u:U)(cs:List U):PU i n off u (some (.row cs))=PV u (lN i n cs off):=rfl
@[simp] theorem qeF(s:Vs):Rk.holds s .ok=true:=rfl
@[simp] theorem qeE(s:Vs):Rk.holds s .no=false:=rfl
@[simp] theorem qeD(s:Vs)(i:Nat)(n:Option Nat)(off:Nat)(u:U):Rk.holds s (.ld i n off u)=PU i n off u s.h[i]? :=by
 simp only[Rk.holds];cases s.h[i]? with
 |none=>rfl
 |some o=>
  cases o with
  |row cs=>simp only[PU];cases lN i n cs off<;>rfl
  |_=>rfl
@[simp] theorem qdx(a b:Bool):U.same (.bool a) (.bool b)=(a==b):=by simp only[U.same]
@[simp] theorem qfe(j k:IntKind)(a b:Int):U.same (.int j a) (.int k b)=(decide (j=k)&&decide (a=b)):=by simp only[U.same]
@[simp] theorem qfi(a b:List UInt8):U.same (.str a) (.str b)=(a==b):=by simp only[U.same]
@[simp] theorem qfh(i o j p:Nat):U.same (.ptr i o) (.ptr j p)=(decide (i=j)&&decide (o=p)):=by simp only[U.same,IW]
@[simp] theorem qff(i j:Nat):U.same (.map i) (.map j)=decide (i=j):=by simp only[U.same,IW]
@[simp] theorem qgN(w:Nat)(xs:List (List U))(u:U):U.same (.sl w xs) u=false:=by cases u<;>simp[U.same]
@[simp] theorem qfg(g:Tg)(w:Nat)(xs:List (List U))(u:U):U.same (.own g w xs) u=false:=by cases u<;>simp[U.same]
@[simp] theorem qfd(a b:List U):U.same (.agg a) (.agg b)=U.lQ a b:=by simp only[U.same]
@[simp] theorem qdy:U.lQ [] []=true:=by simp only[U.lQ]
@[simp] theorem qbz(a b:U)(x y:List U):U.lQ (a::x) (b::y)=(U.same a b&&U.lQ x y):=by simp only[U.lQ]
end
end Go.RE
namespace Go.RE
theorem aS{h l:List Uo}{i:Nat}{o:Uo}(hi:h[i]? =some o):(h++l)[i]? =some o:=by
 rw[cz (bn.1 hi).1];exact hi
@[simp] theorem VG(h l:List Uo)(a:Uo):(h++a::l)[h.length]? =some a:=by simp
@[simp] theorem at1(h l:List Uo)(a b:Uo):(h++a::b::l)[h.length+1]? =some b:=by simp
@[simp] theorem Ib(h l:List Uo)(a x:Uo):(h++a::l).set h.length x=h++x::l:=by simp
@[simp] theorem Xf(h l:List Uo)(a b x:Uo):(h++a::b::l).set (h.length+1) x=h++a::x::l:=by
 rw[List.set_append_right _ _ (by omega),show h.length+1 - h.length=1 by omega];rfl
theorem qA{fl:Nat}{h:List Uo}(hf:fl≤h.length)(l:List Uo):cut h.length fl (h++l)=h:=gf hf
theorem kU{fl:Nat}{h:List Uo}(hf:fl≤h.length)(a:Uo)(l:List Uo):cut (h.length+1) fl (h++a::l)=h++[a]:=by
 unfold cut;rw[Nat.max_eq_left (by omega),List.take_append,jU (by omega),show h.length+1 - h.length=1 by omega];rfl
theorem Al{fl:Nat}{h:List Uo}(hf:fl≤h.length)(a b:Uo)(l:List Uo):cut (h.length+2) fl (h++a::b::l)=h++[a,b]:=by
 unfold cut;rw[Nat.max_eq_left (by omega),List.take_append,jU (by omega),show h.length+2 - h.length=2 by omega];rfl
@[simp] theorem qgx(h l:List Uo):GD h.length (h++l)=h++((l.dropLast.map fun _=>Uo.gone)++l.getLast?.toList):=by simp[GD]
@[simp] theorem qez(h:List Uo):GD 0 h=(h.dropLast.map fun _=>Uo.gone)++h.getLast?.toList:=by simp[GD]
@[simp] theorem qaZ(d:Nat)(r:U)(a:Uo)(as:List Uo)(fc:Nat)(e:Env)(h:List Uo)(fl:Nat):qK d r (a::as) fc ⟨e,h,fl⟩=dJ d (r.shift h.length) ⟨e,h++(a::as).map (eL h.length),bif Nat.beq fc 0 then fl else h.length+fc⟩:=rfl
section
variable(k:Nat)
@[simp] theorem qdC(i o:Nat):U.shift k (.ptr i o)=.ptr (i+k) o:=by simp only[U.shift]
@[simp] theorem qdB(i:Nat):U.shift k (.map i)=.map (i+k):=by simp only[U.shift]
@[simp] theorem qbB(b:Bool):U.shift k (.bool b)=.bool b:=by simp only[U.shift]
@[simp] theorem qdA(j:IntKind)(n:Int):U.shift k (.int j n)=.int j n:=by simp only[U.shift]
@[simp] theorem qfk(w:Nat):U.shift k (.nl w)=.nl w:=by simp only[U.shift]
@[simp] theorem qdD(a:List U):U.shift k (.aV a)=.aV (U.fQ k a):=by simp only[U.shift]
@[simp] theorem qbC:U.fQ k []=[]:=by simp only[U.fQ]
@[simp] theorem Yd(a:U)(r:List U):U.fQ k (a::r)=a.shift k::U.fQ k r:=by simp only[U.fQ]
@[simp] theorem qbA(cs:List U):eL k (.row cs)=.row (U.fQ k cs):=rfl
theorem ji(es:List (U×U×Nat))(c:Nat):eL k (.map es c)=.map (es.map fun e=>(e.1.shift k,e.2.1.shift k,e.2.2)) c:=rfl
end
end Go.RE
namespace Go.RE
@[simp] theorem W2(e:Env)(d m:Nat):bw e none d m=some d:=rfl
def onV(most:Nat):Option U→Option Nat
 |some v=>fM v most
 |none=>none
@[simp] theorem qeY(most:Nat)(v:U):onV most (some v)=fM v most:=rfl
@[simp] theorem W3(e:Env)(x:bJ)(d m:Nat):bw e (some x) d m=onV m (cq e x):=by
 simp only[bw];cases cq e x<;>rfl
theorem o7{k:IntKind}{n m:Nat}(h:n≤m):fM (.int k (n:Int)) m=some n:=by
 simp only[fM,asNat];have h1:(0:Int)≤(n:Int):=Int.natCast_nonneg n;simp[h]
def qae(s:Vs)(len:Nat):Option U→Option U→Option (U×Vs)
 |some (.agg cs),some (.int _ n)=>if 0≤n∧n<(len:Int)then gQ s cs[n.toNat]? else none
 |_,_=>none
@[simp] theorem qcD(s:Vs)(len:Nat)(cs:List U)(k:IntKind)(n:Int):qae s len (some (.agg cs)) (some (.int k n))=if 0≤n∧n<(len:Int)then gQ s cs[n.toNat]? else none:=rfl
@[simp] theorem qe1(d:Nat)(s:Vs)(len:Nat)(x i:bJ):fR d s (.CB len x i)=qae s len (cq s.e x) (cq s.e i):=by
 simp only[fR];cases cq s.e x with
 |none=>rfl
 |some v=>
  cases cq s.e i with
  |none=>cases v<;>rfl
  |some w=>
   cases v with
   |agg cs=>
    cases w with
    |int k n=>simp only[qae];split<;>first|rfl|(cases cs[n.toNat]? <;>rfl)
    |_=>rfl
   |_=>rfl
def mxO(f:U→U→Option U)(s:Vs):Option (List U)→Option (U×Vs)
 |some (v::vs)=>gQ s (mJ f v vs)
 |_=>none
@[simp] theorem qeV(f:U→U→Option U)(s:Vs)(v:U)(vs:List U):mxO f s (some (v::vs))=gQ s (mJ f v vs):=rfl
@[simp] theorem qgJ(d:Nat)(s:Vs)(xs:List bJ):fR d s (.max xs)=mxO (lH yf) s (jy s.e xs):=by
 simp only[fR];cases jy s.e xs with
 |none=>rfl
 |some l=>
  cases l with
  |nil=>rfl
  |cons v vs=>simp only[mxO];cases mJ (lH yf) v vs<;>rfl
@[simp] theorem qgK(d:Nat)(s:Vs)(xs:List bJ):fR d s (.min xs)=mxO (lH AY) s (jy s.e xs):=by
 simp only[fR];cases jy s.e xs with
 |none=>rfl
 |some l=>
  cases l with
  |nil=>rfl
  |cons v vs=>simp only[mxO];cases mJ (lH AY) v vs<;>rfl
def fdO(f:U→U→Option U)(r:List U):Option U→Option U
 |some c=>mJ f c r
 |none=>none
@[simp] theorem qem(f:U→U→Option U)(r:List U)(c:U):fdO f r (some c)=mJ f c r:=rfl
@[simp] theorem qcU(f:U→U→Option U)(a:U):mJ f a []=some a:=rfl
@[simp] theorem qaN(f:U→U→Option U)(a b:U)(r:List U):mJ f a (b::r)=fdO f r (f a b):=by
 simp only[mJ];cases f a b<;>rfl
section
variable{M:oW}{Q:mA}{F:FU}
end
@[simp] theorem qeG(s:Vs)(w w' :Nat)(g:Tg)(xs:List (List U))(k:IntKind)(n:Int):qo s w (some (.own g w' xs)) (some (.int k n))=if 0≤n∧n<(xs.length:Int)then(bif Nat.beq w' w then some (.bD g n.toNat 0,s)else none)else none:=rfl
@[simp] theorem qgT(k:IntKind)(n:Int):(V.int k n).EV=some (.int k n):=rfl
@[simp] theorem qfR(b:Bool):(V.bool b).EV=some (.bool b):=rfl
@[simp] theorem qgU(b:List UInt8):(V.str b).EV=some (.str b):=rfl
@[simp] theorem qfT:V.bA.EV=some .bA:=rfl
@[simp] theorem qfS:V.cO.EV=some .cO:=rfl
@[simp] theorem qgS(w:Nat):(V.ag [] 0 0 w).EV=some (.sl w []):=rfl
@[simp] theorem XN(a b:List U):rQ [] a b=some true:=rfl
@[simp] theorem W6(a b:List UInt8):fJ .str (.str a) (.str b)=some (a==b):=rfl
@[simp] theorem V7(a b:Bool):fJ .bool (.bool a) (.bool b)=some (a==b):=rfl
def tbV(d:Nat)(s:Vs):U→Option (U×Vs)
 | .str b=>bif Nat.ble b.length bp then some (.sl 1 (bE b),s)else none
 |_=>none
@[simp] theorem qgR(d:Nat)(s:Vs)(b:List UInt8):tbV d s (.str b)=bif Nat.ble b.length bp then some (.sl 1 (bE b),s)else none:=rfl
@[simp] theorem X3(d:Nat)(s:Vs)(x:bJ):yg d s (.lV x)=(cq s.e x).bind (tbV d s):=by
 simp only[yg];cases cq s.e x with
 |none=>rfl
 |some v=>cases v<;>rfl
end Go.RE
namespace Go.RE
def JY:List aD→Bool
 |[]=>true
 |⟨_,.next _,_,_⟩::_=>false
 |_::r=>JY r
def aj.OV:aj→Bool
 | .region ops=>JY ops
 | .seq a b=>a.OV&&b.OV
 | .cond _ a b=>a.OV&&b.OV
 | .block _ b=>b.OV
 | .loop b=>b.OV
 |_=>true
section
variable{VF:Nat→Option aC}{M:oW}{Q:mA}{Pm:XG}
theorem HU{K:Ex→Vs→Prop}{o:Option Vs}(h:iq K o):∃ ex t,K ex t∧∀ K' :Ex→Vs→Prop,K' ex t→iq K' o:=by
 cases o with
 |none=>exact h.elim
 |some u=>exact⟨_,_,h,fun _ h=>h⟩
theorem JJ{fn:aC}{id n:Nat}{K:Ex→Vs→Prop}{ex:Ex}{t:Vs}(h:kB fn id n K ex t):∃ ex' t',K ex' t'∧∀ K' :Ex→Vs→Prop,K' ex' t'→kB fn id n K' ex t:=by
 cases ex with
 |normal=>exact⟨_,_,h,fun _ h=>h⟩
 |ret=>exact⟨_,_,h,fun _ h=>h⟩
 |exit i=>
  simp only[kB]at h⊢;cases hb:Nat.beq i id with
  |true=>rw[hb]at h;exact⟨_,_,h,fun _ h=>h⟩
  |false=>rw[hb]at h;exact⟨_,_,h,fun _ h=>h⟩
theorem qgg:∀ n,(∀ {fn:aC} {c:aj} {s:Vs} {K:Ex→Vs→Prop},c.OV=true→vC VF M Q Pm n fn c s K→∃ ex t,K ex t∧∀ K' :Ex→Vs→Prop,K' ex t→vC VF M Q Pm n fn c s K')∧
  ∀ {fn:aC} {id:Nat} {b:aj} {m:Nat} {s:Vs} {K:Ex→Vs→Prop},b.OV=true→vL VF M Q Pm n fn id b m s K→∃ ex t,K ex t∧∀ K' :Ex→Vs→Prop,K' ex t→vL VF M Q Pm n fn id b m s K' :=by
 intro n
 induction n with
 |zero=>exact⟨fun _ h=>by simp[vC]at h,fun _ h=>by simp[vL]at h⟩
 |succ n ih=>
  obtain⟨ihC,ihL⟩:=ih;refine⟨fun {fn c s K} hd h=> ?_,fun {fn id b m s K} hd h=> ?_⟩
  ·cases c with
   |skip=>exact⟨_,_,h,fun _ h=>h⟩
   |ret=>exact⟨_,_,h,fun _ h=>h⟩
   |exit i=>exact⟨_,_,h,fun _ h=>h⟩
   |region ops=>
    have hr:∀ K:Ex→Vs→Prop,vC VF M Q Pm (n+1) fn (.region ops) s K=iq K (gy M Q (vF VF M Q Pm n) ops s):=fun K=>by
     show jS M Q (vF VF M Q Pm n) s K ops=_;unfold jS;split
     ·simp[aj.OV,JY]at hd
     ·rfl
    rw[hr]at h;obtain⟨ex,t,h1,h2⟩:=HU h;exact⟨ex,t,h1,fun K' hk=>by rw[hr];exact h2 K' hk⟩
   |draw ops=>
    have h:kV M Q (vF VF M Q Pm n) s K (sched (ops.length+1) (bq ops 0) 0):=h;cases hl:sched (ops.length+1) (bq ops 0) 0 with
    |none=>rw[hl]at h;exact h.elim
    |some l=>
     rw[hl]at h;obtain⟨ex,t,h1,h2⟩:=HU h;refine⟨ex,t,h1,fun K' hk=> ?_⟩;show kV M Q (vF VF M Q Pm n) s K' (sched (ops.length+1) (bq ops 0) 0);rw[hl];exact h2 K' hk
   |seq a b=>
    simp only[aj.OV,bC]at hd;simp only[vC]at h⊢;obtain⟨ex,t,h1,h2⟩:=ihC hd.1 h;cases ex with
    |normal=>
     obtain⟨ex',t',h3,h4⟩:=ihC hd.2 h1;exact⟨ex',t',h3,fun K' hk=>h2 _ (h4 K' hk)⟩
    |ret=>exact⟨_,_,h1,fun K' hk=>h2 _ hk⟩
    |exit i=>exact⟨_,_,h1,fun K' hk=>h2 _ hk⟩
   |cond x a b=>
    simp only[aj.OV,bC]at hd;simp only[vC]at h⊢;split at h<;>try exact h.elim
    ·exact ihC hd.1 h
    ·exact ihC hd.2 h
   |block id b=>
    cases b with
    |loop b=>simp only[vC]at h⊢;exact ihL hd h
    |_=>
     simp only[vC]at h⊢;have hk:=fun hd=>ihC hd h;obtain⟨ex,t,h1,h2⟩:=hk hd;obtain⟨ex',t',h3,h4⟩:=JJ h1;exact⟨ex',t',h3,fun K' hk=>h2 _ (h4 K' hk)⟩
   |loop b=>simp[vC]at h
   |bad=>simp[vC]at h
   |uG a b=>simp[vC]at h
  ·simp only[vL]at h⊢;obtain⟨ex,t,h1,h2⟩:=ihC hd h;cases ex with
   |normal=>
    obtain⟨ex',t',h3,h4⟩:=ihL hd h1;exact⟨ex',t',h3,fun K' hk=>h2 _ (h4 K' hk)⟩
   |ret=>
    obtain⟨ex',t',h3,h4⟩:=JJ h1;exact⟨ex',t',h3,fun K' hk=>h2 _ (h4 K' hk)⟩
   |exit i=>
    obtain⟨ex',t',h3,h4⟩:=JJ h1;exact⟨ex',t',h3,fun K' hk=>h2 _ (h4 K' hk)⟩
def exX(P:U→List Uo→Nat→Prop):Option (U×List Uo×Nat)→Prop
 |some (r,h,fl)=>P r h fl
 |none=>False
@[simp] theorem qek{P:U→List Uo→Nat→Prop}{r:U}{h:List Uo}{fl:Nat}:exX P (some (r,h,fl))=P r h fl:=rfl
theorem PF{P:U→List Uo→Nat→Prop}{o:Option (U×List Uo×Nat)}(h:exX P o):∃ r h fl,o=some (r,h,fl)∧P r h fl:=by
 cases o with
 |none=>exact h.elim
 |some x=>exact⟨_,_,_,rfl,h⟩
def kX(k:Nat)(fn:aC)(P:U→List Uo→Nat→Prop)(ex:Ex)(s:Vs):Prop:=
 match ex with
 | .exit _=>False
 |_=>exX P (CF k fn s)
@[simp] theorem qhn{k:Nat}{fn:aC}{P:U→List Uo→Nat→Prop}{s:Vs}:kX k fn P .ret s=exX P (CF k fn s):=rfl
@[simp] theorem qc3{k:Nat}{fn:aC}{P:U→List Uo→Nat→Prop}{s:Vs}:kX k fn P .normal s=exX P (CF k fn s):=rfl
theorem XP{fn:aC}{f:Nat}{us:List U}{h:List Uo}{fl:Nat}{P:U→List Uo→Nat→Prop}(hp:Pm f=none)(hf:VF f=some fn)(ha:Nat.ble us.length fn.ntmps=true)(hd:fn.body.OV=true)
  (hR:gC VF M Q Pm fn fn.body ⟨lM us 0,h,fl⟩ (kX h.length fn P)):∃ r h' fl',gF VF M Q Pm f us h fl=some (r,h',fl')∧P r h' fl' :=by
 obtain⟨n,hn⟩:=hR;obtain⟨ex,t,h1,h2⟩:=(qgg n).1 hd hn;cases ex with
 |exit i=>exact h1.elim
 |normal=>
  obtain⟨r,h',fl',h3,h4⟩:=PF h1;exact⟨r,h',fl',Hf hp hf ha ⟨n,h2 _ h3⟩,h4⟩
 |ret=>
  obtain⟨r,h',fl',h3,h4⟩:=PF h1;exact⟨r,h',fl',Hf hp hf ha ⟨n,h2 _ h3⟩,h4⟩
end
end Go.RE
namespace Go.RE
set_option linter.unnecessarySimpa false
section
variable{C:Nat→Option ck}{M:oW}{VF:Nat→Option aC}{Q:mA}{Pm:XG}
variable{E:qe}{σ:Sg}{Z:Zs}{ω:Om}{s:Vs}{e:PT V}{st:St}{n:Nat}
theorem Ok.Q7(hk:Ok E σ Z ω s e st){g:Tg}{w:Nat}{p0:Nat×List (List U)}(hp0:s.cc g=some p0)(hg:ω g=none):Ok E σ Z ω (s.fB g w []) e st:=by
 have henv:∀ t u,look (Env.fB g [] s.e) t=some u→∃ v,e.get t=some v∧TR σ Z ω s.h.length u v:=by
  intro t u hu;rw[AU]at hu;cases hq:look s.e t with
  |none=>rw[hq]at hu;simp at hu
  |some x=>
   rw[hq]at hu;simp at hu;obtain⟨v,h1,h2⟩:=hk.env t x hq;refine⟨v,h1,?_⟩;subst hu;cases x with
   |own g' w2 xs2=>
    simp only[U.fB];by_cases hgg:g' =g
    ·subst hgg;rw[if_pos rfl];refine⟨?_,h2.2⟩;have h3:=h2.1;unfold OR at h3⊢;rw[hg]at h3⊢;exact⟨rfl,h3.2⟩
    ·rw[if_neg hgg];exact h2
   |_=>exact h2
 unfold Vs.fB;split
 ·rename_i i off;simp only[Vs.cc]at hp0;split at hp0<;>try (simp at hp0;done)
  rename_i cs' hi;split at hp0<;>try (simp at hp0;done)
  rename_i w0 xs0 hc0;have hlt:=(bn.1 hi).1;have hoff:=(bn.1 hc0).1;simp only[setCell,hi];refine(hk.setEnv henv).setRow (cs:=cs') hi (by simp) (fun o u u' v h1 h2 h3=> ?_) (fun o h2=> ?_)
  ·rw[eN]at h2;by_cases ho:off=o
   ·subst ho;rw[if_pos rfl,if_pos hoff]at h2;simp at h2;subst h2;rw[hc0]at h1;simp at h1;subst h1;have h4:OR σ Z ω (.c i off) w0 xs0 v:=h3;show OR σ Z ω (.c i off) w [] v;unfold OR at h4⊢;rw[hg]at h4⊢;exact⟨rfl,h4.2⟩
   ·rw[if_neg ho,h1]at h2;simp at h2;subst h2;exact h3
  ·rw[eN]at h2;split at h2
   ·first|(simp at h2;done)|(split at h2<;>simp at h2)
   ·exact h2
 ·exact hk.setEnv henv
theorem MA{u:U}{v:V}(h:TR σ Z ω n u v)(hc:u.aH=true):UR σ Z n u v:=by
 cases u<;>first|exact h|(simp[U.aH]at hc)
theorem wI(T:lR C M VF Q Pm){f:Nat}{fn:aC}(hC:C f=some ⟨fn.ntmps,fn.results,fn.body.er⟩)(hres:fn.results=[]){q:List (List U)→List U→Option (List (List U))}
  (hq:∀ xs rest ys w,q xs rest=some ys→(∀ r∈xs,r.length=w)→(∀ u∈rest,u.aH=true∧u.low 0=true)∧rest.length+1≤fn.ntmps∧ys.length=xs.length∧(∀ r∈ys,r.length=w)∧U.kg ys=true∧
   gC VF M Q Pm fn fn.body ⟨(0,.own .a w xs)::lM rest 1,[],0⟩ fun ex t=>(∀ i,ex≠.exit i)∧t.cc .a=some (w,ys)):vX (dA C M) f q:=by
 intro xs rest ys hh E σ Z ω s e st g w v vs p0 hk hp0 hor hlen hr;have hw:∀ r∈xs,r.length=w:=by
  have:=hor;unfold OR at this;split at this
  ·rw[this.1];intro r hr;cases hr
  ·exact this.2.2.2.2.1
 obtain⟨h1,h2,h3,h4,h5,n,hn⟩:=hq xs rest ys w hh hw;have hnone:∀ x I,(fun x:Tg=>if x=.a then ω g else none) x=some I→x=.a∧ω g=some I:=fun x I hI=>by
  simp only at hI;split at hI
  ·exact⟨‹_›,hI⟩
  ·cases hI
 have hok:Ok ⟨0,σ,fun b=>∃ I,ω g=some I∧I.b=b,Z,st,fun _=>False,(ω g).map nZ.desc,fun _ _=>False⟩ σ Z (fun x=>if x=.a then ω g else none) ⟨(0,.own .a w xs)::lM rest 1,[],0⟩ (cu (v::vs) 0 .e) st:=by
  refine⟨fun t u hu=> ?_,fun i o ho=>by simp at ho,hk.qm,fun x I hI=>hk.lE g I (hnone x I hI).2,hk.fresh,fun i j hi=>by simp at hi,fun x y I J hI hJ _=>by rw[(hnone x I hI).1,(hnone y J hJ).1],fun i x I hi=>by simp at hi,fun i hi=>by simp at hi,fun x I hI=>hk.wz g I (hnone x I hI).2,fun i hi=>by simp at hi,⟨rfl,rfl⟩,fun i off I hI=>(by cases(hnone _ I hI).1),aq _,fun i hi=>by simp at hi,fun b r hb=>hb,aq _,fun b hb hbI=>⟨rfl,fun i hi=>by simp at hi,fun x I hI hbb=>hbI ⟨I,(hnone x I hI).2,hbb⟩,fun r hr=>hr⟩,fun i hi=>False.elim hi,fun i off cs h1=>by simp at h1⟩;simp only[look]at hu;cases hb:Nat.beq 0 t with
  |true=>
   rw[hb]at hu;simp only[cond_true,ai]at hu;have:=bR hb;subst this;subst hu;refine⟨v,by rw[fF,if_pos ⟨dW _,by simp⟩];rfl,OR.to hor (fun _ _ h=>h) rfl,fun i off hh=>by cases hh⟩
  |false=>
   rw[hb]at hu;simp only[cond_false]at hu;obtain⟨ht1,hu2⟩:=wD hu;obtain⟨ht2,_⟩:=bn.1 hu2;have hv:=bP (l:=vs) (i:=t - 1) (by omega);have hm:=List.mem_of_getElem? hu2;refine⟨vs[t - 1],?_,TR.bB ?_⟩
   ·rw[fF,if_pos ⟨dW _,by simp;omega⟩];rw[show t - 0=(t - 1)+1 by omega];simpa using hv
   ·exact(MA (hr (t - 1) u _ hu2 hv) (h1 u hm).1).low (h1 u hm).2
 obtain⟨N,hN⟩:=(sound T n).2.1 hn ⟨⟨aq _,fun i o ho=>by simp at ho⟩,σ,Z,_,hok⟩;refine⟨N,?_⟩;rw[qv hC (by simp;omega)];refine b9 (aq _) ?_ hN;rintro ex e' st' ⟨s',⟨hne,hown⟩,hf',σ',Z',ω',hk'⟩;have hall:ct e' st' fn.results=some (.aV []):=by rw[hres];rfl
 have goal:∃ ω2,Ok E σ Z ω2 (s.fB g w ys) e st' :=by
  have wa:(ω' .a).map nZ.desc=(ω g).map nZ.desc:=hk'.zT.2;cases hg:ω g with
  |none=>
   have hx0:xs=[]:=by unfold OR at hor;rw[hg]at hor;exact hor.1
   have hy0:ys=[]:=jT (by rw[h3,hx0];rfl);subst hy0;have hm:Ok E σ Z ω s e st' :=hk.mem hk'.nx hk'.fresh fun b hb=>(hk'.out b (hk.zc hb) (fun⟨I,hI,_⟩=>by rw[hg]at hI;cases hI)).1;exact⟨ω,hm.Q7 hp0 hg⟩
  |some I=>
   rw[hg]at wa;cases hJ:ω' .a with
   |none=>rw[hJ]at wa;cases wa
   |some J=>
    rw[hJ]at wa;simp only[Option.map_some,ai,nZ.desc,aJ]at wa;obtain⟨w1,w2,w3,w4,w5⟩:=wa;obtain⟨v',ho⟩:=yX hk' hown;unfold OR at ho hor;rw[hJ]at ho;rw[hg]at hor;obtain⟨_,⟨o1,o2⟩,o3,o4,o5,o6⟩:=ho;obtain⟨_,⟨p1,p2⟩,p3,p4,p5,p6⟩:=hor;have hlu:LU σ Z 0 ys.flatten ((J.row.drop I.off).take (ys.length*I.w)):=by
     rw[p1,←w2];exact⟨o6.1,fun j u v a b=>((o6.2 j u v a b).flat (AB h5 j u a)).mono (aq 0) (fun i hi=>by omega) (fun _ _ h=>h)⟩
    have hup:=hk.Bl hp0 hg (ys:=ys) (row' :=J.row) (by rw[h3,p2]) (fun _=>by rw[p1,←w2,←w3];exact o4) (fun r hr=>by rw[p1];exact h4 r hr) hlu;rw[p1]at hup;refine⟨_,hup.mem hk'.nx hk'.fresh fun b hb=> ?_⟩;have hblt:=hup.zc hb;by_cases hbI:b=I.b
    ·subst hbI;rw[St.dX,if_pos rfl,←w1];exact hk'.lE _ J hJ
    ·rw[St.dX,if_neg hbI];exact(hk'.out b hblt (fun⟨I',hI',hb'⟩=>by rw[hg]at hI';cases hI';exact hbI hb'.symm)).1
 cases ex with
 |exit i=>exact absurd rfl (hne i)
 |normal=>rw[kr];simp only[hall];first|exact⟨rfl,goal⟩|exact⟨trivial,goal⟩
 |ret=>rw[nK];simp only[hall];first|exact⟨rfl,goal⟩|exact⟨trivial,goal⟩
end
end Go.RE
