/- A part of a proof. -/
import Derived.Test.YtmpopachilfinaaGreatPart7
set_option linter.unusedVariables false
set_option linter.unusedSimpArgs false
set_option linter.constructorNameAsVariable false
namespace Go.RE
def iz(s:Vs):Option U→Option (U×Vs)
 |some v=>some (v,s)
 |none=>none
@[simp] theorem qek{s:Vs}{v:U}:iz s (some v)=some (v,s):=rfl
@[simp] theorem qhU(t:Nat):look [] t=none:=rfl
@[simp] theorem qf9(k t:Nat)(v:U)(r:Env):look ((k,v)::r) t=if k=t then some v else look r t:=by
 simp only[look];by_cases h:k=t
 ·subst h;simp
 ·rw[if_neg h];have:Nat.beq k t=false:=by
   cases hb:Nat.beq k t with
   |false=>rfl
   |true=>exact absurd (aU hb) h
  rw[this];rfl
@[simp] theorem qgl(d:Nat)(v:U)(e:Env):js (some d) v e=(d,v)::e:=rfl
@[simp] theorem qgk(v:U)(e:Env):js none v e=e:=rfl
@[simp] theorem qlZ(e:Env)(n:Nat):cA e (.t n)=look e n:=rfl
@[simp] theorem qlY(e:Env)(v:V):cA e (.c v)=some v.nj:=rfl
@[simp] theorem qhl(e:Env):j4 e []=some []:=rfl
def BE:Option U→Option (List U)→Option (List U)
 |some v,some vs=>some (v::vs)
 |_,_=>none
@[simp] theorem qdu(v:U)(vs:List U):BE (some v) (some vs)=some (v::vs):=rfl
@[simp] theorem qfP(e:Env)(x:bO)(r:List bO):j4 e (x::r)=BE (cA e x) (j4 e r):=by
 simp only[j4];cases cA e x<;>simp only[BE];cases j4 e r<;>simp only[BE]
attribute [simp] V.nj V.dF mK
@[simp] theorem Env.qhL(g:Tg):Env.kill g []=[]:=rfl
@[simp] theorem Env.qf3(g:Tg)(k:Nat)(v:U)(r:Env):Env.kill g ((k,v)::r)=(k,v.kill g)::Env.kill g r:=rfl
@[simp] theorem Env.qjI(g:Tg):Env.mS g []=[]:=rfl
@[simp] theorem Env.qhz(g:Tg)(k:Nat)(v:U)(r:Env):Env.mS g ((k,v)::r)=(k,v.mS g)::Env.mS g r:=rfl
@[simp] theorem Env.qgs(g g2:Tg):Env.jg g g2 []=[]:=rfl
@[simp] theorem Env.qet(g g2:Tg)(k:Nat)(v:U)(r:Env):Env.jg g g2 ((k,v)::r)=(k,v.jg g g2)::Env.jg g g2 r:=rfl
@[simp] theorem Env.qkd(g:Tg)(ys:List (List U)):Env.fK g ys []=[]:=rfl
@[simp] theorem Env.qi2(g:Tg)(ys:List (List U))(k:Nat)(v:U)(r:Env):Env.fK g ys ((k,v)::r)=(k,v.fK g ys)::Env.fK g ys r:=rfl
@[simp] theorem Env.qdV(p:Tg→Bool):Env.bV p []=[]:=rfl
@[simp] theorem Env.qaT(p:Tg→Bool)(k:Nat)(v:U)(r:Env):Env.bV p ((k,v)::r)=(k,v.bV p)::Env.bV p r:=rfl
attribute [simp] U.kill U.mS U.jg U.fK U.bV Tg.SC Tg.isC
@[simp] theorem Vs.qkE(d:Nat)(e:Env)(h:List Uo)(fl:Nat):Vs.kill (.t d) ⟨e,h,fl⟩=⟨Env.kill (.t d) e,h,fl⟩:=rfl
@[simp] theorem Vs.qkD(e:Env)(h:List Uo)(fl:Nat):Vs.kill .r ⟨e,h,fl⟩=⟨Env.kill .r e,h,fl⟩:=rfl
@[simp] theorem Vs.qkC(i off:Nat)(e:Env)(h:List Uo)(fl:Nat):Vs.kill (.c i off) ⟨e,h,fl⟩=⟨Env.kill (.c i off) e,setCell h i off .bad,fl⟩:=rfl
@[simp] theorem Vs.ql1(d:Nat)(e:Env)(h:List Uo)(fl:Nat):Vs.mS (.t d) ⟨e,h,fl⟩=⟨Env.mS (.t d) e,h,fl⟩:=rfl
@[simp] theorem Vs.ql0(e:Env)(h:List Uo)(fl:Nat):Vs.mS .r ⟨e,h,fl⟩=⟨Env.mS .r e,h,fl⟩:=rfl
@[simp] theorem Vs.qma(d w:Nat)(ys:List (List U))(e:Env)(h:List Uo)(fl:Nat):Vs.fK (.t d) w ys ⟨e,h,fl⟩=⟨Env.fK (.t d) ys e,h,fl⟩:=rfl
@[simp] theorem Vs.ql9(i off w:Nat)(ys:List (List U))(e:Env)(h:List Uo)(fl:Nat):Vs.fK (.c i off) w ys ⟨e,h,fl⟩=⟨Env.fK (.c i off) ys e,setCell h i off (.bJ w ys),fl⟩:=rfl
@[simp] theorem Vs.qkK(d:Nat)(e:Env)(h:List Uo)(fl:Nat):Vs.cw (.t d) ⟨e,h,fl⟩=Env.cw (.t d) e e:=rfl
@[simp] theorem Vs.qkJ(i off:Nat)(e:Env)(h:List Uo)(fl:Nat):Vs.cw (.c i off) ⟨e,h,fl⟩=(match h[i]? with
  |some (.row cs)=>(match cs[off]? with
   |some (.bJ w xs)=>some (w,xs)
   |_=>none)
  |_=>none):=rfl
attribute [simp] Env.cw
attribute [simp] esc
def qhk(s:Vs):Option U→Option (U×Vs)
 |some v=>esc v s
 |none=>none
@[simp] theorem qfL(s:Vs)(v:U):qhk s (some v)=esc v s:=rfl
@[simp] theorem qjG(x:bO)(s:Vs):gb x s=qhk s (cA s.e x):=by unfold gb;cases cA s.e x<;>rfl
@[simp] theorem qfM(s:Vs):gy [] s=some ([],s):=rfl
def qdB(v:U):Option (List U×Vs)→Option (List U×Vs)
 |some (vs,s)=>some (v::vs,s)
 |none=>none
@[simp] theorem qfN(v:U)(vs:List U)(s:Vs):qdB v (some (vs,s))=some (v::vs,s):=rfl
def qdC(r:List bO):Option (U×Vs)→Option (List U×Vs)
 |some (v,s)=>qdB v (gy r s)
 |none=>none
@[simp] theorem qfO(r:List bO)(v:U)(s:Vs):qdC r (some (v,s))=qdB v (gy r s):=rfl
@[simp] theorem qdA(x:bO)(r:List bO)(s:Vs):gy (x::r) s=qdC r (gb x s):=by
 simp only[gy];cases gb x s with
 |none=>rfl
 |some p=>obtain⟨v,s⟩:=p;simp only[qdC];cases gy r s<;>rfl
@[simp] theorem qfQ(cells:List U)(s:Vs):kN [] cells s=some (cells,s):=rfl
def qaJ(off size:Nat)(rest:List (Nat×Nat×bO))(cells:List U):Option (U×Vs)→Option (List U×Vs)
 |some (v,s)=>bif Nat.beq v.cells.length size&&Nat.ble (off+v.cells.length) cells.length then kN rest (gK cells off v.cells) s else none
 |none=>none
@[simp] theorem qdE(off size:Nat)(rest:List (Nat×Nat×bO))(cells:List U)(v:U)(s:Vs):qaJ off size rest cells (some (v,s))=bif Nat.beq v.cells.length size&&Nat.ble (off+v.cells.length) cells.length then kN rest (gK cells off v.cells) s else none:=rfl
@[simp] theorem qdF(off size:Nat)(x:bO)(rest:List (Nat×Nat×bO))(cells:List U)(s:Vs):kN ((off,size,x)::rest) cells s=qaJ off size rest cells (gb x s):=by
 simp only[kN];cases gb x s<;>rfl
attribute [simp] U.cells gK U.aL U.wo U.o8 U.low U.bZ
def qhV(d:Nat)(s:Vs):U→Option (U×Vs)
 | .own .r w xs=>some (.own (.t d) w xs,s.kill (.t d))
 |v=>some (v,s)
attribute [simp] qhV
@[simp] theorem qj0(d:Nat)(s:Vs)(x:bO):gm d s (.bn x)=(cA s.e x).bind (qhV d s):=by
 simp only[gm];cases cA s.e x with
 |none=>rfl
 |some v=>
  cases v with
  |own g w xs=>cases g<;>rfl
  |_=>rfl
def N6(s:Vs)(a b:bO):U→Option (U×Vs)
 | .bool true=>iz s (cA s.e a)
 | .bool false=>iz s (cA s.e b)
 |_=>none
@[simp] theorem qel(s:Vs)(a b:bO):N6 s a b (.bool true)=iz s (cA s.e a):=rfl
@[simp] theorem qaY(s:Vs)(a b:bO):N6 s a b (.bool false)=iz s (cA s.e b):=rfl
@[simp] theorem qh8(d:Nat)(s:Vs)(c a b:bO):gm d s (.pick c a b)=(cA s.e c).bind (N6 s a b):=by
 simp only[gm];cases cA s.e c with
 |none=>rfl
 |some v=>
  cases v with
  |bool t=>cases t<;>simp only[Option.bind,N6]<;>(first|(cases cA s.e a<;>rfl)|(cases cA s.e b<;>rfl))
  |_=>rfl
def NV(s:Vs)(n:Option Nat)(i off:Nat):Uo→Option (U×Vs)
 | .row cs=>iz s (mL i n cs off)
 |_=>none
@[simp] theorem qf8(s:Vs)(n:Option Nat)(i off:Nat)(cs:List U):NV s n i off (.row cs)=iz s (mL i n cs off):=rfl
def NW(s:Vs)(n:Option Nat)(i f:Nat):Nat×List (List U)→Option (U×Vs)
 |(_,xs)=>(xs[i]?).bind fun r=>iz s (jf n r f)
@[simp] theorem qhT(s:Vs)(n:Option Nat)(i f w:Nat)(xs:List (List U)):NW s n i f (w,xs)=(xs[i]?).bind fun r=>iz s (jf n r f):=rfl
def Cb(s:Vs)(n:Option Nat):U→Option (U×Vs)
 | .ptr i off=>(s.h[i]?).bind (NV s n i off)
 | .eR row off=>iz s (jf n row off)
 | .bI g i f=>(s.cw g).bind (NW s n i f)
 |_=>none
@[simp] theorem qf7(s:Vs)(n:Option Nat)(i off:Nat):Cb s n (.ptr i off)=(s.h[i]?).bind (NV s n i off):=rfl
@[simp] theorem qd4(s:Vs)(n:Option Nat)(row:List U)(off:Nat):Cb s n (.eR row off)=iz s (jf n row off):=rfl
@[simp] theorem qd5(s:Vs)(n:Option Nat)(g:Tg)(i f:Nat):Cb s n (.bI g i f)=(s.cw g).bind (NW s n i f):=rfl
@[simp] theorem qh7(d:Nat)(s:Vs)(n:Option Nat)(x:bO):gm d s (.load n x)=(cA s.e x).bind (Cb s n):=by
 simp only[gm];cases cA s.e x with
 |none=>rfl
 |some v=>
  cases v with
  |ptr i off=>
   simp only[Option.bind,Cb];cases s.h[i]? with
   |none=>rfl
   |some o=>
    cases o with
    |row cs=>simp only[Option.bind,NV];cases mL i n cs off<;>rfl
    |_=>rfl
  |eR row off=>simp only[Option.bind,Cb];cases jf n row off<;>rfl
  |bI g i f=>
   simp only[Option.bind,Cb];cases s.cw g with
   |none=>rfl
   |some p=>
    obtain⟨w,xs⟩:=p;simp only[NW,Option.bind];cases xs[i]? with
    |none=>rfl
    |some r=>simp only;cases jf n r f<;>rfl
  |_=>rfl
def qh1(s:Vs):U→Option (U×Vs)
 | .ptr i o=>some (.ptr i o,s)
 | .eR r o=>some (.eR r o,s)
 | .bI g i o=>some (.bI g i o,s)
 | .func f a b=>some (.func f a b,s)
 | .iface t v=>some (.iface t v,s)
 |_=>none
attribute [simp] qh1
@[simp] theorem ZW(d:Nat)(s:Vs)(x:bO):gm d s (.nilCheck x)=(cA s.e x).bind (qh1 s):=by
 simp only[gm];cases cA s.e x with
 |none=>rfl
 |some v=>cases v<;>rfl
def qdh(s:Vs)(op:BinOp)(ek:iG):Option U→Option U→Option (U×Vs)
 |some a,some b=>iz s (jo op ek a b)
 |_,_=>none
@[simp] theorem qfD(s:Vs)(op:BinOp)(ek:iG)(a b:U):qdh s op ek (some a) (some b)=iz s (jo op ek a b):=rfl
@[simp] theorem qjW(d:Nat)(s:Vs)(op:BinOp)(ek:iG)(x y:bO):gm d s (.bin op ek x y)=qdh s op ek (cA s.e x) (cA s.e y):=by
 simp only[gm];cases cA s.e x with
 |none=>rfl
 |some a=>
  cases cA s.e y with
  |none=>rfl
  |some b=>simp only[qdh];cases jo op ek a b<;>rfl
@[simp] theorem qkI(d:Nat)(s:Vs)(op:UnOp)(x:bO):gm d s (.un op x)=(cA s.e x).bind fun a=>iz s (unU op a):=by
 simp only[gm];cases cA s.e x with
 |none=>rfl
 |some a=>simp only[Option.bind];cases unU op a<;>rfl
def qaI(k:IntKind)(s:Vs):U→Option (U×Vs)
 | .int _ n=>some (.int k (aK k n),s)
 |_=>none
attribute [simp] qaI
@[simp] theorem qaW(d:Nat)(s:Vs)(k:IntKind)(x:bO):gm d s (.eP k x)=(cA s.e x).bind (qaI k s):=by
 simp only[gm];cases cA s.e x with
 |none=>rfl
 |some v=>cases v<;>rfl
def qhc(s:Vs):U→Option (U×Vs)
 | .str b=>some (.str b,s)
 |_=>none
attribute [simp] qhc
def TA(s:Vs)(v:U):Option (U×Vs):=(rowsOf s 1 v).bind fun xs=>(kz xs).bind fun bs=>some (.str bs,s)
@[simp] theorem qgi(d:Nat)(s:Vs)(x:bO):gm d s (.toStr x)=(cA s.e x).bind (TA s):=by
 simp only[gm];cases cA s.e x with
 |none=>rfl
 |some v=>
  simp only[Option.bind,TA];cases rowsOf s 1 v with
  |none=>rfl
  |some xs=>simp only;cases kz xs<;>rfl
def qdJ(f:Nat)(a:List U):Option (List U×Vs)→Option (U×Vs)
 |some (b,s)=>some (.func f a b,s)
 |none=>none
def fnV(f:Nat)(captured:List bO):Option (List U×Vs)→Option (U×Vs)
 |some (a,s)=>qdJ f a (gy captured s)
 |none=>none
@[simp] theorem qfR(f:Nat)(a b:List U)(s:Vs):qdJ f a (some (b,s))=some (.func f a b,s):=rfl
@[simp] theorem qht(f:Nat)(captured:List bO)(a:List U)(s:Vs):fnV f captured (some (a,s))=qdJ f a (gy captured s):=rfl
@[simp] theorem qej(d:Nat)(s:Vs)(f:Nat)(a b:List bO):gm d s (.jK f a b)=fnV f b (gy a s):=by
 simp only[gm];cases gy a s with
 |none=>rfl
 |some p=>obtain⟨v,s⟩:=p;simp only[fnV];cases gy b s<;>rfl
def RX:Option (List U×Vs)→Option (U×Vs)
 |some (cs,s)=>some (.agg cs,s)
 |none=>none
@[simp] theorem qaF(cs:List U)(s:Vs):RX (some (cs,s))=some (.agg cs,s):=rfl
@[simp] theorem qgf(d:Nat)(s:Vs)(z:List V)(ps:List (Nat×Nat×bO)):gm d s (.build z ps)=bif(V.dF z).all U.aL then RX (kN ps (V.dF z) s)else none:=by
 simp only[gm];cases kN ps (V.dF z) s<;>rfl
def faV(s:Vs)(off:Nat):U→Option (U×Vs)
 | .ptr i o=>some (.ptr i (o+off),s)
 | .eR row o=>some (.eR row (o+off),s)
 | .bI g i o=>some (.bI g i (o+off),s)
 |_=>none
attribute [simp] faV
@[simp] theorem YS(d:Nat)(s:Vs)(off:Nat)(x:bO):gm d s (.fieldAddr off x)=(cA s.e x).bind (faV s off):=by
 simp only[gm];cases cA s.e x with
 |none=>rfl
 |some v=>cases v<;>rfl
def rF(s:Vs)(w:Nat):Option U→Option U→Option (U×Vs)
 |some (.sl w' xs),some (.int _ n)=>if 0≤n then(match xs[n.toNat]? with|some r=>bif Nat.beq w' w then some (.eR r 0,s)else none|none=>none)else none
 |some (.own g w' xs),some (.int _ n)=>if 0≤n∧n<(xs.length:Int)then(bif Nat.beq w' w then some (.bI g n.toNat 0,s)else none)else none
 |some (.zw j off len w'),some (.int _ n)=>if 0≤n∧n<(len:Int)then(bif Nat.beq w' w then some (.ptr j (off+n.toNat*w),s)else none)else none
 |some (.view g lo len w'),some (.int _ n)=>if 0≤n∧n<(len:Int)then(bif Nat.beq w' w then some (.bI g (lo+n.toNat) 0,s)else none)else none
 |_,_=>none
theorem SB{s:Vs}{w:Nat}{g:Tg}{lo len:Nat}{k:IntKind}{n:Nat}(hn:n<len):rF s w (some (.view g lo len w)) (some (.int k n))=some (.bI g (lo+n) 0,s):=by
 simp only[rF,s7,fq,cond_true,if_pos (⟨uQ n,by omega⟩:(0:Int)≤n∧(n:Int)<len)]
theorem c9{s:Vs}{w:Nat}{g:Tg}{xs:List (List U)}{k:IntKind}{n:Nat}(hn:n<xs.length):rF s w (some (.own g w xs)) (some (.int k n))=some (.bI g n 0,s):=by
 simp only[rF,s7,fq,cond_true,if_pos (⟨uQ n,by omega⟩:(0:Int)≤n∧(n:Int)<xs.length)]
theorem bq{s:Vs}{w:Nat}{xs:List (List U)}{k:IntKind}{n:Nat}{r:List U}(hr:xs[n]? =some r):rF s w (some (.sl w xs)) (some (.int k n))=some (.eR r 0,s):=by
 simp only[rF,s7,hr,fq,cond_true,if_pos (uQ n)]
@[simp] theorem YT(d:Nat)(s:Vs)(w:Nat)(x i:bO):gm d s (.indexAddr w x i)=rF s w (cA s.e x) (cA s.e i):=by
 simp only[gm];cases cA s.e x with
 |none=>rfl
 |some v=>cases cA s.e i<;>cases v<;>rfl
def Ea(s:Vs)(k:Nat)(v:U):Option (U×Vs):=(QH s k v).bind fun n=>some (.int .i64 n,s)
@[simp] theorem qhO(s:Vs)(b:List UInt8):Ea s 0 (.str b)=some (.int .i64 b.length,s):=rfl
@[simp] theorem qjQ(s:Vs)(w:Nat)(xs:List (List U)):Ea s 1 (.sl w xs)=some (.int .i64 xs.length,s):=rfl
@[simp] theorem qf5(s:Vs)(g:Tg)(lo len w:Nat):Ea s 1 (.view g lo len w)=some (.int .i64 len,s):=rfl
@[simp] theorem qjP(s:Vs)(w:Nat):Ea s 1 (.nl w)=some (.int .i64 0,s):=rfl
@[simp] theorem qhN(s:Vs)(g:Tg)(w:Nat)(xs:List (List U)):Ea s 1 (.own g w xs)=some (.int .i64 xs.length,s):=rfl
@[simp] theorem qjX(d:Nat)(s:Vs)(k:Nat)(x:bO):gm d s (.len k x)=(cA s.e x).bind (Ea s k):=by
 simp only[gm];cases cA s.e x with
 |none=>rfl
 |some v=>simp only[Option.bind,Ea];cases QH s k v<;>rfl
def qdD(s:Vs)(i:Nat):U→Option (U×Vs)
 | .aZ vs=>iz s vs[i]?
 |_=>none
@[simp] theorem qhn(s:Vs)(i:Nat)(vs:List U):qdD s i (.aZ vs)=iz s vs[i]? :=rfl
@[simp] theorem qaX(d:Nat)(s:Vs)(i:Nat)(x:bO):gm d s (.extract i x)=(cA s.e x).bind (qdD s i):=by
 simp only[gm];cases cA s.e x with
 |none=>rfl
 |some v=>
  cases v with
  |aZ vs=>simp only[Option.bind,qdD];cases vs[i]? <;>rfl
  |_=>rfl
def lkO(s:Vs)(kk:iG)(ok:Bool)(z:Option U):Option U→Option U→Option (U×Vs)
 |some m,some k=>z.bind fun z=>iz s (fQ s kk z ok m k)
 |_,_=>none
@[simp] theorem qhP(s:Vs)(kk:iG)(ok:Bool)(z m k:U):lkO s kk ok (some z) (some m) (some k)=iz s (fQ s kk z ok m k):=rfl
@[simp] theorem qei(d:Nat)(s:Vs)(kk:iG)(z:V)(ok:Bool)(x i:bO):gm d s (.lookup kk z ok x i)=lkO s kk ok z.GG (cA s.e x) (cA s.e i):=by
 simp only[gm];cases z.GG with
 |none=>cases cA s.e x<;>cases cA s.e i<;>rfl
 |some z=>
  cases cA s.e x with
  |none=>rfl
  |some m=>
   cases cA s.e i with
   |none=>rfl
   |some k=>simp only[lkO,Option.bind];cases fQ s kk z ok m k<;>rfl
@[simp] theorem qgh(d:Nat)(s:Vs)(w:Nat)(x:bO)(lo hi mx:Option bO):gm d s (.slice w x lo hi mx)=(cA s.e x).bind fun v=>iT d w lo hi mx v s:=by
 simp only[gm];cases cA s.e x<;>rfl
def qdy(s:Vs):U→Option (U×Vs)
 | .ptr q 0=>iz s (nC s q)
 |_=>none
@[simp] theorem qhi(s:Vs)(q:Nat):qdy s (.ptr q 0)=iz s (nC s q):=rfl
@[simp] theorem qgg(d:Nat)(s:Vs)(x:bO):gm d s (.entry x)=(cA s.e x).bind (qdy s):=by
 simp only[gm];cases cA s.e x with
 |none=>rfl
 |some v=>
  cases v with
  |ptr q o=>
   cases o with
   |zero=>simp only[Option.bind,qdy];cases nC s q<;>rfl
   |succ o=>rfl
  |_=>rfl
@[simp] theorem qge(d:Nat)(e:Env)(h:List Uo)(fl:Nat)(z:List V):zO d ⟨e,h,fl⟩ (.alloc z)=bif(V.dF z).all (fun u=>u.aL||u.o8)then some (.ptr h.length 0,⟨e,h++[.row (V.dF z)],fl⟩)else none:=rfl
def qg4(e:Env)(h:List Uo)(fl:Nat):U→Option (U×Vs)
 | .own (.c _ _) _ _=>none
 | .own .a _ _=>none
 | .own g w xs=>some (.ptr h.length 0,⟨Env.jg g (.c h.length 0) e,h++[.row [.bJ w xs]],fl⟩)
 |v=>bif v.cells.all U.aL then some (.ptr h.length 0,⟨e,h++[.row v.cells],fl⟩)else none
attribute [simp] qg4
@[simp] theorem qjV(d:Nat)(e:Env)(h:List Uo)(fl:Nat)(x:bO):zO d ⟨e,h,fl⟩ (.box x)=(cA e x).bind (qg4 e h fl):=by
 simp only[zO];cases cA e x with
 |none=>rfl
 |some v=>
  cases v with
  |own g w xs=>cases g<;>rfl
  |_=>rfl
def Zg(d w len:Nat):Option (List U×Vs)→Option (U×Vs)
 |some (cs,s)=>bif cs.all U.aL&&U.bZ 0 cs&&Nat.beq cs.length (len*w)then some (.own (.t d) w (chunks w len cs),s.kill (.t d))else none
 |none=>none
@[simp] theorem qfI(d w len:Nat)(cs:List U)(s:Vs):Zg d w len (some (cs,s))=bif cs.all U.aL&&U.bZ 0 cs&&Nat.beq cs.length (len*w)then some (.own (.t d) w (chunks w len cs),s.kill (.t d))else none:=rfl
@[simp] theorem S5(d:Nat)(s:Vs)(w len:Nat)(z:List V)(ps:List (Nat×Nat×bO)):zO d s (.buildSlice w len z ps)=Zg d w len (bif(V.dF z).all U.aL then kN ps (LV (V.dF z) len) s else none):=by
 simp only[zO];generalize (bif(V.dF z).all U.aL then kN ps (LV (V.dF z) len) s else none)=q;cases q<;>rfl
@[simp] theorem qaU(d:Nat)(e:Env)(h:List Uo)(fl:Nat):zO d ⟨e,h,fl⟩ .makeMap=some (.map h.length,⟨e,h++[.map [] 0],fl⟩):=rfl
attribute [simp] LV chunks
def stV(n:Nat):Option Vs→Option (U×Vs)
 |some s=>some (.aZ [],s)
 |none=>none
@[simp] theorem qiB(n:Nat)(s:Vs):stV n (some s)=some (.aZ [],s):=rfl
def stR(n i off:Nat):U×Vs→Option (U×Vs)
 |(v,s)=>(s.h[i]?).bind fun o=>match o with| .row cs=>stV n (qK s n i off v cs)|_=>none
@[simp] theorem qkW(n i off:Nat)(v:U)(s:Vs):stR n i off (v,s)=(s.h[i]?).bind fun o=>match o with| .row cs=>stV n (qK s n i off v cs)|_=>none:=rfl
theorem Ed{d:Nat}{s:Vs}{n:Nat}{a x:bO}{i off:Nat}{v:U}{cs:List U}(ha:cA s.e a=some (.ptr i off))(hx:cA s.e x=some v)(hi:s.h[i]? =some (.row cs)):
  qE d s (.store n a x)=stR n i off (jL s off v cs):=by
 simp only[qE,ha,hx,hi];obtain⟨v2,s2⟩:=jL s off v cs;simp only[stR];cases s2.h[i]? with
 |none=>rfl
 |some o=>
  cases o with
  |row cs=>simp only[Option.bind];cases qK s2 n i off v2 cs<;>rfl
  |_=>rfl
def stO(d:Nat)(s:Vs)(n:Nat):U→U→Option (U×Vs)
 | .ptr i off,v=>(s.h[i]?).bind fun o=>match o with| .row cs=>stR n i off (jL s off v cs)|_=>none
 | .bI g i f,v=>(match esc v s with
   |some (v,s)=>(match s.cw g with
    |some (w,xs)=>(match xs[i]? with
     |some r=>bif Nat.beq v.cells.length n&&Nat.ble (f+n) r.length&&v.cells.all U.aL&&v.low 0 then some (.aZ [],s.fK g w (xs.set i (gK r f v.cells)))else none
     |none=>none)
    |none=>none)
   |none=>none)
 |_,_=>none
@[simp] theorem qj5(d:Nat)(s:Vs)(n i off:Nat)(v:U):stO d s n (.ptr i off) v=(s.h[i]?).bind fun o=>match o with| .row cs=>stR n i off (jL s off v cs)|_=>none:=rfl
def stB(d:Nat)(s:Vs)(n:Nat):Option U→Option U→Option (U×Vs)
 |some a,some v=>stO d s n a v
 |_,_=>none
@[simp] theorem qiz(d:Nat)(s:Vs)(n:Nat)(a v:U):stB d s n (some a) (some v)=stO d s n a v:=rfl
@[simp] theorem qgd(d:Nat)(s:Vs)(n:Nat)(a x:bO):qE d s (.store n a x)=stB d s n (cA s.e a) (cA s.e x):=by
 cases ha:cA s.e a with
 |none=>simp only[qE,ha];rfl
 |some va=>
  cases hx:cA s.e x with
  |none=>simp only[qE,ha,hx];cases va<;>rfl
  |some v=>
   cases va with
   |ptr i off=>
    simp only[stB,stO];cases hi:s.h[i]? with
    |none=>simp only[qE,ha,hx,hi];rfl
    |some o=>
     cases o with
     |row cs=>rw[Ed ha hx hi];rfl
     |_=>simp only[qE,ha,hx,hi];rfl
   |bI g i f=>simp only[qE,ha,hx];rfl
   |_=>simp only[qE,ha,hx];rfl
attribute [simp] jL qK setCell
def apV(d:Nat)(s:Vs)(w bytes:Nat)(ys:List (List U)):U→Option (U×Vs)
 | .own g w' xs=>bif !(decide (g=.a))&&Nat.beq w' w&&Nat.ble ((xs.length+ys.length)*bytes) bl&&Nat.ble (xs.length+ys.length) bl&&ys.all (fun r=>r.all U.aL&&U.bZ 0 r&&Nat.beq r.length w)then
      some (.own (.t d) w (xs++ys),(s.kill g).kill (.t d))else none
 | .nl w' =>bif Nat.beq w' w&&Nat.ble (ys.length*bytes) bl&&Nat.ble ys.length bl&&ys.all (fun r=>r.all U.aL&&U.bZ 0 r&&Nat.beq r.length w)then some (.own (.t d) w ys,(s.kill .r).kill (.t d))else none
 | .sl w' xs=>bif Nat.beq w' w&&ys.isEmpty&&Nat.ble (xs.length*bytes) bl&&Nat.ble xs.length bl then some (.sl w xs,s)else none
 |_=>none
def apO(d:Nat)(s:Vs)(w bytes:Nat)(str:Bool):Option U→Option U→Option (U×Vs)
 |some a,some x=>(Al s w str x).bind fun ys=>apV d s w bytes ys a
 |_,_=>none
@[simp] theorem qgJ(d:Nat)(s:Vs)(w bytes:Nat)(str:Bool)(a x:U):apO d s w bytes str (some a) (some x)=(Al s w str x).bind fun ys=>apV d s w bytes ys a:=rfl
@[simp] theorem qef(d:Nat)(s:Vs)(w bytes:Nat)(str:Bool)(a x:bO):qE d s (.append w bytes str a x)=apO d s w bytes str (cA s.e a) (cA s.e x):=by
 simp only[qE];cases cA s.e a with
 |none=>rfl
 |some va=>
  cases cA s.e x with
  |none=>rfl
  |some vx=>
   simp only[apO];cases Al s w str vx with
   |none=>rfl
   |some ys=>simp only[Option.bind,apV];cases va<;>rfl
attribute [simp] uv iq rL aJ U.NO U.qdQ
section
variable{M:qn}{Q:nu}{F:FU}
@[simp] theorem ql3(s:Vs)(dst:Option Nat)(o:gv):lu M Q F s dst (.s o)=gm (dst.getD 0) s o:=rfl
@[simp] theorem ql2(s:Vs)(dst:Option Nat)(o:Io):lu M Q F s dst (.m o)=zO (dst.getD 0) s o:=rfl
@[simp] theorem qgc(s:Vs)(dst:Option Nat)(n:Nat)(a x:bO):lu M Q F s dst (.h (.store n a x))=qE (dst.getD 0) s (.store n a x):=rfl
@[simp] theorem YP(s:Vs)(dst:Option Nat)(kk:iG)(m k x:bO):lu M Q F s dst (.h (.mapUpdate kk m k x))=qE (dst.getD 0) s (.mapUpdate kk m k x):=rfl
@[simp] theorem qee(s:Vs)(dst:Option Nat)(kk:iG)(m k:bO):lu M Q F s dst (.h (.delete kk m k))=qE (dst.getD 0) s (.delete kk m k):=rfl
@[simp] theorem qed(s:Vs)(dst:Option Nat)(w b:Nat)(t:Bool)(a x:bO):lu M Q F s dst (.h (.append w b t a x))=qE (dst.getD 0) s (.append w b t a x):=rfl
@[simp] theorem qh4(s:Vs)(dst:Option Nat)(w:Nat)(t:Bool)(a x:bO):lu M Q F s dst (.h (.copy w t a x))=qE (dst.getD 0) s (.copy w t a x):=rfl
@[simp] theorem qga(s:Vs)(dst:Option Nat)(w:Nat)(z:List V)(x:bO):lu M Q F s dst (.h (.clear w z x))=qE (dst.getD 0) s (.clear w z x):=rfl
def qig(e:Env)(h:List Uo)(fl:Nat):U→Option (U×Vs)
 | .bS=>some (.ptr h.length 0,⟨e,h++[.iter none 0 [] 0],fl⟩)
 | .map m=>(match h[m]? with
   |some (.map _ clock)=>some (.ptr h.length 0,⟨e,h++[.iter (some m) clock [] clock],fl⟩)
   |_=>none)
 |_=>none
attribute [simp] qig
@[simp] theorem qgb(e:Env)(h:List Uo)(fl:Nat)(dst:Option Nat)(x:bO):lu M Q F ⟨e,h,fl⟩ dst (.h (.range x))=(cA e x).bind (qig e h fl):=by
 simp only[lu];cases cA e x with
 |none=>rfl
 |some v=>cases v<;>rfl
def P9(Q:nu)(F:FU)(s:Vs)(d f:Nat)(args:List U):Option (Nat→List (List U)→List U→Option (Nat×List (List U)))→Option (U×Vs)
 |some q=>(match args with
  | .own g w xs::rest=>(match q w xs rest with
   |some (w',ys)=>some (.own (.t d) w' ys,s.kill (.t d))
   |none=>none)
  |_=>j9 (Q.ld f) F d f args s)
 |none=>j9 (Q.ld f) F d f args s
@[simp] theorem qjA(Q:nu)(F:FU)(s:Vs)(d f:Nat)(args:List U):Ag Q F s d f args=P9 Q F s d f args (Q.KT f):=by
 unfold Ag;cases Q.KT f<;>rfl
@[simp] theorem qfG(Q:nu)(F:FU)(s:Vs)(d f:Nat)(args:List U):P9 Q F s d f args none=j9 (Q.ld f) F d f args s:=rfl
def qg3(s:Vs)(d:Nat):Option (Nat×List (List U))→Option (U×Vs)
 |some (w',ys)=>some (.own (.t d) w' ys,s.kill (.t d))
 |none=>none
@[simp] theorem qfH(s:Vs)(d w' :Nat)(ys:List (List U)):qg3 s d (some (w',ys))=some (.own (.t d) w' ys,s.kill (.t d)):=rfl
@[simp] theorem qg2(Q:nu)(F:FU)(s:Vs)(d f:Nat)(g:Tg)(w:Nat)(xs:List (List U))(rest:List U)(q:Nat→List (List U)→List U→Option (Nat×List (List U))):
  P9 Q F s d f (.own g w xs::rest) (some q)=qg3 s d (q w xs rest):=by
 simp only[P9];cases q w xs rest<;>rfl
@[simp] theorem qjC(Q:nu)(F:FU)(s:Vs)(d f:Nat)(w:Nat)(xs:List (List U))(rest:List U)(q:Nat→List (List U)→List U→Option (Nat×List (List U))):
  P9 Q F s d f (.sl w xs::rest) (some q)=j9 (Q.ld f) F d f (.sl w xs::rest) s:=rfl
@[simp] theorem qjB(Q:nu)(F:FU)(s:Vs)(d f:Nat)(w:Nat)(rest:List U)(q:Nat→List (List U)→List U→Option (Nat×List (List U))):
  P9 Q F s d f (.nl w::rest) (some q)=j9 (Q.ld f) F d f (.nl w::rest) s:=rfl
attribute [simp] wm
@[simp] theorem qgu(w:Nat):mM w []=true:=rfl
@[simp] theorem qew(w:Nat)(r:List U)(ys:List (List U)):mM w (r::ys)=(Nat.beq r.length w&&mM w ys):=rfl
theorem QY{α:Type}{w:Nat}{f:α→List U}(hf:∀ a,Nat.beq (f a).length w=true)(l:List α):mM w (l.map f)=true:=by
 simp only[mM,PV,fF];intro x _;exact hf x
def zB(Q:nu)(F:FU)(s:Vs)(d f:Nat)(args:List U):Option (List (List U)→List U→Option (List (List U)))→Option (U×Vs)
 |some q=>(match args with
    | .own g w xs::rest=>(match q xs rest with
     |some ys=>bif !(decide (g=.a))&&mM w ys&&wm g rest then some (.own (.t d) w ys,(s.kill g).kill (.t d))else none
     |none=>none)
    | .nl w::rest=>(match q [] rest with
     |some ys=>bif mM w ys&&wm .r rest then some (.own (.t d) w ys,(s.kill .r).kill (.t d))else none
     |none=>none)
    |_=>none)
 |none=>Ag Q F s d f args
@[simp] theorem qdk(s:Vs)(d f:Nat)(args:List U):zB Q F s d f args none=Ag Q F s d f args:=rfl
def Ey(Q:nu)(F:FU)(s:Vs)(d f:Nat)(args:List U):Option (List (List U)→List U→Option (List (List U)))→Option (U×Vs)
 |some q=>(match args with
    | .own g w xs::rest=>(match q xs rest with
     |some ys=>bif(s.cw g).isSome then some (.aZ [],s.fK g w ys)else none
     |none=>none)
    |_=>none)
 |none=>zB Q F s d f args (Q.app f)
@[simp] theorem qdo(s:Vs)(d f:Nat)(args:List U):Ey Q F s d f args none=zB Q F s d f args (Q.app f):=rfl
def RY(Q:nu)(F:FU)(s:Vs)(d:Nat):Option U→Option (List U)→Option (U×Vs)
 |some (.func f first captured),some vs=>Ey Q F s d f (first++vs++captured) (Q.q f)
 |_,_=>none
@[simp] theorem qdn(s:Vs)(d f:Nat)(a b vs:List U):RY Q F s d (some (.func f a b)) (some vs)=Ey Q F s d f (a++vs++b) (Q.q f):=rfl
@[simp] theorem qh3(s:Vs)(dst:Option Nat)(f:bO)(args:List bO):lu M Q F s dst (.call f args)=RY Q F s (dst.getD 0) (cA s.e f) (j4 s.e args):=by
 simp only[lu];cases cA s.e f with
 |none=>rfl
 |some v=>
  cases v with
  |func f a b=>
   cases j4 s.e args with
   |none=>rfl
   |some vs=>simp only[RY,Ey,zB];cases Q.q f<;>first|rfl|(cases Q.app f<;>rfl)
  |_=>rfl
def RA(d:Nat)(args:List U)(s:Vs):Option (U×List Uo×Nat)→Option (U×Vs)
 |some (r,hc,fc)=>some (rY d r hc fc (bif rL args&& !(r.flat&&hc.isEmpty)then aJ args s else s))
 |none=>none
@[simp] theorem qdd(d:Nat)(args:List U)(s:Vs)(r:U)(hc:List Uo)(fc:Nat):RA d args s (some (r,hc,fc))=some (rY d r hc fc (bif rL args&& !(r.flat&&hc.isEmpty)then aJ args s else s)):=rfl
def RC(d:Nat)(e:Env):Option (U×List Uo×Nat)→Option (U×Vs)
 |some (r,h,fl)=>some (dR d r ⟨Env.bV Tg.isC e,h,fl⟩)
 |none=>none
@[simp] theorem qdf(d:Nat)(e:Env)(r:U)(h:List Uo)(fl:Nat):RC d e (some (r,h,fl))=some (dR d r ⟨Env.bV Tg.isC e,h,fl⟩):=rfl
def RB(d:Nat)(s:Vs)(L:List (Nat×Nat)):Option (U×List Uo×Nat)→Option (U×Vs)
 |some (r,h,fl)=>bif L.all (mD h)then some (dR d r ⟨Env.bV (fG L) s.e,jd s.h L h,fl⟩)else none
 |none=>none
@[simp] theorem qde(d:Nat)(s:Vs)(L:List (Nat×Nat))(r:U)(h:List Uo)(fl:Nat):RB d s L (some (r,h,fl))=bif L.all (mD h)then some (dR d r ⟨Env.bV (fG L) s.e,jd s.h L h,fl⟩)else none:=rfl
def Ev(F:FU)(d f:Nat)(us:List U)(s:Vs):Bool→Option (U×Vs)
 |true=>RB d s (iy s.h s.e) (F f us (eN (iy s.h s.e) s.h) s.fl)
 |false=>RC d s.e (F f us s.h s.fl)
@[simp] theorem qdm(d f:Nat)(us:List U)(s:Vs):Ev F d f us s true=RB d s (iy s.h s.e) (F f us (eN (iy s.h s.e) s.h) s.fl):=rfl
@[simp] theorem qaH(d f:Nat)(us:List U)(s:Vs):Ev F d f us s false=RC d s.e (F f us s.h s.fl):=rfl
def Iy(ld:Bool)(F:FU)(d f:Nat)(args us:List U)(s:Vs):Bool→Option (U×Vs)
 |true=>RA d args s (F f us [] 0)
 |false=>Ev F d f us (aJ args s) ld
@[simp] theorem qdl(ld:Bool)(d f:Nat)(args us:List U)(s:Vs):Iy ld F d f args us s true=RA d args s (F f us [] 0):=rfl
@[simp] theorem qaG(ld:Bool)(d f:Nat)(args us:List U)(s:Vs):Iy ld F d f args us s false=Ev F d f us (aJ args s) ld:=rfl
@[simp] theorem qg7(ld:Bool)(d f:Nat)(args:List U)(s:Vs):j9 ld F d f args s=(iq args).bind fun us=>Iy ld F d f args us s (U.bZ 0 us):=by
 unfold j9;cases iq args with
 |none=>rfl
 |some us=>
  simp only[Option.bind];cases U.bZ 0 us with
  |true=>simp only[cond_true,Iy];cases F f us [] 0<;>rfl
  |false=>
   simp only[cond_false,Iy];cases ld with
   |true=>
    simp only[cond_true,Ev];cases F f us (eN (iy (aJ args s).h (aJ args s).e) (aJ args s).h) (aJ args s).fl<;>rfl
   |false=>
    simp only[cond_false,Ev];cases F f us (aJ args s).h (aJ args s).fl<;>rfl
attribute [simp] U.Zk eN mD cellAt jd fG
def lnL(h:List Uo)(i off:Nat)(r:Env):U→List (Nat×Nat)
 | .bJ _ _=>(i,off)::iy h r
 |_=>iy h r
@[simp] theorem qhQ(h:List Uo)(i off:Nat)(r:Env)(w:Nat)(xs:List (List U)):lnL h i off r (.bJ w xs)=(i,off)::iy h r:=rfl
def lnT(h:List Uo)(r:Env):Option (Nat×Nat)→List (Nat×Nat)
 |some (i,off)=>lnL h i off r (cellAt h i off)
 |none=>iy h r
@[simp] theorem qhS(h:List Uo)(r:Env)(i off:Nat):lnT h r (some (i,off))=lnL h i off r (cellAt h i off):=rfl
@[simp] theorem qhR(h:List Uo)(r:Env):lnT h r none=iy h r:=rfl
@[simp] theorem qf6(h:List Uo):iy h []=[]:=rfl
@[simp] theorem qdZ(h:List Uo)(k:Nat)(v:U)(r:Env):iy h ((k,v)::r)=lnT h r v.Zk:=by
 simp only[iy];cases v.Zk with
 |none=>rfl
 |some x=>
  obtain⟨i,off⟩:=x;simp only[lnT,cellAt];cases h[i]? with
  |none=>rfl
  |some o=>
   cases o with
   |row cs=>
    simp only;cases cs[off]? with
    |none=>rfl
    |some u=>cases u<;>rfl
   |_=>rfl
@[simp] theorem qf4(d:Nat)(r:U)(fc:Nat)(s:Vs):rY d r [] fc s=dR d r s:=rfl
attribute [simp] dR U.flat U.vY U.kY
def nO(M:qn)(Q:nu)(F:FU)(r:List aG)(dst:Option Nat):Option (U×Vs)→Option Vs
 |some (v,s)=>gU M Q F r ⟨js dst v s.e,s.h,s.fl⟩
 |none=>none
@[simp] theorem qjU(r:List aG)(dst:Option Nat)(v:U)(s:Vs):nO M Q F r dst (some (v,s))=gU M Q F r ⟨js dst v s.e,s.h,s.fl⟩:=rfl
def gO(M:qn)(Q:nu)(F:FU)(dst:Option Nat)(op:j7)(r:List aG)(s:Vs):Option Bool→Option Vs
 |some true=>nO M Q F r dst (lu M Q F s dst op)
 |some false=>gU M Q F r ⟨js dst (.aZ []) s.e,s.h,s.fl⟩
 |none=>none
@[simp] theorem qjL(dst:Option Nat)(op:j7)(r:List aG)(s:Vs):gO M Q F dst op r s (some true)=nO M Q F r dst (lu M Q F s dst op):=rfl
@[simp] theorem qhA(dst:Option Nat)(op:j7)(r:List aG)(s:Vs):gO M Q F dst op r s (some false)=gU M Q F r ⟨js dst (.aZ []) s.e,s.h,s.fl⟩:=rfl
@[simp] theorem qh9(s:Vs):gU M Q F [] s=some s:=rfl
@[simp] theorem qgj(dst:Option Nat)(op:j7)(g:Option (Nat×Bool))(p:Nat)(r:List aG)(s:Vs):gU M Q F (⟨dst,op,g,p⟩::r) s=gO M Q F dst op r s (iO g s.e):=by
 simp only[gU];cases iO g s.e with
 |none=>rfl
 |some b=>
  cases b with
  |false=>rfl
  |true=>simp only[gO];cases lu M Q F s dst op<;>rfl
@[simp] theorem qaN(e:Env):iO none e=some true:=rfl
def qhC(want:Bool):U→Option Bool
 | .bool b=>some (b==want)
 | .aZ _=>some false
 |_=>none
attribute [simp] qhC
@[simp] theorem qaO(t:Nat)(want:Bool)(e:Env):iO (some (t,want)) e=(look e t).bind (qhC want):=by
 simp only[iO];cases look e t with
 |none=>rfl
 |some v=>cases v<;>rfl
end
end Go.RE
namespace Go.RE
abbrev By:=List UInt8
theorem Ax:∀ (x y:By),Op.bytesLess x y=decide (x<y)
 |[],[]=>by simp[Op.bytesLess]
 |_::_,[]=>by simp[Op.bytesLess]
 |[],_::_=>by simp[Op.bytesLess]
 |a::x,b::y=>by
  have ih:=Ax x y;simp only[Op.bytesLess,ih,List.cons_lt_cons_iff];by_cases h1:a<b<;>by_cases h2:a=b<;>by_cases h3:x<y<;>simp[h1,h2,h3]
theorem Cf(a:By):Op.bytesLess a a=false:=by rw[Ax];simp[List.lt_irrefl]
theorem EP{a b c:By}(h:Op.bytesLess a b=true)(k:Op.bytesLess b c=true):Op.bytesLess a c=true:=by
 rw[Ax]at*;simp only[decide_eq_true_eq]at*;exact List.lt_trans h k
theorem ym(a b:By):Op.bytesLess a b=true∨a=b∨Op.bytesLess b a=true:=by
 simp only[Ax,decide_eq_true_eq];rcases Classical.em (a<b)with h|h
 ·exact .inl h
 ·rcases Classical.em (b<a)with h' |h'
  ·exact .inr (.inr h')
  ·exact .inr (.inl (List.le_antisymm (List.not_lt.1 h') (List.not_lt.1 h)))
theorem ve{a b:By}(h:Op.bytesLess a b=true):Op.bytesLess b a=false:=by
 cases k:Op.bytesLess b a with
 |false=>rfl
 |true=>have:=EP h k;rw[Cf]at this;exact this.symm
theorem not_le(a b:By):(!(Op.bytesLess a b||a==b))=Op.bytesLess b a:=by
 rcases ym a b with h|h|h
 ·rw[h,ve h];rfl
 ·subst h;simp[Cf]
 ·rw[ve h,h];have:(a==b)=false:=by
   cases k:a==b with
   |false=>rfl
   |true=>rw[eq_of_beq k,Cf]at h;cases h
  rw[this];rfl
theorem qdY(a b:By):(Op.bytesLess a b||a==b)= !Op.bytesLess b a:=by rw[←not_le a b,Bool.not_not]
@[simp] theorem Yc(a b:Nat):Nat.ble a b=decide (a≤b):=by
 by_cases h:a≤b
 ·rw[decide_eq_true h];exact jA h
 ·rw[decide_eq_false h];cases hb:Nat.ble a b with
  |false=>rfl
  |true=>exact absurd (dY hb) h
@[simp] theorem qjw(a b:Nat):Nat.blt a b=decide (a<b):=by unfold Nat.blt;rw[Yc];rfl
@[simp] theorem Kr(a b:Nat):Nat.beq a b=decide (a=b):=by
 by_cases h:a=b
 ·subst h;simp
 ·rw[decide_eq_false h];cases hb:Nat.beq a b with
  |false=>rfl
  |true=>exact absurd (aU hb) h
section
variable(op:BinOp)(ek:iG)
@[simp] theorem qgP(x y:List UInt8):jo op ek (.str x) (.str y)=Ol (lF op x y):=rfl
@[simp] theorem qgO(k:IntKind)(x y:Int):jo op ek (.int k x) (.int k y)=Ol (j8 op ek (.int k x) (.int k y)):=rfl
end
@[simp] theorem qi1(b:Bool):Ol (some (.bool b))=some (.bool b):=rfl
@[simp] theorem qkb(k:IntKind)(n:Int):Ol (some (.int k n))=some (.int k n):=rfl
@[simp] theorem qkc(s:List UInt8):Ol (some (.str s))=some (.str s):=rfl
@[simp] theorem qeG(a b:List UInt8):lF .add a b=bif Nat.ble (a.length+b.length) bl then some (.str (a++b))else none:=rfl
@[simp] theorem qeH(a b:List UInt8):lF .eql a b=some (.bool (a==b)):=rfl
@[simp] theorem qeM(a b:List UInt8):lF .neq a b=some (.bool (!(a==b))):=rfl
@[simp] theorem qeL(a b:List UInt8):lF .lss a b=some (.bool (Op.bytesLess a b)):=rfl
@[simp] theorem qeK(a b:List UInt8):lF .leq a b=some (.bool (!Op.bytesLess b a)):=by rw[←qdY];rfl
@[simp] theorem qeJ(a b:List UInt8):lF .gtr a b=some (.bool (Op.bytesLess b a)):=by rw[←not_le];rfl
@[simp] theorem qeI(a b:List UInt8):lF .geq a b=some (.bool (!Op.bytesLess a b)):=rfl
@[simp] theorem qgV(ek:iG)(k:IntKind)(x y:Int):j8 .lss ek (.int k x) (.int k y)=some (.bool (decide (x<y))):=by simp[j8,kj]
@[simp] theorem qgU(ek:iG)(k:IntKind)(x y:Int):j8 .leq ek (.int k x) (.int k y)=some (.bool (decide (x≤y))):=by simp[j8,kj]
@[simp] theorem qgT(ek:iG)(k:IntKind)(x y:Int):j8 .gtr ek (.int k x) (.int k y)=some (.bool (decide (x>y))):=by simp[j8,kj]
@[simp] theorem qgS(ek:iG)(k:IntKind)(x y:Int):j8 .geq ek (.int k x) (.int k y)=some (.bool (decide (x≥y))):=by simp[j8,kj]
@[simp] theorem qgR(ek:iG)(k:IntKind)(x y:Int):j8 .eql ek (.int k x) (.int k y)=some (.bool (x==y)):=by simp[j8,kj]
@[simp] theorem qgX(ek:iG)(k:IntKind)(x y:Int):j8 .neq ek (.int k x) (.int k y)=some (.bool (x !=y)):=by simp[j8,kj]
@[simp] theorem qgQ(ek:iG)(k:IntKind)(x y:Int):j8 .add ek (.int k x) (.int k y)=some (.int k (aK k (x+y))):=by simp[j8,kj]
@[simp] theorem qgY(ek:iG)(k:IntKind)(x y:Int):j8 .sub ek (.int k x) (.int k y)=some (.int k (aK k (x - y))):=by simp[j8,kj]
@[simp] theorem qka(b:Bool):unU .not (.bool b)=some (.bool (!b)):=rfl
@[simp] theorem Y8{i o:Nat}{g:Tg}{v:U}{a c:List U}:jo .eql .br (.ptr i o) .br=some (.bool false):=rfl
@[simp] theorem Yw{i o:Nat}{g:Tg}{v:U}{a c:List U}:jo .eql .br (.eR c o) .br=some (.bool false):=rfl
@[simp] theorem YC{i o:Nat}{g:Tg}{v:U}{a c:List U}:jo .eql .br (.bI g i o) .br=some (.bool false):=rfl
@[simp] theorem YB{i o:Nat}{g:Tg}{v:U}{a c:List U}:jo .eql .br .br .br=some (.bool true):=rfl
@[simp] theorem Y7{i o:Nat}{g:Tg}{v:U}{a c:List U}:jo .eql .bS (.map i) .bS=some (.bool false):=rfl
@[simp] theorem YA{i o:Nat}{g:Tg}{v:U}{a c:List U}:jo .eql .bS .bS .bS=some (.bool true):=rfl
@[simp] theorem Yx{i o:Nat}{g:Tg}{v:U}{a c:List U}:jo .eql .dJ (.func i a c) .dJ=some (.bool false):=rfl
@[simp] theorem Yy{i o:Nat}{g:Tg}{v:U}{a c:List U}:jo .eql .dJ .dJ .dJ=some (.bool true):=rfl
@[simp] theorem RQ{i o:Nat}{g:Tg}{v:U}{a c:List U}:jo .eql (.iface false) (.iface i v) .di=some (.bool false):=rfl
@[simp] theorem Yz{i o:Nat}{g:Tg}{v:U}{a c:List U}:jo .eql (.iface false) .di .di=some (.bool true):=rfl
@[simp] theorem Y6{i o:Nat}{g:Tg}{v:U}{a c:List U}:jo .eql (.iface true) (.iface i v) .di=some (.bool false):=rfl
@[simp] theorem Zb{i o:Nat}{g:Tg}{v:U}{a c:List U}:jo .neq .br (.ptr i o) .br=some (.bool true):=rfl
@[simp] theorem YE{i o:Nat}{g:Tg}{v:U}{a c:List U}:jo .neq .br (.eR c o) .br=some (.bool true):=rfl
@[simp] theorem YK{i o:Nat}{g:Tg}{v:U}{a c:List U}:jo .neq .br (.bI g i o) .br=some (.bool true):=rfl
@[simp] theorem YJ{i o:Nat}{g:Tg}{v:U}{a c:List U}:jo .neq .br .br .br=some (.bool false):=rfl
@[simp] theorem Za{i o:Nat}{g:Tg}{v:U}{a c:List U}:jo .neq .bS (.map i) .bS=some (.bool true):=rfl
@[simp] theorem YI{i o:Nat}{g:Tg}{v:U}{a c:List U}:jo .neq .bS .bS .bS=some (.bool false):=rfl
@[simp] theorem YF{i o:Nat}{g:Tg}{v:U}{a c:List U}:jo .neq .dJ (.func i a c) .dJ=some (.bool true):=rfl
@[simp] theorem YG{i o:Nat}{g:Tg}{v:U}{a c:List U}:jo .neq .dJ .dJ .dJ=some (.bool false):=rfl
@[simp] theorem RS{i o:Nat}{g:Tg}{v:U}{a c:List U}:jo .neq (.iface false) (.iface i v) .di=some (.bool true):=rfl
@[simp] theorem YH{i o:Nat}{g:Tg}{v:U}{a c:List U}:jo .neq (.iface false) .di .di=some (.bool false):=rfl
@[simp] theorem Y9{i o:Nat}{g:Tg}{v:U}{a c:List U}:jo .neq (.iface true) (.iface i v) .di=some (.bool true):=rfl
@[simp] theorem Yv(x y:Bool):jo .eql .bool (.bool x) (.bool y)=some (.bool (x==y)):=rfl
@[simp] theorem YD(x y:Bool):jo .neq .bool (.bool x) (.bool y)=some (.bool (!(x==y))):=rfl
@[simp] theorem qd2(cs:List U)(off:Nat):jf none cs off=(cs[off]?).bind fun v=>bif v.wo then some v else none:=by
 simp only[jf];cases cs[off]? <;>rfl
@[simp] theorem qd3(n:Nat)(cs:List U)(off:Nat):jf (some n) cs off=bif Nat.ble (off+n) cs.length&&((cs.drop off).take n).all U.wo then some (.agg ((cs.drop off).take n))else none:=rfl
def SP(i off:Nat):U→Option U
 | .bJ w xs=>some (.own (.c i off) w xs)
 |v=>bif v.wo then some v else none
attribute [simp] SP
@[simp] theorem qd0(i:Nat)(cs:List U)(off:Nat):mL i none cs off=(cs[off]?).bind (SP i off):=by
 simp only[mL];cases h:cs[off]? with
 |none=>simp[jf,h]
 |some v=>cases v<;>simp[jf,h,SP]
@[simp] theorem qd1(i n:Nat)(cs:List U)(off:Nat):mL i (some n) cs off=jf (some n) cs off:=rfl
def qaR(t:Nat)(ts:List Nat)(e:Env):Option U→Env
 |some (.own (.t g) w xs)=>(t,.own (.t t) w xs)::dH ts (Env.kill (.t g) e)
 |some (.own .r w xs)=>(t,.own (.t t) w xs)::dH ts (Env.kill .r e)
 |some (.bI (.t _) _ _)=>(t,.bad)::dH ts e
 |some (.bI .r _ _)=>(t,.bad)::dH ts e
 |some (.view (.t _) _ _ _)=>(t,.bad)::dH ts e
 |some (.view .r _ _ _)=>(t,.bad)::dH ts e
 |some v=>(t,v)::dH ts e
 |none=>dH ts e
attribute [simp] qaR
@[simp] theorem qf2(e:Env):dH [] e=[]:=rfl
@[simp] theorem qdT(t:Nat)(ts:List Nat)(e:Env):dH (t::ts) e=qaR t ts e (look e t):=by
 simp only[dH];cases look e t with
 |none=>rfl
 |some v=>
  cases v with
  |own g w xs=>cases g<;>rfl
  |bI g i f=>cases g<;>rfl
  |view g i f l=>cases g<;>rfl
  |_=>rfl
attribute [simp] Jl
theorem gJ{fl:Nat}{h l:List Uo}(hf:fl≤h.length):cut h.length fl (h++l)=h:=by
 unfold cut;rw[P0 hf];simp
theorem aR{fl:Nat}{h:List Uo}(hf:fl≤h.length):cut h.length fl h=h:=by
 unfold cut;rw[P0 hf];simp
@[simp] theorem qjD(n fl:Nat):cut n fl []=[]:=by simp[cut]
@[simp] theorem qhe(h:List Uo):cut 0 0 h=[]:=by simp[cut]
@[simp] theorem qjE(a:Uo)(r:List Uo):cut 1 0 (a::r)=[a]:=by simp[cut]
@[simp] theorem qjF(a b:Uo)(r:List Uo):cut 2 0 (a::b::r)=[a,b]:=by simp[cut]
@[simp] theorem qhd(a b c d:Uo)(r:List Uo):cut 4 0 (a::b::c::d::r)=[a,b,c,d]:=by simp[cut]
@[simp] theorem qiy(s:Vs)(w:Nat)(g:Tg)(xs:List (List U)):Al s w false (.own g w xs)=some xs:=by simp[Al,rowsOf]
@[simp] theorem qj3(s:Vs)(w:Nat)(xs:List (List U)):Al s w false (.sl w xs)=some xs:=by simp[Al,rowsOf]
@[simp] theorem qjz(d:Nat)(s:Vs)(w bytes:Nat)(ys:List (List U))(g:Tg)(xs:List (List U)):apV d s w bytes ys (.own g w xs)=bif !(decide (g=.a))&&Nat.ble ((xs.length+ys.length)*bytes) bl&&Nat.ble (xs.length+ys.length) bl&&ys.all (fun r=>r.all U.aL&&U.bZ 0 r&&Nat.beq r.length w)then
      some (.own (.t d) w (xs++ys),(s.kill g).kill (.t d))else none:=by simp[apV]
@[simp] theorem qku(d:Nat)(s:Vs)(w bytes:Nat)(ys:List (List U)):apV d s w bytes ys (.nl w)=bif Nat.ble (ys.length*bytes) bl&&Nat.ble ys.length bl&&ys.all (fun r=>r.all U.aL&&U.bZ 0 r&&Nat.beq r.length w)then
      some (.own (.t d) w ys,(s.kill .r).kill (.t d))else none:=by simp[apV]
@[simp] theorem qkF(s:Vs)(g:Tg)(w:Nat)(xs:List (List U)):Ea s 1 (.own g w xs)=some (.int .i64 xs.length,s):=rfl
def SI(n:Nat)(fl:Nat)(h:List Uo)(e:Env):Bool→Vs
 |true=>⟨e,cut n fl h,fl⟩
 |false=>⟨e,h,fl⟩
@[simp] theorem qdU(n fl:Nat)(h:List Uo)(e:Env):SI n fl h e true=⟨e,cut n fl h,fl⟩:=rfl
@[simp] theorem qaQ(n fl:Nat)(h:List Uo)(e:Env):SI n fl h e false=⟨e,h,fl⟩:=rfl
@[simp] theorem qjO(L:List Nat)(n:Nat)(e:Env)(h:List Uo)(fl:Nat):keep L n ⟨e,h,fl⟩=SI n fl h (dH L e) (Jl n (dH L e)):=by
 simp only[keep];cases Jl n (dH L e)<;>rfl
attribute [simp] U.j5 uE
def qeq(s:Vs)(i off:Nat)(n:Option Nat):Uo→Option U
 | .row cs=>mL i n cs off
 |_=>none
@[simp] theorem qic(s:Vs)(i off:Nat)(n:Option Nat)(cs:List U):qeq s i off n (.row cs)=mL i n cs off:=rfl
def qer(s:Vs)(n:Option Nat):U→Option U
 | .ptr i off=>(s.h[i]?).bind (qeq s i off n)
 |_=>none
@[simp] theorem qid(s:Vs)(n:Option Nat)(i off:Nat):qer s n (.ptr i off)=(s.h[i]?).bind (qeq s i off n):=rfl
@[simp] theorem qkU(s:Vs)(n:Nat):JF s (.t n)=look s.e n:=rfl
@[simp] theorem qgq(s:Vs)(a:Nat)(n:Option Nat):JF s (.cell a n)=(look s.e a).bind (qer s n):=by
 simp only[JF];cases look s.e a with
 |none=>rfl
 |some v=>
  cases v with
  |ptr i off=>
   simp only[Option.bind,qer];cases s.h[i]? with
   |none=>rfl
   |some o=>cases o<;>rfl
  |_=>rfl
@[simp] theorem qgr(s:Vs):rq s []=some []:=rfl
@[simp] theorem qes(s:Vs)(r:vN)(rs:List vN):rq s (r::rs)=BE (JF s r) (rq s rs):=by
 simp only[rq];cases JF s r<;>simp only[BE];cases rq s rs<;>simp only[BE]
def Sj(n:Nat)(s:Vs):Option U→Option (U×List Uo×Nat)
 |some r=>some (r,bif r.low n then cut n s.fl s.h else s.h,s.fl)
 |none=>none
@[simp] theorem qdG(n:Nat)(s:Vs)(r:U):Sj n s (some r)=some (r,bif r.low n then cut n s.fl s.h else s.h,s.fl):=rfl
def IM(n:Nat)(own:Bool)(s:Vs):Option (List U)→Option (U×List Uo×Nat)
 |some us=>some (.aZ us,bif U.bZ n us then cut n s.fl s.h else bif own then s.h else Iq n s.h,s.fl)
 |none=>none
@[simp] theorem qdH(n:Nat)(own:Bool)(s:Vs)(us:List U):IM n own s (some us)=some (.aZ us,bif U.bZ n us then cut n s.fl s.h else bif own then s.h else Iq n s.h,s.fl):=rfl
def Le(n:Nat)(own:Bool)(s:Vs):Option (List U)→Option (U×List Uo×Nat)
 |some [v]=>Sj n s (v.j5 own)
 |some vs=>IM n own s (uE false vs)
 |none=>none
@[simp] theorem qhp(n:Nat)(own:Bool)(s:Vs):Le n own s (some [])=IM n own s (uE false []):=rfl
@[simp] theorem qhq(n:Nat)(own:Bool)(s:Vs)(v:U):Le n own s (some [v])=Sj n s (v.j5 own):=rfl
@[simp] theorem qhr(n:Nat)(own:Bool)(s:Vs)(v w:U)(r:List U):Le n own s (some (v::w::r))=IM n own s (uE false (v::w::r)):=rfl
@[simp] theorem qjH(n:Nat)(fn:aC)(s:Vs):D6 n fn s=Le n fn.own s (rq s fn.results):=by
 unfold D6;cases rq s fn.results with
 |none=>rfl
 |some vs=>
  cases vs with
  |nil=>simp[Le,IM]
  |cons v r=>
   cases r with
   |nil=>simp only[Le];cases v.j5 fn.own<;>rfl
   |cons w r=>simp only[Le];cases uE false (v::w::r)<;>rfl
section
variable{VF:Nat→Option aC}{M:qn}{Q:nu}{Pm:Pms}{fn:aC}{s:Vs}{K:Ex→Vs→Prop}
@[simp] theorem qa1{b:aq}:gV VF M Q Pm fn b K .normal s=gC VF M Q Pm fn b s K:=rfl
@[simp] theorem qgx{b:aq}{i:Nat}:gV VF M Q Pm fn b K (.exit i) s=K (.exit i) s:=rfl
@[simp] theorem qio{b:aq}:gV VF M Q Pm fn b K .ret s=K .ret s:=rfl
attribute [simp] qdM
@[simp] theorem qgn:iR K (some s)=K .normal s:=rfl
@[simp] theorem qgm:iR K none=False:=rfl
attribute [simp] QB
@[simp] theorem qib{F:FU}:kK M Q F s K []=K .normal s:=rfl
@[simp] theorem qkT{F:FU}{d:Option Nat}{o:gv}{g:Option (Nat×Bool)}{p:Nat}{r:List aG}:kK M Q F s K (⟨d,(.s o),g,p⟩::r)=iR K (gU M Q F (⟨d,(.s o),g,p⟩::r) s):=rfl
@[simp] theorem qkS{F:FU}{d:Option Nat}{o:Io}{g:Option (Nat×Bool)}{p:Nat}{r:List aG}:kK M Q F s K (⟨d,(.m o),g,p⟩::r)=iR K (gU M Q F (⟨d,(.m o),g,p⟩::r) s):=rfl
@[simp] theorem qkR{F:FU}{d:Option Nat}{o:zv}{g:Option (Nat×Bool)}{p:Nat}{r:List aG}:kK M Q F s K (⟨d,(.h o),g,p⟩::r)=iR K (gU M Q F (⟨d,(.h o),g,p⟩::r) s):=rfl
@[simp] theorem qgo{F:FU}{d:Option Nat}{f:bO}{a:List bO}{g:Option (Nat×Bool)}{p:Nat}{r:List aG}:kK M Q F s K (⟨d,.call f a,g,p⟩::r)=iR K (gU M Q F (⟨d,.call f a,g,p⟩::r) s):=rfl
@[simp] theorem qaZ{F:FU}{d:Option Nat}{n:String}{x:bO}{a:List bO}{g:Option (Nat×Bool)}{p:Nat}{r:List aG}:kK M Q F s K (⟨d,.invoke n x a,g,p⟩::r)=iR K (gU M Q F (⟨d,.invoke n x a,g,p⟩::r) s):=rfl
@[simp] theorem qgp{F:FU}{d:Option Nat}{x:bO}{p:Nat}{r:List aG}:kK M Q F s K (⟨d,.next x,none,p⟩::r)=iQ s d x (fun t=>iR K (gU M Q F r t)):=rfl
theorem az{ops:List aG}{l:List Step}(h:sched (ops.length+1) (bx ops 0) 0=some l):gC VF M Q Pm fn (.draw ops) s K=iR K (bX M Q (gF VF M Q Pm) l s []):=by rw[Zz,h];rfl
@[simp] theorem qdt{a b:aq}{t:Bool}:R8 VF M Q Pm fn a b s K (some (.bool t))=if t=true then gC VF M Q Pm fn a s K else gC VF M Q Pm fn b s K:=by cases t<;>rfl
attribute [simp] Zy ZA
@[simp] theorem qfY{id n:Nat}:kB fn id n K .normal s=K .normal (keep (fn.tail id) n s):=rfl
@[simp] theorem qkz{id n:Nat}:kB fn id n K .ret s=K .ret s:=rfl
@[simp] theorem ZI{id n i:Nat}:kB fn id n K (.exit i) s=if i=id then K .normal (keep (fn.tail id) n s)else K (.exit i) s:=by
 simp only[kB];by_cases h:i=id
 ·subst h;simp
 ·rw[if_neg h];have:Nat.beq i id=false:=by
   cases hb:Nat.beq i id with
   |false=>rfl
   |true=>exact absurd (aU hb) h
  rw[this];rfl
@[simp] theorem qa0{id k:Nat}{b:aq}:Z9 VF M Q Pm fn id b k K .normal s=gL VF M Q Pm fn id b k (keep (fn.head id) k s) K:=rfl
@[simp] theorem qif{id k:Nat}{b:aq}:Z9 VF M Q Pm fn id b k K .ret s=K .ret s:=rfl
@[simp] theorem qgt{id k i:Nat}{b:aq}:Z9 VF M Q Pm fn id b k K (.exit i) s=if i=id then K .normal (keep (fn.tail id) k s)else K (.exit i) s:=ZI
@[simp] theorem Zx{id:Nat}{a b:aq}:gC VF M Q Pm fn (.block id (.seq a b)) s K=gC VF M Q Pm fn (.seq a b) s (kB fn id s.h.length K):=BW rfl
@[simp] theorem YM{id:Nat}{l:List aG}:gC VF M Q Pm fn (.block id (.draw l)) s K=gC VF M Q Pm fn (.draw l) s (kB fn id s.h.length K):=BW rfl
@[simp] theorem Sq{id:Nat}{i:Nat}{a:aq}:gC VF M Q Pm fn (.block id (.block i a)) s K=gC VF M Q Pm fn (.block i a) s (kB fn id s.h.length K):=BW rfl
@[simp] theorem qkA{k:Nat}{R:U×List Uo×Nat}:kE k fn R .ret s=(D6 k fn s=some R):=rfl
@[simp] theorem qfZ{k:Nat}{R:U×List Uo×Nat}:kE k fn R .normal s=(D6 k fn s=some R):=rfl
end
section
variable{M:qn}{Q:nu}{F:FU}
def smS(M:qn)(Q:nu)(F:FU)(r:List Step)(dst:Option Nat)(aj:List (Nat×Rk))(i:Nat)(op:gv)(s0:Vs):Option (U×Vs)→Option Vs
 |some (v,t)=>bX M Q F r ⟨js dst v t.e,t.h,t.fl⟩ (bif op.impure then(i,uF s0 op v)::aj else aj)
 |none=>none
@[simp] theorem qiv(r:List Step)(dst:Option Nat)(aj:List (Nat×Rk))(i:Nat)(op:gv)(s0:Vs)(v:U)(t:Vs):smS M Q F r dst aj i op s0 (some (v,t))=bX M Q F r ⟨js dst v t.e,t.h,t.fl⟩ (bif op.impure then(i,uF s0 op v)::aj else aj):=rfl
def smM(M:qn)(Q:nu)(F:FU)(r:List Step)(dst:Option Nat)(aj:List (Nat×Rk)):Option (U×Vs)→Option Vs
 |some (v,t)=>bX M Q F r ⟨js dst v t.e,t.h,t.fl⟩ aj
 |none=>none
@[simp] theorem qiu(r:List Step)(dst:Option Nat)(aj:List (Nat×Rk))(v:U)(t:Vs):smM M Q F r dst aj (some (v,t))=bX M Q F r ⟨js dst v t.e,t.h,t.fl⟩ aj:=rfl
def bgF(M:qn)(Q:nu)(F:FU)(r:List Step)(dst:Option Nat)(aj:List (Nat×Rk))(p:Nat)(v:U)(t:Vs):Bool→Option Vs
 |true=>bX M Q F r ⟨js dst v t.e,t.h,t.fl⟩ (gx p aj)
 |false=>none
@[simp] theorem qgL(r:List Step)(dst:Option Nat)(aj:List (Nat×Rk))(p:Nat)(v:U)(t:Vs):bgF M Q F r dst aj p v t true=bX M Q F r ⟨js dst v t.e,t.h,t.fl⟩ (gx p aj):=rfl
def bgT(M:qn)(Q:nu)(F:FU)(r:List Step)(dst:Option Nat)(aj:List (Nat×Rk))(p:Nat)(s:Vs)(op:j7)(v:U)(t:Vs):Bool→Option Vs
 |true=>bX M Q F r ⟨js dst v t.e,t.h,t.fl⟩ (gx p aj)
 |false=>bgF M Q F r dst aj p v t (h9 M Q F s t op p aj)
@[simp] theorem qgN(r:List Step)(dst:Option Nat)(aj:List (Nat×Rk))(p:Nat)(s:Vs)(op:j7)(v:U)(t:Vs):bgT M Q F r dst aj p s op v t true=bX M Q F r ⟨js dst v t.e,t.h,t.fl⟩ (gx p aj):=rfl
@[simp] theorem qfC(r:List Step)(dst:Option Nat)(aj:List (Nat×Rk))(p:Nat)(s:Vs)(op:j7)(v:U)(t:Vs):bgT M Q F r dst aj p s op v t false=bgF M Q F r dst aj p v t (h9 M Q F s t op p aj):=rfl
def bgS(M:qn)(Q:nu)(F:FU)(r:List Step)(dst:Option Nat)(aj:List (Nat×Rk))(p:Nat)(s:Vs)(op:j7)(quiet:Bool):Option (U×Vs)→Option Vs
 |some (v,t)=>bgT M Q F r dst aj p s op v t (quiet||pW t p aj)
 |none=>none
@[simp] theorem qgM(r:List Step)(dst:Option Nat)(aj:List (Nat×Rk))(p:Nat)(s:Vs)(op:j7)(quiet:Bool)(v:U)(t:Vs):bgS M Q F r dst aj p s op quiet (some (v,t))=bgT M Q F r dst aj p s op v t (quiet||pW t p aj):=rfl
def stG(M:qn)(Q:nu)(F:FU)(bl:Bool)(i:Nat)(dst:Option Nat)(op:j7)(p:Nat)(r:List Step)(s:Vs)(aj:List (Nat×Rk)):Option Bool→Option Vs
 |some true=>(match bl,op with
  |true,op=>bgS M Q F r dst aj p s op (fJ Q s op) (lu M Q F s dst op)
  |false,.s o=>smS M Q F r dst aj i o s (lu M Q F s dst (.s o))
  |false,.m o=>smM M Q F r dst aj (lu M Q F s dst (.m o))
  |_,_=>none)
 |some false=>bX M Q F r ⟨js dst (.aZ []) s.e,s.h,s.fl⟩ aj
 |none=>none
section
variable(i:Nat)(dst:Option Nat)(p:Nat)(r:List Step)(s:Vs)(aj:List (Nat×Rk))
@[simp] theorem qj4(op:j7):stG M Q F true i dst op p r s aj (some true)=bgS M Q F r dst aj p s op (fJ Q s op) (lu M Q F s dst op):=rfl
@[simp] theorem ql8(o:gv):stG M Q F false i dst (.s o) p r s aj (some true)=smS M Q F r dst aj i o s (lu M Q F s dst (.s o)):=rfl
@[simp] theorem ql7(o:Io):stG M Q F false i dst (.m o) p r s aj (some true)=smM M Q F r dst aj (lu M Q F s dst (.m o)):=rfl
@[simp] theorem qgE(b:Bool)(op:j7):stG M Q F b i dst op p r s aj (some false)=bX M Q F r ⟨js dst (.aZ []) s.e,s.h,s.fl⟩ aj:=rfl
@[simp] theorem qeF:bX M Q F [] s aj=some s:=rfl
@[simp] theorem qeE(op:j7)(g:Option (Nat×Bool)):bX M Q F (.bl i ⟨dst,op,g,p⟩::r) s aj=stG M Q F true i dst op p r s aj (iO g s.e):=by
 simp only[bX];cases iO g s.e with
 |none=>rfl
 |some b=>
  cases b with
  |false=>rfl
  |true=>
   simp only[stG];cases lu M Q F s dst op with
   |none=>rfl
   |some x=>
    obtain⟨v,t⟩:=x;simp only[bgS];generalize (fJ Q s op||pW t p aj)=b;cases b with
    |true=>rfl
    |false=>
     simp only[Fx,bgT];cases h9 M Q F s t op p aj<;>rfl
@[simp] theorem qaj(op:j7)(g:Option (Nat×Bool)):bX M Q F (.small i ⟨dst,op,g,p⟩::r) s aj=stG M Q F false i dst op p r s aj (iO g s.e):=by
 simp only[bX];cases iO g s.e with
 |none=>rfl
 |some b=>
  cases b with
  |false=>rfl
  |true=>
   simp only[stG];cases op with
   |s o=>simp only;cases lu M Q F s dst (.s o)<;>rfl
   |m o=>simp only;cases lu M Q F s dst (.m o)<;>rfl
   |h o=>simp only;cases lu M Q F s dst (.h o)<;>rfl
   |call f a=>simp only;cases lu M Q F s dst (.call f a)<;>rfl
   |invoke n x a=>simp only;cases lu M Q F s dst (.invoke n x a)<;>rfl
   |next x=>simp only;cases lu M Q F s dst (.next x)<;>rfl
   |bad=>simp only;cases lu M Q F s dst .bad<;>rfl
end
attribute [simp] gv.impure pW gx fJ uF
def clR(cs:List (Nat×Nat)):Option (U×List Uo×Nat)→Bool
 |some R=>cs.all (mD R.2.1)
 |none=>false
@[simp] theorem qha(cs:List (Nat×Nat))(r:U)(h:List Uo)(fl:Nat):clR cs (some (r,h,fl))=cs.all (mD h):=rfl
def clH(F:FU)(f:Nat)(args:List U)(s:Vs)(hid:List Nat×List (Nat×Nat)):Option (List U)→Bool
 |some us=>clR hid.2 (F f us (eN hid.2 (gw hid.1 (aJ args s).h)) (aJ args s).fl)
 |none=>false
@[simp] theorem qg9(f:Nat)(args us:List U)(s:Vs)(hid:List Nat×List (Nat×Nat)):clH F f args s hid (some us)=clR hid.2 (F f us (eN hid.2 (gw hid.1 (aJ args s).h)) (aJ args s).fl):=rfl
@[simp] theorem qg6(f:Nat)(args:List U)(s:Vs)(hid:List Nat×List (Nat×Nat)):mJ F f args s hid=clH F f args s hid (iq args):=by
 unfold mJ;cases iq args with
 |none=>rfl
 |some us=>simp only[clH,clR];cases F f us (eN hid.2 (gw hid.1 (aJ args s).h)) (aJ args s).fl<;>rfl
def frQ(b:Bool)(F:FU)(s:Vs)(hid:List Nat×List (Nat×Nat))(f:Nat)(args:List U):Option (List (List U)→List U→Option (List (List U)))→Option (List (List U)→List U→Option (List (List U)))→Bool
 |none,none=>b&&mJ F f args s hid
 |_,_=>false
@[simp] theorem qhy(b:Bool)(s:Vs)(hid:List Nat×List (Nat×Nat))(f:Nat)(args:List U):frQ b F s hid f args none none=(b&&mJ F f args s hid):=rfl
def frC(Q:nu)(F:FU)(s:Vs)(hid:List Nat×List (Nat×Nat)):Option U→Option (List U)→Bool
 |some (.func f a b),some vs=>frQ (Q.KT f).isNone F s hid f (a++vs++b) (Q.q f) (Q.app f)
 |_,_=>false
@[simp] theorem qhu(s:Vs)(hid:List Nat×List (Nat×Nat))(f:Nat)(a b vs:List U):frC Q F s hid (some (.func f a b)) (some vs)=frQ (Q.KT f).isNone F s hid f (a++vs++b) (Q.q f) (Q.app f):=rfl
def frM(F:FU)(s:Vs)(hid:List Nat×List (Nat×Nat))(args:List U):Option Nat→Bool
 |some f=>mJ F f args s hid
 |none=>false
@[simp] theorem qhx(s:Vs)(hid:List Nat×List (Nat×Nat))(f:Nat)(args:List U):frM F s hid args (some f)=mJ F f args s hid:=rfl
def frI(M:qn)(F:FU)(s:Vs)(hid:List Nat×List (Nat×Nat))(name:String):Option U→Option (List U)→Bool
 |some (.iface t v),some vs=>frM F s hid (v::vs) (M t name)
 |_,_=>false
@[simp] theorem qhw(s:Vs)(hid:List Nat×List (Nat×Nat))(name:String)(t:Nat)(v:U)(vs:List U):frI M F s hid name (some (.iface t v)) (some vs)=frM F s hid (v::vs) (M t name):=rfl
def frH(M:qn)(Q:nu)(F:FU)(s:Vs)(op:j7):Option (List Nat×List (Nat×Nat))→Bool
 |some hid=>(match op with
  | .call f args=>frC Q F s hid (cA s.e f) (j4 s.e args)
  | .invoke name x args=>frI M F s hid name (cA s.e x) (j4 s.e args)
  |_=>false)
 |none=>false
@[simp] theorem qhv(s:Vs)(f:bO)(args:List bO)(hid:List Nat×List (Nat×Nat)):frH M Q F s (.call f args) (some hid)=frC Q F s hid (cA s.e f) (j4 s.e args):=rfl
@[simp] theorem qdL(s:Vs)(name:String)(x:bO)(args:List bO)(hid:List Nat×List (Nat×Nat)):frH M Q F s (.invoke name x args) (some hid)=frI M F s hid name (cA s.e x) (j4 s.e args):=rfl
@[simp] theorem qfT(s t:Vs)(op:j7)(p:Nat)(aj:List (Nat×Rk)):h9 M Q F s t op p aj=frH M Q F s op (qz t p aj):=by
 unfold h9;cases qz t p aj with
 |none=>rfl
 |some hid=>
  cases op with
  |call f args=>
   simp only[frH];cases cA s.e f with
   |none=>rfl
   |some v=>
    cases v with
    |func g a b=>
     cases j4 s.e args with
     |none=>rfl
     |some vs=>simp only[frC];cases Q.q g<;>cases Q.app g<;>rfl
    |_=>rfl
  |invoke name x args=>
   simp only[frH];cases cA s.e x with
   |none=>rfl
   |some v=>
    cases v with
    |iface t v=>
     cases j4 s.e args with
     |none=>rfl
     |some vs=>simp only[frI];cases M t name<;>rfl
    |_=>rfl
  |_=>rfl
def qdN(j:Nat)(n:Option Nat)(off:Nat)(u:U):Option (List Nat×List (Nat×Nat))→Option (List Nat×List (Nat×Nat))
 |some l=>some (Lk j n off u l)
 |none=>none
@[simp] theorem qfU(j:Nat)(n:Option Nat)(off:Nat)(u:U)(l:List Nat×List (Nat×Nat)):qdN j n off u (some l)=some (Lk j n off u l):=rfl
attribute [simp] Lk
def ZB(s:Vs)(p:Nat)(rest:List (Nat×Rk))(r:Rk):Bool→Option (List Nat×List (Nat×Nat))
 |true=>qz s p rest
 |false=>(match r with
  | .ld j n off u=>qdN j n off u (qz s p rest)
  |_=>none)
@[simp] theorem qfW(s:Vs)(p:Nat)(rest:List (Nat×Rk))(r:Rk):ZB s p rest r true=qz s p rest:=rfl
@[simp] theorem qjN(s:Vs)(p:Nat)(rest:List (Nat×Rk))(j:Nat)(n:Option Nat)(off:Nat)(u:U):ZB s p rest (.ld j n off u) false=qdN j n off u (qz s p rest):=rfl
@[simp] theorem qhD(s:Vs)(p:Nat):qz s p []=some ([],[]):=rfl
@[simp] theorem qfV(s:Vs)(p i:Nat)(r:Rk)(rest:List (Nat×Rk)):qz s p ((i,r)::rest)=ZB s p rest r (Nat.testBit p i||r.holds s):=by
 simp only[qz];generalize (Nat.testBit p i||r.holds s)=b;cases b with
 |true=>rfl
 |false=>
  cases r with
  |ld j n off u=>simp only[cond_false,ZB];cases qz s p rest<;>rfl
  |_=>rfl
@[simp] theorem qaP(h:List Uo):gw [] h=h:=rfl
@[simp] theorem ZC(j:Nat)(l:List Nat)(h:List Uo):gw (j::l) h=gw l (h.set j .gone):=rfl
def SA(u:U):Option U→Bool
 |some u' =>U.same u u'
 |none=>false
@[simp] theorem qdP(u u' :U):SA u (some u')=U.same u u' :=rfl
def Sy(i:Nat)(n:Option Nat)(off:Nat)(u:U):Option Uo→Bool
 |some (.row cs)=>SA u (mL i n cs off)
 |_=>false
@[simp] theorem qfX(i:Nat)(n:Option Nat)(off:Nat)(u:U)(cs:List U):Sy i n off u (some (.row cs))=SA u (mL i n cs off):=rfl
@[simp] theorem qhH(s:Vs):Rk.holds s .ok=true:=rfl
@[simp] theorem qhG(s:Vs):Rk.holds s .no=false:=rfl
@[simp] theorem qhF(s:Vs)(i:Nat)(n:Option Nat)(off:Nat)(u:U):Rk.holds s (.ld i n off u)=Sy i n off u s.h[i]? :=by
 simp only[Rk.holds];cases s.h[i]? with
 |none=>rfl
 |some o=>
  cases o with
  |row cs=>simp only[Sy];cases mL i n cs off<;>rfl
  |_=>rfl
@[simp] theorem qgv(a b:Bool):U.same (.bool a) (.bool b)=(a==b):=by simp only[U.same]
@[simp] theorem qij(j k:IntKind)(a b:Int):U.same (.int j a) (.int k b)=(decide (j=k)&&decide (a=b)):=by simp only[U.same]
@[simp] theorem qin(a b:List UInt8):U.same (.str a) (.str b)=(a==b):=by simp only[U.same]
@[simp] theorem qim(i o j p:Nat):U.same (.ptr i o) (.ptr j p)=(decide (i=j)&&decide (o=p)):=by simp only[U.same,Kr]
@[simp] theorem qik(i j:Nat):U.same (.map i) (.map j)=decide (i=j):=by simp only[U.same,Kr]
@[simp] theorem qj2(w:Nat)(xs:List (List U))(u:U):U.same (.sl w xs) u=false:=by cases u<;>simp[U.same]
@[simp] theorem qil(g:Tg)(w:Nat)(xs:List (List U))(u:U):U.same (.own g w xs) u=false:=by cases u<;>simp[U.same]
@[simp] theorem qii(a b:List U):U.same (.agg a) (.agg b)=U.mN a b:=by simp only[U.same]
@[simp] theorem qgw:U.mN [] []=true:=by simp only[U.mN]
@[simp] theorem qex(a b:U)(x y:List U):U.mN (a::x) (b::y)=(U.same a b&&U.mN x y):=by simp only[U.mN]
end
end Go.RE
namespace Go.RE
theorem aX{h l:List Uo}{i:Nat}{o:Uo}(hi:h[i]? =some o):(h++l)[i]? =some o:=by
 rw[bG (aH.1 hi).1];exact hi
@[simp] theorem Rz(h l:List Uo)(a:Uo):(h++a::l)[h.length]? =some a:=by simp
@[simp] theorem at1(h l:List Uo)(a b:Uo):(h++a::b::l)[h.length+1]? =some b:=by simp
@[simp] theorem To(h l:List Uo)(a x:Uo):(h++a::l).set h.length x=h++x::l:=by simp
@[simp] theorem qaf(h l:List Uo)(a b x:Uo):(h++a::b::l).set (h.length+1) x=h++a::x::l:=by
 rw[List.set_append_right _ _ (by omega),show h.length+1 - h.length=1 by omega];rfl
theorem uW{fl:Nat}{h:List Uo}(hf:fl≤h.length)(l:List Uo):cut h.length fl (h++l)=h:=gJ hf
theorem lS{fl:Nat}{h:List Uo}(hf:fl≤h.length)(a:Uo)(l:List Uo):cut (h.length+1) fl (h++a::l)=h++[a]:=by
 unfold cut;rw[P0 (by omega),FE,gu (by omega),show h.length+1 - h.length=1 by omega];rfl
theorem BG{fl:Nat}{h:List Uo}(hf:fl≤h.length)(a b:Uo)(l:List Uo):cut (h.length+2) fl (h++a::b::l)=h++[a,b]:=by
 unfold cut;rw[P0 (by omega),FE,gu (by omega),show h.length+2 - h.length=2 by omega];rfl
@[simp] theorem qjM(h l:List Uo):Iq h.length (h++l)=h++((l.dropLast.map fun _=>Uo.gone)++l.getLast?.toList):=by simp[Iq]
@[simp] theorem qhB(h:List Uo):Iq 0 h=(h.dropLast.map fun _=>Uo.gone)++h.getLast?.toList:=by simp[Iq]
@[simp] theorem qdW(d:Nat)(r:U)(a:Uo)(as:List Uo)(fc:Nat)(e:Env)(h:List Uo)(fl:Nat):rY d r (a::as) fc ⟨e,h,fl⟩=dR d (r.shift h.length) ⟨e,h++(a::as).map (eV h.length),bif Nat.beq fc 0 then fl else h.length+fc⟩:=rfl
section
variable(k:Nat)
@[simp] theorem qgA(i o:Nat):U.shift k (.ptr i o)=.ptr (i+k) o:=by simp only[U.shift]
@[simp] theorem qgz(i:Nat):U.shift k (.map i)=.map (i+k):=by simp only[U.shift]
@[simp] theorem qez(b:Bool):U.shift k (.bool b)=.bool b:=by simp only[U.shift]
@[simp] theorem qgy(j:IntKind)(n:Int):U.shift k (.int j n)=.int j n:=by simp only[U.shift]
@[simp] theorem qip(w:Nat):U.shift k (.nl w)=.nl w:=by simp only[U.shift]
@[simp] theorem qeA:U.shift k .br=.br:=by simp only[U.shift]
@[simp] theorem qgB(a:List U):U.shift k (.aZ a)=.aZ (U.gi k a):=by simp only[U.shift]
@[simp] theorem qeB:U.gi k []=[]:=by simp only[U.gi]
@[simp] theorem qa3(a:U)(r:List U):U.gi k (a::r)=a.shift k::U.gi k r:=by simp only[U.gi]
@[simp] theorem qey(cs:List U):eV k (.row cs)=.row (U.gi k cs):=rfl
theorem iS(es:List (U×U×Nat))(c:Nat):eV k (.map es c)=.map (es.map fun e=>(e.1.shift k,e.2.1.shift k,e.2.2)) c:=rfl
end
end Go.RE
namespace Go.RE
@[simp] theorem ZY(e:Env)(d m:Nat):bC e none d m=some d:=rfl
def onV(most:Nat):Option U→Option Nat
 |some v=>ga v most
 |none=>none
@[simp] theorem qh2(most:Nat)(v:U):onV most (some v)=ga v most:=rfl
@[simp] theorem ZZ(e:Env)(x:bO)(d m:Nat):bC e (some x) d m=onV m (cA e x):=by
 simp only[bC];cases cA e x<;>rfl
theorem qp{k:IntKind}{n m:Nat}(h:n≤m):ga (.int k (n:Int)) m=some n:=by
 simp only[ga,asNat];have h1:(0:Int)≤(n:Int):=uQ n;simp[h]
def qdc(s:Vs)(len:Nat):Option U→Option U→Option (U×Vs)
 |some (.agg cs),some (.int _ n)=>if 0≤n∧n<(len:Int)then iz s cs[n.toNat]? else none
 |_,_=>none
@[simp] theorem qfB(s:Vs)(len:Nat)(cs:List U)(k:IntKind)(n:Int):qdc s len (some (.agg cs)) (some (.int k n))=if 0≤n∧n<(len:Int)then iz s cs[n.toNat]? else none:=rfl
@[simp] theorem qh6(d:Nat)(s:Vs)(len:Nat)(x i:bO):gm d s (.D0 len x i)=qdc s len (cA s.e x) (cA s.e i):=by
 simp only[gm];cases cA s.e x with
 |none=>rfl
 |some v=>
  cases cA s.e i with
  |none=>cases v<;>rfl
  |some w=>
   cases v with
   |agg cs=>
    cases w with
    |int k n=>simp only[qdc];split<;>first|rfl|(cases cs[n.toNat]? <;>rfl)
    |_=>rfl
   |_=>rfl
def mxO(f:U→U→Option U)(s:Vs):Option (List U)→Option (U×Vs)
 |some (v::vs)=>iz s (nG f v vs)
 |_=>none
@[simp] theorem qhZ(f:U→U→Option U)(s:Vs)(v:U)(vs:List U):mxO f s (some (v::vs))=iz s (nG f v vs):=rfl
@[simp] theorem qjY(d:Nat)(s:Vs)(xs:List bO):gm d s (.max xs)=mxO (mG zN) s (j4 s.e xs):=by
 simp only[gm];cases j4 s.e xs with
 |none=>rfl
 |some l=>
  cases l with
  |nil=>rfl
  |cons v vs=>simp only[mxO];cases nG (mG zN) v vs<;>rfl
@[simp] theorem qjZ(d:Nat)(s:Vs)(xs:List bO):gm d s (.min xs)=mxO (mG Ch) s (j4 s.e xs):=by
 simp only[gm];cases j4 s.e xs with
 |none=>rfl
 |some l=>
  cases l with
  |nil=>rfl
  |cons v vs=>simp only[mxO];cases nG (mG Ch) v vs<;>rfl
def fdO(f:U→U→Option U)(r:List U):Option U→Option U
 |some c=>nG f c r
 |none=>none
@[simp] theorem qho(f:U→U→Option U)(r:List U)(c:U):fdO f r (some c)=nG f c r:=rfl
@[simp] theorem qfS(f:U→U→Option U)(a:U):nG f a []=some a:=rfl
@[simp] theorem qdK(f:U→U→Option U)(a b:U)(r:List U):nG f a (b::r)=fdO f r (f a b):=by
 simp only[nG];cases f a b<;>rfl
section
variable{M:qn}{Q:nu}{F:FU}
end
@[simp] theorem qhI(s:Vs)(w w' :Nat)(g:Tg)(xs:List (List U))(k:IntKind)(n:Int):rF s w (some (.own g w' xs)) (some (.int k n))=if 0≤n∧n<(xs.length:Int)then(bif Nat.beq w' w then some (.bI g n.toNat 0,s)else none)else none:=rfl
@[simp] theorem qj8(k:IntKind)(n:Int):(V.int k n).GG=some (.int k n):=rfl
@[simp] theorem qiY(b:Bool):(V.bool b).GG=some (.bool b):=rfl
@[simp] theorem qj9(b:List UInt8):(V.str b).GG=some (.str b):=rfl
@[simp] theorem qi0:V.br.GG=some .br:=rfl
@[simp] theorem qiZ:V.di.GG=some .di:=rfl
@[simp] theorem qj7(w:Nat):(V.ah [] 0 0 w).GG=some (.sl w []):=rfl
@[simp] theorem qaK(a b:List U):tr [] a b=some true:=rfl
@[simp] theorem Z5(a b:List UInt8):fS .str (.str a) (.str b)=some (a==b):=rfl
@[simp] theorem YU(a b:Bool):fS .bool (.bool a) (.bool b)=some (a==b):=rfl
def tbV(d:Nat)(s:Vs):U→Option (U×Vs)
 | .str b=>bif Nat.ble b.length bl then some (.sl 1 (bM b),s)else none
 |_=>none
@[simp] theorem qj6(d:Nat)(s:Vs)(b:List UInt8):tbV d s (.str b)=bif Nat.ble b.length bl then some (.sl 1 (bM b),s)else none:=rfl
@[simp] theorem qaV(d:Nat)(s:Vs)(x:bO):zO d s (.mV x)=(cA s.e x).bind (tbV d s):=by
 simp only[zO];cases cA s.e x with
 |none=>rfl
 |some v=>cases v<;>rfl
end Go.RE
namespace Go.RE
def LL:List aG→Bool
 |[]=>true
 |⟨_,.next _,_,_⟩::_=>false
 |_::r=>LL r
def aq.Ro:aq→Bool
 | .region ops=>LL ops
 | .seq a b=>a.Ro&&b.Ro
 | .cond _ a b=>a.Ro&&b.Ro
 | .block _ b=>b.Ro
 | .loop b=>b.Ro
 |_=>true
section
variable{VF:Nat→Option aC}{M:qn}{Q:nu}{Pm:Pms}
theorem JB{K:Ex→Vs→Prop}{o:Option Vs}(h:iR K o):∃ ex t,K ex t∧∀ K' :Ex→Vs→Prop,K' ex t→iR K' o:=by
 cases o with
 |none=>exact h.elim
 |some u=>exact⟨_,_,h,fun _ h=>h⟩
theorem Ls{fn:aC}{id n:Nat}{K:Ex→Vs→Prop}{ex:Ex}{t:Vs}(h:kB fn id n K ex t):∃ ex' t',K ex' t'∧∀ K' :Ex→Vs→Prop,K' ex' t'→kB fn id n K' ex t:=by
 cases ex with
 |normal=>exact⟨_,_,h,fun _ h=>h⟩
 |ret=>exact⟨_,_,h,fun _ h=>h⟩
 |exit i=>
  simp only[kB]at h⊢;cases hb:Nat.beq i id with
  |true=>rw[hb]at h;exact⟨_,_,h,fun _ h=>h⟩
  |false=>rw[hb]at h;exact⟨_,_,h,fun _ h=>h⟩
theorem qjv:∀ n,(∀ {fn:aC} {c:aq} {s:Vs} {K:Ex→Vs→Prop},c.Ro=true→vC VF M Q Pm n fn c s K→∃ ex t,K ex t∧∀ K' :Ex→Vs→Prop,K' ex t→vC VF M Q Pm n fn c s K')∧
  ∀ {fn:aC} {id:Nat} {b:aq} {m:Nat} {s:Vs} {K:Ex→Vs→Prop},b.Ro=true→vL VF M Q Pm n fn id b m s K→∃ ex t,K ex t∧∀ K' :Ex→Vs→Prop,K' ex t→vL VF M Q Pm n fn id b m s K' :=by
 intro n
 induction n with
 |zero=>exact⟨fun _ h=>by simp[vC]at h,fun _ h=>by simp[vL]at h⟩
 |succ n ih=>
  obtain⟨ihC,ihL⟩:=ih;refine⟨fun {fn c s K} hd h=> ?_,fun {fn id b m s K} hd h=> ?_⟩
  ·cases c with
   |skip=>exact⟨_,_,h,fun _ h=>h⟩
   |ret=>exact⟨_,_,h,fun _ h=>h⟩
   |exit i=>exact⟨_,_,h,fun _ h=>h⟩
   |region ops=>
    have hr:∀ K:Ex→Vs→Prop,vC VF M Q Pm (n+1) fn (.region ops) s K=iR K (gU M Q (vF VF M Q Pm n) ops s):=fun K=>by
     show kK M Q (vF VF M Q Pm n) s K ops=_;unfold kK;split
     ·simp[aq.Ro,LL]at hd
     ·rfl
    rw[hr]at h;obtain⟨ex,t,h1,h2⟩:=JB h;exact⟨ex,t,h1,fun K' hk=>by rw[hr];exact h2 K' hk⟩
   |draw ops=>
    have h:lT M Q (vF VF M Q Pm n) s K (sched (ops.length+1) (bx ops 0) 0):=h;cases hl:sched (ops.length+1) (bx ops 0) 0 with
    |none=>rw[hl]at h;exact h.elim
    |some l=>
     rw[hl]at h;obtain⟨ex,t,h1,h2⟩:=JB h;refine⟨ex,t,h1,fun K' hk=> ?_⟩;show lT M Q (vF VF M Q Pm n) s K' (sched (ops.length+1) (bx ops 0) 0);rw[hl];exact h2 K' hk
   |seq a b=>
    simp only[aq.Ro,aI]at hd;simp only[vC]at h⊢;obtain⟨ex,t,h1,h2⟩:=ihC hd.1 h;cases ex with
    |normal=>
     obtain⟨ex',t',h3,h4⟩:=ihC hd.2 h1;exact⟨ex',t',h3,fun K' hk=>h2 _ (h4 K' hk)⟩
    |ret=>exact⟨_,_,h1,fun K' hk=>h2 _ hk⟩
    |exit i=>exact⟨_,_,h1,fun K' hk=>h2 _ hk⟩
   |cond x a b=>
    simp only[aq.Ro,aI]at hd;simp only[vC]at h⊢;split at h<;>try exact h.elim
    ·exact ihC hd.1 h
    ·exact ihC hd.2 h
   |block id b=>
    cases b with
    |loop b=>simp only[vC]at h⊢;exact ihL hd h
    |_=>
     simp only[vC]at h⊢;have hk:=fun hd=>ihC hd h;obtain⟨ex,t,h1,h2⟩:=hk hd;obtain⟨ex',t',h3,h4⟩:=Ls h1;exact⟨ex',t',h3,fun K' hk=>h2 _ (h4 K' hk)⟩
   |loop b=>simp[vC]at h
   |bad=>simp[vC]at h
   |wB a b=>simp[vC]at h
  ·simp only[vL]at h⊢;obtain⟨ex,t,h1,h2⟩:=ihC hd h;cases ex with
   |normal=>
    obtain⟨ex',t',h3,h4⟩:=ihL hd h1;exact⟨ex',t',h3,fun K' hk=>h2 _ (h4 K' hk)⟩
   |ret=>
    obtain⟨ex',t',h3,h4⟩:=Ls h1;exact⟨ex',t',h3,fun K' hk=>h2 _ (h4 K' hk)⟩
   |exit i=>
    obtain⟨ex',t',h3,h4⟩:=Ls h1;exact⟨ex',t',h3,fun K' hk=>h2 _ (h4 K' hk)⟩
def exX(P:U→List Uo→Nat→Prop):Option (U×List Uo×Nat)→Prop
 |some (r,h,fl)=>P r h fl
 |none=>False
@[simp] theorem qhm{P:U→List Uo→Nat→Prop}{r:U}{h:List Uo}{fl:Nat}:exX P (some (r,h,fl))=P r h fl:=rfl
theorem Si{P:U→List Uo→Nat→Prop}{o:Option (U×List Uo×Nat)}(h:exX P o):∃ r h fl,o=some (r,h,fl)∧P r h fl:=by
 cases o with
 |none=>exact h.elim
 |some x=>exact⟨_,_,_,rfl,h⟩
def kX(k:Nat)(fn:aC)(P:U→List Uo→Nat→Prop)(ex:Ex)(s:Vs):Prop:=
 match ex with
 | .exit _=>False
 |_=>exX P (D6 k fn s)
@[simp] theorem qkB{k:Nat}{fn:aC}{P:U→List Uo→Nat→Prop}{s:Vs}:kX k fn P .ret s=exX P (D6 k fn s):=rfl
@[simp] theorem qf1{k:Nat}{fn:aC}{P:U→List Uo→Nat→Prop}{s:Vs}:kX k fn P .normal s=exX P (D6 k fn s):=rfl
theorem IW{fn:aC}{f:Nat}{us:List U}{h:List Uo}{fl:Nat}{P:U→List Uo→Nat→Prop}(hp:Pm f=none)(hf:VF f=some fn)(ha:Nat.ble us.length fn.ntmps=true)(hd:fn.body.Ro=true)
  (hR:gC VF M Q Pm fn fn.body ⟨mK us 0,h,fl⟩ (kX h.length fn P)):∃ r h' fl',gF VF M Q Pm f us h fl=some (r,h',fl')∧P r h' fl' :=by
 obtain⟨n,hn⟩:=hR;obtain⟨ex,t,h1,h2⟩:=(qjv n).1 hd hn;cases ex with
 |exit i=>exact h1.elim
 |normal=>
  obtain⟨r,h',fl',h3,h4⟩:=Si h1;exact⟨r,h',fl',IX hp hf ha ⟨n,h2 _ h3⟩,h4⟩
 |ret=>
  obtain⟨r,h',fl',h3,h4⟩:=Si h1;exact⟨r,h',fl',IX hp hf ha ⟨n,h2 _ h3⟩,h4⟩
end
end Go.RE
namespace Go.RE
set_option linter.unnecessarySimpa false
section
variable{C:Nat→Option cq}{M:qn}{VF:Nat→Option aC}{Q:nu}{Pm:Pms}
variable{E:q9}{σ:Sg}{Z:Zs}{ω:Om}{s:Vs}{e:PT V}{st:St}{n:Nat}
theorem Ok.TG(hk:Ok E σ Z ω s e st){g:Tg}{w:Nat}{p0:Nat×List (List U)}(hp0:s.cw g=some p0)(hg:ω g=none):Ok E σ Z ω (s.fK g w []) e st:=by
 have henv:∀ t u,look (Env.fK g [] s.e) t=some u→∃ v,e.get t=some v∧TR σ Z ω s.h.length u v:=by
  intro t u hu;rw[Cd]at hu;cases hq:look s.e t with
  |none=>rw[hq]at hu;simp at hu
  |some x=>
   rw[hq]at hu;simp at hu;obtain⟨v,h1,h2⟩:=hk.env t x hq;refine⟨v,h1,?_⟩;subst hu;cases x with
   |own g' w2 xs2=>
    simp only[U.fK];by_cases hgg:g' =g
    ·subst hgg;rw[if_pos rfl];refine⟨?_,h2.2⟩;have h3:=h2.1;unfold OR at h3⊢;rw[hg]at h3⊢;exact⟨rfl,h3.2⟩
    ·rw[if_neg hgg];exact h2
   |_=>exact h2
 unfold Vs.fK;split
 ·rename_i i off;simp only[Vs.cw]at hp0;split at hp0<;>try (simp at hp0;done)
  rename_i cs' hi;split at hp0<;>try (simp at hp0;done)
  rename_i w0 xs0 hc0;have hlt:=(aH.1 hi).1;have hoff:=(aH.1 hc0).1;simp only[setCell,hi];refine(hk.setEnv henv).setRow (cs:=cs') hi (by simp) (fun o u u' v h1 h2 h3=> ?_) (fun o h2=> ?_)
  ·rw[b9]at h2;by_cases ho:off=o
   ·subst ho;rw[if_pos rfl,if_pos hoff]at h2;simp at h2;subst h2;rw[hc0]at h1;simp at h1;subst h1;have h4:OR σ Z ω (.c i off) w0 xs0 v:=h3;show OR σ Z ω (.c i off) w [] v;unfold OR at h4⊢;rw[hg]at h4⊢;exact⟨rfl,h4.2⟩
   ·rw[if_neg ho,h1]at h2;simp at h2;subst h2;exact h3
  ·rw[b9]at h2;split at h2
   ·first|(simp at h2;done)|(split at h2<;>simp at h2)
   ·exact h2
 ·exact hk.setEnv henv
theorem Oi{u:U}{v:V}(h:TR σ Z ω n u v)(hc:u.aL=true):UR σ Z n u v:=by
 cases u<;>first|exact h|(simp[U.aL]at hc)
theorem yp(T:lQ C M VF Q Pm){f:Nat}{fn:aC}(hC:C f=some ⟨fn.ntmps,fn.results,fn.body.er⟩)(hres:fn.results=[]){q:List (List U)→List U→Option (List (List U))}
  (hq:∀ xs rest ys w,q xs rest=some ys→(∀ r∈xs,r.length=w)→(∀ u∈rest,u.aL=true∧u.low 0=true)∧rest.length+1≤fn.ntmps∧ys.length=xs.length∧(∀ r∈ys,r.length=w)∧U.kY ys=true∧
   gC VF M Q Pm fn fn.body ⟨(0,.own .a w xs)::mK rest 1,[],0⟩ fun ex t=>(∀ i,ex≠.exit i)∧t.cw .a=some (w,ys)):xU (dz C M) f q:=by
 intro xs rest ys hh E σ Z ω s e st g w v vs p0 hk hp0 hor hlen hr;have hw:∀ r∈xs,r.length=w:=by
  have:=hor;unfold OR at this;split at this
  ·rw[this.1];intro r hr;cases hr
  ·exact this.2.2.2.2.1
 obtain⟨h1,h2,h3,h4,h5,n,hn⟩:=hq xs rest ys w hh hw;have hnone:∀ x I,(fun x:Tg=>if x=.a then ω g else none) x=some I→x=.a∧ω g=some I:=fun x I hI=>by
  simp only at hI;split at hI
  ·exact⟨‹_›,hI⟩
  ·cases hI
 have hok:Ok ⟨0,σ,fun b=>∃ I,ω g=some I∧I.b=b,Z,st,fun _=>False,(ω g).map oW.desc,fun _ _=>False⟩ σ Z (fun x=>if x=.a then ω g else none) ⟨(0,.own .a w xs)::mK rest 1,[],0⟩ (cK (v::vs) 0 .e) st:=by
  refine⟨fun t u hu=> ?_,fun i o ho=>by simp at ho,hk.qZ,fun x I hI=>hk.mq g I (hnone x I hI).2,hk.fresh,fun i j hi=>by simp at hi,fun x y I J hI hJ _=>by rw[(hnone x I hI).1,(hnone y J hJ).1],fun i x I hi=>by simp at hi,fun i hi=>by simp at hi,fun x I hI=>hk.wz g I (hnone x I hI).2,fun i hi=>by simp at hi,⟨rfl,rfl⟩,fun i off I hI=>(by cases(hnone _ I hI).1),ak _,fun i hi=>by simp at hi,fun b r hb=>hb,ak _,fun b hb hbI=>⟨rfl,fun i hi=>by simp at hi,fun x I hI hbb=>hbI ⟨I,(hnone x I hI).2,hbb⟩,fun r hr=>hr⟩,fun i hi=>False.elim hi,fun i off cs h1=>by simp at h1⟩;simp only[look]at hu;cases hb:Nat.beq 0 t with
  |true=>
   rw[hb]at hu;simp only[cond_true,ag]at hu;have:=aU hb;subst this;subst hu;refine⟨v,by rw[fO,if_pos ⟨bU _,by simp⟩];rfl,OR.to hor (fun _ _ h=>h) rfl,fun i off hh=>by cases hh⟩
  |false=>
   rw[hb]at hu;simp only[cond_false]at hu;obtain⟨ht1,hu2⟩:=yh hu;obtain⟨ht2,_⟩:=aH.1 hu2;have hv:=aQ (l:=vs) (i:=t - 1) (by omega);have hm:=oT hu2;refine⟨vs[t - 1],?_,TR.bE ?_⟩
   ·rw[fO,if_pos ⟨bU _,by simp;omega⟩];rw[show t - 0=(t - 1)+1 by omega];simpa using hv
   ·exact(Oi (hr (t - 1) u _ hu2 hv) (h1 u hm).1).low (h1 u hm).2
 obtain⟨N,hN⟩:=(sound T n).2.1 hn ⟨⟨ak _,fun i o ho=>by simp at ho⟩,σ,Z,_,hok⟩;refine⟨N,?_⟩;rw[rN hC (by simp;omega)];refine cu (ak _) ?_ hN;rintro ex e' st' ⟨s',⟨hne,hown⟩,hf',σ',Z',ω',hk'⟩;have hall:cI e' st' fn.results=some (.aZ []):=by rw[hres];rfl
 have goal:∃ ω2,Ok E σ Z ω2 (s.fK g w ys) e st' :=by
  have wa:(ω' .a).map oW.desc=(ω g).map oW.desc:=hk'.Bn.2;cases hg:ω g with
  |none=>
   have hx0:xs=[]:=by unfold OR at hor;rw[hg]at hor;exact hor.1
   have hy0:ys=[]:=fT (by rw[h3,hx0];rfl);subst hy0;have hm:Ok E σ Z ω s e st' :=hk.mem hk'.nx hk'.fresh fun b hb=>(hk'.out b (hk.AN hb) (fun⟨I,hI,_⟩=>by rw[hg]at hI;cases hI)).1;exact⟨ω,hm.TG hp0 hg⟩
  |some I=>
   rw[hg]at wa;cases hJ:ω' .a with
   |none=>rw[hJ]at wa;cases wa
   |some J=>
    rw[hJ]at wa;simp only[kP,ag,oW.desc,ay]at wa;obtain⟨w1,w2,w3,w4,w5⟩:=wa;obtain⟨v',ho⟩:=AG hk' hown;unfold OR at ho hor;rw[hJ]at ho;rw[hg]at hor;obtain⟨_,⟨o1,o2⟩,o3,o4,o5,o6⟩:=ho;obtain⟨_,⟨p1,p2⟩,p3,p4,p5,p6⟩:=hor;have hlu:LU σ Z 0 ys.flatten ((J.row.drop I.off).take (ys.length*I.w)):=by
     rw[p1,←w2];exact⟨o6.1,fun j u v a b=>((o6.2 j u v a b).flat (BU h5 j u a)).mono (ak 0) (fun i hi=>by omega) (fun _ _ h=>h)⟩
    have hup:=hk.CD hp0 hg (ys:=ys) (row' :=J.row) (by rw[h3,p2]) (fun _=>by rw[p1,←w2,←w3];exact o4) (fun r hr=>by rw[p1];exact h4 r hr) hlu;rw[p1]at hup;refine⟨_,hup.mem hk'.nx hk'.fresh fun b hb=> ?_⟩;have hblt:=hup.AN hb;by_cases hbI:b=I.b
    ·subst hbI;rw[St.eE,if_pos rfl,←w1];exact hk'.mq _ J hJ
    ·rw[St.eE,if_neg hbI];exact(hk'.out b hblt (fun⟨I',hI',hb'⟩=>by rw[hg]at hI';cases hI';exact hbI hb'.symm)).1
 cases ex with
 |exit i=>exact absurd rfl (hne i)
 |normal=>rw[k8];simp only[hall];first|exact⟨rfl,goal⟩|exact⟨trivial,goal⟩
 |ret=>rw[oH];simp only[hall];first|exact⟨rfl,goal⟩|exact⟨trivial,goal⟩
end
end Go.RE
