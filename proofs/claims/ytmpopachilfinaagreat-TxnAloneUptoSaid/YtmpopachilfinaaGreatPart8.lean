/- A part of a proof. -/
import Derived.Test.YtmpopachilfinaaGreatPart7
set_option linter.unusedVariables false
set_option linter.unusedSimpArgs false
set_option linter.constructorNameAsVariable false
namespace Go.RE
def gT(s:Vs):Option U→Option (U×Vs)
 |some v=>some (v,s)
 |none=>none
@[simp] theorem qbn{s:Vs}{v:U}:gT s (some v)=some (v,s):=rfl
@[simp] theorem qeW(t:Nat):look [] t=none:=rfl
@[simp] theorem qde(k t:Nat)(v:U)(r:Env):look ((k,v)::r) t=if k=t then some v else look r t:=by
 simp only[look];by_cases h:k=t
 ·subst h;simp
 ·rw[if_neg h];have:Nat.beq k t=false:=by
   cases hb:Nat.beq k t with
   |false=>rfl
   |true=>exact absurd (bR hb) h
  rw[this];rfl
@[simp] theorem qdq(d:Nat)(v:U)(e:Env):iT (some d) v e=(d,v)::e:=rfl
@[simp] theorem qdp(v:U)(e:Env):iT none v e=e:=rfl
@[simp] theorem qiO(e:Env)(n:Nat):cq e (.t n)=look e n:=rfl
@[simp] theorem qiN(e:Env)(v:V):cq e (.c v)=some v.mw:=rfl
@[simp] theorem qep(e:Env):jC e []=some []:=rfl
def Ao:Option U→Option (List U)→Option (List U)
 |some v,some vs=>some (v::vs)
 |_,_=>none
@[simp] theorem qaz(v:U)(vs:List U):Ao (some v) (some vs)=some (v::vs):=rfl
@[simp] theorem qcU(e:Env)(x:bH)(r:List bH):jC e (x::r)=Ao (cq e x) (jC e r):=by
 simp only[jC];cases cq e x<;>simp only[Ao];cases jC e r<;>simp only[Ao]
attribute [simp] V.mw V.dg lT
@[simp] theorem Env.qeN(g:Tg):Env.kill g []=[]:=rfl
@[simp] theorem Env.qc8(g:Tg)(k:Nat)(v:U)(r:Env):Env.kill g ((k,v)::r)=(k,v.kill g)::Env.kill g r:=rfl
@[simp] theorem Env.qgE(g:Tg):Env.lY g []=[]:=rfl
@[simp] theorem Env.qeD(g:Tg)(k:Nat)(v:U)(r:Env):Env.lY g ((k,v)::r)=(k,v.lY g)::Env.lY g r:=rfl
@[simp] theorem Env.qdx(g g2:Tg):Env.iL g g2 []=[]:=rfl
@[simp] theorem Env.qbx(g g2:Tg)(k:Nat)(v:U)(r:Env):Env.iL g g2 ((k,v)::r)=(k,v.iL g g2)::Env.iL g g2 r:=rfl
@[simp] theorem Env.qg9(g:Tg)(ys:List (List U)):Env.fB g ys []=[]:=rfl
@[simp] theorem Env.qf4(g:Tg)(ys:List (List U))(k:Nat)(v:U)(r:Env):Env.fB g ys ((k,v)::r)=(k,v.fB g ys)::Env.fB g ys r:=rfl
@[simp] theorem Env.qa0(p:Tg→Bool):Env.bS p []=[]:=rfl
@[simp] theorem Env.XZ(p:Tg→Bool)(k:Nat)(v:U)(r:Env):Env.bS p ((k,v)::r)=(k,v.bS p)::Env.bS p r:=rfl
attribute [simp] U.kill U.lY U.iL U.fB U.bS Tg.PD Tg.isC
@[simp] theorem Vs.qhB(d:Nat)(e:Env)(h:List Uo)(fl:Nat):Vs.kill (.t d) ⟨e,h,fl⟩=⟨Env.kill (.t d) e,h,fl⟩:=rfl
@[simp] theorem Vs.qhA(e:Env)(h:List Uo)(fl:Nat):Vs.kill .r ⟨e,h,fl⟩=⟨Env.kill .r e,h,fl⟩:=rfl
@[simp] theorem Vs.qhz(i off:Nat)(e:Env)(h:List Uo)(fl:Nat):Vs.kill (.c i off) ⟨e,h,fl⟩=⟨Env.kill (.c i off) e,setCell h i off .bad,fl⟩:=rfl
@[simp] theorem Vs.qiQ(d:Nat)(e:Env)(h:List Uo)(fl:Nat):Vs.lY (.t d) ⟨e,h,fl⟩=⟨Env.lY (.t d) e,h,fl⟩:=rfl
@[simp] theorem Vs.qiP(e:Env)(h:List Uo)(fl:Nat):Vs.lY .r ⟨e,h,fl⟩=⟨Env.lY .r e,h,fl⟩:=rfl
@[simp] theorem Vs.qiZ(d w:Nat)(ys:List (List U))(e:Env)(h:List Uo)(fl:Nat):Vs.fB (.t d) w ys ⟨e,h,fl⟩=⟨Env.fB (.t d) ys e,h,fl⟩:=rfl
@[simp] theorem Vs.qiY(i off w:Nat)(ys:List (List U))(e:Env)(h:List Uo)(fl:Nat):Vs.fB (.c i off) w ys ⟨e,h,fl⟩=⟨Env.fB (.c i off) ys e,setCell h i off (.bE w ys),fl⟩:=rfl
@[simp] theorem Vs.qhH(d:Nat)(e:Env)(h:List Uo)(fl:Nat):Vs.cg (.t d) ⟨e,h,fl⟩=Env.cg (.t d) e e:=rfl
@[simp] theorem Vs.qhG(i off:Nat)(e:Env)(h:List Uo)(fl:Nat):Vs.cg (.c i off) ⟨e,h,fl⟩=(match h[i]? with
  |some (.row cs)=>(match cs[off]? with
   |some (.bE w xs)=>some (w,xs)
   |_=>none)
  |_=>none):=rfl
attribute [simp] Env.cg
attribute [simp] esc
def qeo(s:Vs):Option U→Option (U×Vs)
 |some v=>esc v s
 |none=>none
@[simp] theorem qcQ(s:Vs)(v:U):qeo s (some v)=esc v s:=rfl
@[simp] theorem qgC(x:bH)(s:Vs):fM x s=qeo s (cq s.e x):=by unfold fM;cases cq s.e x<;>rfl
@[simp] theorem qcR(s:Vs):fU [] s=some ([],s):=rfl
def qaG(v:U):Option (List U×Vs)→Option (List U×Vs)
 |some (vs,s)=>some (v::vs,s)
 |none=>none
@[simp] theorem qcS(v:U)(vs:List U)(s:Vs):qaG v (some (vs,s))=some (v::vs,s):=rfl
def qaH(r:List bH):Option (U×Vs)→Option (List U×Vs)
 |some (v,s)=>qaG v (fU r s)
 |none=>none
@[simp] theorem qcT(r:List bH)(v:U)(s:Vs):qaH r (some (v,s))=qaG v (fU r s):=rfl
@[simp] theorem qaF(x:bH)(r:List bH)(s:Vs):fU (x::r) s=qaH r (fM x s):=by
 simp only[fU];cases fM x s with
 |none=>rfl
 |some p=>obtain⟨v,s⟩:=p;simp only[qaH];cases fU r s<;>rfl
@[simp] theorem qcV(cells:List U)(s:Vs):jX [] cells s=some (cells,s):=rfl
def XN(off size:Nat)(rest:List (Nat×Nat×bH))(cells:List U):Option (U×Vs)→Option (List U×Vs)
 |some (v,s)=>bif Nat.beq v.cells.length size&&Nat.ble (off+v.cells.length) cells.length then jX rest (gi cells off v.cells) s else none
 |none=>none
@[simp] theorem qaJ(off size:Nat)(rest:List (Nat×Nat×bH))(cells:List U)(v:U)(s:Vs):XN off size rest cells (some (v,s))=bif Nat.beq v.cells.length size&&Nat.ble (off+v.cells.length) cells.length then jX rest (gi cells off v.cells) s else none:=rfl
@[simp] theorem qaK(off size:Nat)(x:bH)(rest:List (Nat×Nat×bH))(cells:List U)(s:Vs):jX ((off,size,x)::rest) cells s=XN off size rest cells (fM x s):=by
 simp only[jX];cases fM x s<;>rfl
attribute [simp] U.cells gi U.aJ U.uw U.og U.low U.bW
def qeX(d:Nat)(s:Vs):U→Option (U×Vs)
 | .own .r w xs=>some (.own (.t d) w xs,s.kill (.t d))
 |v=>some (v,s)
attribute [simp] qeX
@[simp] theorem qgW(d:Nat)(s:Vs)(x:bH):fQ d s (.br x)=(cq s.e x).bind (qeX d s):=by
 simp only[fQ];cases cq s.e x with
 |none=>rfl
 |some v=>
  cases v with
  |own g w xs=>cases g<;>rfl
  |_=>rfl
def LZ(s:Vs)(a b:bH):U→Option (U×Vs)
 | .bool true=>gT s (cq s.e a)
 | .bool false=>gT s (cq s.e b)
 |_=>none
@[simp] theorem qbo(s:Vs)(a b:bH):LZ s a b (.bool true)=gT s (cq s.e a):=rfl
@[simp] theorem X6(s:Vs)(a b:bH):LZ s a b (.bool false)=gT s (cq s.e b):=rfl
@[simp] theorem qfa(d:Nat)(s:Vs)(c a b:bH):fQ d s (.pick c a b)=(cq s.e c).bind (LZ s a b):=by
 simp only[fQ];cases cq s.e c with
 |none=>rfl
 |some v=>
  cases v with
  |bool t=>cases t<;>simp only[Option.bind,LZ]<;>(first|(cases cq s.e a<;>rfl)|(cases cq s.e b<;>rfl))
  |_=>rfl
def LP(s:Vs)(n:Option Nat)(i off:Nat):Uo→Option (U×Vs)
 | .row cs=>gT s (lU i n cs off)
 |_=>none
@[simp] theorem qdd(s:Vs)(n:Option Nat)(i off:Nat)(cs:List U):LP s n i off (.row cs)=gT s (lU i n cs off):=rfl
def LQ(s:Vs)(n:Option Nat)(i f:Nat):Nat×List (List U)→Option (U×Vs)
 |(_,xs)=>(xs[i]?).bind fun r=>gT s (iK n r f)
@[simp] theorem qeV(s:Vs)(n:Option Nat)(i f w:Nat)(xs:List (List U)):LQ s n i f (w,xs)=(xs[i]?).bind fun r=>gT s (iK n r f):=rfl
def AT(s:Vs)(n:Option Nat):U→Option (U×Vs)
 | .ptr i off=>(s.h[i]?).bind (LP s n i off)
 | .eu row off=>gT s (iK n row off)
 | .bD g i f=>(s.cg g).bind (LQ s n i f)
 |_=>none
@[simp] theorem qdc(s:Vs)(n:Option Nat)(i off:Nat):AT s n (.ptr i off)=(s.h[i]?).bind (LP s n i off):=rfl
@[simp] theorem qa9(s:Vs)(n:Option Nat)(row:List U)(off:Nat):AT s n (.eu row off)=gT s (iK n row off):=rfl
@[simp] theorem qba(s:Vs)(n:Option Nat)(g:Tg)(i f:Nat):AT s n (.bD g i f)=(s.cg g).bind (LQ s n i f):=rfl
@[simp] theorem qe9(d:Nat)(s:Vs)(n:Option Nat)(x:bH):fQ d s (.load n x)=(cq s.e x).bind (AT s n):=by
 simp only[fQ];cases cq s.e x with
 |none=>rfl
 |some v=>
  cases v with
  |ptr i off=>
   simp only[Option.bind,AT];cases s.h[i]? with
   |none=>rfl
   |some o=>
    cases o with
    |row cs=>simp only[Option.bind,LP];cases lU i n cs off<;>rfl
    |_=>rfl
  |eu row off=>simp only[Option.bind,AT];cases iK n row off<;>rfl
  |bD g i f=>
   simp only[Option.bind,AT];cases s.cg g with
   |none=>rfl
   |some p=>
    obtain⟨w,xs⟩:=p;simp only[LQ,Option.bind];cases xs[i]? with
    |none=>rfl
    |some r=>simp only;cases iK n r f<;>rfl
  |_=>rfl
def qe3(s:Vs):U→Option (U×Vs)
 | .ptr i o=>some (.ptr i o,s)
 | .eu r o=>some (.eu r o,s)
 | .bD g i o=>some (.bD g i o,s)
 | .func f a b=>some (.func f a b,s)
 | .iface t v=>some (.iface t v,s)
 |_=>none
attribute [simp] qe3
@[simp] theorem W1(d:Nat)(s:Vs)(x:bH):fQ d s (.nilCheck x)=(cq s.e x).bind (qe3 s):=by
 simp only[fQ];cases cq s.e x with
 |none=>rfl
 |some v=>cases v<;>rfl
def qan(s:Vs)(op:BinOp)(ek:gU):Option U→Option U→Option (U×Vs)
 |some a,some b=>gT s (iR op ek a b)
 |_,_=>none
@[simp] theorem qcI(s:Vs)(op:BinOp)(ek:gU)(a b:U):qan s op ek (some a) (some b)=gT s (iR op ek a b):=rfl
@[simp] theorem qgS(d:Nat)(s:Vs)(op:BinOp)(ek:gU)(x y:bH):fQ d s (.bin op ek x y)=qan s op ek (cq s.e x) (cq s.e y):=by
 simp only[fQ];cases cq s.e x with
 |none=>rfl
 |some a=>
  cases cq s.e y with
  |none=>rfl
  |some b=>simp only[qan];cases iR op ek a b<;>rfl
@[simp] theorem qhF(d:Nat)(s:Vs)(op:UnOp)(x:bH):fQ d s (.un op x)=(cq s.e x).bind fun a=>gT s (unU op a):=by
 simp only[fQ];cases cq s.e x with
 |none=>rfl
 |some a=>simp only[Option.bind];cases unU op a<;>rfl
def XL(k:IntKind)(s:Vs):U→Option (U×Vs)
 | .int _ n=>some (.int k (aI k n),s)
 |_=>none
attribute [simp] XL
@[simp] theorem X4(d:Nat)(s:Vs)(k:IntKind)(x:bH):fQ d s (.ep k x)=(cq s.e x).bind (XL k s):=by
 simp only[fQ];cases cq s.e x with
 |none=>rfl
 |some v=>cases v<;>rfl
def qeh(s:Vs):U→Option (U×Vs)
 | .str b=>some (.str b,s)
 |_=>none
attribute [simp] qeh
def qbQ(s:Vs)(v:U):Option (U×Vs):=(rowsOf s 1 v).bind fun xs=>(nX xs).bind fun bs=>some (.str bs,s)
@[simp] theorem qdn(d:Nat)(s:Vs)(x:bH):fQ d s (.toStr x)=(cq s.e x).bind (qbQ s):=by
 simp only[fQ];cases cq s.e x with
 |none=>rfl
 |some v=>
  simp only[Option.bind,qbQ];cases rowsOf s 1 v with
  |none=>rfl
  |some xs=>simp only;cases nX xs<;>rfl
def qaO(f:Nat)(a:List U):Option (List U×Vs)→Option (U×Vs)
 |some (b,s)=>some (.func f a b,s)
 |none=>none
def fnV(f:Nat)(captured:List bH):Option (List U×Vs)→Option (U×Vs)
 |some (a,s)=>qaO f a (fU captured s)
 |none=>none
@[simp] theorem qcW(f:Nat)(a b:List U)(s:Vs):qaO f a (some (b,s))=some (.func f a b,s):=rfl
@[simp] theorem qex(f:Nat)(captured:List bH)(a:List U)(s:Vs):fnV f captured (some (a,s))=qaO f a (fU captured s):=rfl
@[simp] theorem qbm(d:Nat)(s:Vs)(f:Nat)(a b:List bH):fQ d s (.ji f a b)=fnV f b (fU a s):=by
 simp only[fQ];cases fU a s with
 |none=>rfl
 |some p=>obtain⟨v,s⟩:=p;simp only[fnV];cases fU b s<;>rfl
def O0:Option (List U×Vs)→Option (U×Vs)
 |some (cs,s)=>some (.agg cs,s)
 |none=>none
@[simp] theorem XI(cs:List U)(s:Vs):O0 (some (cs,s))=some (.agg cs,s):=rfl
@[simp] theorem qdk(d:Nat)(s:Vs)(z:List V)(ps:List (Nat×Nat×bH)):fQ d s (.build z ps)=bif(V.dg z).all U.aJ then O0 (jX ps (V.dg z) s)else none:=by
 simp only[fQ];cases jX ps (V.dg z) s<;>rfl
def faV(s:Vs)(off:Nat):U→Option (U×Vs)
 | .ptr i o=>some (.ptr i (o+off),s)
 | .eu row o=>some (.eu row (o+off),s)
 | .bD g i o=>some (.bD g i (o+off),s)
 |_=>none
attribute [simp] faV
@[simp] theorem V0(d:Nat)(s:Vs)(off:Nat)(x:bH):fQ d s (.fieldAddr off x)=(cq s.e x).bind (faV s off):=by
 simp only[fQ];cases cq s.e x with
 |none=>rfl
 |some v=>cases v<;>rfl
def qf(s:Vs)(w:Nat):Option U→Option U→Option (U×Vs)
 |some (.sl w' xs),some (.int _ n)=>if 0≤n then(match xs[n.toNat]? with|some r=>bif Nat.beq w' w then some (.eu r 0,s)else none|none=>none)else none
 |some (.own g w' xs),some (.int _ n)=>if 0≤n∧n<(xs.length:Int)then(bif Nat.beq w' w then some (.bD g n.toNat 0,s)else none)else none
 |some (.xW j off len w'),some (.int _ n)=>if 0≤n∧n<(len:Int)then(bif Nat.beq w' w then some (.ptr j (off+n.toNat*w),s)else none)else none
 |some (.view g lo len w'),some (.int _ n)=>if 0≤n∧n<(len:Int)then(bif Nat.beq w' w then some (.bD g (lo+n.toNat) 0,s)else none)else none
 |_,_=>none
theorem PC{s:Vs}{w:Nat}{g:Tg}{lo len:Nat}{k:IntKind}{n:Nat}(hn:n<len):qf s w (some (.view g lo len w)) (some (.int k n))=some (.bD g (lo+n) 0,s):=by
 simp only[qf,Int.toNat_natCast,iY,cond_true,if_pos (⟨Int.natCast_nonneg n,by omega⟩:(0:Int)≤n∧(n:Int)<len)]
theorem cz{s:Vs}{w:Nat}{g:Tg}{xs:List (List U)}{k:IntKind}{n:Nat}(hn:n<xs.length):qf s w (some (.own g w xs)) (some (.int k n))=some (.bD g n 0,s):=by
 simp only[qf,Int.toNat_natCast,iY,cond_true,if_pos (⟨Int.natCast_nonneg n,by omega⟩:(0:Int)≤n∧(n:Int)<xs.length)]
theorem aS{s:Vs}{w:Nat}{xs:List (List U)}{k:IntKind}{n:Nat}{r:List U}(hr:xs[n]? =some r):qf s w (some (.sl w xs)) (some (.int k n))=some (.eu r 0,s):=by
 simp only[qf,Int.toNat_natCast,hr,iY,cond_true,if_pos (Int.natCast_nonneg n)]
@[simp] theorem V1(d:Nat)(s:Vs)(w:Nat)(x i:bH):fQ d s (.indexAddr w x i)=qf s w (cq s.e x) (cq s.e i):=by
 simp only[fQ];cases cq s.e x with
 |none=>rfl
 |some v=>cases cq s.e i<;>cases v<;>rfl
def CI(s:Vs)(k:Nat)(v:U):Option (U×Vs):=(NS s k v).bind fun n=>some (.int .i64 n,s)
@[simp] theorem qeQ(s:Vs)(b:List UInt8):CI s 0 (.str b)=some (.int .i64 b.length,s):=rfl
@[simp] theorem qgM(s:Vs)(w:Nat)(xs:List (List U)):CI s 1 (.sl w xs)=some (.int .i64 xs.length,s):=rfl
@[simp] theorem qda(s:Vs)(g:Tg)(lo len w:Nat):CI s 1 (.view g lo len w)=some (.int .i64 len,s):=rfl
@[simp] theorem qgL(s:Vs)(w:Nat):CI s 1 (.nl w)=some (.int .i64 0,s):=rfl
@[simp] theorem qeP(s:Vs)(g:Tg)(w:Nat)(xs:List (List U)):CI s 1 (.own g w xs)=some (.int .i64 xs.length,s):=rfl
@[simp] theorem qgT(d:Nat)(s:Vs)(k:Nat)(x:bH):fQ d s (.len k x)=(cq s.e x).bind (CI s k):=by
 simp only[fQ];cases cq s.e x with
 |none=>rfl
 |some v=>simp only[Option.bind,CI];cases NS s k v<;>rfl
def qaI(s:Vs)(i:Nat):U→Option (U×Vs)
 | .aX vs=>gT s vs[i]?
 |_=>none
@[simp] theorem qer(s:Vs)(i:Nat)(vs:List U):qaI s i (.aX vs)=gT s vs[i]? :=rfl
@[simp] theorem X5(d:Nat)(s:Vs)(i:Nat)(x:bH):fQ d s (.extract i x)=(cq s.e x).bind (qaI s i):=by
 simp only[fQ];cases cq s.e x with
 |none=>rfl
 |some v=>
  cases v with
  |aX vs=>simp only[Option.bind,qaI];cases vs[i]? <;>rfl
  |_=>rfl
def lkO(s:Vs)(kk:gU)(ok:Bool)(z:Option U):Option U→Option U→Option (U×Vs)
 |some m,some k=>z.bind fun z=>gT s (fG s kk z ok m k)
 |_,_=>none
@[simp] theorem qeR(s:Vs)(kk:gU)(ok:Bool)(z m k:U):lkO s kk ok (some z) (some m) (some k)=gT s (fG s kk z ok m k):=rfl
@[simp] theorem qbl(d:Nat)(s:Vs)(kk:gU)(z:V)(ok:Bool)(x i:bH):fQ d s (.lookup kk z ok x i)=lkO s kk ok z.EL (cq s.e x) (cq s.e i):=by
 simp only[fQ];cases z.EL with
 |none=>cases cq s.e x<;>cases cq s.e i<;>rfl
 |some z=>
  cases cq s.e x with
  |none=>rfl
  |some m=>
   cases cq s.e i with
   |none=>rfl
   |some k=>simp only[lkO,Option.bind];cases fG s kk z ok m k<;>rfl
@[simp] theorem qdm(d:Nat)(s:Vs)(w:Nat)(x:bH)(lo hi mx:Option bH):fQ d s (.slice w x lo hi mx)=(cq s.e x).bind fun v=>iz d w lo hi mx v s:=by
 simp only[fQ];cases cq s.e x<;>rfl
def qaD(s:Vs):U→Option (U×Vs)
 | .ptr q 0=>gT s (mL s q)
 |_=>none
@[simp] theorem qem(s:Vs)(q:Nat):qaD s (.ptr q 0)=gT s (mL s q):=rfl
@[simp] theorem qdl(d:Nat)(s:Vs)(x:bH):fQ d s (.entry x)=(cq s.e x).bind (qaD s):=by
 simp only[fQ];cases cq s.e x with
 |none=>rfl
 |some v=>
  cases v with
  |ptr q o=>
   cases o with
   |zero=>simp only[Option.bind,qaD];cases mL s q<;>rfl
   |succ o=>rfl
  |_=>rfl
@[simp] theorem qdj(d:Nat)(e:Env)(h:List Uo)(fl:Nat)(z:List V):yl d ⟨e,h,fl⟩ (.alloc z)=bif(V.dg z).all (fun u=>u.aJ||u.og)then some (.ptr h.length 0,⟨e,h++[.row (V.dg z)],fl⟩)else none:=rfl
def qd8(e:Env)(h:List Uo)(fl:Nat):U→Option (U×Vs)
 | .own (.c _ _) _ _=>none
 | .own .a _ _=>none
 | .own g w xs=>some (.ptr h.length 0,⟨Env.iL g (.c h.length 0) e,h++[.row [.bE w xs]],fl⟩)
 |v=>bif v.cells.all U.aJ then some (.ptr h.length 0,⟨e,h++[.row v.cells],fl⟩)else none
attribute [simp] qd8
@[simp] theorem qgR(d:Nat)(e:Env)(h:List Uo)(fl:Nat)(x:bH):yl d ⟨e,h,fl⟩ (.box x)=(cq e x).bind (qd8 e h fl):=by
 simp only[yl];cases cq e x with
 |none=>rfl
 |some v=>
  cases v with
  |own g w xs=>cases g<;>rfl
  |_=>rfl
def Wj(d w len:Nat):Option (List U×Vs)→Option (U×Vs)
 |some (cs,s)=>bif cs.all U.aJ&&U.bW 0 cs&&Nat.beq cs.length (len*w)then some (.own (.t d) w (chunks w len cs),s.kill (.t d))else none
 |none=>none
@[simp] theorem qcN(d w len:Nat)(cs:List U)(s:Vs):Wj d w len (some (cs,s))=bif cs.all U.aJ&&U.bW 0 cs&&Nat.beq cs.length (len*w)then some (.own (.t d) w (chunks w len cs),s.kill (.t d))else none:=rfl
@[simp] theorem P9(d:Nat)(s:Vs)(w len:Nat)(z:List V)(ps:List (Nat×Nat×bH)):yl d s (.buildSlice w len z ps)=Wj d w len (bif(V.dg z).all U.aJ then jX ps (JL (V.dg z) len) s else none):=by
 simp only[yl];generalize (bif(V.dg z).all U.aJ then jX ps (JL (V.dg z) len) s else none)=q;cases q<;>rfl
@[simp] theorem X0(d:Nat)(e:Env)(h:List Uo)(fl:Nat):yl d ⟨e,h,fl⟩ .makeMap=some (.map h.length,⟨e,h++[.map [] 0],fl⟩):=rfl
attribute [simp] JL chunks
def stV(n:Nat):Option Vs→Option (U×Vs)
 |some s=>some (.aX [],s)
 |none=>none
@[simp] theorem qfD(n:Nat)(s:Vs):stV n (some s)=some (.aX [],s):=rfl
def stR(n i off:Nat):U×Vs→Option (U×Vs)
 |(v,s)=>(s.h[i]?).bind fun o=>match o with| .row cs=>stV n (pR s n i off v cs)|_=>none
@[simp] theorem qhT(n i off:Nat)(v:U)(s:Vs):stR n i off (v,s)=(s.h[i]?).bind fun o=>match o with| .row cs=>stV n (pR s n i off v cs)|_=>none:=rfl
theorem CK{d:Nat}{s:Vs}{n:Nat}{a x:bH}{i off:Nat}{v:U}{cs:List U}(ha:cq s.e a=some (.ptr i off))(hx:cq s.e x=some v)(hi:s.h[i]? =some (.row cs)):
  pL d s (.store n a x)=stR n i off (jj s off v cs):=by
 simp only[pL,ha,hx,hi];obtain⟨v2,s2⟩:=jj s off v cs;simp only[stR];cases s2.h[i]? with
 |none=>rfl
 |some o=>
  cases o with
  |row cs=>simp only[Option.bind];cases pR s2 n i off v2 cs<;>rfl
  |_=>rfl
def stO(d:Nat)(s:Vs)(n:Nat):U→U→Option (U×Vs)
 | .ptr i off,v=>(s.h[i]?).bind fun o=>match o with| .row cs=>stR n i off (jj s off v cs)|_=>none
 | .bD g i f,v=>(match esc v s with
   |some (v,s)=>(match s.cg g with
    |some (w,xs)=>(match xs[i]? with
     |some r=>bif Nat.beq v.cells.length n&&Nat.ble (f+n) r.length&&v.cells.all U.aJ&&v.low 0 then some (.aX [],s.fB g w (xs.set i (gi r f v.cells)))else none
     |none=>none)
    |none=>none)
   |none=>none)
 |_,_=>none
@[simp] theorem qg1(d:Nat)(s:Vs)(n i off:Nat)(v:U):stO d s n (.ptr i off) v=(s.h[i]?).bind fun o=>match o with| .row cs=>stR n i off (jj s off v cs)|_=>none:=rfl
def stB(d:Nat)(s:Vs)(n:Nat):Option U→Option U→Option (U×Vs)
 |some a,some v=>stO d s n a v
 |_,_=>none
@[simp] theorem qfB(d:Nat)(s:Vs)(n:Nat)(a v:U):stB d s n (some a) (some v)=stO d s n a v:=rfl
@[simp] theorem qdi(d:Nat)(s:Vs)(n:Nat)(a x:bH):pL d s (.store n a x)=stB d s n (cq s.e a) (cq s.e x):=by
 cases ha:cq s.e a with
 |none=>simp only[pL,ha];rfl
 |some va=>
  cases hx:cq s.e x with
  |none=>simp only[pL,ha,hx];cases va<;>rfl
  |some v=>
   cases va with
   |ptr i off=>
    simp only[stB,stO];cases hi:s.h[i]? with
    |none=>simp only[pL,ha,hx,hi];rfl
    |some o=>
     cases o with
     |row cs=>rw[CK ha hx hi];rfl
     |_=>simp only[pL,ha,hx,hi];rfl
   |bD g i f=>simp only[pL,ha,hx];rfl
   |_=>simp only[pL,ha,hx];rfl
attribute [simp] jj pR setCell
def apV(d:Nat)(s:Vs)(w bytes:Nat)(ys:List (List U)):U→Option (U×Vs)
 | .own g w' xs=>bif !(decide (g=.a))&&Nat.beq w' w&&Nat.ble ((xs.length+ys.length)*bytes) aZ&&Nat.ble (xs.length+ys.length) aZ&&ys.all (fun r=>r.all U.aJ&&U.bW 0 r&&Nat.beq r.length w)then
      some (.own (.t d) w (xs++ys),(s.kill g).kill (.t d))else none
 | .nl w' =>bif Nat.beq w' w&&Nat.ble (ys.length*bytes) aZ&&Nat.ble ys.length aZ&&ys.all (fun r=>r.all U.aJ&&U.bW 0 r&&Nat.beq r.length w)then some (.own (.t d) w ys,(s.kill .r).kill (.t d))else none
 | .sl w' xs=>bif Nat.beq w' w&&ys.isEmpty&&Nat.ble (xs.length*bytes) aZ&&Nat.ble xs.length aZ then some (.sl w xs,s)else none
 |_=>none
def apO(d:Nat)(s:Vs)(w bytes:Nat)(str:Bool):Option U→Option U→Option (U×Vs)
 |some a,some x=>(yJ s w str x).bind fun ys=>apV d s w bytes ys a
 |_,_=>none
@[simp] theorem qdO(d:Nat)(s:Vs)(w bytes:Nat)(str:Bool)(a x:U):apO d s w bytes str (some a) (some x)=(yJ s w str x).bind fun ys=>apV d s w bytes ys a:=rfl
@[simp] theorem qbi(d:Nat)(s:Vs)(w bytes:Nat)(str:Bool)(a x:bH):pL d s (.append w bytes str a x)=apO d s w bytes str (cq s.e a) (cq s.e x):=by
 simp only[pL];cases cq s.e a with
 |none=>rfl
 |some va=>
  cases cq s.e x with
  |none=>rfl
  |some vx=>
   simp only[apO];cases yJ s w str vx with
   |none=>rfl
   |some ys=>simp only[Option.bind,apV];cases va<;>rfl
attribute [simp] sM gM qt aH U.LH U.qaV
section
variable{M:oV}{Q:mE}{F:FU}
@[simp] theorem qiS(s:Vs)(dst:Option Nat)(o:fR):kD M Q F s dst (.s o)=fQ (dst.getD 0) s o:=rfl
@[simp] theorem qiR(s:Vs)(dst:Option Nat)(o:Gv):kD M Q F s dst (.m o)=yl (dst.getD 0) s o:=rfl
@[simp] theorem qdh(s:Vs)(dst:Option Nat)(n:Nat)(a x:bH):kD M Q F s dst (.h (.store n a x))=pL (dst.getD 0) s (.store n a x):=rfl
@[simp] theorem VX(s:Vs)(dst:Option Nat)(kk:gU)(m k x:bH):kD M Q F s dst (.h (.mapUpdate kk m k x))=pL (dst.getD 0) s (.mapUpdate kk m k x):=rfl
@[simp] theorem qbh(s:Vs)(dst:Option Nat)(kk:gU)(m k:bH):kD M Q F s dst (.h (.delete kk m k))=pL (dst.getD 0) s (.delete kk m k):=rfl
@[simp] theorem qbg(s:Vs)(dst:Option Nat)(w b:Nat)(t:Bool)(a x:bH):kD M Q F s dst (.h (.append w b t a x))=pL (dst.getD 0) s (.append w b t a x):=rfl
@[simp] theorem qe6(s:Vs)(dst:Option Nat)(w:Nat)(t:Bool)(a x:bH):kD M Q F s dst (.h (.copy w t a x))=pL (dst.getD 0) s (.copy w t a x):=rfl
@[simp] theorem qdf(s:Vs)(dst:Option Nat)(w:Nat)(z:List V)(x:bH):kD M Q F s dst (.h (.clear w z x))=pL (dst.getD 0) s (.clear w z x):=rfl
def qfi(e:Env)(h:List Uo)(fl:Nat):U→Option (U×Vs)
 | .bO=>some (.ptr h.length 0,⟨e,h++[.iter none 0 [] 0],fl⟩)
 | .map m=>(match h[m]? with
   |some (.map _ clock)=>some (.ptr h.length 0,⟨e,h++[.iter (some m) clock [] clock],fl⟩)
   |_=>none)
 |_=>none
attribute [simp] qfi
@[simp] theorem qdg(e:Env)(h:List Uo)(fl:Nat)(dst:Option Nat)(x:bH):kD M Q F ⟨e,h,fl⟩ dst (.h (.range x))=(cq e x).bind (qfi e h fl):=by
 simp only[kD];cases cq e x with
 |none=>rfl
 |some v=>cases v<;>rfl
def Nl(Q:mE)(F:FU)(s:Vs)(d f:Nat)(args:List U):Option (Nat→List (List U)→List U→Option (Nat×List (List U)))→Option (U×Vs)
 |some q=>(match args with
  | .own g w xs::rest=>(match q w xs rest with
   |some (w',ys)=>some (.own (.t d) w' ys,s.kill (.t d))
   |none=>none)
  |_=>jH (Q.ld f) F d f args s)
 |none=>jH (Q.ld f) F d f args s
@[simp] theorem qgw(Q:mE)(F:FU)(s:Vs)(d f:Nat)(args:List U):yD Q F s d f args=Nl Q F s d f args (Q.IN f):=by
 unfold yD;cases Q.IN f<;>rfl
@[simp] theorem qcL(Q:mE)(F:FU)(s:Vs)(d f:Nat)(args:List U):Nl Q F s d f args none=jH (Q.ld f) F d f args s:=rfl
def qd7(s:Vs)(d:Nat):Option (Nat×List (List U))→Option (U×Vs)
 |some (w',ys)=>some (.own (.t d) w' ys,s.kill (.t d))
 |none=>none
@[simp] theorem qcM(s:Vs)(d w' :Nat)(ys:List (List U)):qd7 s d (some (w',ys))=some (.own (.t d) w' ys,s.kill (.t d)):=rfl
@[simp] theorem qd6(Q:mE)(F:FU)(s:Vs)(d f:Nat)(g:Tg)(w:Nat)(xs:List (List U))(rest:List U)(q:Nat→List (List U)→List U→Option (Nat×List (List U))):
  Nl Q F s d f (.own g w xs::rest) (some q)=qd7 s d (q w xs rest):=by
 simp only[Nl];cases q w xs rest<;>rfl
@[simp] theorem qgy(Q:mE)(F:FU)(s:Vs)(d f:Nat)(w:Nat)(xs:List (List U))(rest:List U)(q:Nat→List (List U)→List U→Option (Nat×List (List U))):
  Nl Q F s d f (.sl w xs::rest) (some q)=jH (Q.ld f) F d f (.sl w xs::rest) s:=rfl
@[simp] theorem qgx(Q:mE)(F:FU)(s:Vs)(d f:Nat)(w:Nat)(rest:List U)(q:Nat→List (List U)→List U→Option (Nat×List (List U))):
  Nl Q F s d f (.nl w::rest) (some q)=jH (Q.ld f) F d f (.nl w::rest) s:=rfl
attribute [simp] uv
@[simp] theorem qdz(w:Nat):lW w []=true:=rfl
@[simp] theorem qbA(w:Nat)(r:List U)(ys:List (List U)):lW w (r::ys)=(Nat.beq r.length w&&lW w ys):=rfl
theorem N8{α:Type}{w:Nat}{f:α→List U}(hf:∀ a,Nat.beq (f a).length w=true)(l:List α):lW w (l.map f)=true:=by
 simp only[lW,List.all_map,jr];intro x _;exact hf x
def xZ(Q:mE)(F:FU)(s:Vs)(d f:Nat)(args:List U):Option (List (List U)→List U→Option (List (List U)))→Option (U×Vs)
 |some q=>(match args with
    | .own g w xs::rest=>(match q xs rest with
     |some ys=>bif !(decide (g=.a))&&lW w ys&&uv g rest then some (.own (.t d) w ys,(s.kill g).kill (.t d))else none
     |none=>none)
    | .nl w::rest=>(match q [] rest with
     |some ys=>bif lW w ys&&uv .r rest then some (.own (.t d) w ys,(s.kill .r).kill (.t d))else none
     |none=>none)
    |_=>none)
 |none=>yD Q F s d f args
@[simp] theorem qaq(s:Vs)(d f:Nat)(args:List U):xZ Q F s d f args none=yD Q F s d f args:=rfl
def C6(Q:mE)(F:FU)(s:Vs)(d f:Nat)(args:List U):Option (List (List U)→List U→Option (List (List U)))→Option (U×Vs)
 |some q=>(match args with
    | .own g w xs::rest=>(match q xs rest with
     |some ys=>bif(s.cg g).isSome then some (.aX [],s.fB g w ys)else none
     |none=>none)
    |_=>none)
 |none=>xZ Q F s d f args (Q.app f)
@[simp] theorem qau(s:Vs)(d f:Nat)(args:List U):C6 Q F s d f args none=xZ Q F s d f args (Q.app f):=rfl
def O2(Q:mE)(F:FU)(s:Vs)(d:Nat):Option U→Option (List U)→Option (U×Vs)
 |some (.func f first captured),some vs=>C6 Q F s d f (first++vs++captured) (Q.q f)
 |_,_=>none
@[simp] theorem qat(s:Vs)(d f:Nat)(a b vs:List U):O2 Q F s d (some (.func f a b)) (some vs)=C6 Q F s d f (a++vs++b) (Q.q f):=rfl
@[simp] theorem qe5(s:Vs)(dst:Option Nat)(f:bH)(args:List bH):kD M Q F s dst (.call f args)=O2 Q F s (dst.getD 0) (cq s.e f) (jC s.e args):=by
 simp only[kD];cases cq s.e f with
 |none=>rfl
 |some v=>
  cases v with
  |func f a b=>
   cases jC s.e args with
   |none=>rfl
   |some vs=>simp only[O2,C6,xZ];cases Q.q f<;>first|rfl|(cases Q.app f<;>rfl)
  |_=>rfl
def OH(d:Nat)(args:List U)(s:Vs):Option (U×List Uo×Nat)→Option (U×Vs)
 |some (r,hc,fc)=>some (qF d r hc fc (bif qt args&& !(r.flat&&hc.isEmpty)then aH args s else s))
 |none=>none
@[simp] theorem qaj(d:Nat)(args:List U)(s:Vs)(r:U)(hc:List Uo)(fc:Nat):OH d args s (some (r,hc,fc))=some (qF d r hc fc (bif qt args&& !(r.flat&&hc.isEmpty)then aH args s else s)):=rfl
def OJ(d:Nat)(e:Env):Option (U×List Uo×Nat)→Option (U×Vs)
 |some (r,h,fl)=>some (dH d r ⟨Env.bS Tg.isC e,h,fl⟩)
 |none=>none
@[simp] theorem qal(d:Nat)(e:Env)(r:U)(h:List Uo)(fl:Nat):OJ d e (some (r,h,fl))=some (dH d r ⟨Env.bS Tg.isC e,h,fl⟩):=rfl
def OI(d:Nat)(s:Vs)(L:List (Nat×Nat)):Option (U×List Uo×Nat)→Option (U×Vs)
 |some (r,h,fl)=>bif L.all (lJ h)then some (dH d r ⟨Env.bS (fm L) s.e,iI s.h L h,fl⟩)else none
 |none=>none
@[simp] theorem qak(d:Nat)(s:Vs)(L:List (Nat×Nat))(r:U)(h:List Uo)(fl:Nat):OI d s L (some (r,h,fl))=bif L.all (lJ h)then some (dH d r ⟨Env.bS (fm L) s.e,iI s.h L h,fl⟩)else none:=rfl
def C4(F:FU)(d f:Nat)(us:List U)(s:Vs):Bool→Option (U×Vs)
 |true=>OI d s (gR s.h s.e) (F f us (dZ (gR s.h s.e) s.h) s.fl)
 |false=>OJ d s.e (F f us s.h s.fl)
@[simp] theorem qas(d f:Nat)(us:List U)(s:Vs):C4 F d f us s true=OI d s (gR s.h s.e) (F f us (dZ (gR s.h s.e) s.h) s.fl):=rfl
@[simp] theorem XK(d f:Nat)(us:List U)(s:Vs):C4 F d f us s false=OJ d s.e (F f us s.h s.fl):=rfl
def GH(ld:Bool)(F:FU)(d f:Nat)(args us:List U)(s:Vs):Bool→Option (U×Vs)
 |true=>OH d args s (F f us [] 0)
 |false=>C4 F d f us (aH args s) ld
@[simp] theorem qar(ld:Bool)(d f:Nat)(args us:List U)(s:Vs):GH ld F d f args us s true=OH d args s (F f us [] 0):=rfl
@[simp] theorem XJ(ld:Bool)(d f:Nat)(args us:List U)(s:Vs):GH ld F d f args us s false=C4 F d f us (aH args s) ld:=rfl
@[simp] theorem qeb(ld:Bool)(d f:Nat)(args:List U)(s:Vs):jH ld F d f args s=(gM args).bind fun us=>GH ld F d f args us s (U.bW 0 us):=by
 unfold jH;cases gM args with
 |none=>rfl
 |some us=>
  simp only[Option.bind];cases U.bW 0 us with
  |true=>simp only[cond_true,GH];cases F f us [] 0<;>rfl
  |false=>
   simp only[cond_false,GH];cases ld with
   |true=>
    simp only[cond_true,C4];cases F f us (dZ (gR (aH args s).h (aH args s).e) (aH args s).h) (aH args s).fl<;>rfl
   |false=>
    simp only[cond_false,C4];cases F f us (aH args s).h (aH args s).fl<;>rfl
attribute [simp] U.Wn dZ lJ cellAt iI fm
def lnL(h:List Uo)(i off:Nat)(r:Env):U→List (Nat×Nat)
 | .bE _ _=>(i,off)::gR h r
 |_=>gR h r
@[simp] theorem qeS(h:List Uo)(i off:Nat)(r:Env)(w:Nat)(xs:List (List U)):lnL h i off r (.bE w xs)=(i,off)::gR h r:=rfl
def lnT(h:List Uo)(r:Env):Option (Nat×Nat)→List (Nat×Nat)
 |some (i,off)=>lnL h i off r (cellAt h i off)
 |none=>gR h r
@[simp] theorem qeU(h:List Uo)(r:Env)(i off:Nat):lnT h r (some (i,off))=lnL h i off r (cellAt h i off):=rfl
@[simp] theorem qeT(h:List Uo)(r:Env):lnT h r none=gR h r:=rfl
@[simp] theorem qdb(h:List Uo):gR h []=[]:=rfl
@[simp] theorem qa4(h:List Uo)(k:Nat)(v:U)(r:Env):gR h ((k,v)::r)=lnT h r v.Wn:=by
 simp only[gR];cases v.Wn with
 |none=>rfl
 |some x=>
  obtain⟨i,off⟩:=x;simp only[lnT,cellAt];cases h[i]? with
  |none=>rfl
  |some o=>
   cases o with
   |row cs=>
    simp only;cases cs[off]? with
    |none=>rfl
    |some u=>cases u<;>rfl
   |_=>rfl
@[simp] theorem qc9(d:Nat)(r:U)(fc:Nat)(s:Vs):qF d r [] fc s=dH d r s:=rfl
attribute [simp] dH U.flat U.uk U.j8
def nO(M:oV)(Q:mE)(F:FU)(r:List aF)(dst:Option Nat):Option (U×Vs)→Option Vs
 |some (v,s)=>gx M Q F r ⟨iT dst v s.e,s.h,s.fl⟩
 |none=>none
@[simp] theorem qgQ(r:List aF)(dst:Option Nat)(v:U)(s:Vs):nO M Q F r dst (some (v,s))=gx M Q F r ⟨iT dst v s.e,s.h,s.fl⟩:=rfl
def gO(M:oV)(Q:mE)(F:FU)(dst:Option Nat)(op:jF)(r:List aF)(s:Vs):Option Bool→Option Vs
 |some true=>nO M Q F r dst (kD M Q F s dst op)
 |some false=>gx M Q F r ⟨iT dst (.aX []) s.e,s.h,s.fl⟩
 |none=>none
@[simp] theorem qgH(dst:Option Nat)(op:jF)(r:List aF)(s:Vs):gO M Q F dst op r s (some true)=nO M Q F r dst (kD M Q F s dst op):=rfl
@[simp] theorem qeE(dst:Option Nat)(op:jF)(r:List aF)(s:Vs):gO M Q F dst op r s (some false)=gx M Q F r ⟨iT dst (.aX []) s.e,s.h,s.fl⟩:=rfl
@[simp] theorem qfb(s:Vs):gx M Q F [] s=some s:=rfl
@[simp] theorem qdo(dst:Option Nat)(op:jF)(g:Option (Nat×Bool))(p:Nat)(r:List aF)(s:Vs):gx M Q F (⟨dst,op,g,p⟩::r) s=gO M Q F dst op r s (iq g s.e):=by
 simp only[gx];cases iq g s.e with
 |none=>rfl
 |some b=>
  cases b with
  |false=>rfl
  |true=>simp only[gO];cases kD M Q F s dst op<;>rfl
@[simp] theorem XS(e:Env):iq none e=some true:=rfl
def qeG(want:Bool):U→Option Bool
 | .bool b=>some (b==want)
 | .aX _=>some false
 |_=>none
attribute [simp] qeG
@[simp] theorem XT(t:Nat)(want:Bool)(e:Env):iq (some (t,want)) e=(look e t).bind (qeG want):=by
 simp only[iq];cases look e t with
 |none=>rfl
 |some v=>cases v<;>rfl
end
end Go.RE
namespace Go.RE
abbrev By:=List UInt8
theorem yT:∀ (x y:By),Op.bytesLess x y=decide (x<y)
 |[],[]=>by simp[Op.bytesLess]
 |_::_,[]=>by simp[Op.bytesLess]
 |[],_::_=>by simp[Op.bytesLess]
 |a::x,b::y=>by
  have ih:=yT x y;simp only[Op.bytesLess,ih,List.cons_lt_cons_iff];by_cases h1:a<b<;>by_cases h2:a=b<;>by_cases h3:x<y<;>simp[h1,h2,h3]
theorem AY(a:By):Op.bytesLess a a=false:=by rw[yT];simp[List.lt_irrefl]
theorem Dp{a b c:By}(h:Op.bytesLess a b=true)(k:Op.bytesLess b c=true):Op.bytesLess a c=true:=by
 rw[yT]at*;simp only[decide_eq_true_eq]at*;exact List.lt_trans h k
theorem wI(a b:By):Op.bytesLess a b=true∨a=b∨Op.bytesLess b a=true:=by
 simp only[yT,decide_eq_true_eq];rcases Classical.em (a<b)with h|h
 ·exact .inl h
 ·rcases Classical.em (b<a)with h' |h'
  ·exact .inr (.inr h')
  ·exact .inr (.inl (List.le_antisymm (List.not_lt.1 h') (List.not_lt.1 h)))
theorem tC{a b:By}(h:Op.bytesLess a b=true):Op.bytesLess b a=false:=by
 cases k:Op.bytesLess b a with
 |false=>rfl
 |true=>have:=Dp h k;rw[AY]at this;exact this.symm
theorem not_le(a b:By):(!(Op.bytesLess a b||a==b))=Op.bytesLess b a:=by
 rcases wI a b with h|h|h
 ·rw[h,tC h];rfl
 ·subst h;simp[AY]
 ·rw[tC h,h];have:(a==b)=false:=by
   cases k:a==b with
   |false=>rfl
   |true=>rw[eq_of_beq k,AY]at h;cases h
  rw[this];rfl
theorem qa3(a b:By):(Op.bytesLess a b||a==b)= !Op.bytesLess b a:=by rw[←not_le a b,Bool.not_not]
@[simp] theorem Vu(a b:Nat):Nat.ble a b=decide (a≤b):=by
 by_cases h:a≤b
 ·rw[decide_eq_true h];exact ou h
 ·rw[decide_eq_false h];cases hb:Nat.ble a b with
  |false=>rfl
  |true=>exact absurd (gb hb) h
@[simp] theorem qgr(a b:Nat):Nat.blt a b=decide (a<b):=by unfold Nat.blt;rw[Vu];rfl
@[simp] theorem Iz(a b:Nat):Nat.beq a b=decide (a=b):=by
 by_cases h:a=b
 ·subst h;simp
 ·rw[decide_eq_false h];cases hb:Nat.beq a b with
  |false=>rfl
  |true=>exact absurd (bR hb) h
section
variable(op:BinOp)(ek:gU)
@[simp] theorem qdU(x y:List UInt8):iR op ek (.str x) (.str y)=Md (kK op x y):=rfl
@[simp] theorem qdT(k:IntKind)(x y:Int):iR op ek (.int k x) (.int k y)=Md (jG op ek (.int k x) (.int k y)):=rfl
end
@[simp] theorem qf3(b:Bool):Md (some (.bool b))=some (.bool b):=rfl
@[simp] theorem qg7(k:IntKind)(n:Int):Md (some (.int k n))=some (.int k n):=rfl
@[simp] theorem qg8(s:List UInt8):Md (some (.str s))=some (.str s):=rfl
@[simp] theorem qbJ(a b:List UInt8):kK .add a b=bif Nat.ble (a.length+b.length) aZ then some (.str (a++b))else none:=rfl
@[simp] theorem qbK(a b:List UInt8):kK .eql a b=some (.bool (a==b)):=rfl
@[simp] theorem qbP(a b:List UInt8):kK .neq a b=some (.bool (!(a==b))):=rfl
@[simp] theorem qbO(a b:List UInt8):kK .lss a b=some (.bool (Op.bytesLess a b)):=rfl
@[simp] theorem qbN(a b:List UInt8):kK .leq a b=some (.bool (!Op.bytesLess b a)):=by rw[←qa3];rfl
@[simp] theorem qbM(a b:List UInt8):kK .gtr a b=some (.bool (Op.bytesLess b a)):=by rw[←not_le];rfl
@[simp] theorem qbL(a b:List UInt8):kK .geq a b=some (.bool (!Op.bytesLess a b)):=rfl
@[simp] theorem qd0(ek:gU)(k:IntKind)(x y:Int):jG .lss ek (.int k x) (.int k y)=some (.bool (decide (x<y))):=by simp[jG,jL]
@[simp] theorem qdZ(ek:gU)(k:IntKind)(x y:Int):jG .leq ek (.int k x) (.int k y)=some (.bool (decide (x≤y))):=by simp[jG,jL]
@[simp] theorem qdY(ek:gU)(k:IntKind)(x y:Int):jG .gtr ek (.int k x) (.int k y)=some (.bool (decide (x>y))):=by simp[jG,jL]
@[simp] theorem qdX(ek:gU)(k:IntKind)(x y:Int):jG .geq ek (.int k x) (.int k y)=some (.bool (decide (x≥y))):=by simp[jG,jL]
@[simp] theorem qdW(ek:gU)(k:IntKind)(x y:Int):jG .eql ek (.int k x) (.int k y)=some (.bool (x==y)):=by simp[jG,jL]
@[simp] theorem qd2(ek:gU)(k:IntKind)(x y:Int):jG .neq ek (.int k x) (.int k y)=some (.bool (x !=y)):=by simp[jG,jL]
@[simp] theorem qdV(ek:gU)(k:IntKind)(x y:Int):jG .add ek (.int k x) (.int k y)=some (.int k (aI k (x+y))):=by simp[jG,jL]
@[simp] theorem qd3(ek:gU)(k:IntKind)(x y:Int):jG .sub ek (.int k x) (.int k y)=some (.int k (aI k (x - y))):=by simp[jG,jL]
@[simp] theorem qg6(b:Bool):unU .not (.bool b)=some (.bool (!b)):=rfl
@[simp] theorem Wc{i o:Nat}{g:Tg}{v:U}{a c:List U}:iR .eql .bA (.ptr i o) .bA=some (.bool false):=rfl
@[simp] theorem VC{i o:Nat}{g:Tg}{v:U}{a c:List U}:iR .eql .bA (.eu c o) .bA=some (.bool false):=rfl
@[simp] theorem VJ{i o:Nat}{g:Tg}{v:U}{a c:List U}:iR .eql .bA (.bD g i o) .bA=some (.bool false):=rfl
@[simp] theorem VI{i o:Nat}{g:Tg}{v:U}{a c:List U}:iR .eql .bA .bA .bA=some (.bool true):=rfl
@[simp] theorem Wb{i o:Nat}{g:Tg}{v:U}{a c:List U}:iR .eql .bO (.map i) .bO=some (.bool false):=rfl
@[simp] theorem VH{i o:Nat}{g:Tg}{v:U}{a c:List U}:iR .eql .bO .bO .bO=some (.bool true):=rfl
@[simp] theorem VD{i o:Nat}{g:Tg}{v:U}{a c:List U}:iR .eql .dy (.func i a c) .dy=some (.bool false):=rfl
@[simp] theorem VE{i o:Nat}{g:Tg}{v:U}{a c:List U}:iR .eql .dy .dy .dy=some (.bool true):=rfl
@[simp] theorem OV{i o:Nat}{g:Tg}{v:U}{a c:List U}:iR .eql (.iface false) (.iface i v) .cU=some (.bool false):=rfl
@[simp] theorem VG{i o:Nat}{g:Tg}{v:U}{a c:List U}:iR .eql (.iface false) .cU .cU=some (.bool true):=rfl
@[simp] theorem Wa{i o:Nat}{g:Tg}{v:U}{a c:List U}:iR .eql (.iface true) (.iface i v) .cU=some (.bool false):=rfl
@[simp] theorem Wf{i o:Nat}{g:Tg}{v:U}{a c:List U}:iR .neq .bA (.ptr i o) .bA=some (.bool true):=rfl
@[simp] theorem VL{i o:Nat}{g:Tg}{v:U}{a c:List U}:iR .neq .bA (.eu c o) .bA=some (.bool true):=rfl
@[simp] theorem VR{i o:Nat}{g:Tg}{v:U}{a c:List U}:iR .neq .bA (.bD g i o) .bA=some (.bool true):=rfl
@[simp] theorem VQ{i o:Nat}{g:Tg}{v:U}{a c:List U}:iR .neq .bA .bA .bA=some (.bool false):=rfl
@[simp] theorem We{i o:Nat}{g:Tg}{v:U}{a c:List U}:iR .neq .bO (.map i) .bO=some (.bool true):=rfl
@[simp] theorem VP{i o:Nat}{g:Tg}{v:U}{a c:List U}:iR .neq .bO .bO .bO=some (.bool false):=rfl
@[simp] theorem VM{i o:Nat}{g:Tg}{v:U}{a c:List U}:iR .neq .dy (.func i a c) .dy=some (.bool true):=rfl
@[simp] theorem VN{i o:Nat}{g:Tg}{v:U}{a c:List U}:iR .neq .dy .dy .dy=some (.bool false):=rfl
@[simp] theorem OW{i o:Nat}{g:Tg}{v:U}{a c:List U}:iR .neq (.iface false) (.iface i v) .cU=some (.bool true):=rfl
@[simp] theorem VO{i o:Nat}{g:Tg}{v:U}{a c:List U}:iR .neq (.iface false) .cU .cU=some (.bool false):=rfl
@[simp] theorem Wd{i o:Nat}{g:Tg}{v:U}{a c:List U}:iR .neq (.iface true) (.iface i v) .cU=some (.bool true):=rfl
@[simp] theorem VB(x y:Bool):iR .eql .bool (.bool x) (.bool y)=some (.bool (x==y)):=rfl
@[simp] theorem VK(x y:Bool):iR .neq .bool (.bool x) (.bool y)=some (.bool (!(x==y))):=rfl
@[simp] theorem qa7(cs:List U)(off:Nat):iK none cs off=(cs[off]?).bind fun v=>bif v.uw then some v else none:=by
 simp only[iK];cases cs[off]? <;>rfl
@[simp] theorem qa8(n:Nat)(cs:List U)(off:Nat):iK (some n) cs off=bif Nat.ble (off+n) cs.length&&((cs.drop off).take n).all U.uw then some (.agg ((cs.drop off).take n))else none:=rfl
def PU(i off:Nat):U→Option U
 | .bE w xs=>some (.own (.c i off) w xs)
 |v=>bif v.uw then some v else none
attribute [simp] PU
@[simp] theorem qa5(i:Nat)(cs:List U)(off:Nat):lU i none cs off=(cs[off]?).bind (PU i off):=by
 simp only[lU];cases h:cs[off]? with
 |none=>simp[iK,h]
 |some v=>cases v<;>simp[iK,h,PU]
@[simp] theorem qa6(i n:Nat)(cs:List U)(off:Nat):lU i (some n) cs off=iK (some n) cs off:=rfl
def XW(t:Nat)(ts:List Nat)(e:Env):Option U→Env
 |some (.own (.t g) w xs)=>(t,.own (.t t) w xs)::di ts (Env.kill (.t g) e)
 |some (.own .r w xs)=>(t,.own (.t t) w xs)::di ts (Env.kill .r e)
 |some (.bD (.t _) _ _)=>(t,.bad)::di ts e
 |some (.bD .r _ _)=>(t,.bad)::di ts e
 |some (.view (.t _) _ _ _)=>(t,.bad)::di ts e
 |some (.view .r _ _ _)=>(t,.bad)::di ts e
 |some v=>(t,v)::di ts e
 |none=>di ts e
attribute [simp] XW
@[simp] theorem qc7(e:Env):di [] e=[]:=rfl
@[simp] theorem qaY(t:Nat)(ts:List Nat)(e:Env):di (t::ts) e=XW t ts e (look e t):=by
 simp only[di];cases look e t with
 |none=>rfl
 |some v=>
  cases v with
  |own g w xs=>cases g<;>rfl
  |bD g i f=>cases g<;>rfl
  |view g i f l=>cases g<;>rfl
  |_=>rfl
attribute [simp] Hv
theorem gh{fl:Nat}{h l:List Uo}(hf:fl≤h.length):cut h.length fl (h++l)=h:=by
 unfold cut;rw[Nat.max_eq_left hf];simp
theorem aR{fl:Nat}{h:List Uo}(hf:fl≤h.length):cut h.length fl h=h:=by
 unfold cut;rw[Nat.max_eq_left hf];simp
@[simp] theorem qgz(n fl:Nat):cut n fl []=[]:=by simp[cut]
@[simp] theorem qej(h:List Uo):cut 0 0 h=[]:=by simp[cut]
@[simp] theorem qgA(a:Uo)(r:List Uo):cut 1 0 (a::r)=[a]:=by simp[cut]
@[simp] theorem qgB(a b:Uo)(r:List Uo):cut 2 0 (a::b::r)=[a,b]:=by simp[cut]
@[simp] theorem qei(a b c d:Uo)(r:List Uo):cut 4 0 (a::b::c::d::r)=[a,b,c,d]:=by simp[cut]
@[simp] theorem qfA(s:Vs)(w:Nat)(g:Tg)(xs:List (List U)):yJ s w false (.own g w xs)=some xs:=by simp[yJ,rowsOf]
@[simp] theorem qgZ(s:Vs)(w:Nat)(xs:List (List U)):yJ s w false (.sl w xs)=some xs:=by simp[yJ,rowsOf]
@[simp] theorem qgv(d:Nat)(s:Vs)(w bytes:Nat)(ys:List (List U))(g:Tg)(xs:List (List U)):apV d s w bytes ys (.own g w xs)=bif !(decide (g=.a))&&Nat.ble ((xs.length+ys.length)*bytes) aZ&&Nat.ble (xs.length+ys.length) aZ&&ys.all (fun r=>r.all U.aJ&&U.bW 0 r&&Nat.beq r.length w)then
      some (.own (.t d) w (xs++ys),(s.kill g).kill (.t d))else none:=by simp[apV]
@[simp] theorem qhq(d:Nat)(s:Vs)(w bytes:Nat)(ys:List (List U)):apV d s w bytes ys (.nl w)=bif Nat.ble (ys.length*bytes) aZ&&Nat.ble ys.length aZ&&ys.all (fun r=>r.all U.aJ&&U.bW 0 r&&Nat.beq r.length w)then
      some (.own (.t d) w ys,(s.kill .r).kill (.t d))else none:=by simp[apV]
@[simp] theorem qhC(s:Vs)(g:Tg)(w:Nat)(xs:List (List U)):CI s 1 (.own g w xs)=some (.int .i64 xs.length,s):=rfl
def PK(n:Nat)(fl:Nat)(h:List Uo)(e:Env):Bool→Vs
 |true=>⟨e,cut n fl h,fl⟩
 |false=>⟨e,h,fl⟩
@[simp] theorem qaZ(n fl:Nat)(h:List Uo)(e:Env):PK n fl h e true=⟨e,cut n fl h,fl⟩:=rfl
@[simp] theorem XV(n fl:Nat)(h:List Uo)(e:Env):PK n fl h e false=⟨e,h,fl⟩:=rfl
@[simp] theorem qgK(L:List Nat)(n:Nat)(e:Env)(h:List Uo)(fl:Nat):keep L n ⟨e,h,fl⟩=PK n fl h (di L e) (Hv n (di L e)):=by
 simp only[keep];cases Hv n (di L e)<;>rfl
attribute [simp] U.jD sW
def qbt(s:Vs)(i off:Nat)(n:Option Nat):Uo→Option U
 | .row cs=>lU i n cs off
 |_=>none
@[simp] theorem qfe(s:Vs)(i off:Nat)(n:Option Nat)(cs:List U):qbt s i off n (.row cs)=lU i n cs off:=rfl
def qbu(s:Vs)(n:Option Nat):U→Option U
 | .ptr i off=>(s.h[i]?).bind (qbt s i off n)
 |_=>none
@[simp] theorem qff(s:Vs)(n:Option Nat)(i off:Nat):qbu s n (.ptr i off)=(s.h[i]?).bind (qbt s i off n):=rfl
@[simp] theorem qhR(s:Vs)(n:Nat):HP s (.t n)=look s.e n:=rfl
@[simp] theorem qdv(s:Vs)(a:Nat)(n:Option Nat):HP s (.cell a n)=(look s.e a).bind (qbu s n):=by
 simp only[HP];cases look s.e a with
 |none=>rfl
 |some v=>
  cases v with
  |ptr i off=>
   simp only[Option.bind,qbu];cases s.h[i]? with
   |none=>rfl
   |some o=>cases o<;>rfl
  |_=>rfl
@[simp] theorem qdw(s:Vs):qj s []=some []:=rfl
@[simp] theorem qbw(s:Vs)(r:tX)(rs:List tX):qj s (r::rs)=Ao (HP s r) (qj s rs):=by
 simp only[qj];cases HP s r<;>simp only[Ao];cases qj s rs<;>simp only[Ao]
def Pk(n:Nat)(s:Vs):Option U→Option (U×List Uo×Nat)
 |some r=>some (r,bif r.low n then cut n s.fl s.h else s.h,s.fl)
 |none=>none
@[simp] theorem qaL(n:Nat)(s:Vs)(r:U):Pk n s (some r)=some (r,bif r.low n then cut n s.fl s.h else s.h,s.fl):=rfl
def GU(n:Nat)(own:Bool)(s:Vs):Option (List U)→Option (U×List Uo×Nat)
 |some us=>some (.aX us,bif U.bW n us then cut n s.fl s.h else bif own then s.h else Gx n s.h,s.fl)
 |none=>none
@[simp] theorem qaM(n:Nat)(own:Bool)(s:Vs)(us:List U):GU n own s (some us)=some (.aX us,bif U.bW n us then cut n s.fl s.h else bif own then s.h else Gx n s.h,s.fl):=rfl
def Jb(n:Nat)(own:Bool)(s:Vs):Option (List U)→Option (U×List Uo×Nat)
 |some [v]=>Pk n s (v.jD own)
 |some vs=>GU n own s (sW false vs)
 |none=>none
@[simp] theorem qet(n:Nat)(own:Bool)(s:Vs):Jb n own s (some [])=GU n own s (sW false []):=rfl
@[simp] theorem qeu(n:Nat)(own:Bool)(s:Vs)(v:U):Jb n own s (some [v])=Pk n s (v.jD own):=rfl
@[simp] theorem qev(n:Nat)(own:Bool)(s:Vs)(v w:U)(r:List U):Jb n own s (some (v::w::r))=GU n own s (sW false (v::w::r)):=rfl
@[simp] theorem qgD(n:Nat)(fn:az)(s:Vs):CF n fn s=Jb n fn.own s (qj s fn.results):=by
 unfold CF;cases qj s fn.results with
 |none=>rfl
 |some vs=>
  cases vs with
  |nil=>simp[Jb,GU]
  |cons v r=>
   cases r with
   |nil=>simp only[Jb];cases v.jD fn.own<;>rfl
   |cons w r=>simp only[Jb];cases sW false (v::w::r)<;>rfl
section
variable{VF:Nat→Option az}{M:oV}{Q:mE}{Pm:XH}{fn:az}{s:Vs}{K:Ex→Vs→Prop}
@[simp] theorem Ya{b:aj}:gy VF M Q Pm fn b K .normal s=gC VF M Q Pm fn b s K:=rfl
@[simp] theorem qdC{b:aj}{i:Nat}:gy VF M Q Pm fn b K (.exit i) s=K (.exit i) s:=rfl
@[simp] theorem qfq{b:aj}:gy VF M Q Pm fn b K .ret s=K .ret s:=rfl
attribute [simp] qaR
@[simp] theorem qds:iy K (some s)=K .normal s:=rfl
@[simp] theorem qdr:iy K none=False:=rfl
attribute [simp] NM
@[simp] theorem qfd{F:FU}:jT M Q F s K []=K .normal s:=rfl
@[simp] theorem qhQ{F:FU}{d:Option Nat}{o:fR}{g:Option (Nat×Bool)}{p:Nat}{r:List aF}:jT M Q F s K (⟨d,(.s o),g,p⟩::r)=iy K (gx M Q F (⟨d,(.s o),g,p⟩::r) s):=rfl
@[simp] theorem qhP{F:FU}{d:Option Nat}{o:Gv}{g:Option (Nat×Bool)}{p:Nat}{r:List aF}:jT M Q F s K (⟨d,(.m o),g,p⟩::r)=iy K (gx M Q F (⟨d,(.m o),g,p⟩::r) s):=rfl
@[simp] theorem qhO{F:FU}{d:Option Nat}{o:xV}{g:Option (Nat×Bool)}{p:Nat}{r:List aF}:jT M Q F s K (⟨d,(.h o),g,p⟩::r)=iy K (gx M Q F (⟨d,(.h o),g,p⟩::r) s):=rfl
@[simp] theorem qdt{F:FU}{d:Option Nat}{f:bH}{a:List bH}{g:Option (Nat×Bool)}{p:Nat}{r:List aF}:jT M Q F s K (⟨d,.call f a,g,p⟩::r)=iy K (gx M Q F (⟨d,.call f a,g,p⟩::r) s):=rfl
@[simp] theorem X7{F:FU}{d:Option Nat}{n:String}{x:bH}{a:List bH}{g:Option (Nat×Bool)}{p:Nat}{r:List aF}:jT M Q F s K (⟨d,.invoke n x a,g,p⟩::r)=iy K (gx M Q F (⟨d,.invoke n x a,g,p⟩::r) s):=rfl
@[simp] theorem qdu{F:FU}{d:Option Nat}{x:bH}{p:Nat}{r:List aF}:jT M Q F s K (⟨d,.next x,none,p⟩::r)=iu s d x (fun t=>iy K (gx M Q F r t)):=rfl
theorem au{ops:List aF}{l:List Step}(h:sched (ops.length+1) (bt ops 0) 0=some l):gC VF M Q Pm fn (.draw ops) s K=iy K (bU M Q (gF VF M Q Pm) l s []):=by rw[WE,h];rfl
@[simp] theorem qay{a b:aj}{t:Bool}:O9 VF M Q Pm fn a b s K (some (.bool t))=if t=true then gC VF M Q Pm fn a s K else gC VF M Q Pm fn b s K:=by cases t<;>rfl
attribute [simp] WD WG
@[simp] theorem qc3{id n:Nat}:kB fn id n K .normal s=K .normal (keep (fn.tail id) n s):=rfl
@[simp] theorem qhw{id n:Nat}:kB fn id n K .ret s=K .ret s:=rfl
@[simp] theorem WO{id n i:Nat}:kB fn id n K (.exit i) s=if i=id then K .normal (keep (fn.tail id) n s)else K (.exit i) s:=by
 simp only[kB];by_cases h:i=id
 ·subst h;simp
 ·rw[if_neg h];have:Nat.beq i id=false:=by
   cases hb:Nat.beq i id with
   |false=>rfl
   |true=>exact absurd (bR hb) h
  rw[this];rfl
@[simp] theorem X9{id k:Nat}{b:aj}:Xb VF M Q Pm fn id b k K .normal s=gL VF M Q Pm fn id b k (keep (fn.head id) k s) K:=rfl
@[simp] theorem qfh{id k:Nat}{b:aj}:Xb VF M Q Pm fn id b k K .ret s=K .ret s:=rfl
@[simp] theorem qdy{id k i:Nat}{b:aj}:Xb VF M Q Pm fn id b k K (.exit i) s=if i=id then K .normal (keep (fn.tail id) k s)else K (.exit i) s:=WO
@[simp] theorem WC{id:Nat}{a b:aj}:gC VF M Q Pm fn (.block id (.seq a b)) s K=gC VF M Q Pm fn (.seq a b) s (kB fn id s.h.length K):=AG rfl
@[simp] theorem VT{id:Nat}{l:List aF}:gC VF M Q Pm fn (.block id (.draw l)) s K=gC VF M Q Pm fn (.draw l) s (kB fn id s.h.length K):=AG rfl
@[simp] theorem Pv{id:Nat}{i:Nat}{a:aj}:gC VF M Q Pm fn (.block id (.block i a)) s K=gC VF M Q Pm fn (.block i a) s (kB fn id s.h.length K):=AG rfl
@[simp] theorem qhx{k:Nat}{R:U×List Uo×Nat}:kE k fn R .ret s=(CF k fn s=some R):=rfl
@[simp] theorem qc4{k:Nat}{R:U×List Uo×Nat}:kE k fn R .normal s=(CF k fn s=some R):=rfl
end
section
variable{M:oV}{Q:mE}{F:FU}
def smS(M:oV)(Q:mE)(F:FU)(r:List Step)(dst:Option Nat)(ah:List (Nat×Rk))(i:Nat)(op:fR)(s0:Vs):Option (U×Vs)→Option Vs
 |some (v,t)=>bU M Q F r ⟨iT dst v t.e,t.h,t.fl⟩ (bif op.impure then(i,sX s0 op v)::ah else ah)
 |none=>none
@[simp] theorem qfx(r:List Step)(dst:Option Nat)(ah:List (Nat×Rk))(i:Nat)(op:fR)(s0:Vs)(v:U)(t:Vs):smS M Q F r dst ah i op s0 (some (v,t))=bU M Q F r ⟨iT dst v t.e,t.h,t.fl⟩ (bif op.impure then(i,sX s0 op v)::ah else ah):=rfl
def smM(M:oV)(Q:mE)(F:FU)(r:List Step)(dst:Option Nat)(ah:List (Nat×Rk)):Option (U×Vs)→Option Vs
 |some (v,t)=>bU M Q F r ⟨iT dst v t.e,t.h,t.fl⟩ ah
 |none=>none
@[simp] theorem qfw(r:List Step)(dst:Option Nat)(ah:List (Nat×Rk))(v:U)(t:Vs):smM M Q F r dst ah (some (v,t))=bU M Q F r ⟨iT dst v t.e,t.h,t.fl⟩ ah:=rfl
def bgF(M:oV)(Q:mE)(F:FU)(r:List Step)(dst:Option Nat)(ah:List (Nat×Rk))(p:Nat)(v:U)(t:Vs):Bool→Option Vs
 |true=>bU M Q F r ⟨iT dst v t.e,t.h,t.fl⟩ (fT p ah)
 |false=>none
@[simp] theorem qdQ(r:List Step)(dst:Option Nat)(ah:List (Nat×Rk))(p:Nat)(v:U)(t:Vs):bgF M Q F r dst ah p v t true=bU M Q F r ⟨iT dst v t.e,t.h,t.fl⟩ (fT p ah):=rfl
def bgT(M:oV)(Q:mE)(F:FU)(r:List Step)(dst:Option Nat)(ah:List (Nat×Rk))(p:Nat)(s:Vs)(op:jF)(v:U)(t:Vs):Bool→Option Vs
 |true=>bU M Q F r ⟨iT dst v t.e,t.h,t.fl⟩ (fT p ah)
 |false=>bgF M Q F r dst ah p v t (gI M Q F s t op p ah)
@[simp] theorem qdS(r:List Step)(dst:Option Nat)(ah:List (Nat×Rk))(p:Nat)(s:Vs)(op:jF)(v:U)(t:Vs):bgT M Q F r dst ah p s op v t true=bU M Q F r ⟨iT dst v t.e,t.h,t.fl⟩ (fT p ah):=rfl
@[simp] theorem qcH(r:List Step)(dst:Option Nat)(ah:List (Nat×Rk))(p:Nat)(s:Vs)(op:jF)(v:U)(t:Vs):bgT M Q F r dst ah p s op v t false=bgF M Q F r dst ah p v t (gI M Q F s t op p ah):=rfl
def bgS(M:oV)(Q:mE)(F:FU)(r:List Step)(dst:Option Nat)(ah:List (Nat×Rk))(p:Nat)(s:Vs)(op:jF)(quiet:Bool):Option (U×Vs)→Option Vs
 |some (v,t)=>bgT M Q F r dst ah p s op v t (quiet||oI t p ah)
 |none=>none
@[simp] theorem qdR(r:List Step)(dst:Option Nat)(ah:List (Nat×Rk))(p:Nat)(s:Vs)(op:jF)(quiet:Bool)(v:U)(t:Vs):bgS M Q F r dst ah p s op quiet (some (v,t))=bgT M Q F r dst ah p s op v t (quiet||oI t p ah):=rfl
def Ye(M:oV)(Q:mE)(F:FU)(aZ:Bool)(i:Nat)(dst:Option Nat)(op:jF)(p:Nat)(r:List Step)(s:Vs)(ah:List (Nat×Rk)):Option Bool→Option Vs
 |some true=>(match aZ,op with
  |true,op=>bgS M Q F r dst ah p s op (fA Q s op) (kD M Q F s dst op)
  |false,.s o=>smS M Q F r dst ah i o s (kD M Q F s dst (.s o))
  |false,.m o=>smM M Q F r dst ah (kD M Q F s dst (.m o))
  |_,_=>none)
 |some false=>bU M Q F r ⟨iT dst (.aX []) s.e,s.h,s.fl⟩ ah
 |none=>none
section
variable(i:Nat)(dst:Option Nat)(p:Nat)(r:List Step)(s:Vs)(ah:List (Nat×Rk))
@[simp] theorem qg0(op:jF):Ye M Q F true i dst op p r s ah (some true)=bgS M Q F r dst ah p s op (fA Q s op) (kD M Q F s dst op):=rfl
@[simp] theorem qiX(o:fR):Ye M Q F false i dst (.s o) p r s ah (some true)=smS M Q F r dst ah i o s (kD M Q F s dst (.s o)):=rfl
@[simp] theorem qiW(o:Gv):Ye M Q F false i dst (.m o) p r s ah (some true)=smM M Q F r dst ah (kD M Q F s dst (.m o)):=rfl
@[simp] theorem qdJ(b:Bool)(op:jF):Ye M Q F b i dst op p r s ah (some false)=bU M Q F r ⟨iT dst (.aX []) s.e,s.h,s.fl⟩ ah:=rfl
@[simp] theorem qbI:bU M Q F [] s ah=some s:=rfl
@[simp] theorem qbH(op:jF)(g:Option (Nat×Bool)):bU M Q F (.aZ i ⟨dst,op,g,p⟩::r) s ah=Ye M Q F true i dst op p r s ah (iq g s.e):=by
 simp only[bU];cases iq g s.e with
 |none=>rfl
 |some b=>
  cases b with
  |false=>rfl
  |true=>
   simp only[Ye];cases kD M Q F s dst op with
   |none=>rfl
   |some x=>
    obtain⟨v,t⟩:=x;simp only[bgS];generalize (fA Q s op||oI t p ah)=b;cases b with
    |true=>rfl
    |false=>
     simp only[Bool.false_or,bgT];cases gI M Q F s t op p ah<;>rfl
@[simp] theorem Xl(op:jF)(g:Option (Nat×Bool)):bU M Q F (.small i ⟨dst,op,g,p⟩::r) s ah=Ye M Q F false i dst op p r s ah (iq g s.e):=by
 simp only[bU];cases iq g s.e with
 |none=>rfl
 |some b=>
  cases b with
  |false=>rfl
  |true=>
   simp only[Ye];cases op with
   |s o=>simp only;cases kD M Q F s dst (.s o)<;>rfl
   |m o=>simp only;cases kD M Q F s dst (.m o)<;>rfl
   |h o=>simp only;cases kD M Q F s dst (.h o)<;>rfl
   |call f a=>simp only;cases kD M Q F s dst (.call f a)<;>rfl
   |invoke n x a=>simp only;cases kD M Q F s dst (.invoke n x a)<;>rfl
   |next x=>simp only;cases kD M Q F s dst (.next x)<;>rfl
   |bad=>simp only;cases kD M Q F s dst .bad<;>rfl
end
attribute [simp] fR.impure oI fT fA sX
def clR(cs:List (Nat×Nat)):Option (U×List Uo×Nat)→Bool
 |some R=>cs.all (lJ R.2.1)
 |none=>false
@[simp] theorem qee(cs:List (Nat×Nat))(r:U)(h:List Uo)(fl:Nat):clR cs (some (r,h,fl))=cs.all (lJ h):=rfl
def clH(F:FU)(f:Nat)(args:List U)(s:Vs)(hid:List Nat×List (Nat×Nat)):Option (List U)→Bool
 |some us=>clR hid.2 (F f us (dZ hid.2 (fS hid.1 (aH args s).h)) (aH args s).fl)
 |none=>false
@[simp] theorem qed(f:Nat)(args us:List U)(s:Vs)(hid:List Nat×List (Nat×Nat)):clH F f args s hid (some us)=clR hid.2 (F f us (dZ hid.2 (fS hid.1 (aH args s).h)) (aH args s).fl):=rfl
@[simp] theorem qea(f:Nat)(args:List U)(s:Vs)(hid:List Nat×List (Nat×Nat)):lR F f args s hid=clH F f args s hid (gM args):=by
 unfold lR;cases gM args with
 |none=>rfl
 |some us=>simp only[clH,clR];cases F f us (dZ hid.2 (fS hid.1 (aH args s).h)) (aH args s).fl<;>rfl
def frQ(b:Bool)(F:FU)(s:Vs)(hid:List Nat×List (Nat×Nat))(f:Nat)(args:List U):Option (List (List U)→List U→Option (List (List U)))→Option (List (List U)→List U→Option (List (List U)))→Bool
 |none,none=>b&&lR F f args s hid
 |_,_=>false
@[simp] theorem qeC(b:Bool)(s:Vs)(hid:List Nat×List (Nat×Nat))(f:Nat)(args:List U):frQ b F s hid f args none none=(b&&lR F f args s hid):=rfl
def frC(Q:mE)(F:FU)(s:Vs)(hid:List Nat×List (Nat×Nat)):Option U→Option (List U)→Bool
 |some (.func f a b),some vs=>frQ (Q.IN f).isNone F s hid f (a++vs++b) (Q.q f) (Q.app f)
 |_,_=>false
@[simp] theorem qey(s:Vs)(hid:List Nat×List (Nat×Nat))(f:Nat)(a b vs:List U):frC Q F s hid (some (.func f a b)) (some vs)=frQ (Q.IN f).isNone F s hid f (a++vs++b) (Q.q f) (Q.app f):=rfl
def frM(F:FU)(s:Vs)(hid:List Nat×List (Nat×Nat))(args:List U):Option Nat→Bool
 |some f=>lR F f args s hid
 |none=>false
@[simp] theorem qeB(s:Vs)(hid:List Nat×List (Nat×Nat))(f:Nat)(args:List U):frM F s hid args (some f)=lR F f args s hid:=rfl
def frI(M:oV)(F:FU)(s:Vs)(hid:List Nat×List (Nat×Nat))(name:String):Option U→Option (List U)→Bool
 |some (.iface t v),some vs=>frM F s hid (v::vs) (M t name)
 |_,_=>false
@[simp] theorem qeA(s:Vs)(hid:List Nat×List (Nat×Nat))(name:String)(t:Nat)(v:U)(vs:List U):frI M F s hid name (some (.iface t v)) (some vs)=frM F s hid (v::vs) (M t name):=rfl
def frH(M:oV)(Q:mE)(F:FU)(s:Vs)(op:jF):Option (List Nat×List (Nat×Nat))→Bool
 |some hid=>(match op with
  | .call f args=>frC Q F s hid (cq s.e f) (jC s.e args)
  | .invoke name x args=>frI M F s hid name (cq s.e x) (jC s.e args)
  |_=>false)
 |none=>false
@[simp] theorem qez(s:Vs)(f:bH)(args:List bH)(hid:List Nat×List (Nat×Nat)):frH M Q F s (.call f args) (some hid)=frC Q F s hid (cq s.e f) (jC s.e args):=rfl
@[simp] theorem qaQ(s:Vs)(name:String)(x:bH)(args:List bH)(hid:List Nat×List (Nat×Nat)):frH M Q F s (.invoke name x args) (some hid)=frI M F s hid name (cq s.e x) (jC s.e args):=rfl
@[simp] theorem qcY(s t:Vs)(op:jF)(p:Nat)(ah:List (Nat×Rk)):gI M Q F s t op p ah=frH M Q F s op (pG t p ah):=by
 unfold gI;cases pG t p ah with
 |none=>rfl
 |some hid=>
  cases op with
  |call f args=>
   simp only[frH];cases cq s.e f with
   |none=>rfl
   |some v=>
    cases v with
    |func g a b=>
     cases jC s.e args with
     |none=>rfl
     |some vs=>simp only[frC];cases Q.q g<;>cases Q.app g<;>rfl
    |_=>rfl
  |invoke name x args=>
   simp only[frH];cases cq s.e x with
   |none=>rfl
   |some v=>
    cases v with
    |iface t v=>
     cases jC s.e args with
     |none=>rfl
     |some vs=>simp only[frI];cases M t name<;>rfl
    |_=>rfl
  |_=>rfl
def qaS(j:Nat)(n:Option Nat)(off:Nat)(u:U):Option (List Nat×List (Nat×Nat))→Option (List Nat×List (Nat×Nat))
 |some l=>some (Jg j n off u l)
 |none=>none
@[simp] theorem qcZ(j:Nat)(n:Option Nat)(off:Nat)(u:U)(l:List Nat×List (Nat×Nat)):qaS j n off u (some l)=some (Jg j n off u l):=rfl
attribute [simp] Jg
def WH(s:Vs)(p:Nat)(rest:List (Nat×Rk))(r:Rk):Bool→Option (List Nat×List (Nat×Nat))
 |true=>pG s p rest
 |false=>(match r with
  | .ld j n off u=>qaS j n off u (pG s p rest)
  |_=>none)
@[simp] theorem qc1(s:Vs)(p:Nat)(rest:List (Nat×Rk))(r:Rk):WH s p rest r true=pG s p rest:=rfl
@[simp] theorem qgJ(s:Vs)(p:Nat)(rest:List (Nat×Rk))(j:Nat)(n:Option Nat)(off:Nat)(u:U):WH s p rest (.ld j n off u) false=qaS j n off u (pG s p rest):=rfl
@[simp] theorem qeH(s:Vs)(p:Nat):pG s p []=some ([],[]):=rfl
@[simp] theorem qc0(s:Vs)(p i:Nat)(r:Rk)(rest:List (Nat×Rk)):pG s p ((i,r)::rest)=WH s p rest r (Nat.testBit p i||r.holds s):=by
 simp only[pG];generalize (Nat.testBit p i||r.holds s)=b;cases b with
 |true=>rfl
 |false=>
  cases r with
  |ld j n off u=>simp only[cond_false,WH];cases pG s p rest<;>rfl
  |_=>rfl
@[simp] theorem XU(h:List Uo):fS [] h=h:=rfl
@[simp] theorem WI(j:Nat)(l:List Nat)(h:List Uo):fS (j::l) h=fS l (h.set j .gone):=rfl
def PB(u:U):Option U→Bool
 |some u' =>U.same u u'
 |none=>false
@[simp] theorem qaU(u u' :U):PB u (some u')=U.same u u' :=rfl
def PA(i:Nat)(n:Option Nat)(off:Nat)(u:U):Option Uo→Bool
 |some (.row cs)=>PB u (lU i n cs off)
 |_=>false
@[simp] theorem qc2(i:Nat)(n:Option Nat)(off:Nat)(u:U)(cs:List U):PA i n off u (some (.row cs))=PB u (lU i n cs off):=rfl
@[simp] theorem qeL(s:Vs):Rk.holds s .ok=true:=rfl
@[simp] theorem qeK(s:Vs):Rk.holds s .no=false:=rfl
@[simp] theorem qeJ(s:Vs)(i:Nat)(n:Option Nat)(off:Nat)(u:U):Rk.holds s (.ld i n off u)=PA i n off u s.h[i]? :=by
 simp only[Rk.holds];cases s.h[i]? with
 |none=>rfl
 |some o=>
  cases o with
  |row cs=>simp only[PA];cases lU i n cs off<;>rfl
  |_=>rfl
@[simp] theorem qdA(a b:Bool):U.same (.bool a) (.bool b)=(a==b):=by simp only[U.same]
@[simp] theorem qfl(j k:IntKind)(a b:Int):U.same (.int j a) (.int k b)=(decide (j=k)&&decide (a=b)):=by simp only[U.same]
@[simp] theorem qfp(a b:List UInt8):U.same (.str a) (.str b)=(a==b):=by simp only[U.same]
@[simp] theorem qfo(i o j p:Nat):U.same (.ptr i o) (.ptr j p)=(decide (i=j)&&decide (o=p)):=by simp only[U.same,Iz]
@[simp] theorem qfm(i j:Nat):U.same (.map i) (.map j)=decide (i=j):=by simp only[U.same,Iz]
@[simp] theorem qgY(w:Nat)(xs:List (List U))(u:U):U.same (.sl w xs) u=false:=by cases u<;>simp[U.same]
@[simp] theorem qfn(g:Tg)(w:Nat)(xs:List (List U))(u:U):U.same (.own g w xs) u=false:=by cases u<;>simp[U.same]
@[simp] theorem qfk(a b:List U):U.same (.agg a) (.agg b)=U.lX a b:=by simp only[U.same]
@[simp] theorem qdB:U.lX [] []=true:=by simp only[U.lX]
@[simp] theorem qbB(a b:U)(x y:List U):U.lX (a::x) (b::y)=(U.same a b&&U.lX x y):=by simp only[U.lX]
end
end Go.RE
namespace Go.RE
theorem aT{h l:List Uo}{i:Nat}{o:Uo}(hi:h[i]? =some o):(h++l)[i]? =some o:=by
 rw[cw (bn.1 hi).1];exact hi
@[simp] theorem OG(h l:List Uo)(a:Uo):(h++a::l)[h.length]? =some a:=by simp
@[simp] theorem at1(h l:List Uo)(a b:Uo):(h++a::b::l)[h.length+1]? =some b:=by simp
@[simp] theorem Qr(h l:List Uo)(a x:Uo):(h++a::l).set h.length x=h++x::l:=by simp
@[simp] theorem Xh(h l:List Uo)(a b x:Uo):(h++a::b::l).set (h.length+1) x=h++a::x::l:=by
 rw[List.set_append_right _ _ (by omega),show h.length+1 - h.length=1 by omega];rfl
theorem th{fl:Nat}{h:List Uo}(hf:fl≤h.length)(l:List Uo):cut h.length fl (h++l)=h:=gh hf
theorem kV{fl:Nat}{h:List Uo}(hf:fl≤h.length)(a:Uo)(l:List Uo):cut (h.length+1) fl (h++a::l)=h++[a]:=by
 unfold cut;rw[Nat.max_eq_left (by omega),List.take_append,jU (by omega),show h.length+1 - h.length=1 by omega];rfl
theorem Aq{fl:Nat}{h:List Uo}(hf:fl≤h.length)(a b:Uo)(l:List Uo):cut (h.length+2) fl (h++a::b::l)=h++[a,b]:=by
 unfold cut;rw[Nat.max_eq_left (by omega),List.take_append,jU (by omega),show h.length+2 - h.length=2 by omega];rfl
@[simp] theorem qgI(h l:List Uo):Gx h.length (h++l)=h++((l.dropLast.map fun _=>Uo.gone)++l.getLast?.toList):=by simp[Gx]
@[simp] theorem qeF(h:List Uo):Gx 0 h=(h.dropLast.map fun _=>Uo.gone)++h.getLast?.toList:=by simp[Gx]
@[simp] theorem qa1(d:Nat)(r:U)(a:Uo)(as:List Uo)(fc:Nat)(e:Env)(h:List Uo)(fl:Nat):qF d r (a::as) fc ⟨e,h,fl⟩=dH d (r.shift h.length) ⟨e,h++(a::as).map (eH h.length),bif Nat.beq fc 0 then fl else h.length+fc⟩:=rfl
section
variable(k:Nat)
@[simp] theorem qdF(i o:Nat):U.shift k (.ptr i o)=.ptr (i+k) o:=by simp only[U.shift]
@[simp] theorem qdE(i:Nat):U.shift k (.map i)=.map (i+k):=by simp only[U.shift]
@[simp] theorem qbD(b:Bool):U.shift k (.bool b)=.bool b:=by simp only[U.shift]
@[simp] theorem qdD(j:IntKind)(n:Int):U.shift k (.int j n)=.int j n:=by simp only[U.shift]
@[simp] theorem qfr(w:Nat):U.shift k (.nl w)=.nl w:=by simp only[U.shift]
@[simp] theorem qdG(a:List U):U.shift k (.aX a)=.aX (U.fP k a):=by simp only[U.shift]
@[simp] theorem qbE:U.fP k []=[]:=by simp only[U.fP]
@[simp] theorem Yc(a:U)(r:List U):U.fP k (a::r)=a.shift k::U.fP k r:=by simp only[U.fP]
@[simp] theorem qbC(cs:List U):eH k (.row cs)=.row (U.fP k cs):=rfl
theorem jl(es:List (U×U×Nat))(c:Nat):eH k (.map es c)=.map (es.map fun e=>(e.1.shift k,e.2.1.shift k,e.2.2)) c:=rfl
end
end Go.RE
namespace Go.RE
@[simp] theorem W3(e:Env)(d m:Nat):bw e none d m=some d:=rfl
def onV(most:Nat):Option U→Option Nat
 |some v=>fK v most
 |none=>none
@[simp] theorem qe4(most:Nat)(v:U):onV most (some v)=fK v most:=rfl
@[simp] theorem W4(e:Env)(x:bH)(d m:Nat):bw e (some x) d m=onV m (cq e x):=by
 simp only[bw];cases cq e x<;>rfl
theorem oZ{k:IntKind}{n m:Nat}(h:n≤m):fK (.int k (n:Int)) m=some n:=by
 simp only[fK,asNat];have h1:(0:Int)≤(n:Int):=Int.natCast_nonneg n;simp[h]
def qah(s:Vs)(len:Nat):Option U→Option U→Option (U×Vs)
 |some (.agg cs),some (.int _ n)=>if 0≤n∧n<(len:Int)then gT s cs[n.toNat]? else none
 |_,_=>none
@[simp] theorem qcG(s:Vs)(len:Nat)(cs:List U)(k:IntKind)(n:Int):qah s len (some (.agg cs)) (some (.int k n))=if 0≤n∧n<(len:Int)then gT s cs[n.toNat]? else none:=rfl
@[simp] theorem qe8(d:Nat)(s:Vs)(len:Nat)(x i:bH):fQ d s (.CB len x i)=qah s len (cq s.e x) (cq s.e i):=by
 simp only[fQ];cases cq s.e x with
 |none=>rfl
 |some v=>
  cases cq s.e i with
  |none=>cases v<;>rfl
  |some w=>
   cases v with
   |agg cs=>
    cases w with
    |int k n=>simp only[qah];split<;>first|rfl|(cases cs[n.toNat]? <;>rfl)
    |_=>rfl
   |_=>rfl
def mxO(f:U→U→Option U)(s:Vs):Option (List U)→Option (U×Vs)
 |some (v::vs)=>gT s (mP f v vs)
 |_=>none
@[simp] theorem qe1(f:U→U→Option U)(s:Vs)(v:U)(vs:List U):mxO f s (some (v::vs))=gT s (mP f v vs):=rfl
@[simp] theorem qgU(d:Nat)(s:Vs)(xs:List bH):fQ d s (.max xs)=mxO (lN yj) s (jC s.e xs):=by
 simp only[fQ];cases jC s.e xs with
 |none=>rfl
 |some l=>
  cases l with
  |nil=>rfl
  |cons v vs=>simp only[mxO];cases mP (lN yj) v vs<;>rfl
@[simp] theorem qgV(d:Nat)(s:Vs)(xs:List bH):fQ d s (.min xs)=mxO (lN A0) s (jC s.e xs):=by
 simp only[fQ];cases jC s.e xs with
 |none=>rfl
 |some l=>
  cases l with
  |nil=>rfl
  |cons v vs=>simp only[mxO];cases mP (lN A0) v vs<;>rfl
def fdO(f:U→U→Option U)(r:List U):Option U→Option U
 |some c=>mP f c r
 |none=>none
@[simp] theorem qes(f:U→U→Option U)(r:List U)(c:U):fdO f r (some c)=mP f c r:=rfl
@[simp] theorem qcX(f:U→U→Option U)(a:U):mP f a []=some a:=rfl
@[simp] theorem qaP(f:U→U→Option U)(a b:U)(r:List U):mP f a (b::r)=fdO f r (f a b):=by
 simp only[mP];cases f a b<;>rfl
section
variable{M:oV}{Q:mE}{F:FU}
end
@[simp] theorem qeM(s:Vs)(w w' :Nat)(g:Tg)(xs:List (List U))(k:IntKind)(n:Int):qf s w (some (.own g w' xs)) (some (.int k n))=if 0≤n∧n<(xs.length:Int)then(bif Nat.beq w' w then some (.bD g n.toNat 0,s)else none)else none:=rfl
@[simp] theorem qg4(k:IntKind)(n:Int):(V.int k n).EL=some (.int k n):=rfl
@[simp] theorem qf0(b:Bool):(V.bool b).EL=some (.bool b):=rfl
@[simp] theorem qg5(b:List UInt8):(V.str b).EL=some (.str b):=rfl
@[simp] theorem qf2:V.bA.EL=some .bA:=rfl
@[simp] theorem qf1:V.cU.EL=some .cU:=rfl
@[simp] theorem qg3(w:Nat):(V.ag [] 0 0 w).EL=some (.sl w []):=rfl
@[simp] theorem XO(a b:List U):rO [] a b=some true:=rfl
@[simp] theorem W7(a b:List UInt8):fI .str (.str a) (.str b)=some (a==b):=rfl
@[simp] theorem V2(a b:Bool):fI .bool (.bool a) (.bool b)=some (a==b):=rfl
def tbV(d:Nat)(s:Vs):U→Option (U×Vs)
 | .str b=>bif Nat.ble b.length aZ then some (.sl 1 (bQ b),s)else none
 |_=>none
@[simp] theorem qg2(d:Nat)(s:Vs)(b:List UInt8):tbV d s (.str b)=bif Nat.ble b.length aZ then some (.sl 1 (bQ b),s)else none:=rfl
@[simp] theorem X3(d:Nat)(s:Vs)(x:bH):yl d s (.l9 x)=(cq s.e x).bind (tbV d s):=by
 simp only[yl];cases cq s.e x with
 |none=>rfl
 |some v=>cases v<;>rfl
end Go.RE
namespace Go.RE
def JE:List aF→Bool
 |[]=>true
 |⟨_,.next _,_,_⟩::_=>false
 |_::r=>JE r
def aj.Ow:aj→Bool
 | .region ops=>JE ops
 | .seq a b=>a.Ow&&b.Ow
 | .cond _ a b=>a.Ow&&b.Ow
 | .block _ b=>b.Ow
 | .loop b=>b.Ow
 |_=>true
section
variable{VF:Nat→Option az}{M:oV}{Q:mE}{Pm:XH}
theorem HL{K:Ex→Vs→Prop}{o:Option Vs}(h:iy K o):∃ ex t,K ex t∧∀ K' :Ex→Vs→Prop,K' ex t→iy K' o:=by
 cases o with
 |none=>exact h.elim
 |some u=>exact⟨_,_,h,fun _ h=>h⟩
theorem Jo{fn:az}{id n:Nat}{K:Ex→Vs→Prop}{ex:Ex}{t:Vs}(h:kB fn id n K ex t):∃ ex' t',K ex' t'∧∀ K' :Ex→Vs→Prop,K' ex' t'→kB fn id n K' ex t:=by
 cases ex with
 |normal=>exact⟨_,_,h,fun _ h=>h⟩
 |ret=>exact⟨_,_,h,fun _ h=>h⟩
 |exit i=>
  simp only[kB]at h⊢;cases hb:Nat.beq i id with
  |true=>rw[hb]at h;exact⟨_,_,h,fun _ h=>h⟩
  |false=>rw[hb]at h;exact⟨_,_,h,fun _ h=>h⟩
theorem qgq:∀ n,(∀ {fn:az} {c:aj} {s:Vs} {K:Ex→Vs→Prop},c.Ow=true→vC VF M Q Pm n fn c s K→∃ ex t,K ex t∧∀ K' :Ex→Vs→Prop,K' ex t→vC VF M Q Pm n fn c s K')∧
  ∀ {fn:az} {id:Nat} {b:aj} {m:Nat} {s:Vs} {K:Ex→Vs→Prop},b.Ow=true→vL VF M Q Pm n fn id b m s K→∃ ex t,K ex t∧∀ K' :Ex→Vs→Prop,K' ex t→vL VF M Q Pm n fn id b m s K' :=by
 intro n
 induction n with
 |zero=>exact⟨fun _ h=>by simp[vC]at h,fun _ h=>by simp[vL]at h⟩
 |succ n ih=>
  obtain⟨ihC,ihL⟩:=ih;refine⟨fun {fn c s K} hd h=> ?_,fun {fn id b m s K} hd h=> ?_⟩
  ·cases c with
   |skip=>exact⟨_,_,h,fun _ h=>h⟩
   |ret=>exact⟨_,_,h,fun _ h=>h⟩
   |exit i=>exact⟨_,_,h,fun _ h=>h⟩
   |region ops=>
    have hr:∀ K:Ex→Vs→Prop,vC VF M Q Pm (n+1) fn (.region ops) s K=iy K (gx M Q (vF VF M Q Pm n) ops s):=fun K=>by
     show jT M Q (vF VF M Q Pm n) s K ops=_;unfold jT;split
     ·simp[aj.Ow,JE]at hd
     ·rfl
    rw[hr]at h;obtain⟨ex,t,h1,h2⟩:=HL h;exact⟨ex,t,h1,fun K' hk=>by rw[hr];exact h2 K' hk⟩
   |draw ops=>
    have h:kW M Q (vF VF M Q Pm n) s K (sched (ops.length+1) (bt ops 0) 0):=h;cases hl:sched (ops.length+1) (bt ops 0) 0 with
    |none=>rw[hl]at h;exact h.elim
    |some l=>
     rw[hl]at h;obtain⟨ex,t,h1,h2⟩:=HL h;refine⟨ex,t,h1,fun K' hk=> ?_⟩;show kW M Q (vF VF M Q Pm n) s K' (sched (ops.length+1) (bt ops 0) 0);rw[hl];exact h2 K' hk
   |seq a b=>
    simp only[aj.Ow,bC]at hd;simp only[vC]at h⊢;obtain⟨ex,t,h1,h2⟩:=ihC hd.1 h;cases ex with
    |normal=>
     obtain⟨ex',t',h3,h4⟩:=ihC hd.2 h1;exact⟨ex',t',h3,fun K' hk=>h2 _ (h4 K' hk)⟩
    |ret=>exact⟨_,_,h1,fun K' hk=>h2 _ hk⟩
    |exit i=>exact⟨_,_,h1,fun K' hk=>h2 _ hk⟩
   |cond x a b=>
    simp only[aj.Ow,bC]at hd;simp only[vC]at h⊢;split at h<;>try exact h.elim
    ·exact ihC hd.1 h
    ·exact ihC hd.2 h
   |block id b=>
    cases b with
    |loop b=>simp only[vC]at h⊢;exact ihL hd h
    |_=>
     simp only[vC]at h⊢;have hk:=fun hd=>ihC hd h;obtain⟨ex,t,h1,h2⟩:=hk hd;obtain⟨ex',t',h3,h4⟩:=Jo h1;exact⟨ex',t',h3,fun K' hk=>h2 _ (h4 K' hk)⟩
   |loop b=>simp[vC]at h
   |bad=>simp[vC]at h
   |uD a b=>simp[vC]at h
  ·simp only[vL]at h⊢;obtain⟨ex,t,h1,h2⟩:=ihC hd h;cases ex with
   |normal=>
    obtain⟨ex',t',h3,h4⟩:=ihL hd h1;exact⟨ex',t',h3,fun K' hk=>h2 _ (h4 K' hk)⟩
   |ret=>
    obtain⟨ex',t',h3,h4⟩:=Jo h1;exact⟨ex',t',h3,fun K' hk=>h2 _ (h4 K' hk)⟩
   |exit i=>
    obtain⟨ex',t',h3,h4⟩:=Jo h1;exact⟨ex',t',h3,fun K' hk=>h2 _ (h4 K' hk)⟩
def exX(P:U→List Uo→Nat→Prop):Option (U×List Uo×Nat)→Prop
 |some (r,h,fl)=>P r h fl
 |none=>False
@[simp] theorem qeq{P:U→List Uo→Nat→Prop}{r:U}{h:List Uo}{fl:Nat}:exX P (some (r,h,fl))=P r h fl:=rfl
theorem Pj{P:U→List Uo→Nat→Prop}{o:Option (U×List Uo×Nat)}(h:exX P o):∃ r h fl,o=some (r,h,fl)∧P r h fl:=by
 cases o with
 |none=>exact h.elim
 |some x=>exact⟨_,_,_,rfl,h⟩
def kX(k:Nat)(fn:az)(P:U→List Uo→Nat→Prop)(ex:Ex)(s:Vs):Prop:=
 match ex with
 | .exit _=>False
 |_=>exX P (CF k fn s)
@[simp] theorem qhy{k:Nat}{fn:az}{P:U→List Uo→Nat→Prop}{s:Vs}:kX k fn P .ret s=exX P (CF k fn s):=rfl
@[simp] theorem qc6{k:Nat}{fn:az}{P:U→List Uo→Nat→Prop}{s:Vs}:kX k fn P .normal s=exX P (CF k fn s):=rfl
theorem XQ{fn:az}{f:Nat}{us:List U}{h:List Uo}{fl:Nat}{P:U→List Uo→Nat→Prop}(hp:Pm f=none)(hf:VF f=some fn)(ha:Nat.ble us.length fn.ntmps=true)(hd:fn.body.Ow=true)
  (hR:gC VF M Q Pm fn fn.body ⟨lT us 0,h,fl⟩ (kX h.length fn P)):∃ r h' fl',gF VF M Q Pm f us h fl=some (r,h',fl')∧P r h' fl' :=by
 obtain⟨n,hn⟩:=hR;obtain⟨ex,t,h1,h2⟩:=(qgq n).1 hd hn;cases ex with
 |exit i=>exact h1.elim
 |normal=>
  obtain⟨r,h',fl',h3,h4⟩:=Pj h1;exact⟨r,h',fl',G3 hp hf ha ⟨n,h2 _ h3⟩,h4⟩
 |ret=>
  obtain⟨r,h',fl',h3,h4⟩:=Pj h1;exact⟨r,h',fl',G3 hp hf ha ⟨n,h2 _ h3⟩,h4⟩
end
end Go.RE
namespace Go.RE
set_option linter.unnecessarySimpa false
section
variable{C:Nat→Option b8}{M:oV}{VF:Nat→Option az}{Q:mE}{Pm:XH}
variable{E:qe}{σ:Sg}{Z:Zs}{ω:Om}{s:Vs}{e:PT V}{st:St}{n:Nat}
theorem Ok.QJ(hk:Ok E σ Z ω s e st){g:Tg}{w:Nat}{p0:Nat×List (List U)}(hp0:s.cg g=some p0)(hg:ω g=none):Ok E σ Z ω (s.fB g w []) e st:=by
 have henv:∀ t u,look (Env.fB g [] s.e) t=some u→∃ v,e.get t=some v∧TR σ Z ω s.h.length u v:=by
  intro t u hu;rw[AV]at hu;cases hq:look s.e t with
  |none=>rw[hq]at hu;simp at hu
  |some x=>
   rw[hq]at hu;simp at hu;obtain⟨v,h1,h2⟩:=hk.env t x hq;refine⟨v,h1,?_⟩;subst hu;cases x with
   |own g' w2 xs2=>
    simp only[U.fB];by_cases hgg:g' =g
    ·subst hgg;rw[if_pos rfl];refine⟨?_,h2.2⟩;have h3:=h2.1;unfold OR at h3⊢;rw[hg]at h3⊢;exact⟨rfl,h3.2⟩
    ·rw[if_neg hgg];exact h2
   |_=>exact h2
 unfold Vs.fB;split
 ·rename_i i off;simp only[Vs.cg]at hp0;split at hp0<;>try (simp at hp0;done)
  rename_i cs' hi;split at hp0<;>try (simp at hp0;done)
  rename_i w0 xs0 hc0;have hlt:=(bn.1 hi).1;have hoff:=(bn.1 hc0).1;simp only[setCell,hi];refine(hk.setEnv henv).setRow (cs:=cs') hi (by simp) (fun o u u' v h1 h2 h3=> ?_) (fun o h2=> ?_)
  ·rw[eM]at h2;by_cases ho:off=o
   ·subst ho;rw[if_pos rfl,if_pos hoff]at h2;simp at h2;subst h2;rw[hc0]at h1;simp at h1;subst h1;have h4:OR σ Z ω (.c i off) w0 xs0 v:=h3;show OR σ Z ω (.c i off) w [] v;unfold OR at h4⊢;rw[hg]at h4⊢;exact⟨rfl,h4.2⟩
   ·rw[if_neg ho,h1]at h2;simp at h2;subst h2;exact h3
  ·rw[eM]at h2;split at h2
   ·first|(simp at h2;done)|(split at h2<;>simp at h2)
   ·exact h2
 ·exact hk.setEnv henv
theorem Ma{u:U}{v:V}(h:TR σ Z ω n u v)(hc:u.aJ=true):UR σ Z n u v:=by
 cases u<;>first|exact h|(simp[U.aJ]at hc)
theorem wK(T:kS C M VF Q Pm){f:Nat}{fn:az}(hC:C f=some ⟨fn.ntmps,fn.results,fn.body.er⟩)(hres:fn.results=[]){q:List (List U)→List U→Option (List (List U))}
  (hq:∀ xs rest ys w,q xs rest=some ys→(∀ r∈xs,r.length=w)→(∀ u∈rest,u.aJ=true∧u.low 0=true)∧rest.length+1≤fn.ntmps∧ys.length=xs.length∧(∀ r∈ys,r.length=w)∧U.j8 ys=true∧
   gC VF M Q Pm fn fn.body ⟨(0,.own .a w xs)::lT rest 1,[],0⟩ fun ex t=>(∀ i,ex≠.exit i)∧t.cg .a=some (w,ys)):vZ (cZ C M) f q:=by
 intro xs rest ys hh E σ Z ω s e st g w v vs p0 hk hp0 hor hlen hr;have hw:∀ r∈xs,r.length=w:=by
  have:=hor;unfold OR at this;split at this
  ·rw[this.1];intro r hr;cases hr
  ·exact this.2.2.2.2.1
 obtain⟨h1,h2,h3,h4,h5,n,hn⟩:=hq xs rest ys w hh hw;have hnone:∀ x I,(fun x:Tg=>if x=.a then ω g else none) x=some I→x=.a∧ω g=some I:=fun x I hI=>by
  simp only at hI;split at hI
  ·exact⟨‹_›,hI⟩
  ·cases hI
 have hok:Ok ⟨0,σ,fun b=>∃ I,ω g=some I∧I.b=b,Z,st,fun _=>False,(ω g).map oa.desc,fun _ _=>False⟩ σ Z (fun x=>if x=.a then ω g else none) ⟨(0,.own .a w xs)::lT rest 1,[],0⟩ (cA (v::vs) 0 .e) st:=by
  refine⟨fun t u hu=> ?_,fun i o ho=>by simp at ho,hk.qc,fun x I hI=>hk.lF g I (hnone x I hI).2,hk.fresh,fun i j hi=>by simp at hi,fun x y I J hI hJ _=>by rw[(hnone x I hI).1,(hnone y J hJ).1],fun i x I hi=>by simp at hi,fun i hi=>by simp at hi,fun x I hI=>hk.wz g I (hnone x I hI).2,fun i hi=>by simp at hi,⟨rfl,rfl⟩,fun i off I hI=>(by cases(hnone _ I hI).1),aq _,fun i hi=>by simp at hi,fun b r hb=>hb,aq _,fun b hb hbI=>⟨rfl,fun i hi=>by simp at hi,fun x I hI hbb=>hbI ⟨I,(hnone x I hI).2,hbb⟩,fun r hr=>hr⟩,fun i hi=>False.elim hi,fun i off cs h1=>by simp at h1⟩;simp only[look]at hu;cases hb:Nat.beq 0 t with
  |true=>
   rw[hb]at hu;simp only[cond_true,ai]at hu;have:=bR hb;subst this;subst hu;refine⟨v,by rw[fD,if_pos ⟨dS _,by simp⟩];rfl,OR.to hor (fun _ _ h=>h) rfl,fun i off hh=>by cases hh⟩
  |false=>
   rw[hb]at hu;simp only[cond_false]at hu;obtain⟨ht1,hu2⟩:=wF hu;obtain⟨ht2,_⟩:=bn.1 hu2;have hv:=bL (l:=vs) (i:=t - 1) (by omega);have hm:=List.mem_of_getElem? hu2;refine⟨vs[t - 1],?_,TR.bB ?_⟩
   ·rw[fD,if_pos ⟨dS _,by simp;omega⟩];rw[show t - 0=(t - 1)+1 by omega];simpa using hv
   ·exact(Ma (hr (t - 1) u _ hu2 hv) (h1 u hm).1).low (h1 u hm).2
 obtain⟨N,hN⟩:=(sound T n).2.1 hn ⟨⟨aq _,fun i o ho=>by simp at ho⟩,σ,Z,_,hok⟩;refine⟨N,?_⟩;rw[qv hC (by simp;omega)];refine cc (aq _) ?_ hN;rintro ex e' st' ⟨s',⟨hne,hown⟩,hf',σ',Z',ω',hk'⟩;have hall:cu e' st' fn.results=some (.aX []):=by rw[hres];rfl
 have goal:∃ ω2,Ok E σ Z ω2 (s.fB g w ys) e st' :=by
  have wa:(ω' .a).map oa.desc=(ω g).map oa.desc:=hk'.zW.2;cases hg:ω g with
  |none=>
   have hx0:xs=[]:=by unfold OR at hor;rw[hg]at hor;exact hor.1
   have hy0:ys=[]:=jq (by rw[h3,hx0];rfl);subst hy0;have hm:Ok E σ Z ω s e st' :=hk.mem hk'.nx hk'.fresh fun b hb=>(hk'.out b (hk.zf hb) (fun⟨I,hI,_⟩=>by rw[hg]at hI;cases hI)).1;exact⟨ω,hm.QJ hp0 hg⟩
  |some I=>
   rw[hg]at wa;cases hJ:ω' .a with
   |none=>rw[hJ]at wa;cases wa
   |some J=>
    rw[hJ]at wa;simp only[Option.map_some,ai,oa.desc,aL]at wa;obtain⟨w1,w2,w3,w4,w5⟩:=wa;obtain⟨v',ho⟩:=y8 hk' hown;unfold OR at ho hor;rw[hJ]at ho;rw[hg]at hor;obtain⟨_,⟨o1,o2⟩,o3,o4,o5,o6⟩:=ho;obtain⟨_,⟨p1,p2⟩,p3,p4,p5,p6⟩:=hor;have hlu:LU σ Z 0 ys.flatten ((J.row.drop I.off).take (ys.length*I.w)):=by
     rw[p1,←w2];exact⟨o6.1,fun j u v a b=>((o6.2 j u v a b).flat (AE h5 j u a)).mono (aq 0) (fun i hi=>by omega) (fun _ _ h=>h)⟩
    have hup:=hk.Bl hp0 hg (ys:=ys) (row' :=J.row) (by rw[h3,p2]) (fun _=>by rw[p1,←w2,←w3];exact o4) (fun r hr=>by rw[p1];exact h4 r hr) hlu;rw[p1]at hup;refine⟨_,hup.mem hk'.nx hk'.fresh fun b hb=> ?_⟩;have hblt:=hup.zf hb;by_cases hbI:b=I.b
    ·subst hbI;rw[St.dU,if_pos rfl,←w1];exact hk'.lF _ J hJ
    ·rw[St.dU,if_neg hbI];exact(hk'.out b hblt (fun⟨I',hI',hb'⟩=>by rw[hg]at hI';cases hI';exact hbI hb'.symm)).1
 cases ex with
 |exit i=>exact absurd rfl (hne i)
 |normal=>rw[ki];simp only[hall];first|exact⟨rfl,goal⟩|exact⟨trivial,goal⟩
 |ret=>rw[nM];simp only[hall];first|exact⟨rfl,goal⟩|exact⟨trivial,goal⟩
end
end Go.RE
