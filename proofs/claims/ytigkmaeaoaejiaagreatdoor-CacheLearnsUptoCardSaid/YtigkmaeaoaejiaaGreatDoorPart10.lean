/- Rules for rewriting: one step at a time, and nothing is looked into before its turn. -/
import Derived.Test.YtigkmaeaoaejiaaGreatDoorPart9
set_option linter.unusedVariables false
set_option linter.unusedSimpArgs false
set_option linter.constructorNameAsVariable false
namespace Go.RE
def gY(s:Vs):Option U→Option (U×Vs)
 |some v=>some (v,s)
 |none=>none
@[simp] theorem qc1{s:Vs}{v:U}:gY s (some v)=some (v,s):=rfl
@[simp] theorem qjp(t:Nat):look [] t=none:=rfl
@[simp] theorem qfb(k t:Nat)(v:U)(r:Env):look ((k,v)::r) t=if k=t then some v else look r t:=by
 simp only[look];by_cases h:k=t
 ·subst h;simp
 ·rw[if_neg h];have:Nat.beq k t=false:=by
   cases hb:Nat.beq k t with
   |false=>rfl
   |true=>exact absurd (bS hb) h
  rw[this];rfl
@[simp] theorem qfF(d:Nat)(v:U)(e:Env):jD (some d) v e=(d,v)::e:=rfl
@[simp] theorem qf5(v:U)(e:Env):jD none v e=e:=rfl
@[simp] theorem qmE(e:Env)(n:Nat):ck e (.t n)=look e n:=rfl
@[simp] theorem qmU(e:Env)(v:V):ck e (.c v)=some v.mX:=rfl
@[simp] theorem qiU(e:Env):jE e []=some []:=rfl
def AX:Option U→Option (List U)→Option (List U)
 |some v,some vs=>some (v::vs)
 |_,_=>none
@[simp] theorem qeT(v:U)(vs:List U):AX (some v) (some vs)=some (v::vs):=rfl
@[simp] theorem qf0(e:Env)(x:bB)(r:List bB):jE e (x::r)=AX (ck e x) (jE e r):=by
 simp only[jE];cases ck e x<;>simp only[AX];cases jE e r<;>simp only[AX]
attribute [simp] V.mX V.cY su
@[simp] theorem Env.qhX(g:Tg):Env.kill g []=[]:=rfl
@[simp] theorem Env.qfU(g:Tg)(k:Nat)(v:U)(r:Env):Env.kill g ((k,v)::r)=(k,v.kill g)::Env.kill g r:=rfl
@[simp] theorem Env.qjU(g:Tg):Env.oB g []=[]:=rfl
@[simp] theorem Env.qja(g:Tg)(k:Nat)(v:U)(r:Env):Env.oB g ((k,v)::r)=(k,v.oB g)::Env.oB g r:=rfl
@[simp] theorem Env.qe7(g g2:Tg):Env.jH g g2 []=[]:=rfl
@[simp] theorem Env.qdV(g g2:Tg)(k:Nat)(v:U)(r:Env):Env.jH g g2 ((k,v)::r)=(k,v.jH g g2)::Env.jH g g2 r:=rfl
@[simp] theorem Env.qj1(g:Tg)(ys:List (List U)):Env.mz g ys []=[]:=rfl
@[simp] theorem Env.qic(g:Tg)(ys:List (List U))(k:Nat)(v:U)(r:Env):Env.mz g ys ((k,v)::r)=(k,v.mz g ys)::Env.mz g ys r:=rfl
@[simp] theorem Env.qdW(p:Tg→Bool):Env.cy p []=[]:=rfl
@[simp] theorem Env.qb9(p:Tg→Bool)(k:Nat)(v:U)(r:Env):Env.cy p ((k,v)::r)=(k,v.cy p)::Env.cy p r:=rfl
attribute [simp] U.kill U.oB U.jH U.mz U.cy Tg.kG Tg.NV
@[simp] theorem Vs.qkN(d:Nat)(e:Env)(h:List Uo)(fl:Nat):Vs.kill (.t d) ⟨e,h,fl⟩=⟨Env.kill (.t d) e,h,fl⟩:=rfl
@[simp] theorem Vs.qlG(e:Env)(h:List Uo)(fl:Nat):Vs.kill .r ⟨e,h,fl⟩=⟨Env.kill .r e,h,fl⟩:=rfl
@[simp] theorem Vs.qkc(i off:Nat)(e:Env)(h:List Uo)(fl:Nat):Vs.kill (.c i off) ⟨e,h,fl⟩=⟨Env.kill (.c i off) e,setCell h i off .bad,fl⟩:=rfl
@[simp] theorem Vs.qmX(d:Nat)(e:Env)(h:List Uo)(fl:Nat):Vs.oB (.t d) ⟨e,h,fl⟩=⟨Env.oB (.t d) e,h,fl⟩:=rfl
@[simp] theorem Vs.qmF(e:Env)(h:List Uo)(fl:Nat):Vs.oB .r ⟨e,h,fl⟩=⟨Env.oB .r e,h,fl⟩:=rfl
@[simp] theorem Vs.qmM(d w:Nat)(ys:List (List U))(e:Env)(h:List Uo)(fl:Nat):Vs.mz (.t d) w ys ⟨e,h,fl⟩=⟨Env.mz (.t d) ys e,h,fl⟩:=rfl
@[simp] theorem Vs.qnc(i off w:Nat)(ys:List (List U))(e:Env)(h:List Uo)(fl:Nat):Vs.mz (.c i off) w ys ⟨e,h,fl⟩=⟨Env.mz (.c i off) ys e,setCell h i off (.dD w ys),fl⟩:=rfl
@[simp] theorem Vs.qmi(d:Nat)(e:Env)(h:List Uo)(fl:Nat):Vs.gI (.t d) ⟨e,h,fl⟩=Env.gI (.t d) e e:=rfl
@[simp] theorem Vs.qlh(i off:Nat)(e:Env)(h:List Uo)(fl:Nat):Vs.gI (.c i off) ⟨e,h,fl⟩=(match h[i]? with
  |some (.row cs)=>(match cs[off]? with
   |some (.dD w xs)=>some (w,xs)
   |_=>none)
  |_=>none):=rfl
attribute [simp] Env.gI
attribute [simp] esc
def qgh(s:Vs):Option U→Option (U×Vs)
 |some v=>esc v s
 |none=>none
@[simp] theorem qe9(s:Vs)(v:U):qgh s (some v)=esc v s:=rfl
@[simp] theorem qjN(x:bB)(s:Vs):fC x s=qgh s (ck s.e x):=by unfold fC;cases ck s.e x<;>rfl
@[simp] theorem qfQ(s:Vs):fX [] s=some ([],s):=rfl
def qdk(v:U):Option (List U×Vs)→Option (List U×Vs)
 |some (vs,s)=>some (v::vs,s)
 |none=>none
@[simp] theorem qfp(v:U)(vs:List U)(s:Vs):qdk v (some (vs,s))=some (v::vs,s):=rfl
def qdX(r:List bB):Option (U×Vs)→Option (List U×Vs)
 |some (v,s)=>qdk v (fX r s)
 |none=>none
@[simp] theorem qe6(r:List bB)(v:U)(s:Vs):qdX r (some (v,s))=qdk v (fX r s):=rfl
@[simp] theorem qdB(x:bB)(r:List bB)(s:Vs):fX (x::r) s=qdX r (fC x s):=by
 simp only[fX];cases fC x s with
 |none=>rfl
 |some p=>obtain⟨v,s⟩:=p;simp only[qdX];cases fX r s<;>rfl
@[simp] theorem qfM(cells:List U)(s:Vs):lp [] cells s=some (cells,s):=rfl
def qbU(off size:Nat)(rest:List (Nat×Nat×bB))(cells:List U):Option (U×Vs)→Option (List U×Vs)
 |some (v,s)=>bif Nat.beq v.cells.length size&&Nat.ble (off+v.cells.length) cells.length then lp rest (jy cells off v.cells) s else none
 |none=>none
@[simp] theorem qcF(off size:Nat)(rest:List (Nat×Nat×bB))(cells:List U)(v:U)(s:Vs):qbU off size rest cells (some (v,s))=bif Nat.beq v.cells.length size&&Nat.ble (off+v.cells.length) cells.length then lp rest (jy cells off v.cells) s else none:=rfl
@[simp] theorem qda(off size:Nat)(x:bB)(rest:List (Nat×Nat×bB))(cells:List U)(s:Vs):lp ((off,size,x)::rest) cells s=qbU off size rest cells (fC x s):=by
 simp only[lp];cases fC x s<;>rfl
attribute [simp] U.cells jy U.aL U.ve U.qO U.low U.bX
def qix(d:Nat)(s:Vs):U→Option (U×Vs)
 | .own .r w xs=>some (.own (.t d) w xs,s.kill (.t d))
 |v=>some (v,s)
attribute [simp] qix
@[simp] theorem qjF(d:Nat)(s:Vs)(x:bB):fA d s (.aJ x)=(ck s.e x).bind (qix d s):=by
 simp only[fA];cases ck s.e x with
 |none=>rfl
 |some v=>
  cases v with
  |own g w xs=>cases g<;>rfl
  |_=>rfl
def NP(s:Vs)(a b:bB):U→Option (U×Vs)
 | .bool true=>gY s (ck s.e a)
 | .bool false=>gY s (ck s.e b)
 |_=>none
@[simp] theorem qeL(s:Vs)(a b:bB):NP s a b (.bool true)=gY s (ck s.e a):=rfl
@[simp] theorem qbF(s:Vs)(a b:bB):NP s a b (.bool false)=gY s (ck s.e b):=rfl
@[simp] theorem qhS(d:Nat)(s:Vs)(c a b:bB):fA d s (.pick c a b)=(ck s.e c).bind (NP s a b):=by
 simp only[fA];cases ck s.e c with
 |none=>rfl
 |some v=>
  cases v with
  |bool t=>cases t<;>simp only[Option.bind,NP]<;>(first|(cases ck s.e a<;>rfl)|(cases ck s.e b<;>rfl))
  |_=>rfl
def Nb(s:Vs)(n:Option Nat)(i off:Nat):Uo→Option (U×Vs)
 | .row cs=>gY s (mN i n cs off)
 |_=>none
@[simp] theorem qe5(s:Vs)(n:Option Nat)(i off:Nat)(cs:List U):Nb s n i off (.row cs)=gY s (mN i n cs off):=rfl
def MB(s:Vs)(n:Option Nat)(i f:Nat):Nat×List (List U)→Option (U×Vs)
 |(_,xs)=>(xs[i]?).bind fun r=>gY s (gv n r f)
@[simp] theorem qiH(s:Vs)(n:Option Nat)(i f w:Nat)(xs:List (List U)):MB s n i f (w,xs)=(xs[i]?).bind fun r=>gY s (gv n r f):=rfl
def zM(s:Vs)(n:Option Nat):U→Option (U×Vs)
 | .ptr i off=>(s.h[i]?).bind (Nb s n i off)
 | .dI row off=>gY s (gv n row off)
 | .cA g i f=>(s.gI g).bind (MB s n i f)
 |_=>none
@[simp] theorem qfo(s:Vs)(n:Option Nat)(i off:Nat):zM s n (.ptr i off)=(s.h[i]?).bind (Nb s n i off):=rfl
@[simp] theorem qdF(s:Vs)(n:Option Nat)(row:List U)(off:Nat):zM s n (.dI row off)=gY s (gv n row off):=rfl
@[simp] theorem qc9(s:Vs)(n:Option Nat)(g:Tg)(i f:Nat):zM s n (.cA g i f)=(s.gI g).bind (MB s n i f):=rfl
@[simp] theorem qg4(d:Nat)(s:Vs)(n:Option Nat)(x:bB):fA d s (.load n x)=(ck s.e x).bind (zM s n):=by
 simp only[fA];cases ck s.e x with
 |none=>rfl
 |some v=>
  cases v with
  |ptr i off=>
   simp only[Option.bind,zM];cases s.h[i]? with
   |none=>rfl
   |some o=>
    cases o with
    |row cs=>simp only[Option.bind,Nb];cases mN i n cs off<;>rfl
    |_=>rfl
  |dI row off=>simp only[Option.bind,zM];cases gv n row off<;>rfl
  |cA g i f=>
   simp only[Option.bind,zM];cases s.gI g with
   |none=>rfl
   |some p=>
    obtain⟨w,xs⟩:=p;simp only[MB,Option.bind];cases xs[i]? with
    |none=>rfl
    |some r=>simp only;cases gv n r f<;>rfl
  |_=>rfl
def qhk(s:Vs):U→Option (U×Vs)
 | .ptr i o=>some (.ptr i o,s)
 | .dI r o=>some (.dI r o,s)
 | .cA g i o=>some (.cA g i o,s)
 | .func f a b=>some (.func f a b,s)
 | .iface t v=>some (.iface t v,s)
 |_=>none
attribute [simp] qhk
@[simp] theorem ZH(d:Nat)(s:Vs)(x:bB):fA d s (.nilCheck x)=(ck s.e x).bind (qhk s):=by
 simp only[fA];cases ck s.e x with
 |none=>rfl
 |some v=>cases v<;>rfl
def qc6(s:Vs)(op:BinOp)(ek:fD):Option U→Option U→Option (U×Vs)
 |some a,some b=>gY s (iz op ek a b)
 |_,_=>none
@[simp] theorem qfW(s:Vs)(op:BinOp)(ek:fD)(a b:U):qc6 s op ek (some a) (some b)=gY s (iz op ek a b):=rfl
@[simp] theorem qj5(d:Nat)(s:Vs)(op:BinOp)(ek:fD)(x y:bB):fA d s (.bin op ek x y)=qc6 s op ek (ck s.e x) (ck s.e y):=by
 simp only[fA];cases ck s.e x with
 |none=>rfl
 |some a=>
  cases ck s.e y with
  |none=>rfl
  |some b=>simp only[qc6];cases iz op ek a b<;>rfl
@[simp] theorem qlE(d:Nat)(s:Vs)(op:UnOp)(x:bB):fA d s (.un op x)=(ck s.e x).bind fun a=>gY s (unU op a):=by
 simp only[fA];cases ck s.e x with
 |none=>rfl
 |some a=>simp only[Option.bind];cases unU op a<;>rfl
def qbc(k:IntKind)(s:Vs):U→Option (U×Vs)
 | .int _ n=>some (.int k (aD k n),s)
 |_=>none
attribute [simp] qbc
@[simp] theorem qbh(d:Nat)(s:Vs)(k:IntKind)(x:bB):fA d s (.bI k x)=(ck s.e x).bind (qbc k s):=by
 simp only[fA];cases ck s.e x with
 |none=>rfl
 |some v=>cases v<;>rfl
def qhF(s:Vs):U→Option (U×Vs)
 | .str b=>some (.str b,s)
 |_=>none
attribute [simp] qhF
def A7(s:Vs)(v:U):Option (U×Vs):=(rowsOf s 1 v).bind fun xs=>(eH xs).bind fun bs=>some (.str bs,s)
@[simp] theorem qfc(d:Nat)(s:Vs)(x:bB):fA d s (.toStr x)=(ck s.e x).bind (A7 s):=by
 simp only[fA];cases ck s.e x with
 |none=>rfl
 |some v=>
  simp only[Option.bind,A7];cases rowsOf s 1 v with
  |none=>rfl
  |some xs=>simp only;cases eH xs<;>rfl
def ifV(t:Nat):Option (U×Vs)→Option (U×Vs)
 |some (v,s)=>some (.iface t v,s)
 |none=>none
@[simp] theorem qht(t:Nat)(v:U)(s:Vs):ifV t (some (v,s))=some (.iface t v,s):=rfl
@[simp] theorem qcj(d:Nat)(s:Vs)(t:Nat)(x:bB):fA d s (.fm t x)=ifV t (fC x s):=by
 simp only[fA];cases fC x s<;>rfl
def qed(f:Nat)(a:List U):Option (List U×Vs)→Option (U×Vs)
 |some (b,s)=>some (.func f a b,s)
 |none=>none
def fnV(f:Nat)(captured:List bB):Option (List U×Vs)→Option (U×Vs)
 |some (a,s)=>qed f a (fX captured s)
 |none=>none
@[simp] theorem qeX(f:Nat)(a b:List U)(s:Vs):qed f a (some (b,s))=some (.func f a b,s):=rfl
@[simp] theorem qgZ(f:Nat)(captured:List bB)(a:List U)(s:Vs):fnV f captured (some (a,s))=qed f a (fX captured s):=rfl
@[simp] theorem qdi(d:Nat)(s:Vs)(f:Nat)(a b:List bB):fA d s (.lP f a b)=fnV f b (fX a s):=by
 simp only[fA];cases fX a s with
 |none=>rfl
 |some p=>obtain⟨v,s⟩:=p;simp only[fnV];cases fX b s<;>rfl
def QM:Option (List U×Vs)→Option (U×Vs)
 |some (cs,s)=>some (.agg cs,s)
 |none=>none
@[simp] theorem qaC(cs:List U)(s:Vs):QM (some (cs,s))=some (.agg cs,s):=rfl
@[simp] theorem qfk(d:Nat)(s:Vs)(z:List V)(ps:List (Nat×Nat×bB)):fA d s (.build z ps)=bif(V.cY z).all U.aL then QM (lp ps (V.cY z) s)else none:=by
 simp only[fA];cases lp ps (V.cY z) s<;>rfl
def faV(s:Vs)(off:Nat):U→Option (U×Vs)
 | .ptr i o=>some (.ptr i (o+off),s)
 | .dI row o=>some (.dI row (o+off),s)
 | .cA g i o=>some (.cA g i (o+off),s)
 |_=>none
attribute [simp] faV
@[simp] theorem XL(d:Nat)(s:Vs)(off:Nat)(x:bB):fA d s (.fieldAddr off x)=(ck s.e x).bind (faV s off):=by
 simp only[fA];cases ck s.e x with
 |none=>rfl
 |some v=>cases v<;>rfl
def Kn(s:Vs)(off:Nat)(n:Option Nat):U→Option (U×Vs)
 | .agg cs=>gY s (gv n cs off)
 |_=>none
@[simp] theorem qc0(s:Vs)(off:Nat)(n:Option Nat)(cs:List U):Kn s off n (.agg cs)=gY s (gv n cs off):=rfl
@[simp] theorem qfB(d:Nat)(s:Vs)(off:Nat)(n:Option Nat)(x:bB):fA d s (.field off n x)=(ck s.e x).bind (Kn s off n):=by
 simp only[fA];cases ck s.e x with
 |none=>rfl
 |some v=>
  cases v with
  |agg cs=>simp only[Option.bind,Kn];cases gv n cs off<;>rfl
  |_=>rfl
def Tf(s:Vs)(w:Nat):Option U→Option U→Option (U×Vs)
 |some (.sl w' xs),some (.int _ n)=>if 0≤n then(match xs[n.toNat]? with|some r=>bif Nat.beq w' w then some (.dI r 0,s)else none|none=>none)else none
 |some (.own g w' xs),some (.int _ n)=>if 0≤n∧n<(xs.length:Int)then(bif Nat.beq w' w then some (.cA g n.toNat 0,s)else none)else none
 |some (.xX j off len w'),some (.int _ n)=>if 0≤n∧n<(len:Int)then(bif Nat.beq w' w then some (.ptr j (off+n.toNat*w),s)else none)else none
 |_,_=>none
theorem eC{s:Vs}{w:Nat}{xs:List (List U)}{k:IntKind}{n:Nat}{r:List U}(hr:xs[n]? =some r):Tf s w (some (.sl w xs)) (some (.int k n))=some (.dI r 0,s):=by
 simp only[Tf,Int.toNat_natCast,hr,nX,cond_true,if_pos (Int.natCast_nonneg n)]
@[simp] theorem XO(d:Nat)(s:Vs)(w:Nat)(x i:bB):fA d s (.indexAddr w x i)=Tf s w (ck s.e x) (ck s.e i):=rfl
def JX(s:Vs)(k:Nat)(v:U):Option (U×Vs):=(ZY s k v).bind fun n=>some (.int .i64 n,s)
@[simp] theorem qij(s:Vs)(b:List UInt8):JX s 0 (.str b)=some (.int .i64 b.length,s):=rfl
@[simp] theorem qjS(s:Vs)(w:Nat)(xs:List (List U)):JX s 1 (.sl w xs)=some (.int .i64 xs.length,s):=rfl
@[simp] theorem qjP(s:Vs)(w:Nat):JX s 1 (.nl w)=some (.int .i64 0,s):=rfl
@[simp] theorem qhf(s:Vs)(g:Tg)(w:Nat)(xs:List (List U)):JX s 1 (.own g w xs)=some (.int .i64 xs.length,s):=rfl
@[simp] theorem qj4(d:Nat)(s:Vs)(k:Nat)(x:bB):fA d s (.len k x)=(ck s.e x).bind (JX s k):=by
 simp only[fA];cases ck s.e x with
 |none=>rfl
 |some v=>simp only[Option.bind,JX];cases ZY s k v<;>rfl
def qd1(s:Vs)(i:Nat):U→Option (U×Vs)
 | .aP vs=>gY s vs[i]?
 |_=>none
@[simp] theorem qiY(s:Vs)(i:Nat)(vs:List U):qd1 s i (.aP vs)=gY s vs[i]? :=rfl
@[simp] theorem qbX(d:Nat)(s:Vs)(i:Nat)(x:bB):fA d s (.extract i x)=(ck s.e x).bind (qd1 s i):=by
 simp only[fA];cases ck s.e x with
 |none=>rfl
 |some v=>
  cases v with
  |aP vs=>simp only[Option.bind,qd1];cases vs[i]? <;>rfl
  |_=>rfl
def lkO(s:Vs)(kk:fD)(ok:Bool)(z:Option U):Option U→Option U→Option (U×Vs)
 |some m,some k=>z.bind fun z=>gY s (fO s kk z ok m k)
 |_,_=>none
@[simp] theorem qiZ(s:Vs)(kk:fD)(ok:Bool)(z m k:U):lkO s kk ok (some z) (some m) (some k)=gY s (fO s kk z ok m k):=rfl
@[simp] theorem qcX(d:Nat)(s:Vs)(kk:fD)(z:V)(ok:Bool)(x i:bB):fA d s (.lookup kk z ok x i)=lkO s kk ok z.HT (ck s.e x) (ck s.e i):=by
 simp only[fA];cases z.HT with
 |none=>cases ck s.e x<;>cases ck s.e i<;>rfl
 |some z=>
  cases ck s.e x with
  |none=>rfl
  |some m=>
   cases ck s.e i with
   |none=>rfl
   |some k=>simp only[lkO,Option.bind];cases fO s kk z ok m k<;>rfl
@[simp] theorem qfD(d:Nat)(s:Vs)(w:Nat)(x:bB)(lo hi mx:Option bB):fA d s (.slice w x lo hi mx)=(ck s.e x).bind fun v=>kR d w lo hi mx v s:=by
 simp only[fA];cases ck s.e x<;>rfl
def qeI(s:Vs):U→Option (U×Vs)
 | .ptr q 0=>gY s (mH s q)
 |_=>none
@[simp] theorem qgS(s:Vs)(q:Nat):qeI s (.ptr q 0)=gY s (mH s q):=rfl
@[simp] theorem qe4(d:Nat)(s:Vs)(x:bB):fA d s (.entry x)=(ck s.e x).bind (qeI s):=by
 simp only[fA];cases ck s.e x with
 |none=>rfl
 |some v=>
  cases v with
  |ptr q o=>
   cases o with
   |zero=>simp only[Option.bind,qeI];cases mH s q<;>rfl
   |succ o=>rfl
  |_=>rfl
@[simp] theorem qfj(d:Nat)(e:Env)(h:List Uo)(fl:Nat)(z:List V):yq d ⟨e,h,fl⟩ (.alloc z)=bif(V.cY z).all (fun u=>u.aL||u.qO)then some (.ptr h.length 0,⟨e,h++[.row (V.cY z)],fl⟩)else none:=rfl
def qha(e:Env)(h:List Uo)(fl:Nat):U→Option (U×Vs)
 | .own (.c _ _) _ _=>none
 | .own g w xs=>some (.ptr h.length 0,⟨Env.jH g (.c h.length 0) e,h++[.row [.dD w xs]],fl⟩)
 |v=>bif v.cells.all U.aL then some (.ptr h.length 0,⟨e,h++[.row v.cells],fl⟩)else none
attribute [simp] qha
@[simp] theorem qjW(d:Nat)(e:Env)(h:List Uo)(fl:Nat)(x:bB):yq d ⟨e,h,fl⟩ (.box x)=(ck e x).bind (qha e h fl):=by
 simp only[yq];cases ck e x with
 |none=>rfl
 |some v=>
  cases v with
  |own g w xs=>cases g<;>rfl
  |_=>rfl
def qh0(d w len:Nat):Option (List U×Vs)→Option (U×Vs)
 |some (cs,s)=>bif cs.all U.aL&&U.bX 0 cs&&Nat.beq cs.length (len*w)then some (.own (.t d) w (chunks w len cs),s.kill (.t d))else none
 |none=>none
@[simp] theorem qfd(d w len:Nat)(cs:List U)(s:Vs):qh0 d w len (some (cs,s))=bif cs.all U.aL&&U.bX 0 cs&&Nat.beq cs.length (len*w)then some (.own (.t d) w (chunks w len cs),s.kill (.t d))else none:=rfl
@[simp] theorem Ux(d:Nat)(s:Vs)(w len:Nat)(z:List V)(ps:List (Nat×Nat×bB)):yq d s (.buildSlice w len z ps)=qh0 d w len (bif(V.cY z).all U.aL then lp ps (Jt (V.cY z) len) s else none):=by
 simp only[yq];generalize (bif(V.cY z).all U.aL then lp ps (Jt (V.cY z) len) s else none)=q;cases q<;>rfl
@[simp] theorem qbM(d:Nat)(e:Env)(h:List Uo)(fl:Nat):yq d ⟨e,h,fl⟩ .makeMap=some (.map h.length,⟨e,h++[.map [] 0],fl⟩):=rfl
attribute [simp] Jt chunks
def stV(n:Nat):Option Vs→Option (U×Vs)
 |some s=>some (.aP [],s)
 |none=>none
@[simp] theorem qgD(n:Nat)(s:Vs):stV n (some s)=some (.aP [],s):=rfl
def stR(n i off:Nat):U×Vs→Option (U×Vs)
 |(v,s)=>(s.h[i]?).bind fun o=>match o with| .row cs=>stV n (qi s n i off v cs)|_=>none
@[simp] theorem qkX(n i off:Nat)(v:U)(s:Vs):stR n i off (v,s)=(s.h[i]?).bind fun o=>match o with| .row cs=>stV n (qi s n i off v cs)|_=>none:=rfl
theorem Cu{d:Nat}{s:Vs}{n:Nat}{a x:bB}{i off:Nat}{v:U}{cs:List U}(ha:ck s.e a=some (.ptr i off))(hx:ck s.e x=some v)(hi:s.h[i]? =some (.row cs)):
  qm d s (.store n a x)=stR n i off (jR s off v cs):=by
 simp only[qm,ha,hx,hi];obtain⟨v2,s2⟩:=jR s off v cs;simp only[stR];cases s2.h[i]? with
 |none=>rfl
 |some o=>
  cases o with
  |row cs=>simp only[Option.bind];cases qi s2 n i off v2 cs<;>rfl
  |_=>rfl
def stO(d:Nat)(s:Vs)(n:Nat):U→U→Option (U×Vs)
 | .ptr i off,v=>(s.h[i]?).bind fun o=>match o with| .row cs=>stR n i off (jR s off v cs)|_=>none
 | .cA g i f,v=>(match esc v s with
   |some (v,s)=>(match s.gI g with
    |some (w,xs)=>(match xs[i]? with
     |some r=>bif Nat.beq v.cells.length n&&Nat.ble (f+n) r.length&&v.cells.all U.aL&&v.low 0 then some (.aP [],s.mz g w (xs.set i (jy r f v.cells)))else none
     |none=>none)
    |none=>none)
   |none=>none)
 |_,_=>none
@[simp] theorem qjJ(d:Nat)(s:Vs)(n i off:Nat)(v:U):stO d s n (.ptr i off) v=(s.h[i]?).bind fun o=>match o with| .row cs=>stR n i off (jR s off v cs)|_=>none:=rfl
def stB(d:Nat)(s:Vs)(n:Nat):Option U→Option U→Option (U×Vs)
 |some a,some v=>stO d s n a v
 |_,_=>none
@[simp] theorem qi8(d:Nat)(s:Vs)(n:Nat)(a v:U):stB d s n (some a) (some v)=stO d s n a v:=rfl
@[simp] theorem qfi(d:Nat)(s:Vs)(n:Nat)(a x:bB):qm d s (.store n a x)=stB d s n (ck s.e a) (ck s.e x):=by
 cases ha:ck s.e a with
 |none=>simp only[qm,ha];rfl
 |some va=>
  cases hx:ck s.e x with
  |none=>simp only[qm,ha,hx];cases va<;>rfl
  |some v=>
   cases va with
   |ptr i off=>
    simp only[stB,stO];cases hi:s.h[i]? with
    |none=>simp only[qm,ha,hx,hi];rfl
    |some o=>
     cases o with
     |row cs=>rw[Cu ha hx hi];rfl
     |_=>simp only[qm,ha,hx,hi];rfl
   |cA g i f=>simp only[qm,ha,hx];rfl
   |_=>simp only[qm,ha,hx];rfl
attribute [simp] jR qi setCell
def apV(d:Nat)(s:Vs)(w bytes:Nat)(ys:List (List U)):U→Option (U×Vs)
 | .own g w' xs=>bif Nat.beq w' w&&Nat.ble ((xs.length+ys.length)*bytes) aW&&Nat.ble (xs.length+ys.length) aW&&ys.all (fun r=>r.all U.aL&&U.bX 0 r&&Nat.beq r.length w)then
      some (.own (.t d) w (xs++ys),(s.kill g).kill (.t d))else none
 | .nl w' =>bif Nat.beq w' w&&Nat.ble (ys.length*bytes) aW&&Nat.ble ys.length aW&&ys.all (fun r=>r.all U.aL&&U.bX 0 r&&Nat.beq r.length w)then some (.own (.t d) w ys,(s.kill .r).kill (.t d))else none
 | .sl w' xs=>bif Nat.beq w' w&&ys.isEmpty&&Nat.ble (xs.length*bytes) aW&&Nat.ble xs.length aW then some (.sl w xs,s)else none
 |_=>none
def apO(d:Nat)(s:Vs)(w bytes:Nat)(str:Bool):Option U→Option U→Option (U×Vs)
 |some a,some x=>(vz s w str x).bind fun ys=>apV d s w bytes ys a
 |_,_=>none
@[simp] theorem qhA(d:Nat)(s:Vs)(w bytes:Nat)(str:Bool)(a x:U):apO d s w bytes str (some a) (some x)=(vz s w str x).bind fun ys=>apV d s w bytes ys a:=rfl
@[simp] theorem qds(d:Nat)(s:Vs)(w bytes:Nat)(str:Bool)(a x:bB):qm d s (.append w bytes str a x)=apO d s w bytes str (ck s.e a) (ck s.e x):=by
 simp only[qm];cases ck s.e a with
 |none=>rfl
 |some va=>
  cases ck s.e x with
  |none=>rfl
  |some vx=>
   simp only[apO];cases vz s w str vx with
   |none=>rfl
   |some ys=>simp only[Option.bind,apV];cases va<;>rfl
attribute [simp] ye kj rY bp U.qa7
section
variable{M:eA}{Q:fq}{F:FU}
@[simp] theorem qni(s:Vs)(dst:Option Nat)(o:ga):lg M Q F s dst (.s o)=fA (dst.getD 0) s o:=rfl
@[simp] theorem qnt(s:Vs)(dst:Option Nat)(o:Gb):lg M Q F s dst (.m o)=yq (dst.getD 0) s o:=rfl
@[simp] theorem qfq(s:Vs)(dst:Option Nat)(n:Nat)(a x:bB):lg M Q F s dst (.h (.store n a x))=qm (dst.getD 0) s (.store n a x):=rfl
@[simp] theorem X6(s:Vs)(dst:Option Nat)(kk:fD)(m k x:bB):lg M Q F s dst (.h (.mapUpdate kk m k x))=qm (dst.getD 0) s (.mapUpdate kk m k x):=rfl
@[simp] theorem qer(s:Vs)(dst:Option Nat)(kk:fD)(m k:bB):lg M Q F s dst (.h (.delete kk m k))=qm (dst.getD 0) s (.delete kk m k):=rfl
@[simp] theorem qen(s:Vs)(dst:Option Nat)(w b:Nat)(t:Bool)(a x:bB):lg M Q F s dst (.h (.append w b t a x))=qm (dst.getD 0) s (.append w b t a x):=rfl
@[simp] theorem qhj(s:Vs)(dst:Option Nat)(w:Nat)(t:Bool)(a x:bB):lg M Q F s dst (.h (.copy w t a x))=qm (dst.getD 0) s (.copy w t a x):=rfl
@[simp] theorem qfv(s:Vs)(dst:Option Nat)(w:Nat)(z:List V)(x:bB):lg M Q F s dst (.h (.clear w z x))=qm (dst.getD 0) s (.clear w z x):=rfl
def qg1(e:Env)(h:List Uo)(fl:Nat):U→Option (U×Vs)
 | .bK=>some (.ptr h.length 0,⟨e,h++[.iter none 0 [] 0],fl⟩)
 | .map m=>(match h[m]? with
   |some (.map _ clock)=>some (.ptr h.length 0,⟨e,h++[.iter (some m) clock [] clock],fl⟩)
   |_=>none)
 |_=>none
attribute [simp] qg1
@[simp] theorem qfs(e:Env)(h:List Uo)(fl:Nat)(dst:Option Nat)(x:bB):lg M Q F ⟨e,h,fl⟩ dst (.h (.range x))=(ck e x).bind (qg1 e h fl):=by
 simp only[lg];cases ck e x with
 |none=>rfl
 |some v=>cases v<;>rfl
def Cw(F:FU)(s:Vs)(d f:Nat)(args:List U):Option (List (List U)→List U→Option (List (List U)))→Option (U×Vs)
 |some q=>(match args with
    | .own g w xs::rest=>(match q xs rest with
     |some ys=>bif(s.gI g).isSome then some (.aP [],s.mz g w ys)else none
     |none=>none)
    |_=>none)
 |none=>mO F d f args s
@[simp] theorem qc5(s:Vs)(d f:Nat)(args:List U):Cw F s d f args none=mO F d f args s:=rfl
def S3(Q:fq)(F:FU)(s:Vs)(d:Nat):Option U→Option (List U)→Option (U×Vs)
 |some (.func f first captured),some vs=>Cw F s d f (first++vs++captured) (Q f)
 |_,_=>none
@[simp] theorem qdz(s:Vs)(d f:Nat)(a b vs:List U):S3 Q F s d (some (.func f a b)) (some vs)=Cw F s d f (a++vs++b) (Q f):=rfl
@[simp] theorem qg3(s:Vs)(dst:Option Nat)(f:bB)(args:List bB):lg M Q F s dst (.call f args)=S3 Q F s (dst.getD 0) (ck s.e f) (jE s.e args):=by
 simp only[lg];cases ck s.e f with
 |none=>rfl
 |some v=>
  cases v with
  |func f a b=>
   cases jE s.e args with
   |none=>rfl
   |some vs=>simp only[S3,Cw];cases Q f<;>rfl
  |_=>rfl
def UM(d:Nat)(args:List U)(s:Vs):Option (U×List Uo×Nat)→Option (U×Vs)
 |some (r,hc,fc)=>some (rF d r hc fc (bif rY args&& !(r.flat&&hc.isEmpty)then bp args s else s))
 |none=>none
@[simp] theorem qcP(d:Nat)(args:List U)(s:Vs)(r:U)(hc:List Uo)(fc:Nat):UM d args s (some (r,hc,fc))=some (rF d r hc fc (bif rY args&& !(r.flat&&hc.isEmpty)then bp args s else s)):=rfl
def Wq(d:Nat)(e:Env):Option (U×List Uo×Nat)→Option (U×Vs)
 |some (r,h,fl)=>some (dV d r ⟨Env.cy Tg.NV e,h,fl⟩)
 |none=>none
@[simp] theorem qdg(d:Nat)(e:Env)(r:U)(h:List Uo)(fl:Nat):Wq d e (some (r,h,fl))=some (dV d r ⟨Env.cy Tg.NV e,h,fl⟩):=rfl
def Gl(F:FU)(d f:Nat)(args us:List U)(s:Vs):Bool→Option (U×Vs)
 |true=>UM d args s (F f us [] 0)
 |false=>Wq d (bp args s).e (F f us (bp args s).h (bp args s).fl)
@[simp] theorem qcT(d f:Nat)(args us:List U)(s:Vs):Gl F d f args us s true=UM d args s (F f us [] 0):=rfl
@[simp] theorem qbg(d f:Nat)(args us:List U)(s:Vs):Gl F d f args us s false=Wq d (bp args s).e (F f us (bp args s).h (bp args s).fl):=rfl
@[simp] theorem qgc(d f:Nat)(args:List U)(s:Vs):mO F d f args s=(kj args).bind fun us=>Gl F d f args us s (U.bX 0 us):=by
 unfold mO;cases kj args with
 |none=>rfl
 |some us=>
  simp only[Option.bind];cases U.bX 0 us with
  |true=>simp only[cond_true,Gl];cases F f us [] 0<;>rfl
  |false=>simp only[cond_false,Gl];cases F f us (bp args s).h (bp args s).fl<;>rfl
@[simp] theorem qe8(d:Nat)(r:U)(fc:Nat)(s:Vs):rF d r [] fc s=dV d r s:=rfl
attribute [simp] dV U.flat U.tq U.rE
def nO(M:eA)(Q:fq)(F:FU)(r:List aH)(dst:Option Nat):Option (U×Vs)→Option Vs
 |some (v,s)=>gw M Q F r ⟨jD dst v s.e,s.h,s.fl⟩
 |none=>none
@[simp] theorem qj3(r:List aH)(dst:Option Nat)(v:U)(s:Vs):nO M Q F r dst (some (v,s))=gw M Q F r ⟨jD dst v s.e,s.h,s.fl⟩:=rfl
def gO(M:eA)(Q:fq)(F:FU)(dst:Option Nat)(op:lH)(r:List aH)(s:Vs):Option Bool→Option Vs
 |some true=>nO M Q F r dst (lg M Q F s dst op)
 |some false=>gw M Q F r ⟨jD dst (.aP []) s.e,s.h,s.fl⟩
 |none=>none
@[simp] theorem qjT(dst:Option Nat)(op:lH)(r:List aH)(s:Vs):gO M Q F dst op r s (some true)=nO M Q F r dst (lg M Q F s dst op):=rfl
@[simp] theorem qgi(dst:Option Nat)(op:lH)(r:List aH)(s:Vs):gO M Q F dst op r s (some false)=gw M Q F r ⟨jD dst (.aP []) s.e,s.h,s.fl⟩:=rfl
@[simp] theorem qh3(s:Vs):gw M Q F [] s=some s:=rfl
@[simp] theorem qf3(dst:Option Nat)(op:lH)(g:Option (Nat×Bool))(p:Nat)(r:List aH)(s:Vs):gw M Q F (⟨dst,op,g,p⟩::r) s=gO M Q F dst op r s (iJ g s.e):=by
 simp only[gw];cases iJ g s.e with
 |none=>rfl
 |some b=>
  cases b with
  |false=>rfl
  |true=>simp only[gO];cases lg M Q F s dst op<;>rfl
@[simp] theorem qcr(e:Env):iJ none e=some true:=rfl
def qgP(want:Bool):U→Option Bool
 | .bool b=>some (b==want)
 | .aP _=>some false
 |_=>none
attribute [simp] qgP
@[simp] theorem qaB(t:Nat)(want:Bool)(e:Env):iJ (some (t,want)) e=(look e t).bind (qgP want):=by
 simp only[iJ];cases look e t with
 |none=>rfl
 |some v=>cases v<;>rfl
end
end Go.RE
namespace Go.RE
abbrev By:=List UInt8
theorem ym:∀ (x y:By),Op.bytesLess x y=decide (x<y)
 |[],[]=>by simp[Op.bytesLess]
 |_::_,[]=>by simp[Op.bytesLess]
 |[],_::_=>by simp[Op.bytesLess]
 |a::x,b::y=>by
  have ih:=ym x y;simp only[Op.bytesLess,ih,List.cons_lt_cons_iff];by_cases h1:a<b<;>by_cases h2:a=b<;>by_cases h3:x<y<;>simp[h1,h2,h3]
theorem qC(a:By):Op.bytesLess a a=false:=by rw[ym];simp[List.lt_irrefl]
theorem NJ{a b c:By}(h:Op.bytesLess a b=true)(k:Op.bytesLess b c=true):Op.bytesLess a c=true:=by
 rw[ym]at*;simp only[decide_eq_true_eq]at*;exact List.lt_trans h k
theorem DJ(a b:By):Op.bytesLess a b=true∨a=b∨Op.bytesLess b a=true:=by
 simp only[ym,decide_eq_true_eq];rcases Classical.em (a<b)with h|h
 ·exact .inl h
 ·rcases Classical.em (b<a)with h' |h'
  ·exact .inr (.inr h')
  ·exact .inr (.inl (List.le_antisymm (List.not_lt.1 h') (List.not_lt.1 h)))
theorem BN{a b:By}(h:Op.bytesLess a b=true):Op.bytesLess b a=false:=by
 cases k:Op.bytesLess b a with
 |false=>rfl
 |true=>have:=NJ h k;rw[qC]at this;exact this.symm
theorem not_le(a b:By):(!(Op.bytesLess a b||a==b))=Op.bytesLess b a:=by
 rcases DJ a b with h|h|h
 ·rw[h,BN h];rfl
 ·subst h;simp[qC]
 ·rw[BN h,h];have:(a==b)=false:=by
   cases k:a==b with
   |false=>rfl
   |true=>rw[eq_of_beq k,qC]at h;cases h
  rw[this];rfl
theorem qdc(a b:By):(Op.bytesLess a b||a==b)= !Op.bytesLess b a:=by rw[←not_le a b,Bool.not_not]
@[simp] theorem To(a b:Nat):Nat.ble a b=decide (a≤b):=by
 by_cases h:a≤b
 ·rw[decide_eq_true h];exact tD h
 ·rw[decide_eq_false h];cases hb:Nat.ble a b with
  |false=>rfl
  |true=>exact absurd (ja hb) h
@[simp] theorem qgl(a b:Nat):Nat.blt a b=decide (a<b):=by unfold Nat.blt;rw[To];rfl
@[simp] theorem H6(a b:Nat):Nat.beq a b=decide (a=b):=by
 by_cases h:a=b
 ·subst h;simp
 ·rw[decide_eq_false h];cases hb:Nat.beq a b with
  |false=>rfl
  |true=>exact absurd (bS hb) h
section
variable(op:BinOp)(ek:fD)
@[simp] theorem qgB(x y:List UInt8):iz op ek (.str x) (.str y)=Vg (mL op x y):=rfl
@[simp] theorem qia(k:IntKind)(x y:Int):iz op ek (.int k x) (.int k y)=Vg (cU op ek (.int k x) (.int k y)):=rfl
end
@[simp] theorem qhC(b:Bool):Vg (some (.bool b))=some (.bool b):=rfl
@[simp] theorem qjA(k:IntKind)(n:Int):Vg (some (.int k n))=some (.int k n):=rfl
@[simp] theorem qj6(s:List UInt8):Vg (some (.str s))=some (.str s):=rfl
@[simp] theorem qeK(a b:List UInt8):mL .add a b=bif Nat.ble (a.length+b.length) aW then some (.str (a++b))else none:=rfl
@[simp] theorem qeD(a b:List UInt8):mL .eql a b=some (.bool (a==b)):=rfl
@[simp] theorem qdm(a b:List UInt8):mL .neq a b=some (.bool (!(a==b))):=rfl
@[simp] theorem qcG(a b:List UInt8):mL .lss a b=some (.bool (Op.bytesLess a b)):=rfl
@[simp] theorem qdu(a b:List UInt8):mL .leq a b=some (.bool (!Op.bytesLess b a)):=by rw[←qdc];rfl
@[simp] theorem qqh(a b:List UInt8):mL .gtr a b=some (.bool (Op.bytesLess b a)):=by rw[←not_le];rfl
@[simp] theorem qde(a b:List UInt8):mL .geq a b=some (.bool (!Op.bytesLess a b)):=rfl
@[simp] theorem qim(ek:fD)(k:IntKind)(x y:Int):cU .lss ek (.int k x) (.int k y)=some (.bool (decide (x<y))):=by simp[cU,kW]
@[simp] theorem qg7(ek:fD)(k:IntKind)(x y:Int):cU .leq ek (.int k x) (.int k y)=some (.bool (decide (x≤y))):=by simp[cU,kW]
@[simp] theorem qhu(ek:fD)(k:IntKind)(x y:Int):cU .gtr ek (.int k x) (.int k y)=some (.bool (decide (x>y))):=by simp[cU,kW]
@[simp] theorem qhe(ek:fD)(k:IntKind)(x y:Int):cU .geq ek (.int k x) (.int k y)=some (.bool (decide (x≥y))):=by simp[cU,kW]
@[simp] theorem qgp(ek:fD)(k:IntKind)(x y:Int):cU .eql ek (.int k x) (.int k y)=some (.bool (x==y)):=by simp[cU,kW]
@[simp] theorem qh2(ek:fD)(k:IntKind)(x y:Int):cU .neq ek (.int k x) (.int k y)=some (.bool (x !=y)):=by simp[cU,kW]
@[simp] theorem qho(ek:fD)(k:IntKind)(x y:Int):cU .add ek (.int k x) (.int k y)=some (.int k (aD k (x+y))):=by simp[cU,kW]
@[simp] theorem qh1(ek:fD)(k:IntKind)(x y:Int):cU .sub ek (.int k x) (.int k y)=some (.int k (aD k (x - y))):=by simp[cU,kW]
@[simp] theorem qj2(b:Bool):unU .not (.bool b)=some (.bool (!b)):=rfl
@[simp] theorem Y4{i o:Nat}{g:Tg}{v:U}{a c:List U}:iz .eql .aT (.ptr i o) .aT=some (.bool false):=rfl
@[simp] theorem XP{i o:Nat}{g:Tg}{v:U}{a c:List U}:iz .eql .aT (.dI c o) .aT=some (.bool false):=rfl
@[simp] theorem X2{i o:Nat}{g:Tg}{v:U}{a c:List U}:iz .eql .aT (.cA g i o) .aT=some (.bool false):=rfl
@[simp] theorem Yc{i o:Nat}{g:Tg}{v:U}{a c:List U}:iz .eql .aT .aT .aT=some (.bool true):=rfl
@[simp] theorem qap{i o:Nat}{g:Tg}{v:U}{a c:List U}:iz .eql .bK (.map i) .bK=some (.bool false):=rfl
@[simp] theorem Yb{i o:Nat}{g:Tg}{v:U}{a c:List U}:iz .eql .bK .bK .bK=some (.bool true):=rfl
@[simp] theorem X7{i o:Nat}{g:Tg}{v:U}{a c:List U}:iz .eql .cZ (.func i a c) .cZ=some (.bool false):=rfl
@[simp] theorem XU{i o:Nat}{g:Tg}{v:U}{a c:List U}:iz .eql .cZ .cZ .cZ=some (.bool true):=rfl
@[simp] theorem Xs{i o:Nat}{g:Tg}{v:U}{a c:List U}:iz .eql (.iface false) (.iface i v) .aK=some (.bool false):=rfl
@[simp] theorem XT{i o:Nat}{g:Tg}{v:U}{a c:List U}:iz .eql (.iface false) .aK .aK=some (.bool true):=rfl
@[simp] theorem Zr{i o:Nat}{g:Tg}{v:U}{a c:List U}:iz .eql (.iface true) (.iface i v) .aK=some (.bool false):=rfl
@[simp] theorem Z7{i o:Nat}{g:Tg}{v:U}{a c:List U}:iz .neq .aT (.ptr i o) .aT=some (.bool true):=rfl
@[simp] theorem X5{i o:Nat}{g:Tg}{v:U}{a c:List U}:iz .neq .aT (.dI c o) .aT=some (.bool true):=rfl
@[simp] theorem Ya{i o:Nat}{g:Tg}{v:U}{a c:List U}:iz .neq .aT (.cA g i o) .aT=some (.bool true):=rfl
@[simp] theorem Ye{i o:Nat}{g:Tg}{v:U}{a c:List U}:iz .neq .aT .aT .aT=some (.bool false):=rfl
@[simp] theorem YZ{i o:Nat}{g:Tg}{v:U}{a c:List U}:iz .neq .bK (.map i) .bK=some (.bool true):=rfl
@[simp] theorem Yd{i o:Nat}{g:Tg}{v:U}{a c:List U}:iz .neq .bK .bK .bK=some (.bool false):=rfl
@[simp] theorem XR{i o:Nat}{g:Tg}{v:U}{a c:List U}:iz .neq .cZ (.func i a c) .cZ=some (.bool true):=rfl
@[simp] theorem XS{i o:Nat}{g:Tg}{v:U}{a c:List U}:iz .neq .cZ .cZ .cZ=some (.bool false):=rfl
@[simp] theorem Xa{i o:Nat}{g:Tg}{v:U}{a c:List U}:iz .neq (.iface false) (.iface i v) .aK=some (.bool true):=rfl
@[simp] theorem X1{i o:Nat}{g:Tg}{v:U}{a c:List U}:iz .neq (.iface false) .aK .aK=some (.bool false):=rfl
@[simp] theorem ZF{i o:Nat}{g:Tg}{v:U}{a c:List U}:iz .neq (.iface true) (.iface i v) .aK=some (.bool true):=rfl
@[simp] theorem XV(x y:Bool):iz .eql .bool (.bool x) (.bool y)=some (.bool (x==y)):=rfl
@[simp] theorem XN(x y:Bool):iz .neq .bool (.bool x) (.bool y)=some (.bool (!(x==y))):=rfl
def qaK(r:Option Bool):Option U:=match r with|some b=>some (.bool b)|none=>none
def qbu(r:Option Bool):Option U:=match r with|some b=>some (.bool (!b))|none=>none
@[simp] theorem qex(b:Bool):qaK (some b)=some (.bool b):=rfl
@[simp] theorem qcJ(b:Bool):qbu (some b)=some (.bool (!b)):=rfl
@[simp] theorem XM(ks:List (Nat×fD))(x y:List U):iz .eql (.flat ks) (.agg x) (.agg y)=qaK (gN ks x y):=rfl
@[simp] theorem XZ(ks:List (Nat×fD))(x y:List U):iz .neq (.flat ks) (.agg x) (.agg y)=qbu (gN ks x y):=rfl
@[simp] theorem qdC(cs:List U)(off:Nat):gv none cs off=(cs[off]?).bind fun v=>bif v.ve then some v else none:=by
 simp only[gv];cases cs[off]? <;>rfl
@[simp] theorem qeE(n:Nat)(cs:List U)(off:Nat):gv (some n) cs off=bif Nat.ble (off+n) cs.length&&((cs.drop off).take n).all U.ve then some (.agg ((cs.drop off).take n))else none:=rfl
def SR(i off:Nat):U→Option U
 | .dD w xs=>some (.own (.c i off) w xs)
 |v=>bif v.ve then some v else none
attribute [simp] SR
@[simp] theorem qd0(i:Nat)(cs:List U)(off:Nat):mN i none cs off=(cs[off]?).bind (SR i off):=by
 simp only[mN];cases h:cs[off]? with
 |none=>simp[gv,h]
 |some v=>cases v<;>simp[gv,h,SR]
@[simp] theorem qev(i n:Nat)(cs:List U)(off:Nat):mN i (some n) cs off=gv (some n) cs off:=rfl
def qb6(t:Nat)(ts:List Nat)(e:Env):Option U→Env
 |some (.own (.t g) w xs)=>(t,.own (.t t) w xs)::eg ts (Env.kill (.t g) e)
 |some (.own .r w xs)=>(t,.own (.t t) w xs)::eg ts (Env.kill .r e)
 |some (.cA (.t _) _ _)=>(t,.bad)::eg ts e
 |some (.cA .r _ _)=>(t,.bad)::eg ts e
 |some v=>(t,v)::eg ts e
 |none=>eg ts e
attribute [simp] qb6
@[simp] theorem qfL(e:Env):eg [] e=[]:=rfl
@[simp] theorem qdq(t:Nat)(ts:List Nat)(e:Env):eg (t::ts) e=qb6 t ts e (look e t):=by
 simp only[eg];cases look e t with
 |none=>rfl
 |some v=>
  cases v with
  |own g w xs=>cases g<;>rfl
  |cA g i f=>cases g<;>rfl
  |_=>rfl
attribute [simp] HM
theorem N2{fl:Nat}{h l:List Uo}(hf:fl≤h.length):cut h.length fl (h++l)=h:=by
 unfold cut;rw[Nat.max_eq_left hf];simp
theorem b9{fl:Nat}{h:List Uo}(hf:fl≤h.length):cut h.length fl h=h:=by
 unfold cut;rw[Nat.max_eq_left hf];simp
@[simp] theorem qjx(n fl:Nat):cut n fl []=[]:=by simp[cut]
@[simp] theorem qhb(h:List Uo):cut 0 0 h=[]:=by simp[cut]
@[simp] theorem qjM(a:Uo)(r:List Uo):cut 1 0 (a::r)=[a]:=by simp[cut]
@[simp] theorem qjQ(a b:Uo)(r:List Uo):cut 2 0 (a::b::r)=[a,b]:=by simp[cut]
@[simp] theorem qfn(a b c:Uo)(r:List Uo):cut 3 0 (a::b::c::r)=[a,b,c]:=by simp[cut]
@[simp] theorem qiL(a b c d:Uo)(r:List Uo):cut 4 0 (a::b::c::d::r)=[a,b,c,d]:=by simp[cut]
@[simp] theorem qgy(s:Vs)(w:Nat)(g:Tg)(xs:List (List U)):vz s w false (.own g w xs)=some xs:=by simp[vz,rowsOf]
@[simp] theorem qjL(s:Vs)(w:Nat)(xs:List (List U)):vz s w false (.sl w xs)=some xs:=by simp[vz,rowsOf]
@[simp] theorem qid(s:Vs)(b:List UInt8):vz s 1 true (.str b)=some (az b):=by simp[vz]
@[simp] theorem qjV(d:Nat)(s:Vs)(w bytes:Nat)(ys:List (List U))(g:Tg)(xs:List (List U)):apV d s w bytes ys (.own g w xs)=bif Nat.ble ((xs.length+ys.length)*bytes) aW&&Nat.ble (xs.length+ys.length) aW&&ys.all (fun r=>r.all U.aL&&U.bX 0 r&&Nat.beq r.length w)then
      some (.own (.t d) w (xs++ys),(s.kill g).kill (.t d))else none:=by simp[apV]
@[simp] theorem qqE(d:Nat)(s:Vs)(w bytes:Nat)(ys:List (List U)):apV d s w bytes ys (.nl w)=bif Nat.ble (ys.length*bytes) aW&&Nat.ble ys.length aW&&ys.all (fun r=>r.all U.aL&&U.bX 0 r&&Nat.beq r.length w)then
      some (.own (.t d) w ys,(s.kill .r).kill (.t d))else none:=by simp[apV]
@[simp] theorem qlF(s:Vs)(g:Tg)(w:Nat)(xs:List (List U)):JX s 1 (.own g w xs)=some (.int .i64 xs.length,s):=rfl
def WQ(n:Nat)(fl:Nat)(h:List Uo)(e:Env):Bool→Vs
 |true=>⟨e,cut n fl h,fl⟩
 |false=>⟨e,h,fl⟩
@[simp] theorem qdA(n fl:Nat)(h:List Uo)(e:Env):WQ n fl h e true=⟨e,cut n fl h,fl⟩:=rfl
@[simp] theorem qbW(n fl:Nat)(h:List Uo)(e:Env):WQ n fl h e false=⟨e,h,fl⟩:=rfl
@[simp] theorem qjO(L:List Nat)(n:Nat)(e:Env)(h:List Uo)(fl:Nat):keep L n ⟨e,h,fl⟩=WQ n fl h (eg L e) (HM n (eg L e)):=by
 simp only[keep];cases HM n (eg L e)<;>rfl
attribute [simp] U.oh tn
def qdn(s:Vs)(i off:Nat)(n:Option Nat):Uo→Option U
 | .row cs=>mN i n cs off
 |_=>none
@[simp] theorem qjf(s:Vs)(i off:Nat)(n:Option Nat)(cs:List U):qdn s i off n (.row cs)=mN i n cs off:=rfl
def qc7(s:Vs)(n:Option Nat):U→Option U
 | .ptr i off=>(s.h[i]?).bind (qdn s i off n)
 |_=>none
@[simp] theorem qiF(s:Vs)(n:Option Nat)(i off:Nat):qc7 s n (.ptr i off)=(s.h[i]?).bind (qdn s i off n):=rfl
@[simp] theorem qk3(s:Vs)(n:Nat):Io s (.t n)=look s.e n:=rfl
@[simp] theorem qfh(s:Vs)(a:Nat)(n:Option Nat):Io s (.cell a n)=(look s.e a).bind (qc7 s n):=by
 simp only[Io];cases look s.e a with
 |none=>rfl
 |some v=>
  cases v with
  |ptr i off=>
   simp only[Option.bind,qc7];cases s.h[i]? with
   |none=>rfl
   |some o=>cases o<;>rfl
  |_=>rfl
@[simp] theorem qeW(s:Vs):qJ s []=some []:=rfl
@[simp] theorem qdb(s:Vs)(r:uH)(rs:List uH):qJ s (r::rs)=AX (Io s r) (qJ s rs):=by
 simp only[qJ];cases Io s r<;>simp only[AX];cases qJ s rs<;>simp only[AX]
def W8(n:Nat)(s:Vs):Option U→Option (U×List Uo×Nat)
 |some r=>some (r,bif r.low n then cut n s.fl s.h else s.h,s.fl)
 |none=>none
@[simp] theorem qeu(n:Nat)(s:Vs)(r:U):W8 n s (some r)=some (r,bif r.low n then cut n s.fl s.h else s.h,s.fl):=rfl
def GW(n:Nat)(own:Bool)(s:Vs):Option (List U)→Option (U×List Uo×Nat)
 |some us=>some (.aP us,bif U.bX n us then cut n s.fl s.h else bif own then s.h else EP n s.h,s.fl)
 |none=>none
@[simp] theorem qeO(n:Nat)(own:Bool)(s:Vs)(us:List U):GW n own s (some us)=some (.aP us,bif U.bX n us then cut n s.fl s.h else bif own then s.h else EP n s.h,s.fl):=rfl
def L7(n:Nat)(own:Bool)(s:Vs):Option (List U)→Option (U×List Uo×Nat)
 |some [v]=>W8 n s (v.oh own)
 |some vs=>GW n own s (tn false vs)
 |none=>none
@[simp] theorem qiO(n:Nat)(own:Bool)(s:Vs):L7 n own s (some [])=GW n own s (tn false []):=rfl
@[simp] theorem qgC(n:Nat)(own:Bool)(s:Vs)(v:U):L7 n own s (some [v])=W8 n s (v.oh own):=rfl
@[simp] theorem qhR(n:Nat)(own:Bool)(s:Vs)(v w:U)(r:List U):L7 n own s (some (v::w::r))=GW n own s (tn false (v::w::r)):=rfl
@[simp] theorem qjK(n:Nat)(fn:aA)(s:Vs):Cq n fn s=L7 n fn.own s (qJ s fn.results):=by
 unfold Cq;cases qJ s fn.results with
 |none=>rfl
 |some vs=>
  cases vs with
  |nil=>simp[L7,GW]
  |cons v r=>
   cases r with
   |nil=>simp only[L7];cases v.oh fn.own<;>rfl
   |cons w r=>simp only[L7];cases tn false (v::w::r)<;>rfl
section
variable{VF:Nat→Option aA}{M:eA}{Q:fq}{Pm:gU}{fn:aA}{s:Vs}{K:Ex→Vs→Prop}
@[simp] theorem qbQ{b:ag}:l9 VF M Q Pm fn b K .normal s=gC VF M Q Pm fn b s K:=rfl
@[simp] theorem qfI{b:ag}{i:Nat}:l9 VF M Q Pm fn b K (.exit i) s=K (.exit i) s:=rfl
@[simp] theorem qhJ{b:ag}:l9 VF M Q Pm fn b K .ret s=K .ret s:=rfl
attribute [simp] qcB
@[simp] theorem qfP:iH K (some s)=K .normal s:=rfl
@[simp] theorem qfz:iH K none=False:=rfl
attribute [simp] PY
@[simp] theorem qh8{F:FU}:k9 M Q F s K []=K .normal s:=rfl
@[simp] theorem ql7{F:FU}{d:Option Nat}{o:ga}{g:Option (Nat×Bool)}{p:Nat}{r:List aH}:k9 M Q F s K (⟨d,(.s o),g,p⟩::r)=iH K (gw M Q F (⟨d,(.s o),g,p⟩::r) s):=rfl
@[simp] theorem qlu{F:FU}{d:Option Nat}{o:Gb}{g:Option (Nat×Bool)}{p:Nat}{r:List aH}:k9 M Q F s K (⟨d,(.m o),g,p⟩::r)=iH K (gw M Q F (⟨d,(.m o),g,p⟩::r) s):=rfl
@[simp] theorem qkG{F:FU}{d:Option Nat}{o:xL}{g:Option (Nat×Bool)}{p:Nat}{r:List aH}:k9 M Q F s K (⟨d,(.h o),g,p⟩::r)=iH K (gw M Q F (⟨d,(.h o),g,p⟩::r) s):=rfl
@[simp] theorem qfS{F:FU}{d:Option Nat}{f:bB}{a:List bB}{g:Option (Nat×Bool)}{p:Nat}{r:List aH}:k9 M Q F s K (⟨d,.call f a,g,p⟩::r)=iH K (gw M Q F (⟨d,.call f a,g,p⟩::r) s):=rfl
@[simp] theorem qa9{F:FU}{d:Option Nat}{n:String}{x:bB}{a:List bB}{g:Option (Nat×Bool)}{p:Nat}{r:List aH}:k9 M Q F s K (⟨d,.invoke n x a,g,p⟩::r)=iH K (gw M Q F (⟨d,.invoke n x a,g,p⟩::r) s):=rfl
@[simp] theorem qfm{F:FU}{d:Option Nat}{x:bB}{p:Nat}{r:List aH}:k9 M Q F s K (⟨d,.next x,none,p⟩::r)=gz s d x (fun t=>iH K (gw M Q F r t)):=rfl
theorem bn{ops:List aH}{l:List Step}(h:sched (ops.length+1) (aC ops 0) 0=some l):gC VF M Q Pm fn (.draw ops) s K=iH K (b7 M Q (gF VF M Q Pm) l s []):=by rw[YL,h];rfl
@[simp] theorem qeB{a b:ag}{t:Bool}:RP VF M Q Pm fn a b s K (some (.bool t))=if t=true then gC VF M Q Pm fn a s K else gC VF M Q Pm fn b s K:=by cases t<;>rfl
attribute [simp] ZI qaa
@[simp] theorem qft{id n:Nat}:kB fn id n K .normal s=K .normal (keep (fn.tail id) n s):=rfl
@[simp] theorem qkn{id n:Nat}:kB fn id n K .ret s=K .ret s:=rfl
@[simp] theorem YD{id n i:Nat}:kB fn id n K (.exit i) s=if i=id then K .normal (keep (fn.tail id) n s)else K (.exit i) s:=by
 simp only[kB];by_cases h:i=id
 ·subst h;simp
 ·rw[if_neg h];have:Nat.beq i id=false:=by
   cases hb:Nat.beq i id with
   |false=>rfl
   |true=>exact absurd (bS hb) h
  rw[this];rfl
@[simp] theorem qbx{id k:Nat}{b:ag}:qan VF M Q Pm fn id b k K .normal s=gL VF M Q Pm fn id b k (keep (fn.head id) k s) K:=rfl
@[simp] theorem qhn{id k:Nat}{b:ag}:qan VF M Q Pm fn id b k K .ret s=K .ret s:=rfl
@[simp] theorem qfT{id k i:Nat}{b:ag}:qan VF M Q Pm fn id b k K (.exit i) s=if i=id then K .normal (keep (fn.tail id) k s)else K (.exit i) s:=YD
@[simp] theorem ZV{id:Nat}{a b:ag}:gC VF M Q Pm fn (.block id (.seq a b)) s K=gC VF M Q Pm fn (.seq a b) s (kB fn id s.h.length K):=zw rfl
@[simp] theorem Qr{id:Nat}{l:List aH}:gC VF M Q Pm fn (.block id (.region l)) s K=gC VF M Q Pm fn (.region l) s (kB fn id s.h.length K):=zw rfl
@[simp] theorem TQ{id:Nat}{i:Nat}{a:ag}:gC VF M Q Pm fn (.block id (.block i a)) s K=gC VF M Q Pm fn (.block i a) s (kB fn id s.h.length K):=zw rfl
@[simp] theorem qkl{k:Nat}{R:U×List Uo×Nat}:kE k fn R .ret s=(Cq k fn s=some R):=rfl
@[simp] theorem qfC{k:Nat}{R:U×List Uo×Nat}:kE k fn R .normal s=(Cq k fn s=some R):=rfl
end
section
variable{M:eA}{Q:fq}{F:FU}
def smS(M:eA)(Q:fq)(F:FU)(r:List Step)(dst:Option Nat)(recs:List (Nat×Rk))(i:Nat)(op:ga)(s0:Vs):Option (U×Vs)→Option Vs
 |some (v,t)=>b7 M Q F r ⟨jD dst v t.e,t.h,t.fl⟩ (bif op.impure then(i,tw s0 op v)::recs else recs)
 |none=>none
@[simp] theorem qip(r:List Step)(dst:Option Nat)(recs:List (Nat×Rk))(i:Nat)(op:ga)(s0:Vs)(v:U)(t:Vs):smS M Q F r dst recs i op s0 (some (v,t))=b7 M Q F r ⟨jD dst v t.e,t.h,t.fl⟩ (bif op.impure then(i,tw s0 op v)::recs else recs):=rfl
def smM(M:eA)(Q:fq)(F:FU)(r:List Step)(dst:Option Nat)(recs:List (Nat×Rk)):Option (U×Vs)→Option Vs
 |some (v,t)=>b7 M Q F r ⟨jD dst v t.e,t.h,t.fl⟩ recs
 |none=>none
@[simp] theorem qhy(r:List Step)(dst:Option Nat)(recs:List (Nat×Rk))(v:U)(t:Vs):smM M Q F r dst recs (some (v,t))=b7 M Q F r ⟨jD dst v t.e,t.h,t.fl⟩ recs:=rfl
def bgF(M:eA)(Q:fq)(F:FU)(r:List Step)(dst:Option Nat)(recs:List (Nat×Rk))(p:Nat)(v:U)(t:Vs):Bool→Option Vs
 |true=>b7 M Q F r ⟨jD dst v t.e,t.h,t.fl⟩ (fM p recs)
 |false=>none
@[simp] theorem qiv(r:List Step)(dst:Option Nat)(recs:List (Nat×Rk))(p:Nat)(v:U)(t:Vs):bgF M Q F r dst recs p v t true=b7 M Q F r ⟨jD dst v t.e,t.h,t.fl⟩ (fM p recs):=rfl
def bgT(M:eA)(Q:fq)(F:FU)(r:List Step)(dst:Option Nat)(recs:List (Nat×Rk))(p:Nat)(s:Vs)(op:lH)(v:U)(t:Vs):Bool→Option Vs
 |true=>b7 M Q F r ⟨jD dst v t.e,t.h,t.fl⟩ (fM p recs)
 |false=>bgF M Q F r dst recs p v t (gG M Q F s t op p recs)
@[simp] theorem qiu(r:List Step)(dst:Option Nat)(recs:List (Nat×Rk))(p:Nat)(s:Vs)(op:lH)(v:U)(t:Vs):bgT M Q F r dst recs p s op v t true=b7 M Q F r ⟨jD dst v t.e,t.h,t.fl⟩ (fM p recs):=rfl
@[simp] theorem qfJ(r:List Step)(dst:Option Nat)(recs:List (Nat×Rk))(p:Nat)(s:Vs)(op:lH)(v:U)(t:Vs):bgT M Q F r dst recs p s op v t false=bgF M Q F r dst recs p v t (gG M Q F s t op p recs):=rfl
def bgS(M:eA)(Q:fq)(F:FU)(r:List Step)(dst:Option Nat)(recs:List (Nat×Rk))(p:Nat)(s:Vs)(op:lH)(quiet:Bool):Option (U×Vs)→Option Vs
 |some (v,t)=>bgT M Q F r dst recs p s op v t (quiet||p7 t p recs)
 |none=>none
@[simp] theorem qiM(r:List Step)(dst:Option Nat)(recs:List (Nat×Rk))(p:Nat)(s:Vs)(op:lH)(quiet:Bool)(v:U)(t:Vs):bgS M Q F r dst recs p s op quiet (some (v,t))=bgT M Q F r dst recs p s op v t (quiet||p7 t p recs):=rfl
def stG(M:eA)(Q:fq)(F:FU)(aW:Bool)(i:Nat)(dst:Option Nat)(op:lH)(p:Nat)(r:List Step)(s:Vs)(recs:List (Nat×Rk)):Option Bool→Option Vs
 |some true=>(match aW,op with
  |true,op=>bgS M Q F r dst recs p s op (gH Q s op) (lg M Q F s dst op)
  |false,.s o=>smS M Q F r dst recs i o s (lg M Q F s dst (.s o))
  |false,.m o=>smM M Q F r dst recs (lg M Q F s dst (.m o))
  |_,_=>none)
 |some false=>b7 M Q F r ⟨jD dst (.aP []) s.e,s.h,s.fl⟩ recs
 |none=>none
section
variable(i:Nat)(dst:Option Nat)(p:Nat)(r:List Step)(s:Vs)(recs:List (Nat×Rk))
@[simp] theorem qj0(op:lH):stG M Q F true i dst op p r s recs (some true)=bgS M Q F r dst recs p s op (gH Q s op) (lg M Q F s dst op):=rfl
@[simp] theorem qmJ(o:ga):stG M Q F false i dst (.s o) p r s recs (some true)=smS M Q F r dst recs i o s (lg M Q F s dst (.s o)):=rfl
@[simp] theorem qmK(o:Gb):stG M Q F false i dst (.m o) p r s recs (some true)=smM M Q F r dst recs (lg M Q F s dst (.m o)):=rfl
@[simp] theorem qeY(b:Bool)(op:lH):stG M Q F b i dst op p r s recs (some false)=b7 M Q F r ⟨jD dst (.aP []) s.e,s.h,s.fl⟩ recs:=rfl
@[simp] theorem qdL:b7 M Q F [] s recs=some s:=rfl
@[simp] theorem qcW(op:lH)(g:Option (Nat×Bool)):b7 M Q F (.aW i ⟨dst,op,g,p⟩::r) s recs=stG M Q F true i dst op p r s recs (iJ g s.e):=by
 simp only[b7];cases iJ g s.e with
 |none=>rfl
 |some b=>
  cases b with
  |false=>rfl
  |true=>
   simp only[stG];cases lg M Q F s dst op with
   |none=>rfl
   |some x=>
    obtain⟨v,t⟩:=x;simp only[bgS];generalize (gH Q s op||p7 t p recs)=b;cases b with
    |true=>rfl
    |false=>
     simp only[Bool.false_or,bgT];cases gG M Q F s t op p recs<;>rfl
@[simp] theorem qar(op:lH)(g:Option (Nat×Bool)):b7 M Q F (.small i ⟨dst,op,g,p⟩::r) s recs=stG M Q F false i dst op p r s recs (iJ g s.e):=by
 simp only[b7];cases iJ g s.e with
 |none=>rfl
 |some b=>
  cases b with
  |false=>rfl
  |true=>
   simp only[stG];cases op with
   |s o=>simp only;cases lg M Q F s dst (.s o)<;>rfl
   |m o=>simp only;cases lg M Q F s dst (.m o)<;>rfl
   |h o=>simp only;cases lg M Q F s dst (.h o)<;>rfl
   |call f a=>simp only;cases lg M Q F s dst (.call f a)<;>rfl
   |invoke n x a=>simp only;cases lg M Q F s dst (.invoke n x a)<;>rfl
   |next x=>simp only;cases lg M Q F s dst (.next x)<;>rfl
   |bad=>simp only;cases lg M Q F s dst .bad<;>rfl
end
attribute [simp] ga.impure p7 fM gH tw
def clH(F:FU)(f:Nat)(args:List U)(s:Vs)(hid:List Nat):Option (List U)→Bool
 |some us=>(F f us (gm hid (bp args s).h) (bp args s).fl).isSome
 |none=>false
@[simp] theorem qiW(f:Nat)(args us:List U)(s:Vs)(hid:List Nat):clH F f args s hid (some us)=(F f us (gm hid (bp args s).h) (bp args s).fl).isSome:=rfl
@[simp] theorem qil(f:Nat)(args:List U)(s:Vs)(hid:List Nat):mT F f args s hid=clH F f args s hid (kj args):=by unfold mT;cases kj args<;>rfl
def frQ(F:FU)(s:Vs)(hid:List Nat)(f:Nat)(args:List U):Option (List (List U)→List U→Option (List (List U)))→Bool
 |none=>mT F f args s hid
 |some _=>false
@[simp] theorem qi5(s:Vs)(hid:List Nat)(f:Nat)(args:List U):frQ F s hid f args none=mT F f args s hid:=rfl
def frC(Q:fq)(F:FU)(s:Vs)(hid:List Nat):Option U→Option (List U)→Bool
 |some (.func f a b),some vs=>frQ F s hid f (a++vs++b) (Q f)
 |_,_=>false
@[simp] theorem qji(s:Vs)(hid:List Nat)(f:Nat)(a b vs:List U):frC Q F s hid (some (.func f a b)) (some vs)=frQ F s hid f (a++vs++b) (Q f):=rfl
def frM(F:FU)(s:Vs)(hid:List Nat)(args:List U):Option Nat→Bool
 |some f=>mT F f args s hid
 |none=>false
@[simp] theorem qjh(s:Vs)(hid:List Nat)(f:Nat)(args:List U):frM F s hid args (some f)=mT F f args s hid:=rfl
def frI(M:eA)(F:FU)(s:Vs)(hid:List Nat)(name:String):Option U→Option (List U)→Bool
 |some (.iface t v),some vs=>frM F s hid (v::vs) (M t name)
 |_,_=>false
@[simp] theorem qjr(s:Vs)(hid:List Nat)(name:String)(t:Nat)(v:U)(vs:List U):frI M F s hid name (some (.iface t v)) (some vs)=frM F s hid (v::vs) (M t name):=rfl
def frH(M:eA)(Q:fq)(F:FU)(s:Vs)(op:lH):Option (List Nat)→Bool
 |some hid=>(match op with
  | .call f args=>frC Q F s hid (ck s.e f) (jE s.e args)
  | .invoke name x args=>frI M F s hid name (ck s.e x) (jE s.e args)
  |_=>false)
 |none=>false
@[simp] theorem qf8(s:Vs)(f:bB)(args:List bB)(hid:List Nat):frH M Q F s (.call f args) (some hid)=frC Q F s hid (ck s.e f) (jE s.e args):=rfl
@[simp] theorem qdr(s:Vs)(name:String)(x:bB)(args:List bB)(hid:List Nat):frH M Q F s (.invoke name x args) (some hid)=frI M F s hid name (ck s.e x) (jE s.e args):=rfl
@[simp] theorem qe2(s t:Vs)(op:lH)(p:Nat)(recs:List (Nat×Rk)):gG M Q F s t op p recs=frH M Q F s op (pS t p recs):=by
 unfold gG;cases pS t p recs with
 |none=>rfl
 |some hid=>
  cases op with
  |call f args=>
   simp only[frH];cases ck s.e f with
   |none=>rfl
   |some v=>
    cases v with
    |func g a b=>
     cases jE s.e args with
     |none=>rfl
     |some vs=>simp only[frC];cases Q g<;>rfl
    |_=>rfl
  |invoke name x args=>
   simp only[frH];cases ck s.e x with
   |none=>rfl
   |some v=>
    cases v with
    |iface t v=>
     cases jE s.e args with
     |none=>rfl
     |some vs=>simp only[frI];cases M t name<;>rfl
    |_=>rfl
  |_=>rfl
def qeg(j:Nat):Option (List Nat)→Option (List Nat)
 |some l=>some (j::l)
 |none=>none
@[simp] theorem qfl(j:Nat)(l:List Nat):qeg j (some l)=some (j::l):=rfl
def qaq(s:Vs)(p:Nat)(rest:List (Nat×Rk))(r:Rk):Bool→Option (List Nat)
 |true=>pS s p rest
 |false=>(match r with
  | .ld j _ _ _=>qeg j (pS s p rest)
  |_=>none)
@[simp] theorem qff(s:Vs)(p:Nat)(rest:List (Nat×Rk))(r:Rk):qaq s p rest r true=pS s p rest:=rfl
@[simp] theorem qjY(s:Vs)(p:Nat)(rest:List (Nat×Rk))(j:Nat)(n:Option Nat)(off:Nat)(u:U):qaq s p rest (.ld j n off u) false=qeg j (pS s p rest):=rfl
@[simp] theorem qin(s:Vs)(p:Nat):pS s p []=some []:=rfl
@[simp] theorem qfw(s:Vs)(p i:Nat)(r:Rk)(rest:List (Nat×Rk)):pS s p ((i,r)::rest)=qaq s p rest r (Nat.testBit p i||r.holds s):=by
 simp only[pS];generalize (Nat.testBit p i||r.holds s)=b;cases b with
 |true=>rfl
 |false=>
  cases r with
  |ld j n off u=>simp only[cond_false,qaq];cases pS s p rest<;>rfl
  |_=>rfl
@[simp] theorem qbB(h:List Uo):gm [] h=h:=rfl
@[simp] theorem YY(j:Nat)(l:List Nat)(h:List Uo):gm (j::l) h=gm l (h.set j .gone):=rfl
def Td(u:U):Option U→Bool
 |some u' =>U.same u u'
 |none=>false
@[simp] theorem qdv(u u' :U):Td u (some u')=U.same u u' :=rfl
def Uc(i:Nat)(n:Option Nat)(off:Nat)(u:U):Option Uo→Bool
 |some (.row cs)=>Td u (mN i n cs off)
 |_=>false
@[simp] theorem qfx(i:Nat)(n:Option Nat)(off:Nat)(u:U)(cs:List U):Uc i n off u (some (.row cs))=Td u (mN i n cs off):=rfl
@[simp] theorem qgo(s:Vs):Rk.holds s .ok=true:=rfl
@[simp] theorem qhm(s:Vs):Rk.holds s .no=false:=rfl
@[simp] theorem qhc(s:Vs)(i:Nat)(n:Option Nat)(off:Nat)(u:U):Rk.holds s (.ld i n off u)=Uc i n off u s.h[i]? :=by
 simp only[Rk.holds];cases s.h[i]? with
 |none=>rfl
 |some o=>
  cases o with
  |row cs=>simp only[Uc];cases mN i n cs off<;>rfl
  |_=>rfl
@[simp] theorem qfO(a b:Bool):U.same (.bool a) (.bool b)=(a==b):=by simp only[U.same]
@[simp] theorem qhT(j k:IntKind)(a b:Int):U.same (.int j a) (.int k b)=(decide (j=k)&&decide (a=b)):=by simp only[U.same]
@[simp] theorem qhh(a b:List UInt8):U.same (.str a) (.str b)=(a==b):=by simp only[U.same]
@[simp] theorem qqo(i o j p:Nat):U.same (.ptr i o) (.ptr j p)=(decide (i=j)&&decide (o=p)):=by simp only[U.same,H6]
@[simp] theorem qjd(i j:Nat):U.same (.map i) (.map j)=decide (i=j):=by simp only[U.same,H6]
@[simp] theorem qj7(w:Nat)(xs:List (List U))(u:U):U.same (.sl w xs) u=false:=by cases u<;>simp[U.same]
@[simp] theorem qhD(a b:List U):U.same (.agg a) (.agg b)=U.mQ a b:=by simp only[U.same]
@[simp] theorem qfV:U.mQ [] []=true:=by simp only[U.mQ]
@[simp] theorem qdM(a b:U)(x y:List U):U.mQ (a::x) (b::y)=(U.same a b&&U.mQ x y):=by simp only[U.mQ]
end
end Go.RE
