/- A part of a proof. -/
import Derived.Test.YtmpopachilfinaaGreatPart3
set_option linter.unusedVariables false
set_option linter.unusedSimpArgs false
set_option linter.constructorNameAsVariable false
namespace Go.RE
inductive Tg where
 |t (n:Nat)
 |c (i off:Nat)
 |r
 |a
deriving DecidableEq,Inhabited
inductive U where
 |bad
 |bool (b:Bool)
 |int (k:IntKind) (n:Int)
 |str (s:List UInt8)
 |br
 |bB
 |bS
 |dJ
 |di
 |ptr (i off:Nat)
 |eR (row:List U) (off:Nat)
 |sl (w:Nat) (xs:List (List U))
 |nl (w:Nat) -- nothing:nil,or without room
 |own (g:Tg) (w:Nat) (xs:List (List U))
 |bJ (w:Nat) (xs:List (List U))
 |bI (g:Tg) (i f:Nat)
 |zw (i off len w:Nat)
 |view (g:Tg) (lo len w:Nat) -- a part of a slice of one's own,to be read
 |dB -- a cell whose slice is in use behind the call
 |map (i:Nat)
 |func (f:Nat) (first captured:List U)
 |iface (t:Nat) (v:U)
 |agg (cs:List U)
 |aZ (vs:List U)
deriving Inhabited
inductive Uo where
 |row (cs:List U)
 |map (es:List (U×U×Nat)) (clock:Nat)
 |iter (m:Option Nat) (since:Nat) (seen:List Nat) (last:Nat)
 |gone
deriving Inhabited
abbrev Pms:=Nat→Option (List U→List Uo→Nat→Option (U×List Uo×Nat))
abbrev qn:=Nat→String→Option Nat
abbrev Env:=List (Nat×U)
structure Vs where
 e:Env
 h:List Uo
 fl:Nat
deriving Inhabited
def U.aL:U→Bool
 | .bad=>false
 | .own .. =>false
 | .bJ .. =>false
 | .bI .. =>false
 | .zw .. =>false
 | .view .. =>false
 | .dB=>false
 | .agg _=>false
 | .aZ _=>false
 |_=>true
mutual
def V.nj:V→U
 | .bool b=> .bool b
 | .int k n=> .int k n
 | .str s=> .str s
 | .br=> .br
 | .bB=> .bB
 | .bS=> .bS
 | .dJ=> .dJ
 | .di=> .di
 | .ah [] 0 0 w=> .sl w []
 | .ah [] 1 0 w=> .own .r w []
 | .ah [] 2 0 w=> .bJ w []
 | .ah [] 3 0 w=> .nl w
 | .func f a b=>bif(V.dF a).all U.aL&&(V.dF b).all U.aL then .func f (V.dF a) (V.dF b)else .bad
 | .iface t v=>bif v.nj.aL then .iface t v.nj else .bad
 | .agg cs=>bif(V.dF cs).all U.aL then .agg (V.dF cs)else .bad
 | .aZ cs=>bif(V.dF cs).all U.aL then .aZ (V.dF cs)else .bad
 |_=> .bad
def V.dF:List V→List U
 |[]=>[]
 |v::vs=>v.nj::V.dF vs
end
def V.GG(v:V):Option U:=
 match v.nj with
 | .bad=>none
 | .own .. =>none
 | .bJ .. =>none
 |u=>some u
def U.o8:U→Bool
 | .bJ _ _=>true
 |_=>false
mutual
def V.er:V→V
 | .ah [] _ 0 _=> .bB
 | .func f a b=> .func f (V.As a) (V.As b)
 | .iface t v=> .iface t v.er
 | .agg cs=> .agg (V.As cs)
 | .aZ cs=> .aZ (V.As cs)
 |v=>v
def V.As:List V→List V
 |[]=>[]
 |v::vs=>v.er::V.As vs
end
def bO.er:bO→bO
 | .t n=> .t n
 | .c v=> .c v.er
def wu:List (Nat×Nat×bO)→List (Nat×Nat×bO)
 |[]=>[]
 |(a,b,x)::r=>(a,b,x.er)::wu r
def bL:Option bO→Option bO
 |none=>none
 |some x=>some x.er
def nX:List bO→List bO
 |[]=>[]
 |x::r=>x.er::nX r
def gv.er:gv→gv
 | .bn x=> .bn x.er
 | .pick c a b=> .pick c.er a.er b.er
 | .load n x=> .load n x.er
 | .nilCheck x=> .nilCheck x.er
 | .bin op ek x y=> .bin op ek x.er y.er
 | .un op x=> .un op x.er
 | .eP k x=> .eP k x.er
 | .uV x=> .uV x.er
 | .toStr x=> .toStr x.er
 | .oJ t x=> .oJ t x.er
 | .jK f a b=> .jK f (nX a) (nX b)
 | .build z p=> .build (V.As z) (wu p)
 | .oh x lo hi=> .oh x.er (bL lo) (bL hi)
 | .slice sz x lo hi mx=> .slice sz x.er (bL lo) (bL hi) (bL mx)
 | .jw n sz x lo hi=> .jw n sz x.er (bL lo) (bL hi)
 | .fieldAddr off x=> .fieldAddr off x.er
 | .field off n x=> .field off n x.er
 | .indexAddr sz x i=> .indexAddr sz x.er i.er
 | .nI ln sz x i=> .nI ln sz x.er i.er
 | .index x i=> .index x.er i.er
 | .D0 n x i=> .D0 n x.er i.er
 | .lookup kk z ok x i=> .lookup kk z.er ok x.er i.er
 | .extract i x=> .extract i x.er
 | .len k x=> .len k x.er
 | .cap x=> .cap x.er
 | .max xs=> .max (nX xs)
 | .min xs=> .min (nX xs)
 | .nv t z x=> .nv t z.er x.er
 | .entry x=> .entry x.er
def Io.er:Io→Io
 | .alloc z=> .alloc (V.As z)
 | .box x=> .box x.er
 | .buildSlice sz len z p=> .buildSlice sz len (V.As z) (wu p)
 | .makeMap=> .makeMap
 | .makeSlice sz bytes z len cap=> .makeSlice sz bytes (V.As z) len.er cap.er
 | .mV x=> .mV x.er
def zv.er:zv→zv
 | .store n a x=> .store n a.er x.er
 | .mapUpdate kk m k x=> .mapUpdate kk m.er k.er x.er
 | .delete kk m k=> .delete kk m.er k.er
 | .append sz bytes str s x=> .append sz bytes str s.er x.er
 | .copy sz str d s=> .copy sz str d.er s.er
 | .clear sz z x=> .clear sz (V.As z) x.er
 | .range x=> .range x.er
def j7.er:j7→j7
 | .s o=> .s o.er
 | .m o=> .m o.er
 | .h o=> .h o.er
 | .call f args=> .call f.er (nX args)
 | .invoke name x args=> .invoke name x.er (nX args)
 | .next x=> .next x.er
 | .bad=> .bad
def aG.er(o:aG):aG:=⟨o.dst,o.op.er,o.guard,o.aT⟩
def fR:List aG→List aG
 |[]=>[]
 |o::r=>o.er::fR r
def aq.er:aq→aq
 | .skip=> .skip
 | .region ops=> .region (fR ops)
 | .draw ops=> .draw (fR ops)
 | .seq a b=> .seq a.er b.er
 | .cond c a b=> .cond c.er a.er b.er
 | .block id b=> .block id b.er
 | .loop b=> .loop b.er
 | .exit id=> .exit id
 | .ret=> .ret
 | .bad=> .bad
 | .wB n p=> .wB n p
mutual
def U.low(n:Nat):U→Bool
 | .ptr i _=>Nat.blt i n
 | .map i=>Nat.blt i n
 | .zw i _ _ _=>Nat.blt i n
 | .own (.c i _) _ _=>Nat.blt i n
 | .bI (.c i _) _ _=>Nat.blt i n
 | .view (.c i _) _ _ _=>Nat.blt i n
 | .func _ a b=>U.bZ n a&&U.bZ n b
 | .iface _ v=>v.low n
 | .agg cs=>U.bZ n cs
 | .aZ cs=>U.bZ n cs
 |_=>true
def U.bZ(n:Nat):List U→Bool
 |[]=>true
 |v::vs=>v.low n&&U.bZ n vs
end
mutual
def U.shift(k:Nat):U→U
 | .ptr i o=> .ptr (i+k) o
 | .map i=> .map (i+k)
 | .func f a b=> .func f (U.gi k a) (U.gi k b)
 | .iface t v=> .iface t (v.shift k)
 | .agg cs=> .agg (U.gi k cs)
 | .aZ cs=> .aZ (U.gi k cs)
 |v=>v
def U.gi(k:Nat):List U→List U
 |[]=>[]
 |v::vs=>v.shift k::U.gi k vs
end
mutual
def U.flat:U→Bool
 | .bool _=>true
 | .int _ _=>true
 | .str _=>true
 | .br=>true
 | .bB=>true
 | .bS=>true
 | .dJ=>true
 | .di=>true
 | .ptr _ _=>true
 | .map _=>true
 | .own _ _ xs=>U.kY xs
 | .iface _ v=>v.flat
 | .agg cs=>U.vY cs
 | .aZ cs=>U.vY cs
 |_=>false
def U.vY:List U→Bool
 |[]=>true
 |v::vs=>v.flat&&U.vY vs
def U.kY:List (List U)→Bool
 |[]=>true
 |v::vs=>U.vY v&&U.kY vs
end
def U.wo:U→Bool
 | .bJ .. =>false
 | .dB=>false
 | .bad=>false
 |_=>true
def U.cells:U→List U
 | .agg cs=>cs
 |v=>[v]
def U.Zk:U→Option (Nat×Nat)
 | .own (.c i off) _ _=>some (i,off)
 | .bI (.c i off) _ _=>some (i,off)
 | .view (.c i off) _ _ _=>some (i,off)
 |_=>none
def U.qdQ:U→Bool
 | .nl _=>true
 |_=>false
def U.NO:U→Bool
 | .own .. =>true
 |_=>false
def look:Env→Nat→Option U
 |[],_=>none
 |(k,v)::r,t=>bif Nat.beq k t then some v else look r t
def js(dst:Option Nat)(v:U)(e:Env):Env:=
 match dst with
 |some d=>(d,v)::e
 |none=>e
def U.kill(g:Tg):U→U
 | .own g' w xs=>if g' =g then .bad else .own g' w xs
 | .bI g' i f=>if g' =g then .bad else .bI g' i f
 | .view g' i l w=>if g' =g then .bad else .view g' i l w
 |v=>v
def Env.kill(g:Tg):Env→Env
 |[]=>[]
 |(k,v)::r=>(k,v.kill g)::Env.kill g r
def U.mS(g:Tg):U→U
 | .own g' w xs=>if g' =g then .sl w xs else .own g' w xs
 | .bI g' i f=>if g' =g then .bad else .bI g' i f
 | .view g' i l w=>if g' =g then .bad else .view g' i l w
 |v=>v
def Env.mS(g:Tg):Env→Env
 |[]=>[]
 |(k,v)::r=>(k,v.mS g)::Env.mS g r
def U.jg(g g2:Tg):U→U
 | .own g' w xs=>if g' =g then .own g2 w xs else .own g' w xs
 | .bI g' i f=>if g' =g then .bI g2 i f else .bI g' i f
 | .view g' i l w=>if g' =g then .view g2 i l w else .view g' i l w
 |v=>v
def Env.jg(g g2:Tg):Env→Env
 |[]=>[]
 |(k,v)::r=>(k,v.jg g g2)::Env.jg g g2 r
def U.fK(g:Tg)(ys:List (List U)):U→U
 | .own g' w xs=>if g' =g then .own g' w ys else .own g' w xs
 |v=>v
def Env.fK(g:Tg)(ys:List (List U)):Env→Env
 |[]=>[]
 |(k,v)::r=>(k,v.fK g ys)::Env.fK g ys r
def Tg.SC(i off n:Nat):Tg→Bool
 | .c j o=>Nat.beq j i&&Nat.ble off o&&Nat.blt o (off+n)
 |_=>false
def Tg.isC:Tg→Bool
 | .c _ _=>true
 |_=>false
def Tg.Jg:Tg→Bool
 | .c _ _=>true
 | .a=>true
 |_=>false
def U.bV(p:Tg→Bool):U→U
 | .own g w xs=>bif p g then .bad else .own g w xs
 | .bI g i f=>bif p g then .bad else .bI g i f
 | .view g i l w=>bif p g then .bad else .view g i l w
 |v=>v
def Env.bV(p:Tg→Bool):Env→Env
 |[]=>[]
 |(k,v)::r=>(k,v.bV p)::Env.bV p r
def Env.cw(g:Tg)(full:Env):Env→Option (Nat×List (List U))
 |[]=>none
 |(k,.own g' _ _)::r=>if g' =g then(match look full k with
  |some (.own g2 w xs)=>if g2=g then some (w,xs)else Env.cw g full r
  |_=>Env.cw g full r)else Env.cw g full r
 |_::r=>Env.cw g full r
def setCell(h:List Uo)(i off:Nat)(v:U):List Uo:=
 match h[i]? with
 |some (.row cs)=>h.set i (.row (cs.set off v))
 |_=>h
def Vs.mS(g:Tg)(s:Vs):Vs:=
 match g with
 | .c i off=>(match s.h[i]? with
  |some (.row cs)=>(match cs[off]? with
   |some (.bJ w xs)=>{s with e:=Env.mS g s.e,h:=s.h.set i (.row (cs.set off (.sl w xs)))}
   |_=>{s with e:=Env.kill g s.e})
  |_=>{s with e:=Env.kill g s.e})
 |g=>{s with e:=Env.mS g s.e}
def Vs.kill(g:Tg)(s:Vs):Vs:=
 match g with
 | .c i off=>{s with e:=Env.kill g s.e,h:=setCell s.h i off .bad}
 |g=>{s with e:=Env.kill g s.e}
def Vs.cw(g:Tg)(s:Vs):Option (Nat×List (List U)):=
 match g with
 | .c i off=>(match s.h[i]? with
  |some (.row cs)=>(match cs[off]? with
   |some (.bJ w xs)=>some (w,xs)
   |_=>none)
  |_=>none)
 |g=>Env.cw g s.e s.e
def Vs.fK(g:Tg)(w:Nat)(ys:List (List U))(s:Vs):Vs:=
 match g with
 | .c i off=>{s with e:=Env.fK g ys s.e,h:=setCell s.h i off (.bJ w ys)}
 |g=>{s with e:=Env.fK g ys s.e}
def esc(v:U)(s:Vs):Option (U×Vs):=
 match v with
 | .own .a _ _=>none
 | .own g w xs=>some (.sl w xs,s.mS g)
 | .bad=>none
 | .bJ .. =>none
 | .bI .. =>none
 | .zw .. =>none
 | .view .. =>none
 | .dB=>none
 | .aZ _=>none
 |v=>some (v,s)
def cA(e:Env):bO→Option U
 | .t n=>look e n
 | .c v=>some v.nj
def j4(e:Env):List bO→Option (List U)
 |[]=>some []
 |x::r=>match cA e x with
  |some v=>(match j4 e r with|some vs=>some (v::vs)|none=>none)
  |none=>none
def gb(x:bO)(s:Vs):Option (U×Vs):=
 match cA s.e x with
 |some v=>esc v s
 |none=>none
def gy:List bO→Vs→Option (List U×Vs)
 |[],s=>some ([],s)
 |x::r,s=>match gb x s with
  |some (v,s)=>(match gy r s with|some (vs,s)=>some (v::vs,s)|none=>none)
  |none=>none
def U.ofV:V→Option U
 | .bool b=>some (.bool b)
 | .int k n=>some (.int k n)
 | .str s=>some (.str s)
 |_=>none
def Ol:Option V→Option U
 |some v=>U.ofV v
 |none=>none
def U.toV:U→Option V
 | .bool b=>some (.bool b)
 | .int k n=>some (.int k n)
 | .str s=>some (.str s)
 |_=>none
def fS(k:iG)(a b:U):Option Bool:=
 match a.toV,b.toV with
 |some x,some y=>kr k x y
 |_,_=>none
def tr:List (Nat×iG)→List U→List U→Option Bool
 |[],_,_=>some true
 |(o,k)::r,xs,ys=>match xs[o]?,ys[o]? with
  |some a,some b=>(match fS k a b with
   |some true=>tr r xs ys
   |some false=>some false
   |none=>none)
  |_,_=>none
def U.NP:U→Option Bool
 | .br=>some false
 | .ptr .. =>some true
 | .eR .. =>some true
 | .bI .. =>some true
 |_=>none
def U.ZH:U→Option Bool
 | .dJ=>some false
 | .func .. =>some true
 |_=>none
def U.NN:U→Option Bool
 | .bS=>some false
 | .map _=>some true
 |_=>none
def U.Gc:U→Option Bool
 | .bB=>some false
 | .sl _ (_::_)=>some true
 | .own _ _ (_::_)=>some true
 |_=>none
def ET(a b:Option Bool):Option Bool:=
 match a,b with
 |some false,some x=>some (!x)
 |some true,some false=>some false
 |_,_=>none
def NC(ek:iG)(a b:U):Option Bool:=
 match ek with
 | .bool=>(match a,b with| .bool x,.bool y=>some (x==y)|_,_=>none)
 | .br=>ET a.NP b.NP
 | .bB=>ET a.Gc b.Gc
 | .bS=>ET a.NN b.NN
 | .dJ=>ET a.ZH b.ZH
 | .iface g=>(match a,b with
  | .di,.di=>bif g then none else some true
  | .di,.iface _ _=>some false
  | .iface _ _,.di=>some false
  |_,_=>none)
 | .flat ks=>(match a,b with| .agg xs,.agg ys=>tr ks xs ys|_,_=>none)
 |_=>none
def jo(op:BinOp)(ek:iG)(a b:U):Option U:=
 match a,b with
 | .int k x,.int j y=>Ol (j8 op ek (.int k x) (.int j y))
 | .str x,.str y=>Ol (lF op x y)
 |a,b=>(match op with
  | .eql=>(match NC ek a b with|some r=>some (.bool r)|none=>none)
  | .neq=>(match NC ek a b with|some r=>some (.bool (!r))|none=>none)
  |_=>none)
def unU(op:UnOp)(a:U):Option U:=
 match a.toV with
 |some v=>Ol (unV op v)
 |none=>none
def jf(n:Option Nat)(cs:List U)(off:Nat):Option U:=
 match n with
 |none=>(match cs[off]? with|some v=>bif v.wo then some v else none|none=>none)
 |some n=>bif Nat.ble (off+n) cs.length&&((cs.drop off).take n).all U.wo then some (.agg ((cs.drop off).take n))else none
def mL(i:Nat)(n:Option Nat)(cs:List U)(off:Nat):Option U:=
 match n,cs[off]? with
 |none,some (.bJ w xs)=>some (.own (.c i off) w xs)
 |n,_=>jf n cs off
def gK(cs:List U)(off:Nat)(vs:List U):List U:=cs.take off++vs++cs.drop (off+vs.length)
def kN:List (Nat×Nat×bO)→List U→Vs→Option (List U×Vs)
 |[],cells,s=>some (cells,s)
 |(off,size,x)::rest,cells,s=>match gb x s with
  |some (v,s)=>bif Nat.beq v.cells.length size&&Nat.ble (off+v.cells.length) cells.length then kN rest (gK cells off v.cells) s else none
  |none=>none
def ga(v:U)(most:Nat):Option Nat:=
 match v with
 | .int k n=>asNat (.int k n) most
 |_=>none
def bC(e:Env)(x:Option bO)(dflt most:Nat):Option Nat:=
 match x with
 |none=>some dflt
 |some x=>match cA e x with
  |some v=>ga v most
  |none=>none
def Es(b:UInt8):List U:=[.int .u8 b.toNat]
def bM(bs:List UInt8):List (List U):=bs.map Es
def vQ:List U→Option UInt8
 |[.int .u8 n]=>some (UInt8.ofNat n.toNat)
 |_=>none
def kz:List (List U)→Option (List UInt8)
 |[]=>some []
 |r::rs=>match vQ r with
  |some b=>(match kz rs with|some bs=>some (b::bs)|none=>none)
  |none=>none
def rowsOf(s:Vs)(w:Nat):U→Option (List (List U))
 | .sl v xs=>bif Nat.beq v w then some xs else none
 | .nl v=>bif Nat.beq v w then some []else none
 | .own _ v xs=>bif Nat.beq v w then some xs else none
 | .zw i off len v=>(match s.h[i]? with
  |some (.row cs)=>bif Nat.beq v w&&Nat.beq w 1&&Nat.ble (off+len) cs.length&&((cs.drop off).take len).all U.wo then some (((cs.drop off).take len).map fun c=>[c])else none
  |_=>none)
 |_=>none
def Al(s:Vs)(w:Nat)(str:Bool)(x:U):Option (List (List U)):=
 match str,x with
 |true,.str b=>bif Nat.beq w 1 then some (bM b)else none
 |false,x=>rowsOf s w x
 |_,_=>none
def QH(s:Vs)(k:Nat):U→Option Nat
 | .str b=>bif Nat.beq k 0 then some b.length else none
 | .sl _ xs=>bif Nat.beq k 1 then some xs.length else none
 | .nl _=>bif Nat.beq k 1 then some 0 else none
 | .own _ _ xs=>bif Nat.beq k 1 then some xs.length else none
 | .zw _ _ len _=>bif Nat.beq k 1 then some len else none
 | .view _ _ len _=>bif Nat.beq k 1 then some len else none
 | .bS=>bif Nat.beq k 2 then some 0 else none
 | .map m=>bif Nat.beq k 2 then(match s.h[m]? with
  |some (.map es _)=>some es.length
  |_=>none)else none
 |_=>none
def oD(kk:iG)(k:U):List (U×U×Nat)→Nat→Option (Option (Nat×U))
 |[],_=>some none
 |e::es,i=>match fS kk k e.1 with
  |some true=>some (some (i,e.2.1))
  |some false=>oD kk k es (i+1)
  |none=>none
def dL(kk:iG)(k:U):Bool:=
 match k.toV with
 |some v=>plainKey kk v
 |none=>false
def fQ(s:Vs)(kk:iG)(zero:U)(ok:Bool)(m k:U):Option U:=
 match m with
 | .bS=>bif dL kk k then some (bif ok then .aZ [zero,.bool false]else zero)else none
 | .map m=>(match s.h[m]? with
  |some (.map es _)=>bif dL kk k then(match oD kk k es 0 with
   |some (some (_,v))=>some (bif ok then .aZ [v,.bool true]else v)
   |some none=>some (bif ok then .aZ [zero,.bool false]else zero)
   |none=>none)else none
  |_=>none)
 |_=>none
def mG(f:V→V→Option V)(a b:U):Option U:=
 match a.toV,b.toV with
 |some x,some y=>Ol (f x y)
 |_,_=>none
def nG(f:U→U→Option U):U→List U→Option U
 |a,[]=>some a
 |a,b::r=>match f a b with
  |some c=>nG f c r
  |none=>none
def iT(d:Nat)(w:Nat)(lo hi mx:Option bO)(v:U)(s:Vs):Option (U×Vs):=
 match v with
 | .sl w' xs=>bif Nat.beq w' w then
  (match bC s.e hi xs.length xs.length with
  |some h=>(match bC s.e lo 0 h with
   |some l=>(match mx with
    |none=>some (.sl w ((xs.take h).drop l),s)
    |some m=>(match bC s.e (some m) xs.length xs.length with
     |some m=>bif Nat.beq m h then(bif Nat.beq m 0 then some (.own (.t d) w [],s.kill (.t d))else some (.sl w ((xs.take h).drop l),s))else none
     |none=>none))
   |none=>none)
  |none=>none)else none
 | .own g w' xs=>bif Nat.beq w' w then
  (match mx with
  |none=>(match bC s.e hi xs.length xs.length with
   |some h=>(match bC s.e lo 0 h with
    |some l=>bif g.Jg then some (.view g l (h - l) w,s)else some (.own (.t d) w ((xs.take h).drop l),(s.kill g).kill (.t d))
    |none=>none)
   |none=>none)
  |some m=>(match bC s.e hi xs.length xs.length,bC s.e (some m) xs.length xs.length,bC s.e lo 0 0 with
   |some 0,some 0,some 0=>some (.own (.t d) w [],s.kill (.t d))
   |_,_,_=>none))
  else none
 | .nl w' =>bif Nat.beq w' w then
  (match bC s.e hi 0 0,bC s.e mx 0 0,bC s.e lo 0 0 with
   |some 0,some 0,some 0=>some (.nl w,s)
   |_,_,_=>none)
  else none
 |_=>none
def nC(s:Vs)(q:Nat):Option U:=
 match s.h[q]? with
 |some (.iter (some m) _ seen last)=>(match s.h[m]?,seen.getLast? with
  |some (.map es clock),some n=>bif Nat.beq clock last then(match es.find? (fun e=>Nat.beq e.2.2 n)with
   |some e=>some (.aZ [e.1,e.2.1])
   |none=>none)else none
  |_,_=>none)
 |_=>none
def gm(d:Nat)(s:Vs):gv→Option (U×Vs)
 | .bn x=>(match cA s.e x with|some (.own .r w xs)=>some (.own (.t d) w xs,s.kill (.t d))|some v=>some (v,s)|none=>none)
 | .pick c a b=>(match cA s.e c with
  |some (.bool true)=>(match cA s.e a with|some v=>some (v,s)|none=>none)
  |some (.bool false)=>(match cA s.e b with|some v=>some (v,s)|none=>none)
  |_=>none)
 | .load n x=>(match cA s.e x with
  |some (.ptr i off)=>(match s.h[i]? with
   |some (.row cs)=>(match mL i n cs off with|some v=>some (v,s)|none=>none)
   |_=>none)
  |some (.eR row off)=>(match jf n row off with|some v=>some (v,s)|none=>none)
  |some (.bI g i f)=>(match s.cw g with
   |some (_,xs)=>(match xs[i]? with
    |some r=>(match jf n r f with|some v=>some (v,s)|none=>none)
    |none=>none)
   |none=>none)
  |_=>none)
 | .nilCheck x=>(match cA s.e x with
  |some (.ptr i o)=>some (.ptr i o,s)
  |some (.eR r o)=>some (.eR r o,s)
  |some (.bI g i o)=>some (.bI g i o,s)
  |some (.func f a b)=>some (.func f a b,s)
  |some (.iface t v)=>some (.iface t v,s)
  |_=>none)
 | .bin op ek x y=>(match cA s.e x,cA s.e y with
  |some a,some b=>(match jo op ek a b with|some v=>some (v,s)|none=>none)
  |_,_=>none)
 | .un op x=>(match cA s.e x with
  |some a=>(match unU op a with|some v=>some (v,s)|none=>none)
  |none=>none)
 | .eP k x=>(match cA s.e x with
  |some (.int _ n)=>some (.int k (aK k n),s)
  |_=>none)
 | .uV x=>(match cA s.e x with
  |some (.str b)=>some (.str b,s)
  |_=>none)
 | .toStr x=>(match cA s.e x with
  |some v=>(match rowsOf s 1 v with
   |some xs=>(match kz xs with|some bs=>some (.str bs,s)|none=>none)
   |none=>none)
  |none=>none)
 | .oJ t x=>(match gb x s with
  |some (v,s)=>some (.iface t v,s)
  |none=>none)
 | .jK f first captured=>(match gy first s with
  |some (a,s)=>(match gy captured s with
   |some (b,s)=>some (.func f a b,s)
   |none=>none)
  |none=>none)
 | .build zero parts=>bif(V.dF zero).all U.aL then(match kN parts (V.dF zero) s with
  |some (cs,s)=>some (.agg cs,s)
  |none=>none)else none
 | .oh x lo hi=>(match cA s.e x with
  |some (.str b)=>(match bC s.e hi b.length b.length with
   |some h=>(match bC s.e lo 0 h with
    |some l=>some (.str ((b.take h).drop l),s)
    |none=>none)
   |none=>none)
  |_=>none)
 | .slice w x lo hi mx=>(match cA s.e x with
  |some v=>iT d w lo hi mx v s
  |none=>none)
 | .jw n w x lo hi=>(match cA s.e x with
  |some (.ptr i off)=>(match bC s.e hi n n with
   |some h=>(match bC s.e lo 0 h with
    |some l=>(match s.h[i]? with
     |some (.row cs)=>bif Nat.ble (off+n*w) cs.length then some (.zw i (off+l*w) (h - l) w,s)else none
     |_=>none)
    |none=>none)
   |none=>none)
  |_=>none)
 | .fieldAddr off x=>(match cA s.e x with
  |some (.ptr i o)=>some (.ptr i (o+off),s)
  |some (.eR row o)=>some (.eR row (o+off),s)
  |some (.bI g i o)=>some (.bI g i (o+off),s)
  |_=>none)
 | .field off n x=>(match cA s.e x with
  |some (.agg cs)=>(match jf n cs off with|some v=>some (v,s)|none=>none)
  |_=>none)
 | .indexAddr w x i=>(match cA s.e x,cA s.e i with
  |some (.sl w' xs),some (.int _ n)=>if 0≤n then(match xs[n.toNat]? with|some r=>bif Nat.beq w' w then some (.eR r 0,s)else none|none=>none)else none
  |some (.own g w' xs),some (.int _ n)=>if 0≤n∧n<(xs.length:Int)then(bif Nat.beq w' w then some (.bI g n.toNat 0,s)else none)else none
  |some (.zw j off len w'),some (.int _ n)=>if 0≤n∧n<(len:Int)then(bif Nat.beq w' w then some (.ptr j (off+n.toNat*w),s)else none)else none
  |some (.view g lo len w'),some (.int _ n)=>if 0≤n∧n<(len:Int)then(bif Nat.beq w' w then some (.bI g (lo+n.toNat) 0,s)else none)else none
  |_,_=>none)
 | .nI len w x i=>(match cA s.e x,cA s.e i with
  |some (.ptr j off),some (.int _ n)=>if 0≤n∧n<(len:Int)then some (.ptr j (off+n.toNat*w),s)else none
  |some (.eR row off),some (.int _ n)=>if 0≤n∧n<(len:Int)then some (.eR row (off+n.toNat*w),s)else none
  |_,_=>none)
 | .index x i=>(match cA s.e x,cA s.e i with
  |some (.str b),some (.int _ n)=>if 0≤n then(match b[n.toNat]? with|some c=>some (.int .u8 c.toNat,s)|none=>none)else none
  |_,_=>none)
 | .D0 len x i=>(match cA s.e x,cA s.e i with
  |some (.agg cs),some (.int _ n)=>if 0≤n∧n<(len:Int)then(match cs[n.toNat]? with|some v=>some (v,s)|none=>none)else none
  |_,_=>none)
 | .lookup kk zero ok x i=>(match zero.GG,cA s.e x,cA s.e i with
  |some z,some m,some k=>(match fQ s kk z ok m k with|some v=>some (v,s)|none=>none)
  |_,_,_=>none)
 | .extract i x=>(match cA s.e x with
  |some (.aZ vs)=>(match vs[i]? with|some v=>some (v,s)|none=>none)
  |_=>none)
 | .len k x=>(match cA s.e x with
  |some v=>(match QH s k v with|some n=>some (.int .i64 n,s)|none=>none)
  |none=>none)
 | .cap _=>none
 | .entry x=>(match cA s.e x with
  |some (.ptr q 0)=>(match nC s q with|some v=>some (v,s)|none=>none)
  |_=>none)
 | .max xs=>(match j4 s.e xs with
  |some (v::vs)=>(match nG (mG zN) v vs with|some v=>some (v,s)|none=>none)
  |_=>none)
 | .min xs=>(match j4 s.e xs with
  |some (v::vs)=>(match nG (mG Ch) v vs with|some v=>some (v,s)|none=>none)
  |_=>none)
 | .nv t zero x=>(match zero.GG,cA s.e x with
  |some z,some .di=>some (.aZ [z,.bool false],s)
  |some z,some (.iface u v)=>some (if u=t then .aZ [v,.bool true]else .aZ [z,.bool false],s)
  |_,_=>none)
def iY(zero:List U)(n:Nat):List (List U):=List.replicate n zero
def chunks(w:Nat):Nat→List U→List (List U)
 |0,_=>[]
 |n+1,cs=>cs.take w::chunks w n (cs.drop w)
def LV(zero:List U):Nat→List U
 |0=>[]
 |n+1=>zero++LV zero n
def nT(s:Vs)(o:Uo):Vs:={s with h:=s.h++[o]}
def zO(d:Nat)(s:Vs):Io→Option (U×Vs)
 | .alloc zero=>bif(V.dF zero).all (fun u=>u.aL||u.o8)then some (.ptr s.h.length 0,nT s (.row (V.dF zero)))else none
 | .box x=>(match cA s.e x with
  |some (.own (.c _ _) _ _)=>none
  |some (.own .a _ _)=>none
  |some (.own g w xs)=>some (.ptr s.h.length 0,{s with e:=Env.jg g (.c s.h.length 0) s.e,h:=s.h++[.row [.bJ w xs]]})
  |some v=>bif v.cells.all U.aL then some (.ptr s.h.length 0,nT s (.row v.cells))else none
  |none=>none)
 | .buildSlice w len zero parts=>(match bif(V.dF zero).all U.aL then kN parts (LV (V.dF zero) len) s else none with
  |some (cs,s)=>bif cs.all U.aL&&U.bZ 0 cs&&Nat.beq cs.length (len*w)then some (.own (.t d) w (chunks w len cs),s.kill (.t d))else none
  |none=>none)
 | .makeMap=>some (.map s.h.length,nT s (.map [] 0))
 | .makeSlice w bytes zero len cap=>(match cA s.e len,cA s.e cap with
  |some l,some c=>(match ga c bl with
   |some c=>(match ga l c with
    |some l=>bif Nat.ble (c*bytes) bl&&Nat.beq zero.length w&&U.bZ 0 (V.dF zero)&&(V.dF zero).all U.aL then some (.own (.t d) w (iY (V.dF zero) l),s.kill (.t d))else none
    |none=>none)
   |none=>none)
  |_,_=>none)
 | .mV x=>(match cA s.e x with
  |some (.str b)=>bif Nat.ble b.length bl then some (.sl 1 (bM b),s)else none
  |_=>none)
def mM(w:Nat)(ys:List (List U)):Bool:=ys.all fun r=>Nat.beq r.length w
def wm(g:Tg):List U→Bool
 |[]=>true
 | .own g' _ _::r=> !(decide (g' =g))&&wm g r
 |_::r=>wm g r
def qK(s:Vs)(n i off:Nat)(v:U)(cs:List U):Option Vs:=
 match v with
 | .own g w xs=>bif Nat.beq n 1&&Nat.blt off cs.length then(match g with
  | .c _ _=>none
  | .a=>none
  |g=>some {s with e:=Env.jg g (.c i off) (Env.bV (Tg.SC i off 1) s.e),h:=s.h.set i (.row (cs.set off (.bJ w xs)))})
  else none
 |v=>bif Nat.beq v.cells.length n&&Nat.ble (off+n) cs.length&&v.cells.all U.aL then
   some {e:=Env.bV (Tg.SC i off n) s.e,h:=s.h.set i (.row (gK cs off v.cells)),fl:=bif v.low (i+1)then s.fl else s.h.length}
  else none
def jL(s:Vs)(off:Nat)(v:U)(cs:List U):U×Vs:=
 match v with
 | .own g w xs=>(match cs[off]? with
  |some (.sl _ _)=>bif g=.a then(.own g w xs,s)else(.sl w xs,s.mS g)
  |_=>(.own g w xs,s))
 |v=>(v,s)
def pQ(i:Nat)(f:(U×U×Nat)→(U×U×Nat)):List (U×U×Nat)→List (U×U×Nat)
 |[]=>[]
 |e::es=>match i with
  |0=>f e::es
  |j+1=>e::pQ j f es
def hU(i:Nat):List (U×U×Nat)→List (U×U×Nat)
 |[]=>[]
 |e::es=>match i with
  |0=>es
  |j+1=>e::hU j es
def qE(d:Nat)(s:Vs):zv→Option (U×Vs)
 | .store n a x=>(match cA s.e a,cA s.e x with
  |some (.ptr i off),some v=>(match s.h[i]? with
   |some (.row cs)=>(match jL s off v cs with
    |(v,s)=>(match s.h[i]? with
     |some (.row cs)=>(match qK s n i off v cs with|some s=>some (.aZ [],s)|none=>none)
     |_=>none))
   |_=>none)
  |some (.bI g i f),some v=>(match esc v s with
   |some (v,s)=>(match s.cw g with
    |some (w,xs)=>(match xs[i]? with
     |some r=>bif Nat.beq v.cells.length n&&Nat.ble (f+n) r.length&&v.cells.all U.aL&&v.low 0 then some (.aZ [],s.fK g w (xs.set i (gK r f v.cells)))else none
     |none=>none)
    |none=>none)
   |none=>none)
  |_,_=>none)
 | .mapUpdate kk m k x=>(match gb m s with
  |some (.map i,s)=>(match gb k s with
   |some (k,s)=>(match gb x s with
    |some (v,s)=>(match s.h[i]? with
     |some (.map es clock)=>bif dL kk k then
      (let fl:=bif v.low (i+1)then s.fl else s.h.length
      match oD kk k es 0 with
      |some (some (j,_))=>some (.aZ [],{s with h:=s.h.set i (.map (pQ j (fun e=>(k,v,e.2.2)) es) clock),fl:=fl})
      |some none=>some (.aZ [],{s with h:=s.h.set i (.map (es++[(k,v,clock)]) (clock+1)),fl:=fl})
      |none=>none)else none
     |_=>none)
    |none=>none)
   |none=>none)
  |_=>none)
 | .delete kk m k=>(match cA s.e m,cA s.e k with
  |some .bS,some k=>bif dL kk k then some (.aZ [],s)else none
  |some (.map i),some k=>(match s.h[i]? with
   |some (.map es clock)=>bif dL kk k then(match oD kk k es 0 with
    |some (some (j,_))=>some (.aZ [],{s with h:=s.h.set i (.map (hU j es) clock)})
    |some none=>some (.aZ [],s)
    |none=>none)else none
   |_=>none)
  |_,_=>none)
 | .append w bytes str a x=>(match cA s.e a,cA s.e x with
  |some a,some x=>(match Al s w str x with
   |some ys=>(match a with
    | .own g w' xs=>bif !(decide (g=.a))&&Nat.beq w' w&&Nat.ble ((xs.length+ys.length)*bytes) bl&&Nat.ble (xs.length+ys.length) bl&&ys.all (fun r=>r.all U.aL&&U.bZ 0 r&&Nat.beq r.length w)then
      some (.own (.t d) w (xs++ys),(s.kill g).kill (.t d))else none
    | .nl w' =>bif Nat.beq w' w&&Nat.ble (ys.length*bytes) bl&&Nat.ble ys.length bl&&ys.all (fun r=>r.all U.aL&&U.bZ 0 r&&Nat.beq r.length w)then some (.own (.t d) w ys,(s.kill .r).kill (.t d))else none
    | .sl w' xs=>bif Nat.beq w' w&&ys.isEmpty&&Nat.ble (xs.length*bytes) bl&&Nat.ble xs.length bl then some (.sl w xs,s)else none
    |_=>none)
   |none=>none)
  |_,_=>none)
 | .copy w str a x=>(match cA s.e a,cA s.e x with
  |some (.own g w' xs),some x=>(match Al s w str x with
   |some ys=>bif Nat.beq w' w&&(s.cw g).isSome&&ys.all (fun r=>r.all U.aL&&U.bZ 0 r&&Nat.beq r.length w)then
     some (.int .i64 (min ys.length xs.length:Nat),s.fK g w (ys.take xs.length++xs.drop ys.length))else none
   |none=>none)
  |_,_=>none)
 |_=>none
def uv:U→Option U
 | .own .a _ _=>none
 | .own _ w xs=>some (.sl w xs)
 | .nl w=>some (.sl w [])
 | .bad=>none
 | .bJ .. =>none
 | .bI .. =>none
 | .zw .. =>none
 | .view .. =>none
 | .dB=>none
 | .aZ _=>none
 |v=>some v
def iq:List U→Option (List U)
 |[]=>some []
 |v::vs=>match uv v with
  |some u=>(match iq vs with|some us=>some (u::us)|none=>none)
  |none=>none
def dR(d:Nat)(r:U)(s:Vs):U×Vs:=
 match r with
 | .own .r w xs=>(.own (.t d) w xs,s.kill (.t d))
 |r=>(r,s)
def aJ:List U→Vs→Vs
 |[],s=>s
 | .own g _ _::r,s=>aJ r (s.mS g)
 |_::r,s=>aJ r s
def rL:List U→Bool
 |[]=>false
 |v::vs=>v.NO||rL vs
def eV(k:Nat):Uo→Uo
 | .row cs=> .row (U.gi k cs)
 | .map es c=> .map (es.map fun e=>(e.1.shift k,e.2.1.shift k,e.2.2)) c
 | .iter m a b c=> .iter (m.map (· +k)) a b c
 | .gone=> .gone
def rY(d:Nat)(r:U)(hc:List Uo)(fc:Nat)(s:Vs):U×Vs:=
 match hc with
 |[]=>dR d r s
 |_=>dR d (r.shift s.h.length) {s with h:=s.h++hc.map (eV s.h.length),fl:=bif Nat.beq fc 0 then s.fl else s.h.length+fc}
abbrev FU:=Nat→List U→List Uo→Nat→Option (U×List Uo×Nat)
def iy(h:List Uo):Env→List (Nat×Nat)
 |[]=>[]
 |(_,v)::r=>match v.Zk with
  |some (i,off)=>(match h[i]? with
   |some (.row cs)=>(match cs[off]? with
    |some (.bJ _ _)=>(i,off)::iy h r
    |_=>iy h r)
   |_=>iy h r)
  |none=>iy h r
def eN:List (Nat×Nat)→List Uo→List Uo
 |[],h=>h
 |(i,off)::r,h=>eN r (setCell h i off .dB)
def mD(h:List Uo)(x:Nat×Nat):Bool:=
 match h[x.1]? with
 |some (.row cs)=>(match cs[x.2]? with
  |some .dB=>true
  |_=>false)
 |_=>false
def cellAt(h:List Uo)(i off:Nat):U:=
 match h[i]? with
 |some (.row cs)=>(cs[off]?).getD .bad
 |_=> .bad
def jd(h0:List Uo):List (Nat×Nat)→List Uo→List Uo
 |[],h=>h
 |(i,off)::r,h=>jd h0 r (setCell h i off (cellAt h0 i off))
def fG(L:List (Nat×Nat)):Tg→Bool
 | .c i off=> !(L.any fun x=>Nat.beq x.1 i&&Nat.beq x.2 off)
 |_=>false
def j9(ld:Bool)(F:FU)(d f:Nat)(args:List U)(s:Vs):Option (U×Vs):=
 match iq args with
 |some us=>
  bif U.bZ 0 us then
   (match F f us [] 0 with
   |some (r,hc,fc)=>
    some (rY d r hc fc (bif rL args&& !(r.flat&&hc.isEmpty)then aJ args s else s))
   |none=>none)
  else
   (let s:=aJ args s
   bif ld then
    (let L:=iy s.h s.e
    match F f us (eN L s.h) s.fl with
    |some (r,h,fl)=>bif L.all (mD h)then some (dR d r {e:=Env.bV (fG L) s.e,h:=jd s.h L h,fl:=fl})else none
    |none=>none)
   else
   match F f us s.h s.fl with
   |some (r,h,fl)=>some (dR d r {e:=Env.bV Tg.isC s.e,h:=h,fl:=fl})
   |none=>none)
 |none=>none
structure nu where
 q:Nat→Option (List (List U)→List U→Option (List (List U)))
 app:Nat→Option (List (List U)→List U→Option (List (List U)))
 ld:Nat→Bool
 KT:Nat→Option (Nat→List (List U)→List U→Option (Nat×List (List U)))
def Ag(Q:nu)(F:FU)(s:Vs)(d f:Nat)(args:List U):Option (U×Vs):=
 match Q.KT f with
 |some q=>(match args with
  | .own g w xs::rest=>(match q w xs rest with
   |some (w',ys)=>some (.own (.t d) w' ys,s.kill (.t d))
   |none=>none)
  |_=>j9 (Q.ld f) F d f args s)
 |none=>j9 (Q.ld f) F d f args s
section
variable(M:qn)(Q:nu)(F:FU)
def lu(s:Vs)(dst:Option Nat)(o:j7):Option (U×Vs):=
 let d:=dst.getD 0
 match o with
 | .s o=>gm d s o
 | .m o=>zO d s o
 | .h (.range x)=>(match cA s.e x with
  |some .bS=>some (.ptr s.h.length 0,{s with h:=s.h++[.iter none 0 [] 0]})
  |some (.map m)=>(match s.h[m]? with
   |some (.map _ clock)=>some (.ptr s.h.length 0,{s with h:=s.h++[.iter (some m) clock [] clock]})
   |_=>none)
  |_=>none)
 | .h o=>qE d s o
 | .call f args=>(match cA s.e f,j4 s.e args with
  |some (.func f first captured),some vs=>(match Q.q f with
   |some q=>(match first++vs++captured with
    | .own g w xs::rest=>(match q xs rest with
     |some ys=>bif(s.cw g).isSome then some (.aZ [],s.fK g w ys)else none
     |none=>none)
    |_=>none)
   |none=>(match Q.app f with
    |some q=>(match first++vs++captured with
     | .own g w xs::rest=>(match q xs rest with
      |some ys=>bif !(decide (g=.a))&&mM w ys&&wm g rest then some (.own (.t d) w ys,(s.kill g).kill (.t d))else none
      |none=>none)
     | .nl w::rest=>(match q [] rest with
      |some ys=>bif mM w ys&&wm .r rest then some (.own (.t d) w ys,(s.kill .r).kill (.t d))else none
      |none=>none)
     |_=>none)
    |none=>Ag Q F s d f (first++vs++captured)))
  |_,_=>none)
 | .invoke name x args=>(match cA s.e x,j4 s.e args with
  |some (.iface t v),some vs=>(match M t name with
   |some f=>j9 (Q.ld f) F d f (v::vs) s
   |none=>none)
  |_,_=>none)
 | .next _=>none
 | .bad=>none
def iO(g:Option (Nat×Bool))(e:Env):Option Bool:=
 match g with
 |none=>some true
 |some (t,want)=>match look e t with
  |some (.bool b)=>some (b==want)
  |some (.aZ _)=>some false
  |_=>none
def gU:List aG→Vs→Option Vs
 |[],s=>some s
 |o::r,s=>match iO o.guard s.e with
  |some true=>(match lu M Q F s o.dst o.op with
   |some (v,s)=>gU r {s with e:=js o.dst v s.e}
   |none=>none)
  |some false=>gU r {s with e:=js o.dst (.aZ []) s.e}
  |none=>none
end
mutual
def U.same:U→U→Bool
 | .bool a,.bool b=>a==b
 | .int j a,.int k b=>decide (j=k)&&decide (a=b)
 | .str a,.str b=>a==b
 | .br,.br=>true
 | .bS,.bS=>true
 | .dJ,.dJ=>true
 | .di,.di=>true
 | .ptr i o,.ptr j p=>Nat.beq i j&&Nat.beq o p
 | .map i,.map j=>Nat.beq i j
 | .agg a,.agg b=>U.mN a b
 |_,_=>false
def U.mN:List U→List U→Bool
 |[],[]=>true
 |a::as,b::bs=>U.same a b&&U.mN as bs
 |_,_=>false
end
inductive Rk where
 |ok
 |ld (i:Nat) (n:Option Nat) (off:Nat) (u:U)
 |no
def uF(s:Vs)(op:gv)(u:U):Rk:=
 match op with
 | .load n x=>(match cA s.e x with
  |some (.ptr i off)=> .ld i n off u
  |some (.eR _ _)=> .ok
  |_=> .no)
 | .toStr x=>(match cA s.e x with
  |some (.sl _ _)=> .ok
  |_=> .no)
 |_=> .no
def Rk.holds(s:Vs):Rk→Bool
 | .ok=>true
 | .ld i n off u=>(match s.h[i]? with
  |some (.row cs)=>(match mL i n cs off with
   |some u' =>U.same u u'
   |none=>false)
  |_=>false)
 | .no=>false
def pW(s:Vs)(aT:Nat):List (Nat×Rk)→Bool
 |[]=>true
 |(i,r)::rest=>(Nat.testBit aT i||r.holds s)&&pW s aT rest
def Lk(j:Nat)(n:Option Nat)(off:Nat)(u:U)(l:List Nat×List (Nat×Nat)):List Nat×List (Nat×Nat):=
 bif n.isNone&&(u.NO||u.qdQ)then(l.1,(j,off)::l.2)else(j::l.1,l.2)
def qz(s:Vs)(aT:Nat):List (Nat×Rk)→Option (List Nat×List (Nat×Nat))
 |[]=>some ([],[])
 |(i,r)::rest=>bif Nat.testBit aT i||r.holds s then qz s aT rest else match r with
  | .ld j n off u=>(match qz s aT rest with|some l=>some (Lk j n off u l)|none=>none)
  |_=>none
def gw:List Nat→List Uo→List Uo
 |[],h=>h
 |j::l,h=>gw l (h.set j .gone)
def gx(aT:Nat):List (Nat×Rk)→List (Nat×Rk)
 |[]=>[]
 |(i,r)::rest=>bif Nat.testBit aT i then gx aT rest else(i,r)::gx aT rest
section
variable(M:qn)(Q:nu)(F:FU)
def fJ(s:Vs)(o:j7):Bool:=
 match o with
 | .call f args=>(match cA s.e f,j4 s.e args with
  |some (.func f first captured),some vs=>(match Q.q f,Q.app f,iq (first++vs++captured)with
   |none,none,some us=>U.bZ 0 us&&(Q.KT f).isNone
   |_,_,_=>false)
  |_,_=>false)
 | .invoke name x args=>(match cA s.e x,j4 s.e args with
  |some (.iface t v),some vs=>(match iq (v::vs)with
   |some us=>U.bZ 0 us
   |none=>false)
  |_,_=>false)
 |_=>false
def mJ(F:FU)(f:Nat)(args:List U)(s:Vs)(hid:List Nat×List (Nat×Nat)):Bool:=
 match iq args with
 |some us=>(match F f us (eN hid.2 (gw hid.1 (aJ args s).h)) (aJ args s).fl with
  |some R=>hid.2.all (mD R.2.1)
  |none=>false)
 |none=>false
def h9(s t:Vs)(o:j7)(aT:Nat)(aj:List (Nat×Rk)):Bool:=
 match qz t aT aj with
 |some hid=>(match o with
  | .call f args=>(match cA s.e f,j4 s.e args with
   |some (.func f first captured),some vs=>(match Q.q f,Q.app f with
    |none,none=>(Q.KT f).isNone&&mJ F f (first++vs++captured) s hid
    |_,_=>false)
   |_,_=>false)
  | .invoke name x args=>(match cA s.e x,j4 s.e args with
   |some (.iface t v),some vs=>(match M t name with
    |some f=>mJ F f (v::vs) s hid
    |none=>false)
   |_,_=>false)
  |_=>false)
 |none=>false
def bX:List Step→Vs→List (Nat×Rk)→Option Vs
 |[],s,_=>some s
 | .small i o::r,s,aj=>match iO o.guard s.e with
  |some true=>(match lu M Q F s o.dst o.op with
   |some (v,t)=>(match o.op with
    | .s op=>bX r {t with e:=js o.dst v t.e} (bif op.impure then(i,uF s op v)::aj else aj)
    | .m _=>bX r {t with e:=js o.dst v t.e} aj
    |_=>none)
   |none=>none)
  |some false=>bX r {s with e:=js o.dst (.aZ []) s.e} aj
  |none=>none
 | .bl i o::r,s,aj=>match iO o.guard s.e with
  |some true=>(match lu M Q F s o.dst o.op with
   |some (v,t)=>bif fJ Q s o.op||pW t o.aT aj||h9 M Q F s t o.op o.aT aj then bX r {t with e:=js o.dst v t.e} (gx o.aT aj)else none
   |none=>none)
  |some false=>bX r {s with e:=js o.dst (.aZ []) s.e} aj
  |none=>none
end
def dH:List Nat→Env→Env
 |[],_=>[]
 |t::ts,e=>match look e t with
  |some (.own (.t g) w xs)=>(t,.own (.t t) w xs)::dH ts (Env.kill (.t g) e)
  |some (.own .r w xs)=>(t,.own (.t t) w xs)::dH ts (Env.kill .r e)
  |some (.bI (.t _) _ _)=>(t,.bad)::dH ts e
  |some (.bI .r _ _)=>(t,.bad)::dH ts e
  |some (.view (.t _) _ _ _)=>(t,.bad)::dH ts e
  |some (.view .r _ _ _)=>(t,.bad)::dH ts e
  |some v=>(t,v)::dH ts e
  |none=>dH ts e
def Jl(n:Nat):Env→Bool
 |[]=>true
 |(_,v)::r=>v.low n&&Jl n r
def cut(n fl:Nat)(h:List Uo):List Uo:=h.take (max n fl)
def keep(L:List Nat)(n:Nat)(s:Vs):Vs:=
 let e:=dH L s.e
 {e:=e,h:=bif Jl n e then cut n s.fl s.h else s.h,fl:=s.fl}
structure aC where
 ntmps:Nat
 results:List vN
 own:Bool -- a slice is handed back as one's own
 body:aq
 head:Nat→List Nat -- what is live at a loop's head,by its block
 tail:Nat→List Nat -- what is live behind a block
def JF(s:Vs):vN→Option U
 | .t n=>look s.e n
 | .cell a n=>(match look s.e a with
  |some (.ptr i off)=>(match s.h[i]? with
   |some (.row cs)=>mL i n cs off
   |_=>none)
  |_=>none)
def rq(s:Vs):List vN→Option (List U)
 |[]=>some []
 |r::rs=>match JF s r with
  |some v=>(match rq s rs with|some vs=>some (v::vs)|none=>none)
  |none=>none
def U.j5(own:Bool):U→Option U
 | .own (.c _ _) w xs=>none
 | .own .a w xs=>none
 | .own _ w xs=>some (bif own then .own .r w xs else .sl w xs)
 | .nl w=>some (.sl w [])
 | .bad=>none
 | .bJ .. =>none
 | .bI .. =>none
 | .zw .. =>none
 | .view .. =>none
 | .dB=>none
 | .aZ _=>none
 |v=>some v
def uE(own:Bool):List U→Option (List U)
 |[]=>some []
 |v::vs=>match v.j5 own with
  |some u=>(match uE own vs with|some us=>some (u::us)|none=>none)
  |none=>none
def Iq(n:Nat)(h:List Uo):List Uo:=h.take n++((h.drop n).dropLast.map fun _=>Uo.gone)++(h.drop n).getLast?.toList
def D6(n:Nat)(fn:aC)(s:Vs):Option (U×List Uo×Nat):=
 match rq s fn.results with
 |some [v]=>(match v.j5 fn.own with
  |some r=>some (r,bif r.low n then cut n s.fl s.h else s.h,s.fl)
  |none=>none)
 |some vs=>(match uE false vs with
  |some us=>some (.aZ us,bif U.bZ n us then cut n s.fl s.h else bif fn.own then s.h else Iq n s.h,s.fl)
  |none=>none)
 |none=>none
def mK:List U→Nat→Env
 |[],_=>[]
 |v::vs,i=>(i,v)::mK vs (i+1)
def uT(es:List (U×U×Nat))(since:Nat)(seen:List Nat):List (Option (U×U×Nat)):=
 let left:=es.filter fun e=> !seen.contains e.2.2;let old:=left.filter fun e=>Nat.blt e.2.2 since;let new:=left.filter fun e=>Nat.ble since e.2.2
 (bif old.isEmpty then[none]else[])++(old++new).map some
def Jp(s:Vs)(dst:Option Nat)(q j since:Nat)(seen:List Nat)(clock:Nat)(k:Vs→Prop):Option (U×U×Nat)→Prop
 |some e=>k {e:=js dst (.aZ [.bool true,e.1,e.2.1]) s.e,h:=s.h.set q (.iter (some j) since (seen++[e.2.2]) clock),fl:=s.fl}
 |none=>k {s with e:=js dst (.aZ [.bool false]) s.e}
def iQ(s:Vs)(dst:Option Nat)(x:bO)(k:Vs→Prop):Prop:=
 match cA s.e x with
 |some (.ptr q 0)=>(match s.h[q]? with
  |some (.iter none _ _ _)=>k {s with e:=js dst (.aZ [.bool false]) s.e}
  |some (.iter (some j) since seen last)=>(match s.h[j]? with
   |some (.map es clock)=>(!seen.isEmpty&& !es.isEmpty&&es.all (fun e=>Nat.ble last e.2.2))=false∧∀ c∈uT es since seen,Jp s dst q j since seen clock k c
   |_=>False)
  |_=>False)
 |_=>False
open Classical in
noncomputable def pick{α:Type}(P:α→Prop):Option α:=if h:∃ x,P x then some h.choose else none
def kE(k:Nat)(fn:aC)(R:U×List Uo×Nat)(ex:Ex)(s:Vs):Prop:=
 match ex with
 | .exit _=>False
 |_=>D6 k fn s=some R
def kB(fn:aC)(id n:Nat)(K:Ex→Vs→Prop)(ex:Ex)(t:Vs):Prop:=
 match ex with
 | .normal=>K .normal (keep (fn.tail id) n t)
 | .exit i=>bif Nat.beq i id then K .normal (keep (fn.tail id) n t)else K (.exit i) t
 | .ret=>K .ret t
def iR(K:Ex→Vs→Prop):Option Vs→Prop
 |some s=>K .normal s
 |none=>False
section
variable(VF:Nat→Option aC)(M:qn)(Q:nu)(Pm:Pms)
def kK(F:FU)(s:Vs)(K:Ex→Vs→Prop):List aG→Prop
 |⟨dst,.next x,none,_⟩::ops=>iQ s dst x fun t=>iR K (gU M Q F ops t)
 |ops=>iR K (gU M Q F ops s)
def lT(F:FU)(s:Vs)(K:Ex→Vs→Prop):Option (List Step)→Prop
 |some l=>iR K (bX M Q F l s [])
 |none=>False
mutual
noncomputable def vC:Nat→aC→aq→Vs→(Ex→Vs→Prop)→Prop
 |0,_,_,_,_=>False
 |n+1,fn,c,s,K=>
  match c with
  | .skip=>K .normal s
  | .region ops=>kK M Q (vF n) s K ops
  | .draw ops=>lT M Q (vF n) s K (sched (ops.length+1) (bx ops 0) 0)
  | .seq a b=>vC n fn a s fun ex s=>match ex with
   | .normal=>vC n fn b s K
   |ex=>K ex s
  | .cond x a b=>(match cA s.e x with
   |some (.bool true)=>vC n fn a s K
   |some (.bool false)=>vC n fn b s K
   |_=>False)
  | .block id (.loop b)=>vL n fn id b s.h.length (keep (fn.head id) s.h.length s) K
  | .block id b=>vC n fn b s (kB fn id s.h.length K)
  | .exit i=>K (.exit i) s
  | .ret=>K .ret s
  |_=>False
noncomputable def vL:Nat→aC→Nat→aq→Nat→Vs→(Ex→Vs→Prop)→Prop
 |0,_,_,_,_,_,_=>False
 |n+1,fn,id,b,m,s,K=>vC n fn b s fun ex t=>match ex with
  | .normal=>vL n fn id b m (keep (fn.head id) m t) K
  |ex=>kB fn id m K ex t
noncomputable def vF:Nat→FU
 |0,_,_,_,_=>none
 |n+1,f,args,h,fl=>(match Pm f with
  |some p=>p args h fl
  |none=>(match VF f with
   |none=>none
   |some fn=>bif Nat.ble args.length fn.ntmps then pick (fun R=>vC n fn fn.body ⟨mK args 0,h,fl⟩ (kE h.length fn R))else none))
end
end
end Go.RE
namespace Go.RE
section
variable{C:Nat→Option cq}{M:qn}{F:Nat→List V→St→(V→St→Prop)→Prop}
end
end Go.RE
namespace Go.RE
section
variable{env:PT V}{s:St}
end
theorem DM{n:Nat}(h:n≤9223372036854775807):aK .i64 (n:Int)=(n:Int):=by
 show(bif Nat.ble n (B5 .i64)then Int.ofNat n else IntKind.wrap .i64 (.ofNat n))=_;have:Nat.ble n (B5 .i64)=true:=jA h;rw[this];rfl
theorem fC{n:Nat}(h:n<9223372036854775807):aK .i64 ((n:Int)+1)=((n+1:Nat):Int):=DM (n:=n+1) (by omega)
section
variable{k:IntKind}{a b:Int}
end
end Go.RE
namespace Go.RE
theorem FY{w:Nat}:∀ {rows:List (List V)},(∀ r∈rows,r.length=w)→rows.flatten.length=rows.length*w∧∀ i (h:i<rows.length),(rows.flatten.drop (i*w)).take w=rows[i]:=by
 intro rows
 induction rows with
 |nil=>intro _;simp
 |cons r rs ih=>
  intro hw;obtain⟨h1,h2⟩:=ih (fun x hx=>hw x (eu _ hx));have hr:r.length=w:=hw r cB;refine⟨?_,fun i hi=> ?_⟩
  ·simp only[iE,gX,h1,hr,fV,oy];omega
  ·cases i with
   |zero=>simp only[PM,s8,iE,PD];rw[Fy (by omega),gu (by omega)]
   |succ i=>
    simp only[iE,List.getElem_cons_succ];have:(i+1)*w=r.length+i*w:=by rw[hr,oy];omega
    rw[this,←Ad,Ym];exact h2 i (by simpa using hi)
theorem oO{s:St}{b off len cap w:Nat}{ex:Bool}{cs:List V}(h:s.row b=some cs)(hl:off+len*w≤cs.length):bN s w (.slice b off len cap w ex)=some ((cs.drop off).take (len*w)):=by
 simp only[bN,h,fq,jA hl,Bool.and_true,cond_true]
end Go.RE
namespace Go.RE
inductive UR(σ:Nat→Nat)(Z:Nat→Option (List V)):Nat→U→V→Prop
 |bool {n} (b:Bool):UR σ Z n (.bool b) (.bool b)
 |int {n} (k:IntKind) (x:Int):UR σ Z n (.int k x) (.int k x)
 |str {n} (s:List UInt8):UR σ Z n (.str s) (.str s)
 |br {n}:UR σ Z n .br .br
 |bB {n}:UR σ Z n .bB .bB
 |bS {n}:UR σ Z n .bS .bS
 |dJ {n}:UR σ Z n .dJ .dJ
 |di {n}:UR σ Z n .di .di
 |ptr {n i off} (h:i<n):UR σ Z n (.ptr i off) (.ptr (σ i) off)
 |map {n i} (h:i<n):UR σ Z n (.map i) (.map (σ i))
 |jS {n row off b o row'} (hz:Z b=some row') (hr:o+row.length≤row'.length)
   (hv:∀ (j:Nat) u v,row[j]? =some u→((row'.drop o).take row.length)[j]? =some v→UR σ Z 0 u v):UR σ Z n (.eR row off) (.ptr b (o+off))
 |jR {n row off o row'} (hr:o+row.length≤row'.length)
   (hv:∀ (j:Nat) u v,row[j]? =some u→((row'.drop o).take row.length)[j]? =some v→UR σ Z 0 u v):UR σ Z n (.eR row off) (.eR row' (o+off))
 |slnil {n w}:UR σ Z n (.sl w []) .bB
 |Ak {n w}:UR σ Z n (.sl w []) .bQ
 |Ec {n w}:UR σ Z n (.nl w) .bB
 |EU {n w}:UR σ Z n (.nl w) .bQ
 |AL {n w xs b off len cap ex row'} (hn:len=xs.length) (hz:Z b=some row') (hl:∀ r∈xs,r.length=w) (hcap:len≤cap) (hr:off+xs.length*w≤row'.length)
   (hv:∀ (j:Nat) u v,xs.flatten[j]? =some u→((row'.drop off).take (xs.length*w))[j]? =some v→UR σ Z 0 u v):UR σ Z n (.sl w xs) (.slice b off len cap w ex)
 |Eh {n w xs off len row'} (hn:len=xs.length) (hl:∀ r∈xs,r.length=w) (hr:off+xs.length*w≤row'.length)
   (hv:∀ (j:Nat) u v,xs.flatten[j]? =some u→((row'.drop off).take (xs.length*w))[j]? =some v→UR σ Z 0 u v):UR σ Z n (.sl w xs) (.ah row' off len w)
 |func {n f a b a' b'} (ha:a.length=a'.length) (hb:b.length=b'.length)
   (va:∀ (j:Nat) u v,a[j]? =some u→a'[j]? =some v→UR σ Z n u v) (vb:∀ (j:Nat) u v,b[j]? =some u→b'[j]? =some v→UR σ Z n u v):UR σ Z n (.func f a b) (.func f a' b')
 |iface {n t u v} (h:UR σ Z n u v):UR σ Z n (.iface t u) (.iface t v)
 |agg {n a a'} (ha:a.length=a'.length) (va:∀ (j:Nat) u v,a[j]? =some u→a'[j]? =some v→UR σ Z n u v):UR σ Z n (.agg a) (.agg a')
 |aZ {n a a'} (ha:a.length=a'.length) (va:∀ (j:Nat) u v,a[j]? =some u→a'[j]? =some v→UR σ Z n u v):UR σ Z n (.aZ a) (.aZ a')
def LU(σ:Nat→Nat)(Z:Nat→Option (List V))(n:Nat)(a:List U)(b:List V):Prop:=a.length=b.length∧∀ (j:Nat) u v,a[j]? =some u→b[j]? =some v→UR σ Z n u v
section
variable{σ σ' :Nat→Nat}{Z Z' :Nat→Option (List V)}{n m:Nat}
theorem UR.mono(hn:n≤m)(hσ:∀ i,i<n→σ' i=σ i)(hZ:∀ b r,Z b=some r→Z' b=some r){u:U}{v:V}(h:UR σ Z n u v):UR σ' Z' m u v:=by
 induction h generalizing m with
 |bool b=>exact .bool b
 |int k x=>exact .int k x
 |str s=>exact .str s
 |br=>exact .br
 |bB=>exact .bB
 |bS=>exact .bS
 |dJ=>exact .dJ
 |di=>exact .di
 |ptr h=>rw[←hσ _ h];exact .ptr (by omega)
 |map h=>rw[←hσ _ h];exact .map (by omega)
 |jS hz hr hv ih=>exact .jS (hZ _ _ hz) hr fun j u v h1 h2=>ih j u v h1 h2 (ak 0) (fun i hi=>by omega)
 |jR hr hv ih=>exact .jR hr fun j u v h1 h2=>ih j u v h1 h2 (ak 0) (fun i hi=>by omega)
 |slnil=>exact .slnil
 |Ak=>exact .Ak
 |Ec=>exact .Ec
 |EU=>exact .EU
 |AL hq hz hl hc hr hv ih=>exact .AL hq (hZ _ _ hz) hl hc hr fun j u v h1 h2=>ih j u v h1 h2 (ak 0) (fun i hi=>by omega)
 |Eh hq hl hr hv ih=>exact .Eh hq hl hr fun j u v h1 h2=>ih j u v h1 h2 (ak 0) (fun i hi=>by omega)
 |func ha hb va vb iha ihb=>exact .func ha hb (fun j u v h1 h2=>iha j u v h1 h2 hn hσ) (fun j u v h1 h2=>ihb j u v h1 h2 hn hσ)
 |iface h ih=>exact .iface (ih hn hσ)
 |agg ha va ih=>exact .agg ha fun j u v h1 h2=>ih j u v h1 h2 hn hσ
 |aZ ha va ih=>exact .aZ ha fun j u v h1 h2=>ih j u v h1 h2 hn hσ
theorem LU.mono(hn:n≤m)(hσ:∀ i,i<n→σ' i=σ i)(hZ:∀ b r,Z b=some r→Z' b=some r){a:List U}{b:List V}(h:LU σ Z n a b):LU σ' Z' m a b:=
 ⟨h.1,fun j u v h1 h2=>(h.2 j u v h1 h2).mono hn hσ hZ⟩
theorem LU.nil:LU σ Z n [] []:=⟨rfl,fun j u v h=>by simp at h⟩
theorem LU.cons{u:U}{v:V}{us:List U}{vs:List V}(h:UR σ Z n u v)(hs:LU σ Z n us vs):LU σ Z n (u::us) (v::vs):=
 ⟨by simp[hs.1],fun j a b h1 h2=>by
  cases j with
  |zero=>simp at h1 h2;subst h1;subst h2;exact h
  |succ j=>simp at h1 h2;exact hs.2 j a b h1 h2⟩
theorem LU.eF{vs:List V}(h:LU σ Z n [] vs):vs=[]:=fT h.1.symm
theorem LU.bD{u:U}{us:List U}{vs:List V}(h:LU σ Z n (u::us) vs):∃ v vs',vs=v::vs'∧UR σ Z n u v∧LU σ Z n us vs' :=by
 cases vs with
 |nil=>have:=h.1;simp at this
 |cons v vs=>
  refine⟨v,vs,rfl,h.2 0 u v rfl rfl,?_,fun j a b h1 h2=>h.2 (j+1) a b (by simpa using h1) (by simpa using h2)⟩;have:=h.1;simpa using this
theorem LU.append{a c:List U}{b d:List V}(h:LU σ Z n a b)(hs:LU σ Z n c d):LU σ Z n (a++c) (b++d):=by
 induction a generalizing b with
 |nil=>rw[h.eF];exact hs
 |cons u us ih=>
  obtain⟨v,vs,rfl,h1,h2⟩:=h.bD;exact LU.cons h1 (ih h2)
theorem LU.take{a:List U}{b:List V}(k:Nat)(h:LU σ Z n a b):LU σ Z n (a.take k) (b.take k):=
 ⟨by simp[h.1],fun j u v h1 h2=>by
  rw[fU]at h1 h2;split at h1<;>simp_all;exact h.2 j u v h1 h2⟩
theorem LU.drop{a:List U}{b:List V}(k:Nat)(h:LU σ Z n a b):LU σ Z n (a.drop k) (b.drop k):=
 ⟨by simp[h.1],fun j u v h1 h2=>by
  rw[jX]at h1 h2;exact h.2 _ u v h1 h2⟩
theorem LU.get{a:List U}{b:List V}(h:LU σ Z n a b){j:Nat}{u:U}(hu:a[j]? =some u):∃ v,b[j]? =some v∧UR σ Z n u v:=by
 obtain⟨hj,rfl⟩:=aH.1 hu;have hj' :j<b.length:=h.1▸hj;exact⟨b[j],aQ hj',h.2 j _ _ hu (aQ hj')⟩
theorem si{m:Nat}:∀ {a:List U},U.bZ m a=true→∀ (j:Nat) u,a[j]? =some u→u.low m=true:=by
 intro a
 induction a with
 |nil=>intro _ j u h;simp at h
 |cons x a ih=>
  intro h j u hu;simp only[U.bZ,aI]at h;cases j with
  |zero=>simp at hu;subst hu;exact h.1
  |succ j=>exact ih h.2 j u (by simpa using hu)
theorem UR.low{u:U}{v:V}(h:UR σ Z n u v)(hl:u.low m=true):UR σ Z m u v:=by
 induction h generalizing m with
 |bool b=>exact .bool b
 |int k x=>exact .int k x
 |str s=>exact .str s
 |br=>exact .br
 |bB=>exact .bB
 |bS=>exact .bS
 |dJ=>exact .dJ
 |di=>exact .di
 |ptr h=>exact .ptr (by simpa[U.low]using hl)
 |map h=>exact .map (by simpa[U.low]using hl)
 |jS hz hr hv ih=>exact .jS hz hr hv
 |jR hr hv ih=>exact .jR hr hv
 |slnil=>exact .slnil
 |Ak=>exact .Ak
 |Ec=>exact .Ec
 |EU=>exact .EU
 |AL hn hz hl' hc hr hv ih=>exact .AL hn hz hl' hc hr hv
 |Eh hn hl' hr hv ih=>exact .Eh hn hl' hr hv
 |func ha hb va vb iha ihb=>
  simp only[U.low,aI]at hl;exact .func ha hb (fun j u v h1 h2=>iha j u v h1 h2 (si hl.1 j u h1)) (fun j u v h1 h2=>ihb j u v h1 h2 (si hl.2 j u h1))
 |iface h ih=>exact .iface (ih (by simpa[U.low]using hl))
 |agg ha va ih=>exact .agg ha fun j u v h1 h2=>ih j u v h1 h2 (si (by simpa[U.low]using hl) j u h1)
 |aZ ha va ih=>exact .aZ ha fun j u v h1 h2=>ih j u v h1 h2 (si (by simpa[U.low]using hl) j u h1)
theorem LU.low{a:List U}{b:List V}(h:LU σ Z n a b)(hl:U.bZ m a=true):LU σ Z m a b:=
 ⟨h.1,fun j u v h1 h2=>(h.2 j u v h1 h2).low (si hl j u h1)⟩
theorem lD{k:Nat}:∀ {a:List U} {j:Nat} {u:U},(U.gi k a)[j]? =some u→∃ x,a[j]? =some x∧u=x.shift k:=by
 intro a
 induction a with
 |nil=>intro j u h;simp[U.gi]at h
 |cons x a ih=>
  intro j u h;cases j with
  |zero=>simp[U.gi]at h;exact⟨x,rfl,h.symm⟩
  |succ j=>simp[U.gi]at h;simpa using ih h
theorem og{k:Nat}:∀ {a:List U},(U.gi k a).length=a.length:=by
 intro a
 induction a with
 |nil=>rfl
 |cons x a ih=>simp[U.gi,ih]
theorem UR.shift{k:Nat}(hσ:∀ i,i<n→σ' (i+k)=σ i)(hm:n+k≤m){u:U}{v:V}(h:UR σ Z n u v):UR σ' Z m (u.shift k) v:=by
 have h0:∀ {u v},UR σ Z 0 u v→UR σ' Z 0 u v:=fun h=>h.mono (ak 0) (fun i hi=>by omega) (fun _ _ h=>h)
 induction h generalizing m with
 |bool b=>exact .bool b
 |int k x=>exact .int k x
 |str s=>exact .str s
 |br=>exact .br
 |bB=>exact .bB
 |bS=>exact .bS
 |dJ=>exact .dJ
 |di=>exact .di
 |ptr h=>rw[←hσ _ h];exact .ptr (by omega)
 |map h=>rw[←hσ _ h];exact .map (by omega)
 |jS hz hr hv ih=>exact .jS hz hr fun j u v h1 h2=>h0 (hv j u v h1 h2)
 |jR hr hv ih=>exact .jR hr fun j u v h1 h2=>h0 (hv j u v h1 h2)
 |slnil=>exact .slnil
 |Ak=>exact .Ak
 |Ec=>exact .Ec
 |EU=>exact .EU
 |AL hn hz hl' hc hr hv ih=>exact .AL hn hz hl' hc hr fun j u v h1 h2=>h0 (hv j u v h1 h2)
 |Eh hn hl' hr hv ih=>exact .Eh hn hl' hr fun j u v h1 h2=>h0 (hv j u v h1 h2)
 |func ha hb va vb iha ihb=>
  refine .func (by rw[og];exact ha) (by rw[og];exact hb) (fun j u v h1 h2=> ?_) (fun j u v h1 h2=> ?_)
  ·obtain⟨x,hx,rfl⟩:=lD h1;exact iha j x v hx h2 hσ hm
  ·obtain⟨x,hx,rfl⟩:=lD h1;exact ihb j x v hx h2 hσ hm
 |iface h ih=>exact .iface (ih hσ hm)
 |agg ha va ih=>
  refine .agg (by rw[og];exact ha) fun j u v h1 h2=> ?_;obtain⟨x,hx,rfl⟩:=lD h1;exact ih j x v hx h2 hσ hm
 |aZ ha va ih=>
  refine .aZ (by rw[og];exact ha) fun j u v h1 h2=> ?_;obtain⟨x,hx,rfl⟩:=lD h1;exact ih j x v hx h2 hσ hm
theorem QZ:∀ {a b:List U},U.mN a b=true→a.length=b.length∧∀ (j:Nat) x y,a[j]? =some x→b[j]? =some y→U.same x y=true:=by
 intro a
 induction a with
 |nil=>intro b h;cases b<;>simp[U.mN]at h⊢
 |cons x a ih=>
  intro b h;cases b with
  |nil=>simp[U.mN]at h
  |cons y b=>
   simp only[U.mN,aI]at h;obtain⟨h1,h2⟩:=ih h.2;refine⟨by simp[h1],fun j p q hp hq=> ?_⟩;cases j with
   |zero=>simp at hp hq;subst hp;subst hq;exact h.1
   |succ j=>simp at hp hq;exact h2 j p q hp hq
theorem UR.same{u u' :U}{v v' :V}(h:UR σ Z n u v)(h' :UR σ Z n u' v')(hs:U.same u u' =true):v=v' :=by
 induction h generalizing u' v' with
 |bool b=>cases h' <;>simp_all [U.same]
 |int k x=>cases h' <;>simp_all [U.same]
 |str s=>cases h' <;>simp_all [U.same]
 |br=>cases h' <;>simp_all [U.same]
 |bB=>cases h' <;>simp_all [U.same]
 |bS=>cases h' <;>simp_all [U.same]
 |dJ=>cases h' <;>simp_all [U.same]
 |di=>cases h' <;>simp_all [U.same]
 |ptr h=>cases h' <;>simp_all [U.same]
 |map h=>cases h' <;>simp_all [U.same]
 |agg ha va ih=>
  cases h' <;>simp[U.same]at hs;rename_i a' b' hb vb;obtain⟨h1,h2⟩:=QZ hs;congr 1;apply PZ;intro j;rename_i p q;cases hx:p[j]? with
  |none=>
   have hl:=List.getElem?_eq_none_iff.1 hx;rw[z8 (by omega),z8 (by omega)]
  |some x=>
   obtain⟨hj,_⟩:=aH.1 hx;have e1:=aQ (l:=q) (i:=j) (by omega);have e2:=aQ (l:=a') (i:=j) (by omega);have e3:=aQ (l:=b') (i:=j) (by omega);rw[e1,e3,ih j _ _ hx e1 (vb j _ _ e2 e3) (h2 j _ _ hx e2)]
 |_=>simp[U.same]at hs
end
end Go.RE
namespace Go.RE
structure oW where
 b:Nat
 off:Nat
 cap:Nat
 ex:Bool
 w:Nat
 row:List V
 xs:List (List U)
abbrev Sg:=Nat→Nat
abbrev Zs:=Nat→Option (List V)
abbrev Om:=Tg→Option oW
def OR(σ:Sg)(Z:Zs)(ω:Om)(g:Tg)(w:Nat)(xs:List (List U))(v:V):Prop:=
 match ω g with
 |none=>xs=[]∧(v=.bB∨v=.bQ)
 |some I=>v=.slice I.b I.off xs.length I.cap w I.ex∧(I.w=w∧I.xs=xs)∧xs.length≤I.cap∧I.off+I.cap*w≤I.row.length∧(∀ r∈xs,r.length=w)∧LU σ Z 0 xs.flatten ((I.row.drop I.off).take (xs.length*w))
def VW(ω:Om)(g:Tg)(lo len w:Nat)(v:V):Prop:=
 match ω g with
 |none=>len=0∧(v=.bB∨v=.bQ)
 |some I=>(∃ cap ex,v=.slice I.b (I.off+lo*w) len cap w ex∧len≤cap)∧I.w=w∧lo+len≤I.xs.length∨len=0∧(v=.bB∨v=.bQ)
def TR(σ:Sg)(Z:Zs)(ω:Om)(n:Nat):U→V→Prop
 | .bad,_=>True
 | .bJ ..,_=>True
 | .own g w xs,v=>OR σ Z ω g w xs v∧∀ i off,g=.c i off→i<n
 | .bI g i f,v=>(∃ I,ω g=some I∧v=.ptr I.b (I.off+i*I.w+f))∧∀ i off,g=.c i off→i<n
 | .view g lo len w,v=>VW ω g lo len w v∧∀ i off,g=.c i off→i<n
 | .dB,_=>True
 | .zw i off len w,v=>i<n∧∃ cap,len≤cap∧v=.slice (σ i) off len cap w true
 |u,v=>UR σ Z n u v
def CR(σ:Sg)(Z:Zs)(ω:Om)(n i off:Nat):U→V→Prop
 | .bad,_=>True
 | .dB,_=>True
 | .bJ w xs,v=>OR σ Z ω (.c i off) w xs v
 |u,v=>UR σ Z n u v
def OB(σ:Sg)(Z:Zs)(ω:Om)(n i:Nat):Uo→Option Ob→Prop
 | .row cs,ob=>∃ cs',ob=some (.row cs')∧cs.length=cs'.length∧∀ (off:Nat) u v,cs[off]? =some u→cs'[off]? =some v→CR σ Z ω n i off u v
 | .map es c,ob=>∃ es',ob=some (.map es' c)∧es.length=es'.length∧∀ (j:Nat) e e',es[j]? =some e→es'[j]? =some e'→UR σ Z n e.1 e'.key∧UR σ Z n e.2.1 e'.val∧e'.born=e.2.2
 | .iter m a b c,ob=>ob=some (.gA (m.map σ) a b c)∧∀ j,m=some j→j<n
 | .gone,_=>True
structure q9 where
 n:Nat
 σ:Sg
 I:Nat→Prop
 Z:Zs
 st:St
 G:Nat→Prop -- what lies hidden
 A:Option (Nat×Nat×Nat×Bool×Nat) -- where the slice lies that was handed on to be written
 L:Nat→Nat→Prop -- which cells are in use behind the call
def jJ(h:List Uo)(i off:Nat):Prop:=∃ cs,h[i]? =some (.row cs)∧cs[off]? =some .dB
def LN(E:q9)(σ:Sg)(h:List Uo)(st:St):Prop:=∀ (i off:Nat) cs,h[i]? =some (.row cs)→cs[off]? =some .dB→(E.L i off∧i<E.n)∧∃ r r',st.get (σ i)=some (.row r)∧E.st.get (E.σ i)=some (.row r')∧r[off]? =r'[off]?
def oW.desc(I:oW):Nat×Nat×Nat×Bool×Nat:=(I.b,I.off,I.cap,I.ex,I.w)
def WA(E:q9)(ω:Om):Prop:=(ω .a).map oW.desc=E.A
structure Ok(E:q9)(σ:Sg)(Z:Zs)(ω:Om)(s:Vs)(e:PT V)(st:St):Prop where
 env:∀ t u,look s.e t=some u→∃ v,e.get t=some v∧TR σ Z ω s.h.length u v
 obj:∀ (i:Nat) o,s.h[i]? =some o→OB σ Z ω s.h.length i o (st.get (σ i))
 qZ:∀ b r,Z b=some r→st.row b=some r
 mq:∀ g I,ω g=some I→st.get I.b=some (.row I.row)
 fresh:∀ b,st.next≤b→st.get b=none
 inj:∀ i j,i<s.h.length→j<s.h.length→σ i=σ j→i=j
 ic:∀ g g' I I',ω g=some I→ω g' =some I'→I.b=I'.b→g=g'
 sw:∀ i g I,i<s.h.length→ω g=some I→σ i≠I.b
 sz:∀ i,i<s.h.length→Z (σ i)=none
 wz:∀ g I,ω g=some I→Z I.b=none
 sb:∀ i,i<s.h.length→σ i<st.next
 Bn:ω .r=none∧WA E ω
 wc:∀ i off I,ω (.c i off)=some I→i<s.h.length
 n0:E.n≤s.h.length
 sig:∀ i,i<E.n→σ i=E.σ i
 zz:∀ b r,E.Z b=some r→Z b=some r
 nx:E.st.next≤st.next
 out:∀ b,b<E.st.next→¬E.I b→st.get b=E.st.get b∧(∀ i,i<s.h.length→σ i≠b)∧(∀ g I,ω g=some I→I.b≠b)∧(∀ r,Z b=some r→E.Z b=some r)
 yg:(∀ (i:Nat),E.G i→i<E.n∧s.h[i]? =some .gone∧st.get (σ i)=E.st.get (E.σ i))∧LN E σ s.h st
theorem Ok.wr{E:q9}{σ:Sg}{Z:Zs}{ω:Om}{s:Vs}{e:PT V}{st:St}(h:Ok E σ Z ω s e st):ω .r=none:=h.Bn.1
theorem Ok.gn{E:q9}{σ:Sg}{Z:Zs}{ω:Om}{s:Vs}{e:PT V}{st:St}(h:Ok E σ Z ω s e st):∀ (i:Nat),E.G i→i<E.n∧s.h[i]? =some .gone∧st.get (σ i)=E.st.get (E.σ i):=h.yg.1
theorem LN.sub{E:q9}{σ:Sg}{h h' :List Uo}{st:St}(hl:LN E σ h st)(hs:∀ (i off:Nat) cs,h'[i]? =some (.row cs)→cs[off]? =some .dB→∃ ds,h[i]? =some (.row ds)∧ds[off]? =some .dB):LN E σ h' st:=
 fun i off cs h1 h2=>let⟨ds,a,b⟩:=hs i off cs h1 h2;hl i off ds a b
theorem LN.set{E:q9}{σ:Sg}{h:List Uo}{st:St}{i:Nat}{o:Uo}(hl:LN E σ h st)(hs:∀ (off:Nat) cs,o=.row cs→cs[off]? =some .dB→∃ ds,h[i]? =some (.row ds)∧ds[off]? =some .dB):LN E σ (h.set i o) st:=
 hl.sub fun j off cs h1 h2=>by
  rw[b9]at h1;by_cases hj:i=j
  ·subst hj;rw[if_pos rfl]at h1;split at h1<;>simp at h1;exact hs off cs h1 h2
  ·rw[if_neg hj]at h1;exact⟨cs,h1,h2⟩
theorem LN.mem{E:q9}{σ:Sg}{h:List Uo}{st st' :St}(hl:LN E σ h st)(hg:∀ i,i<h.length→st'.get (σ i)=st.get (σ i)):LN E σ h st' :=
 fun i off cs h1 h2=>by rw[hg i (aH.1 h1).1];exact hl i off cs h1 h2
theorem WA.up{E:q9}{ω:Om}{ω' :Om}(h:WA E ω)(hg:ω' .a=ω .a):WA E ω' :=by unfold WA at h⊢;rw[hg];exact h
def U.tag:U→Option Tg
 | .own g _ _=>some g
 | .bI g _ _=>some g
 | .view g _ _ _=>some g
 |_=>none
section
variable{E:q9}{σ σ' :Sg}{Z Z' :Zs}{ω ω' :Om}{s:Vs}{e:PT V}{st:St}{n m:Nat}
theorem OR.mono(hZ:∀ b r,Z b=some r→Z' b=some r){g:Tg}(hg:ω' g=ω g){w:Nat}{xs:List (List U)}{v:V}(h:OR σ Z ω g w xs v):OR σ' Z' ω' g w xs v:=by
 unfold OR at h⊢;rw[hg];split at h
 ·exact h
 ·exact⟨h.1,h.2.1,h.2.2.1,h.2.2.2.1,h.2.2.2.2.1,h.2.2.2.2.2.mono (ak 0) (fun i hi=>by omega) hZ⟩
theorem VW.mono{g:Tg}(hg:ω' g=ω g){lo len w:Nat}{v:V}(h:VW ω g lo len w v):VW ω' g lo len w v:=by
 unfold VW at h⊢;rw[hg];exact h
theorem TR.mono(hn:n≤m)(hσ:∀ i,i<n→σ' i=σ i)(hZ:∀ b r,Z b=some r→Z' b=some r){u:U}{v:V}(hg:∀ g,u.tag=some g→ω' g=ω g)(h:TR σ Z ω n u v):TR σ' Z' ω' m u v:=by
 cases u with
 |bad=>trivial
 |bJ _ _=>trivial
 |own g w xs=>exact⟨h.1.mono hZ (hg g rfl),fun i off e=>by have:=h.2 i off e;omega⟩
 |bI g i f=>obtain⟨⟨I,h1,h2⟩,h3⟩:=h;exact⟨⟨I,by rw[hg g rfl];exact h1,h2⟩,fun i off e=>by have:=h3 i off e;omega⟩
 |view g lo len w=>exact⟨h.1.mono (hg g rfl),fun i off e=>by have:=h.2 i off e;omega⟩
 |dB=>trivial
 |zw i off len w=>obtain⟨h1,cap,h2,h3⟩:=h;exact⟨by omega,cap,h2,by rw[hσ i h1];exact h3⟩
 |_=>exact UR.mono hn hσ hZ h
theorem CR.mono(hn:n≤m)(hσ:∀ i,i<n→σ' i=σ i)(hZ:∀ b r,Z b=some r→Z' b=some r){i off:Nat}(hg:ω' (.c i off)=ω (.c i off)){u:U}{v:V}(h:CR σ Z ω n i off u v):CR σ' Z' ω' m i off u v:=by
 cases u with
 |bad=>trivial
 |dB=>trivial
 |bJ w xs=>exact OR.mono hZ hg h
 |_=>exact UR.mono hn hσ hZ h
theorem OB.mono(hn:n≤m)(hσ:∀ i,i<n→σ' i=σ i)(hZ:∀ b r,Z b=some r→Z' b=some r){i:Nat}(hg:∀ off,ω' (.c i off)=ω (.c i off)){o:Uo}{ob:Option Ob}(h:OB σ Z ω n i o ob):OB σ' Z' ω' m i o ob:=by
 cases o with
 |row cs=>obtain⟨cs',h1,h2,h3⟩:=h;exact⟨cs',h1,h2,fun off u v a b=>(h3 off u v a b).mono hn hσ hZ (hg off)⟩
 |map es c=>obtain⟨es',h1,h2,h3⟩:=h;exact⟨es',h1,h2,fun j x y a b=>⟨(h3 j x y a b).1.mono hn hσ hZ,(h3 j x y a b).2.1.mono hn hσ hZ,(h3 j x y a b).2.2⟩⟩
 |iter q a b c=>
  obtain⟨h1,h2⟩:=h;refine⟨?_,fun j hj=>by have:=h2 j hj;omega⟩;rw[h1];cases q with
  |none=>rfl
  |some j=>simp only[kP,hσ j (h2 j rfl)]
 |gone=>trivial
theorem TR.bE{u:U}{v:V}(h:UR σ Z n u v):TR σ Z ω n u v:=by
 cases h<;>first|exact UR.bool _|exact UR.int _ _|exact UR.str _|exact UR.br|exact UR.bB|exact UR.bS|exact UR.dJ|exact UR.di|exact UR.ptr ‹_› |exact UR.map ‹_› |
  exact UR.jS ‹_› ‹_› ‹_› |exact UR.jR ‹_› ‹_› |exact UR.slnil|exact UR.Ak|exact UR.Ec|exact UR.EU|exact UR.AL ‹_› ‹_› ‹_› ‹_› ‹_› ‹_› |exact UR.Eh ‹_› ‹_› ‹_› ‹_› |exact UR.func ‹_› ‹_› ‹_› ‹_› |exact UR.iface ‹_› |exact UR.agg ‹_› ‹_› |exact UR.aZ ‹_› ‹_›
theorem CR.bE{i off:Nat}{u:U}{v:V}(h:UR σ Z n u v):CR σ Z ω n i off u v:=by
 cases h<;>first|exact UR.bool _|exact UR.int _ _|exact UR.str _|exact UR.br|exact UR.bB|exact UR.bS|exact UR.dJ|exact UR.di|exact UR.ptr ‹_› |exact UR.map ‹_› |
  exact UR.jS ‹_› ‹_› ‹_› |exact UR.jR ‹_› ‹_› |exact UR.slnil|exact UR.Ak|exact UR.Ec|exact UR.EU|exact UR.AL ‹_› ‹_› ‹_› ‹_› ‹_› ‹_› |exact UR.Eh ‹_› ‹_› ‹_› ‹_› |exact UR.func ‹_› ‹_› ‹_› ‹_› |exact UR.iface ‹_› |exact UR.agg ‹_› ‹_› |exact UR.aZ ‹_› ‹_›
def pH(g:Tg)(s:Vs):Prop:=(∀ t u,look s.e t=some u→u.tag≠some g)∧∀ (i off:Nat),g=.c i off→∀ cs w xs,s.h[i]? =some (.row cs)→cs[off]?≠some (.bJ w xs)
def dW{α β:Type}[DecidableEq α](f:α→β)(a:α)(b:β):α→β:=fun x=>if x=a then b else f x
theorem bt{α β:Type}[DecidableEq α](f:α→β)(a:α)(b:β):dW f a b a=b:=by simp[dW]
theorem dy{α β:Type}[DecidableEq α](f:α→β){a x:α}(b:β)(h:x≠a):dW f a b x=f x:=by simp[dW,h]
theorem r9(f:U→U)(F:Env→Env)(h0:F []=[])(h1:∀ k v r,F ((k,v)::r)=(k,f v)::F r):∀ (e:Env) (t:Nat),look (F e) t=(look e t).map f:=by
 intro e
 induction e with
 |nil=>intro t;rw[h0];rfl
 |cons x r ih=>
  intro t;obtain⟨k,v⟩:=x;rw[h1];simp only[look];cases Nat.beq k t<;>simp[ih]
theorem lg(g:Tg)(e:Env)(t:Nat):look (Env.kill g e) t=(look e t).map (U.kill g):=r9 _ _ rfl (fun _ _ _=>rfl) e t
theorem Jk(g:Tg)(e:Env)(t:Nat):look (Env.mS g e) t=(look e t).map (U.mS g):=r9 _ _ rfl (fun _ _ _=>rfl) e t
theorem Cc(g g2:Tg)(e:Env)(t:Nat):look (Env.jg g g2 e) t=(look e t).map (U.jg g g2):=r9 _ _ rfl (fun _ _ _=>rfl) e t
theorem Cd(g:Tg)(ys:List (List U))(e:Env)(t:Nat):look (Env.fK g ys e) t=(look e t).map (U.fK g ys):=r9 _ _ rfl (fun _ _ _=>rfl) e t
theorem r8(p:Tg→Bool)(e:Env)(t:Nat):look (Env.bV p e) t=(look e t).map (U.bV p):=r9 _ _ rfl (fun _ _ _=>rfl) e t
theorem SQ(d:Nat)(u:U)(e:Env)(t:Nat):look (js (some d) u e) t=if t=d then some u else look e t:=by
 simp only[js,look];by_cases h:t=d
 ·subst h;simp
 ·have:Nat.beq d t=false:=by cases hb:Nat.beq d t with|false=>rfl|true=>exact absurd (aU hb).symm h
  simp[this,h]
theorem nM{g:Tg}{u u' :U}(h:u.kill g=u'):u'.tag≠some g∧(u' =u∨u' =.bad):=by
 subst h;cases u with
 |own g' w xs=>by_cases hg:g' =g<;>simp[U.kill,U.tag,hg]
 |bI g' i f=>by_cases hg:g' =g<;>simp[U.kill,U.tag,hg]
 |view g' i l w=>by_cases hg:g' =g<;>simp[U.kill,U.tag,hg]
 |_=>simp[U.kill,U.tag]
theorem Ok.setEnv(h:Ok E σ Z ω s e st){E' :Env}{e2:PT V}(he:∀ t u,look E' t=some u→∃ v,e2.get t=some v∧TR σ Z ω s.h.length u v):Ok E σ Z ω {s with e:=E'} e2 st:=
 ⟨he,h.obj,h.qZ,h.mq,h.fresh,h.inj,h.ic,h.sw,h.sz,h.wz,h.sb,h.Bn,h.wc,h.n0,h.sig,h.zz,h.nx,h.out,h.yg⟩
theorem Ok.Tq(h:Ok E σ Z ω s e st)(k:Nat):Ok E σ Z ω {s with fl:=k} e st:=
 ⟨h.env,h.obj,h.qZ,h.mq,h.fresh,h.inj,h.ic,h.sw,h.sz,h.wz,h.sb,h.Bn,h.wc,h.n0,h.sig,h.zz,h.nx,h.out,h.yg⟩
theorem Ok.put(h:Ok E σ Z ω s e st){dst:Option Nat}{u:U}{v:V}(hv:TR σ Z ω s.h.length u v):Ok E σ Z ω {s with e:=js dst u s.e} (fI dst v e) st:=by
 refine h.setEnv fun t x hx=> ?_;cases dst with
 |none=>exact h.env t x hx
 |some d=>
  rw[SQ]at hx;simp only[fI,PT.iX];by_cases ht:t=d
  ·rw[if_pos ht]at hx⊢;simp at hx;subst hx;exact⟨v,rfl,hv⟩
  ·rw[if_neg ht]at hx⊢;exact h.env t x hx
theorem Ok.qaS(h:Ok E σ Z ω s e st)(g:Tg):Ok E σ Z ω {s with e:=Env.kill g s.e} e st:=by
 refine h.setEnv fun t x hx=> ?_;rw[lg]at hx;cases hl:look s.e t with
 |none=>rw[hl]at hx;simp at hx
 |some u=>
  rw[hl]at hx;simp at hx;obtain⟨v,h1,h2⟩:=h.env t u hl;rcases(nM hx).2 with rfl|rfl
  ·exact⟨v,h1,h2⟩
  ·exact⟨v,h1,trivial⟩
theorem Ok.bV(h:Ok E σ Z ω s e st)(p:Tg→Bool):Ok E σ Z ω {s with e:=Env.bV p s.e} e st:=by
 refine h.setEnv fun t x hx=> ?_;rw[r8]at hx;cases hl:look s.e t with
 |none=>rw[hl]at hx;simp at hx
 |some u=>
  rw[hl]at hx;simp at hx;obtain⟨v,h1,h2⟩:=h.env t u hl;refine⟨v,h1,?_⟩;subst hx;cases u with
  |own g _ _=>simp only[U.bV];cases p g<;>first|exact h2|trivial
  |bI g _ _=>simp only[U.bV];cases p g<;>first|exact h2|trivial
  |view g _ _ _=>simp only[U.bV];cases p g<;>first|exact h2|trivial
  |_=>exact h2
theorem Ok.setRow(h:Ok E σ Z ω s e st){i:Nat}{cs' :List U}{cs:List U}(hi:s.h[i]? =some (.row cs))(hlen:cs'.length=cs.length)
  (hc:∀ (off:Nat) u u' v,cs[off]? =some u→cs'[off]? =some u'→CR σ Z ω s.h.length i off u v→CR σ Z ω s.h.length i off u' v)
  (hcl:∀ off:Nat,cs'[off]? =some .dB→cs[off]? =some .dB):Ok E σ Z ω {s with h:=s.h.set i (.row cs')} e st:=by
 have hl:(s.h.set i (.row cs')).length=s.h.length:=oU;have hlt:i<s.h.length:=(aH.1 hi).1;have hgn:∀ j,E.G j→j<E.n∧(s.h.set i (.row cs'))[j]? =some .gone∧st.get (σ j)=E.st.get (E.σ j):=fun j hj=>by
  obtain⟨q1,q2,q3⟩:=h.gn j hj;exact⟨q1,by rw[b9,if_neg (by rintro rfl;rw[hi]at q2;cases q2)];exact q2,q3⟩
 refine⟨fun t u hu=>by rw[hl];exact h.env t u hu,fun j o ho=> ?_,h.qZ,h.mq,h.fresh,by rw[hl];exact h.inj,h.ic,by rw[hl];exact h.sw,by rw[hl];exact h.sz,h.wz,by rw[hl];exact h.sb,h.Bn,by rw[hl];exact h.wc,by rw[hl];exact h.n0,h.sig,h.zz,h.nx,by rw[hl];exact h.out,hgn,h.yg.2.set fun off ds e hh=>by cases e;exact⟨cs,hi,hcl off hh⟩⟩;rw[hl];rw[b9]at ho;by_cases hj:i=j
 ·subst hj;rw[if_pos rfl,if_pos hlt]at ho;simp at ho;subst ho;obtain⟨ds,h1,h2,h3⟩:=h.obj i _ hi;refine⟨ds,h1,by omega,fun off u v hu hv=> ?_⟩;obtain⟨ho1,ho2⟩:=aH.1 hu;have hx:=aQ (l:=cs) (i:=off) (by omega);exact hc off _ u v hx hu (h3 off _ v hx hv)
 ·rw[if_neg hj]at ho;exact h.obj j o ho
theorem Ok.L1(h:Ok E σ Z ω s e st)(i off:Nat):Ok E σ Z ω {s with h:=setCell s.h i off .bad} e st:=by
 unfold setCell;split
 ·rename_i cs hi;refine h.setRow hi (by simp) (fun o u u' v h1 h2 h3=> ?_) fun o h2=> ?_
  ·rw[b9]at h2;split at h2
   ·split at h2<;>simp at h2;subst h2;trivial
   ·rw[h1]at h2;simp at h2;subst h2;exact h3
  ·rw[b9]at h2;split at h2
   ·split at h2<;>simp at h2
   ·exact h2
 ·exact h
theorem Ok.kill(h:Ok E σ Z ω s e st)(g:Tg):Ok E σ Z ω (s.kill g) e st:=by
 unfold Vs.kill;split
 ·exact(h.qaS _).L1 _ _
 ·exact h.qaS _
theorem JO{h:List Uo}{i off:Nat}{v:U}{cs:List U}(hc:(setCell h i off v)[i]? =some (.row cs))(hlt:off<cs.length):cs[off]? =some v:=by
 unfold setCell at hc;split at hc
 ·rename_i ds hi;rw[b9,if_pos rfl,if_pos (aH.1 hi).1]at hc;simp at hc;subst hc;rw[oU]at hlt;rw[b9,if_pos rfl,if_pos hlt]
 ·rename_i hno;exact absurd hc (hno _)
theorem oK(g:Tg)(s:Vs):∀ t u,look (Env.kill g s.e) t=some u→u.tag≠some g:=by
 intro t u hu;rw[lg]at hu;cases hl:look s.e t with
 |none=>rw[hl]at hu;simp at hu
 |some x=>rw[hl]at hu;simp at hu;exact(nM hu).1
theorem fD(g:Tg)(s:Vs):pH g (s.kill g):=by
 unfold Vs.kill;split
 ·rename_i i off;refine⟨oK _ s,fun i' off' he cs w xs hc hx=> ?_⟩;cases he;obtain⟨hlt,_⟩:=aH.1 hx;rw[JO hc hlt]at hx;cases hx
 ·rename_i hno;exact⟨oK _ s,fun i off he=>absurd he (hno i off)⟩
theorem pH.kill{g g' :Tg}{s:Vs}(h:pH g s):pH g (s.kill g'):=by
 have h1:∀ t u,look (Env.kill g' s.e) t=some u→u.tag≠some g:=fun t u hu=>by
  rw[lg]at hu;cases hl:look s.e t with
  |none=>rw[hl]at hu;simp at hu
  |some x=>
   rw[hl]at hu;simp at hu;rcases(nM hu).2 with rfl|rfl
   ·exact h.1 t _ hl
   ·simp[U.tag]
 unfold Vs.kill;split
 ·rename_i i off;refine⟨h1,fun i' off' he cs w xs hc hx=> ?_⟩;simp only at hc;unfold setCell at hc;split at hc
  ·rename_i ds hi;rw[b9]at hc;split at hc
   ·rename_i hii;subst hii;split at hc<;>simp at hc;subst hc;rw[b9]at hx;split at hx
    ·split at hx<;>simp at hx
    ·exact h.2 i off' he ds w xs hi hx
   ·exact h.2 i' off' he cs w xs hc hx
  ·exact h.2 i' off' he cs w xs hc hx
 ·exact⟨h1,h.2⟩
theorem Ok.Cw(h:Ok E σ Z ω s e st){g:Tg}(hn:pH g s){o:Option oW}(hr:g≠.r)
  (ho:∀ I,o=some I→st.get I.b=some (.row I.row)∧(∀ i,i<s.h.length→σ i≠I.b)∧Z I.b=none∧(∀ g' I',g'≠g→ω g' =some I'→I'.b≠I.b)∧(∀ b,b<E.st.next→¬E.I b→I.b≠b)∧∀ i off,g=.c i off→i<s.h.length) (hra:g≠.a:=by simp):
  Ok E σ Z (dW ω g o) s e st:=by
 have hne:∀ g',g'≠g→dW ω g o g' =ω g' :=fun g' hg=>dy ω o hg;have hsame:dW ω g o g=o:=bt ω g o;have hcase:∀ g' I,dW ω g o g' =some I→(g' =g∧o=some I)∨(g'≠g∧ω g' =some I):=fun g' I hI=>by
  by_cases hg:g' =g
  ·subst hg;rw[hsame]at hI;exact .inl ⟨rfl,hI⟩
  ·rw[hne g' hg]at hI;exact .inr ⟨hg,hI⟩
 refine⟨fun t u hu=> ?_,fun i ob hob=> ?_,h.qZ,fun g' I hI=> ?_,h.fresh,h.inj,fun g1 g2 I1 I2 h1 h2 hb=> ?_,fun i g' I hi hI=> ?_,h.sz,fun g' I hI=> ?_,h.sb,?_,fun i off I hI=> ?_,h.n0,h.sig,h.zz,h.nx,fun b hb hbI=> ?_,h.yg⟩
 ·obtain⟨v,h1,h2⟩:=h.env t u hu;exact⟨v,h1,h2.mono (ak _) (fun _ _=>rfl) (fun _ _ h=>h) fun g' hg' =>hne g' fun hh=>hn.1 t u hu (hh▸hg')⟩
 ·have h1:=h.obj i ob hob;cases ob with
  |row cs=>
   obtain⟨cs',q1,q2,q3⟩:=h1;refine⟨cs',q1,q2,fun off u v hu hv=> ?_⟩;have h2:=q3 off u v hu hv;cases u with
   |bJ w xs=>
    refine OR.mono (fun _ _ h=>h) (hne _ fun hh=> ?_) h2;exact hn.2 i off hh.symm cs w xs hob hu
   |bad=>trivial
   |dB=>trivial
   |_=>exact h2
  |map es c=>exact h1
  |iter q a b c=>exact h1
  |gone=>trivial
 ·rcases hcase g' I hI with⟨_,hh⟩|⟨_,hh⟩
  ·exact(ho I hh).1
  ·exact h.mq g' I hh
 ·rcases hcase g1 I1 h1 with⟨e1,k1⟩|⟨e1,k1⟩<;>rcases hcase g2 I2 h2 with⟨e2,k2⟩|⟨e2,k2⟩
  ·rw[e1,e2]
  ·exact absurd hb.symm ((ho I1 k1).2.2.2.1 g2 I2 e2 k2)
  ·exact absurd hb ((ho I2 k2).2.2.2.1 g1 I1 e1 k1)
  ·exact h.ic g1 g2 I1 I2 k1 k2 hb
 ·rcases hcase g' I hI with⟨_,hh⟩|⟨_,hh⟩
  ·exact(ho I hh).2.1 i hi
  ·exact h.sw i g' I hi hh
 ·rcases hcase g' I hI with⟨_,hh⟩|⟨_,hh⟩
  ·exact(ho I hh).2.2.1
  ·exact h.wz g' I hh
 ·exact⟨by rw[hne _ (cc hr)];exact h.wr,h.Bn.2.up (hne _ (cc hra))⟩
 ·rcases hcase _ I hI with⟨hg,hh⟩|⟨_,hh⟩
  ·exact(ho I hh).2.2.2.2.2 i off hg.symm
  ·exact h.wc i off I hh
 ·obtain⟨k1,k2,k3,k4⟩:=h.out b hb hbI;refine⟨k1,k2,fun g' I hI=> ?_,k4⟩;rcases hcase g' I hI with⟨_,hh⟩|⟨_,hh⟩
  ·exact(ho I hh).2.2.2.2.1 b hb hbI
  ·exact k3 g' I hh
theorem NH{g:Tg}{u u' :U}(h:u.mS g=u'):u'.tag≠some g∧(u' =u∨u' =.bad∨∃ w xs,u=.own g w xs∧u' =.sl w xs):=by
 subst h;cases u with
 |own g' w xs=>by_cases hg:g' =g<;>simp[U.mS,U.tag,hg]
 |bI g' i f=>by_cases hg:g' =g<;>simp[U.mS,U.tag,hg]
 |view g' i l w=>by_cases hg:g' =g<;>simp[U.mS,U.tag,hg]
 |_=>simp[U.mS,U.tag]
theorem OR.sl{g:Tg}{w:Nat}{xs:List (List U)}{v:V}(h:OR σ Z ω g w xs v)(hZ:∀ b r,Z b=some r→Z' b=some r)(hI:∀ I,ω g=some I→Z' I.b=some I.row):UR σ Z' n (.sl w xs) v:=by
 unfold OR at h;split at h
 ·obtain⟨rfl,rfl|rfl⟩:=h
  ·exact .slnil
  ·exact .Ak
 ·rename_i I hg;obtain⟨rfl,h0,h1,h2,h3,h4⟩:=h;have hle:xs.length*w≤I.cap*w:=iB _ h1;have h4' :=h4.mono (ak 0) (σ' :=σ) (fun i hi=>rfl) hZ;exact .AL rfl (hI I hg) h3 h1 (by omega) fun j u v a b=>h4'.2 j u v a b
theorem Ok.mS(h:Ok E σ Z ω s e st)(g:Tg)(hga:g≠.a):∃ Z' ω',Ok E σ Z' ω' (s.mS g) e st∧(∀ b r,Z b=some r→Z' b=some r)∧(∀ g',g'≠g→ω' g' =ω g')∧pH g (s.mS g)∧(∀ I,ω g=some I→Z' I.b=some I.row)∧(s.mS g).h.length=s.h.length:=by
 -- what is told of the cells
 have key:∀ (s1:Vs),s1.h.length=s.h.length→(∀ (i:Nat),s.h[i]? =some Uo.gone→s1.h[i]? =some Uo.gone)→(∀ (i off:Nat) cs,s1.h[i]? =some (.row cs)→cs[off]? =some .dB→∃ ds,s.h[i]? =some (.row ds)∧ds[off]? =some .dB)→pH g s1→
   (∀ (Z' :Zs),(∀ b r,Z b=some r→Z' b=some r)→(∀ I,ω g=some I→Z' I.b=some I.row)→∀ (ω' :Om),(∀ g',g'≠g→ω' g' =ω g')→
    (∀ t u,look s1.e t=some u→∃ v,e.get t=some v∧TR σ Z' ω' s.h.length u v)∧∀ (i:Nat) o,s1.h[i]? =some o→OB σ Z' ω' s.h.length i o (st.get (σ i)))→
   ∃ Z' ω',Ok E σ Z' ω' s1 e st∧(∀ b r,Z b=some r→Z' b=some r)∧(∀ g',g'≠g→ω' g' =ω g')∧pH g s1∧(∀ I,ω g=some I→Z' I.b=some I.row)∧s1.h.length=s.h.length:=by
  intro s1 hl hgo hln hnt hk;have hgn:∀ j,E.G j→j<E.n∧s1.h[j]? =some .gone∧st.get (σ j)=E.st.get (E.σ j):=fun j hj=>⟨(h.gn j hj).1,hgo j (h.gn j hj).2.1,(h.gn j hj).2.2⟩;cases hg:ω g with
  |none=>
   obtain⟨k1,k2⟩:=hk Z (fun _ _ h=>h) (fun I hI=>by rw[hg]at hI;cases hI) ω (fun _ _=>rfl);refine⟨Z,ω,⟨by rw[hl];exact k1,by rw[hl];exact k2,h.qZ,h.mq,h.fresh,by rw[hl];exact h.inj,h.ic,by rw[hl];exact h.sw,by rw[hl];exact h.sz,h.wz,by rw[hl];exact h.sb,h.Bn,by rw[hl];exact h.wc,by rw[hl];exact h.n0,h.sig,h.zz,h.nx,by rw[hl];exact h.out,hgn,h.yg.2.sub hln⟩,fun _ _ h=>h,fun _ _=>rfl,hnt,(fun I hI=>by cases hI),hl⟩
  |some I=>
   have hZn:Z I.b=none:=h.wz g I hg;have hZ:∀ b r,Z b=some r→dW Z I.b (some I.row) b=some r:=fun b r hb=>by
    rw[dy];exact hb;intro hh;subst hh;rw[hZn]at hb;cases hb
   have hω:∀ g',g'≠g→dW ω g none g' =ω g' :=fun g' hh=>dy _ _ hh;have hzc:∀ b r,dW Z I.b (some I.row) b=some r→(b=I.b∧r=I.row)∨Z b=some r:=fun b r hb=>by
    by_cases hbb:b=I.b
    ·subst hbb;rw[bt]at hb;simp at hb;exact .inl ⟨rfl,hb.symm⟩
    ·rw[dy _ _ hbb]at hb;exact .inr hb
   have hwc:∀ g' J,dW ω g none g' =some J→g'≠g∧ω g' =some J:=fun g' J hJ=>by
    by_cases hgg:g' =g
    ·subst hgg;rw[bt]at hJ;cases hJ
    ·rw[dy _ _ hgg]at hJ;exact⟨hgg,hJ⟩
   have hIn:∀ J,some I=some J→dW Z I.b (some I.row) J.b=some J.row:=fun J hJ=>by cases hJ;exact bt _ _ _
   obtain⟨k1,k2⟩:=hk (dW Z I.b (some I.row)) hZ (fun J hJ=>hIn J (hg▸hJ)) (dW ω g none) hω;refine⟨_,_,⟨by rw[hl];exact k1,by rw[hl];exact k2,fun b r hb=> ?_,fun g' J hJ=>h.mq g' J (hwc g' J hJ).2,h.fresh,by rw[hl];exact h.inj,fun g1 g2 J1 J2 h1 h2=>h.ic g1 g2 J1 J2 (hwc _ _ h1).2 (hwc _ _ h2).2,fun i g' J hi hJ=>h.sw i g' J (by omega) (hwc _ _ hJ).2,fun i hi=> ?_,fun g' J hJ=> ?_,by rw[hl];exact h.sb,?_,fun i off J hJ=>by rw[hl];exact h.wc i off J (hwc _ _ hJ).2,by rw[hl];exact h.n0,h.sig,fun b r hb=>hZ b r (h.zz b r hb),h.nx,fun b hb hbI=> ?_,hgn,h.yg.2.sub hln⟩,hZ,hω,hnt,hIn,hl⟩
   ·rcases hzc b r hb with⟨rfl,rfl⟩|hb
    ·exact iZ (h.mq g I hg)
    ·exact h.qZ b r hb
   ·rw[dy _ _ (h.sw i g I (by omega) hg)];exact h.sz i (by omega)
   ·obtain⟨j1,j2⟩:=hwc g' J hJ;rw[dy];exact h.wz g' J j2;intro hh;exact j1 (h.ic g' g J I j2 hg hh)
   ·refine⟨?_,h.Bn.2.up (hω _ (cc hga))⟩;by_cases hgr:Tg.r=g
    ·subst hgr;exact bt _ _ _
    ·rw[dy _ _ hgr];exact h.wr
   ·obtain⟨q1,q2,q3,q4⟩:=h.out b hb hbI;refine⟨q1,by rw[hl];exact q2,fun g' J hJ=>q3 g' J (hwc _ _ hJ).2,fun r hr=> ?_⟩;rcases hzc b r hr with⟨rfl,_⟩|hr
    ·exact absurd rfl (q3 g I hg)
    ·exact q4 r hr
 -- the temporaries
 have henv:∀ (Z' :Zs),(∀ b r,Z b=some r→Z' b=some r)→(∀ I,ω g=some I→Z' I.b=some I.row)→∀ (ω' :Om),(∀ g',g'≠g→ω' g' =ω g')→
   ∀ t u,look (Env.mS g s.e) t=some u→∃ v,e.get t=some v∧TR σ Z' ω' s.h.length u v:=by
  intro Z' hZ hI ω' hω t u hu;rw[Jk]at hu;cases hl:look s.e t with
  |none=>rw[hl]at hu;simp at hu
  |some x=>
   rw[hl]at hu;simp at hu;obtain⟨v,h1,h2⟩:=h.env t x hl;refine⟨v,h1,?_⟩;obtain⟨f1,f2⟩:=NH hu;rcases f2 with rfl|rfl|⟨w,xs,rfl,rfl⟩
   ·exact h2.mono (ak _) (fun _ _=>rfl) hZ fun g' hg' =>hω g' fun hh=>f1 (hh▸hg')
   ·trivial
   ·exact TR.bE (h2.1.sl hZ hI)
 have henvk:∀ (Z' :Zs),(∀ b r,Z b=some r→Z' b=some r)→∀ (ω' :Om),(∀ g',g'≠g→ω' g' =ω g')→
   ∀ t u,look (Env.kill g s.e) t=some u→∃ v,e.get t=some v∧TR σ Z' ω' s.h.length u v:=by
  intro Z' hZ ω' hω t u hu;rw[lg]at hu;cases hl:look s.e t with
  |none=>rw[hl]at hu;simp at hu
  |some x=>
   rw[hl]at hu;simp at hu;obtain⟨v,h1,h2⟩:=h.env t x hl;refine⟨v,h1,?_⟩;obtain⟨f1,f2⟩:=nM hu;rcases f2 with rfl|rfl
   ·exact h2.mono (ak _) (fun _ _=>rfl) hZ fun g' hg' =>hω g' fun hh=>f1 (hh▸hg')
   ·trivial
 have hnf:∀ t u,look (Env.mS g s.e) t=some u→u.tag≠some g:=fun t u hu=>by
  rw[Jk]at hu;cases hl:look s.e t with
  |none=>rw[hl]at hu;simp at hu
  |some x=>rw[hl]at hu;simp at hu;exact(NH hu).1
 have hobj:∀ (Z' :Zs),(∀ b r,Z b=some r→Z' b=some r)→∀ (ω' :Om),(∀ g',g'≠g→ω' g' =ω g')→∀ (i:Nat) o,s.h[i]? =some o→
   (∀ off cs w xs,g=.c i off→o=.row cs→cs[off]?≠some (.bJ w xs))→OB σ Z' ω' s.h.length i o (st.get (σ i)):=by
  intro Z' hZ ω' hω i o ho hno;have h1:=h.obj i o ho;cases o with
  |row cs=>
   obtain⟨cs',q1,q2,q3⟩:=h1;refine⟨cs',q1,q2,fun off u v hu hv=> ?_⟩;have h2:=q3 off u v hu hv;cases u with
   |bad=>trivial
   |dB=>trivial
   |bJ w xs=>
    refine OR.mono hZ (hω _ fun hh=> ?_) h2;exact hno off cs w xs hh.symm rfl hu
   |_=>exact UR.mono (ak _) (fun _ _=>rfl) hZ h2
  |map es c=>exact h1.mono (ak _) (fun _ _=>rfl) hZ (ω' :=ω) (fun _=>rfl)
  |iter q a b c=>exact h1
  |gone=>trivial
 unfold Vs.mS;split
 ·rename_i i off;split
  ·rename_i cs hi;have hlt:i<s.h.length:=(aH.1 hi).1;split
   ·rename_i w xs hc;have hoff:off<cs.length:=(aH.1 hc).1;refine key _ (by simp) (fun j hj=>by simp only;rw[b9,if_neg (by rintro rfl;rw[hi]at hj;cases hj)];exact hj) (fun j off' cs' h1 h2=>by
     simp only at h1;rw[b9]at h1;by_cases hj:i=j
     ·subst hj;rw[if_pos rfl,if_pos hlt]at h1;simp at h1;subst h1;rw[b9]at h2;by_cases ho:off=off'
      ·subst ho;rw[if_pos rfl,if_pos hoff]at h2;simp at h2
      ·rw[if_neg ho]at h2;exact⟨cs,hi,h2⟩
     ·rw[if_neg hj]at h1;exact⟨cs',h1,h2⟩) ⟨hnf,fun i' off' he cs' w' xs' hh hx=> ?_⟩ fun Z' hZ hI ω' hω=>⟨henv Z' hZ hI ω' hω,fun j o ho=> ?_⟩
    ·cases he;rw[b9,if_pos rfl,if_pos hlt]at hh;simp at hh;subst hh;rw[b9,if_pos rfl,if_pos hoff]at hx;simp at hx
    ·rw[b9]at ho;by_cases hj:i=j
     ·subst hj;rw[if_pos rfl,if_pos hlt]at ho;simp at ho;subst ho;obtain⟨cs',q1,q2,q3⟩:=h.obj i _ hi;refine⟨cs',q1,by rw[oU];exact q2,fun o u v hu hv=> ?_⟩;rw[b9]at hu;by_cases ho:off=o
      ·subst ho;rw[if_pos rfl,if_pos hoff]at hu;simp at hu;subst hu;exact CR.bE (OR.sl (q3 off _ v hc hv) hZ hI)
      ·rw[if_neg ho]at hu;have h2:=q3 o u v hu hv;exact h2.mono (ak _) (fun _ _=>rfl) hZ (hω _ fun hh=>ho (by simp at hh;omega))
     ·rw[if_neg hj]at ho;exact hobj Z' hZ ω' hω j o ho fun off' cs' w' xs' he _=>by simp at he;exact absurd he.1 hj
   ·rename_i hno;refine key _ rfl (fun _ h=>h) (fun _ _ cs h1 h2=>⟨cs,h1,h2⟩) ⟨oK _ s,fun i' off' he cs' w' xs' hh hx=> ?_⟩ fun Z' hZ hI ω' hω=>⟨henvk Z' hZ ω' hω,fun j o ho=>hobj Z' hZ ω' hω j o ho fun off' cs' w' xs' he hoo hx=> ?_⟩
    ·cases he;rw[hi]at hh;simp at hh;subst hh;exact hno w' xs' hx
    ·cases he;rw[hi]at ho;simp at ho;subst ho;simp at hoo;subst hoo;exact hno w' xs' hx
  ·rename_i hno;refine key _ rfl (fun _ h=>h) (fun _ _ cs h1 h2=>⟨cs,h1,h2⟩) ⟨oK _ s,fun i' off' he cs' w' xs' hh hx=> ?_⟩ fun Z' hZ hI ω' hω=>⟨henvk Z' hZ ω' hω,fun j o ho=>hobj Z' hZ ω' hω j o ho fun off' cs' w' xs' he hoo hx=> ?_⟩
   ·cases he;exact hno _ hh
   ·cases he;subst hoo;exact hno _ ho
 ·rename_i hno;exact key _ rfl (fun _ h=>h) (fun _ _ cs h1 h2=>⟨cs,h1,h2⟩) ⟨hnf,fun i off he=>absurd he (hno i off)⟩ fun Z' hZ hI ω' hω=>⟨henv Z' hZ hI ω' hω,fun j o ho=>hobj Z' hZ ω' hω j o ho fun off cs w xs he=>absurd he (hno j off)⟩
end
end Go.RE
namespace Go.RE
section
variable{E:q9}{σ:Sg}{Z:Zs}{ω:Om}{s s' :Vs}{e:PT V}{st:St}{n:Nat}
mutual
theorem pL:∀ (v:V),(v.nj≠.bad)→(∀ g w xs,v.nj≠.own g w xs)→(∀ w xs,v.nj≠.bJ w xs)→UR σ Z n v.nj v.er
 | .bool b,_,_,_=> .bool b
 | .int k x,_,_,_=> .int k x
 | .str s,_,_,_=> .str s
 | .br,_,_,_=> .br
 | .bB,_,_,_=> .bB
 | .bS,_,_,_=> .bS
 | .dJ,_,_,_=> .dJ
 | .di,_,_,_=> .di
 | .bQ,h,_,_=>absurd rfl h
 | .ptr _ _,h,_,_=>absurd rfl h
 | .eR _ _,h,_,_=>absurd rfl h
 | .slice ..,h,_,_=>absurd rfl h
 | .map _,h,_,_=>absurd rfl h
 | .ah [] 0 0 w,_,_,_=> .slnil
 | .ah [] 1 0 w,_,h,_=>absurd rfl (h _ _ _)
 | .ah [] 2 0 w,_,_,h=>absurd rfl (h _ _)
 | .ah [] 3 0 w,_,_,_=> .Ec
 | .ah [] (k+4) 0 w,h,_,_=>absurd rfl h
 | .ah [] 0 (l+1) w,h,_,_=>absurd rfl h
 | .ah [] 1 (l+1) w,h,_,_=>absurd rfl h
 | .ah [] 2 (l+1) w,h,_,_=>absurd rfl h
 | .ah [] 3 (l+1) w,h,_,_=>absurd rfl h
 | .ah [] (k+4) (l+1) w,h,_,_=>absurd rfl h
 | .ah (a::r) o l w,h,_,_=>absurd rfl h
 | .func f a b,h,_,_=>by
  simp only[V.nj,V.er]at h⊢;cases hc:((V.dF a).all U.aL&&(V.dF b).all U.aL)with
  |false=>rw[hc]at h;exact absurd rfl h
  |true=>
   simp only[aI]at hc;have h1:=jQ a hc.1;have h2:=jQ b hc.2;simp only[hc.1,hc.2,jh,cond_true];exact .func h1.1 h2.1 h1.2 h2.2
 | .iface t v,h,_,_=>by
  simp only[V.nj,V.er]at h⊢;cases hc:v.nj.aL with
  |false=>rw[hc]at h;exact absurd rfl h
  |true=>
   simp only[cond_true];exact .iface (pL v (fun hh=>by rw[hh]at hc;cases hc) (fun g w xs hh=>by rw[hh]at hc;cases hc) (fun w xs hh=>by rw[hh]at hc;cases hc))
 | .agg cs,h,_,_=>by
  simp only[V.nj,V.er]at h⊢;cases hc:(V.dF cs).all U.aL with
  |false=>rw[hc]at h;exact absurd rfl h
  |true=>
   have h1:=jQ cs hc;simp only[cond_true];exact .agg h1.1 h1.2
 | .aZ cs,h,_,_=>by
  simp only[V.nj,V.er]at h⊢;cases hc:(V.dF cs).all U.aL with
  |false=>rw[hc]at h;exact absurd rfl h
  |true=>
   have h1:=jQ cs hc;simp only[cond_true];exact .aZ h1.1 h1.2
theorem jQ:∀ (vs:List V),(V.dF vs).all U.aL=true→LU σ Z n (V.dF vs) (V.As vs)
 |[],_=>LU.nil
 |v::vs,h=>by
  simp only[V.dF,kG,aI]at h;exact LU.cons (pL v (fun hh=>by rw[hh]at h;cases h.1) (fun g w xs hh=>by rw[hh]at h;cases h.1) (fun w xs hh=>by rw[hh]at h;cases h.1)) (jQ vs h.2)
end
theorem Ma{v:V}{u:U}(h:v.GG=some u):UR σ Z n u v.er:=by
 unfold V.GG at h;have:=pL (σ:=σ) (Z:=Z) (n:=n) v;generalize v.nj=x at h this;cases x<;>simp at h<;>subst h<;>exact this (by simp) (by simp) (by simp)
theorem Ql{v:V}:∀ {g w xs},v.nj=.own g w xs→g=.r∧xs=[]∧v.er=.bB:=by
 intro g w xs h;cases v with
 |ah r o l z=>
  match r,o,l with
  |[],0,0=>simp[V.nj]at h
  |[],1,0=>simp[V.nj]at h;exact⟨h.1.symm,h.2.2,rfl⟩
  |[],2,0=>simp[V.nj]at h
  |[],3,0=>simp[V.nj]at h
  |[],k+4,0=>simp[V.nj]at h
  |[],_,l+1=>simp[V.nj]at h
  |a::r,_,_=>simp[V.nj]at h
 |func f a b=>simp only[V.nj]at h;generalize (_&&_:Bool)=c at h;cases c<;>simp at h
 |iface t v=>simp only[V.nj]at h;generalize U.aL _=c at h;cases c<;>simp at h
 |agg cs=>simp only[V.nj]at h;generalize List.all _ _=c at h;cases c<;>simp at h
 |aZ cs=>simp only[V.nj]at h;generalize List.all _ _=c at h;cases c<;>simp at h
 |_=>simp[V.nj]at h
theorem Ok.cW(h:Ok E σ Z ω s e st){x:bO}{u:U}(hu:cA s.e x=some u):∃ v,x.er.ev e=some v∧TR σ Z ω s.h.length u v:=by
 cases x with
 |t t=>exact h.env t u hu
 |c v=>
  simp only[cA,ag]at hu;refine⟨v.er,rfl,?_⟩;subst hu;have hc:=pL (σ:=σ) (Z:=Z) (n:=s.h.length) v;cases hq:v.nj with
  |bad=>trivial
  |bJ w xs=>trivial
  |own g w xs=>
   obtain⟨rfl,rfl,he⟩:=Ql hq;refine⟨?_,fun i off hh=>by cases hh⟩;unfold OR;rw[h.wr,he];exact⟨rfl,.inl rfl⟩
  |_=>rw[←hq];exact TR.bE (hc (by rw[hq];simp) (by rw[hq];simp) (by rw[hq];simp))
theorem TR.bool{b:Bool}{v:V}(h:TR σ Z ω n (.bool b) v):v=.bool b:=by cases h;rfl
theorem TR.int{k:IntKind}{x:Int}{v:V}(h:TR σ Z ω n (.int k x) v):v=.int k x:=by cases h;rfl
theorem TR.str{b:List UInt8}{v:V}(h:TR σ Z ω n (.str b) v):v=.str b:=by cases h;rfl
theorem TR.ptr{i off:Nat}{v:V}(h:TR σ Z ω n (.ptr i off) v):i<n∧v=.ptr (σ i) off:=by cases h;exact⟨‹_›,rfl⟩
theorem TR.map{i:Nat}{v:V}(h:TR σ Z ω n (.map i) v):i<n∧v=.map (σ i):=by cases h;exact⟨‹_›,rfl⟩
theorem TR.bS{v:V}(h:TR σ Z ω n .bS v):v=.bS:=by cases h;rfl
theorem TR.di{v:V}(h:TR σ Z ω n .di v):v=.di:=by cases h;rfl
theorem TR.agg{cs:List U}{v:V}(h:TR σ Z ω n (.agg cs) v):∃ cs',v=.agg cs'∧LU σ Z n cs cs' :=by cases h;exact⟨_,rfl,‹_›,‹_›⟩
theorem TR.aZ{cs:List U}{v:V}(h:TR σ Z ω n (.aZ cs) v):∃ cs',v=.aZ cs'∧LU σ Z n cs cs' :=by cases h;exact⟨_,rfl,‹_›,‹_›⟩
theorem TR.iface{t:Nat}{u:U}{v:V}(h:TR σ Z ω n (.iface t u) v):∃ v',v=.iface t v'∧UR σ Z n u v' :=by cases h;exact⟨_,rfl,‹_›⟩
theorem TR.func{f:Nat}{a b:List U}{v:V}(h:TR σ Z ω n (.func f a b) v):∃ a' b',v=.func f a' b'∧LU σ Z n a a'∧LU σ Z n b b' :=by cases h;exact⟨_,_,rfl,⟨‹_›,‹_›⟩,⟨‹_›,‹_›⟩⟩
theorem sE{u:U}{x v:V}(hx:u.toV=some x)(h:TR σ Z ω n u v):v=x:=by
 cases u<;>simp[U.toV]at hx<;>subst hx
 ·exact TR.bool h
 ·exact TR.int h
 ·exact TR.str h
theorem qea{u:U}{x:V}(hx:U.ofV x=some u):UR σ Z n u x:=by
 cases x<;>simp[U.ofV]at hx<;>subst hx
 ·exact .bool _
 ·exact .int _ _
 ·exact .str _
theorem GH{o:Option V}{u:U}(h:Ol o=some u):∃ x,o=some x∧UR σ Z n u x:=by
 cases o with
 |none=>simp[Ol]at h
 |some x=>exact⟨x,rfl,qea h⟩
theorem UR.cells{u:U}{v:V}(h:UR σ Z n u v):LU σ Z n u.cells v.cells:=by
 cases h with
 |agg ha va=>exact⟨ha,va⟩
 |bool b=>exact LU.cons (.bool b) .nil
 |int k x=>exact LU.cons (.int k x) .nil
 |str b=>exact LU.cons (.str b) .nil
 |br=>exact LU.cons .br .nil
 |bB=>exact LU.cons .bB .nil
 |bS=>exact LU.cons .bS .nil
 |dJ=>exact LU.cons .dJ .nil
 |di=>exact LU.cons .di .nil
 |ptr h=>exact LU.cons (.ptr h) .nil
 |map h=>exact LU.cons (.map h) .nil
 |jS a b c=>exact LU.cons (.jS a b c) .nil
 |jR a b=>exact LU.cons (.jR a b) .nil
 |slnil=>exact LU.cons .slnil .nil
 |Ak=>exact LU.cons .Ak .nil
 |Ec=>exact LU.cons .Ec .nil
 |EU=>exact LU.cons .EU .nil
 |AL a b c d f g=>exact LU.cons (.AL a b c d f g) .nil
 |Eh a b c d=>exact LU.cons (.Eh a b c d) .nil
 |func a b c d=>exact LU.cons (.func a b c d) .nil
 |iface a=>exact LU.cons (.iface a) .nil
 |aZ a b=>exact LU.cons (.aZ a b) .nil
theorem Ok.esc(h:Ok E σ Z ω s e st){u u' :U}{v:V}(hu:TR σ Z ω s.h.length u v)(he:esc u s=some (u',s')):
  ∃ Z' ω',Ok E σ Z' ω' s' e st∧UR σ Z' s.h.length u' v∧s'.h.length=s.h.length∧∀ b r,Z b=some r→Z' b=some r:=by
 cases u with
 |own g w xs=>
  have hga:g≠.a:=by rintro rfl;simp[RE.esc]at he
  have he:(U.sl w xs,s.mS g)=(u',s'):=by cases g<;>first|exact absurd rfl hga|simpa[RE.esc]using he
  simp only[ay]at he;obtain⟨rfl,rfl⟩:=he;obtain⟨Z',ω',h1,h2,h3,h4,h5,h6⟩:=h.mS g hga;exact⟨Z',ω',h1,hu.1.sl h2 h5,h6,h2⟩
 |bad=>simp[RE.esc]at he
 |bJ w xs=>simp[RE.esc]at he
 |bI g i f=>simp[RE.esc]at he
 |zw i o l w=>simp[RE.esc]at he
 |view g i l w=>simp[RE.esc]at he
 |dB=>simp[RE.esc]at he
 |aZ vs=>simp[RE.esc]at he
 |_=>
  simp only[RE.esc,ag,ay]at he;obtain⟨rfl,rfl⟩:=he;exact⟨Z,ω,h,hu,rfl,fun _ _ h=>h⟩
theorem Ok.gb(h:Ok E σ Z ω s e st){x:bO}{u' :U}(he:gb x s=some (u',s')):
  ∃ Z' ω' v,x.er.ev e=some v∧Ok E σ Z' ω' s' e st∧UR σ Z' s.h.length u' v∧s'.h.length=s.h.length∧∀ b r,Z b=some r→Z' b=some r:=by
 unfold RE.gb at he;cases hx:cA s.e x with
 |none=>rw[hx]at he;simp at he
 |some u=>
  rw[hx]at he;obtain⟨v,h1,h2⟩:=h.cW hx;obtain⟨Z',ω',h3⟩:=h.esc h2 he;exact⟨Z',ω',v,h1,h3⟩
theorem Ok.gy:∀ {xs:List bO} {s s' :Vs} {Z:Zs} {ω:Om} {us:List U},Ok E σ Z ω s e st→gy xs s=some (us,s')→
  ∃ Z' ω' vs,La e (nX xs)=some vs∧Ok E σ Z' ω' s' e st∧LU σ Z' s.h.length us vs∧s'.h.length=s.h.length∧∀ b r,Z b=some r→Z' b=some r:=by
 intro xs
 induction xs with
 |nil=>
  intro s s' Z ω us h he;simp[RE.gy]at he;obtain⟨rfl,rfl⟩:=he;exact⟨Z,ω,[],rfl,h,.nil,rfl,fun _ _ h=>h⟩
 |cons x xs ih=>
  intro s s' Z ω us h he;simp only[RE.gy]at he;cases hx:RE.gb x s with
  |none=>rw[hx]at he;simp at he
  |some r=>
   obtain⟨u,s1⟩:=r;rw[hx]at he;simp only at he;cases hr:RE.gy xs s1 with
   |none=>rw[hr]at he;simp at he
   |some r=>
    obtain⟨us',s2⟩:=r;rw[hr]at he;simp only[ag,ay]at he;obtain⟨rfl,rfl⟩:=he;obtain⟨Z1,ω1,v,a1,a2,a3,a4,a5⟩:=h.gb hx;obtain⟨Z2,ω2,vs,b1,b2,b3,b4,b5⟩:=ih a2 hr;refine⟨Z2,ω2,v::vs,by simp only[nX,La,a1,b1],b2,LU.cons (a3.mono (ak _) (fun _ _=>rfl) b5) (by rw[←a4];exact b3),by omega,fun b r hb=>b5 b r (a5 b r hb)⟩
theorem L3{a:List U}{b:List V}{off:Nat}{us:List U}{vs:List V}(h:LU σ Z n a b)(hs:LU σ Z n us vs):LU σ Z n (gK a off us) (kI b off vs):=by
 unfold gK kI;rw[hs.1];exact((h.take off).append hs).append (h.drop _)
theorem JX{a:List U}{off:Nat}{us:List U}(h:off+us.length≤a.length):(gK a off us).length=a.length:=by
 simp[gK];omega
theorem Ok.fill:∀ {parts:List (Nat×Nat×bO)} {s s' :Vs} {Z:Zs} {ω:Om} {us cs:List U} {vs:List V},Ok E σ Z ω s e st→LU σ Z s.h.length us vs→kN parts us s=some (cs,s')→
  ∃ Z' ω' ws,nE e vs (wu parts)=some ws∧Ok E σ Z' ω' s' e st∧LU σ Z' s.h.length cs ws∧s'.h.length=s.h.length∧∀ b r,Z b=some r→Z' b=some r:=by
 intro parts
 induction parts with
 |nil=>
  intro s s' Z ω us cs vs h hl he;simp[kN]at he;obtain⟨rfl,rfl⟩:=he;exact⟨Z,ω,vs,rfl,h,hl,rfl,fun _ _ h=>h⟩
 |cons p parts ih=>
  intro s s' Z ω us cs vs h hl he;obtain⟨off,size,x⟩:=p;simp only[kN]at he;cases hx:RE.gb x s with
  |none=>rw[hx]at he;simp at he
  |some r=>
   obtain⟨u,s1⟩:=r;rw[hx]at he;simp only at he;obtain⟨Z1,ω1,v,a1,a2,a3,a4,a5⟩:=h.gb hx;have hc:=a3.cells;cases hb:(Nat.beq u.cells.length size&&Nat.ble (off+u.cells.length) us.length)with
   |false=>rw[hb]at he;simp at he
   |true=>
    rw[hb]at he;simp only[cond_true]at he;have hl1:=hl.mono (ak _) (σ' :=σ) (fun _ _=>rfl) a5;obtain⟨Z2,ω2,ws,b1,b2,b3,b4,b5⟩:=ih (vs:=kI vs off v.cells) a2 (by rw[a4];exact L3 hl1 hc) he;refine⟨Z2,ω2,ws,?_,b2,by rw[←a4];exact b3,by omega,fun b r hb=>b5 b r (a5 b r hb)⟩;simp only[wu,nE,a1];rw[hc.1,hl.1]at hb;rw[hb];exact b1
theorem Bu{u:U}{v:V}{most k:Nat}(h:ga u most=some k)(hu:TR σ Z ω n u v):asNat v most=some k:=by
 cases u<;>simp[ga]at h;rw[TR.int hu];exact h
theorem Ok.aD(h:Ok E σ Z ω s e st){x:Option bO}{d most k:Nat}(hx:bC s.e x d most=some k):aD e (bL x) d most=some k:=by
 cases x with
 |none=>exact hx
 |some x=>
  simp only[bC]at hx;cases hq:cA s.e x with
  |none=>rw[hq]at hx;simp at hx
  |some u=>
   rw[hq]at hx;obtain⟨v,h1,h2⟩:=h.cW hq;simp only[bL,RE.aD,h1];exact Bu hx h2
theorem Ay{cs:List U}{cs' :List V}{k:Option Nat}{off:Nat}{u:U}(h:LU σ Z n cs cs')(hl:jf k cs off=some u):∃ v,eG k cs' off=some v∧UR σ Z n u v:=by
 cases k with
 |none=>
  simp only[jf]at hl;cases hq:cs[off]? with
  |none=>rw[hq]at hl;simp at hl
  |some x=>
   rw[hq]at hl;simp only at hl;cases hc:x.wo with
   |false=>rw[hc]at hl;simp at hl
   |true=>
    rw[hc]at hl;simp at hl;subst hl;obtain⟨v,h1,h2⟩:=h.get hq;exact⟨v,h1,h2⟩
 |some k=>
  simp only[jf]at hl;cases hb:(Nat.ble (off+k) cs.length&&((cs.drop off).take k).all U.wo)with
  |false=>rw[hb]at hl;simp at hl
  |true=>
   rw[hb]at hl;simp at hl;subst hl;simp only[aI]at hb;rw[h.1]at hb;have h1:=(h.drop off).take k;exact⟨_,by simp only[eG,hb.1,cond_true],.agg h1.1 h1.2⟩
theorem BT{w:Nat}:∀ {xs:List (List U)},(∀ r∈xs,r.length=w)→∀ {i:Nat} {r:List U},xs[i]? =some r→i*w+w≤xs.flatten.length∧(xs.flatten.drop (i*w)).take w=r:=by
 intro xs
 induction xs with
 |nil=>intro _ i r h;simp at h
 |cons x xs ih=>
  intro hw i r h;have hx:=hw x cB;cases i with
  |zero=>
   simp at h;subst h;simp only[iE,PM,s8,gX];exact⟨by omega,by rw[Fy (by omega),gu (by omega)]⟩
  |succ i=>
   simp at h;obtain⟨h1,h2⟩:=ih (fun r hr=>hw r (eu _ hr)) h;simp only[iE,gX,oy];refine⟨by omega,?_⟩;rw[show i*w+w=x.length+i*w by omega,←Ad,Ym];exact h2
theorem dM{w:Nat}:∀ {xs:List (List U)},(∀ r∈xs,r.length=w)→xs.flatten.length=xs.length*w:=by
 intro xs
 induction xs with
 |nil=>intro _;simp
 |cons x xs ih=>
  intro hw;have hx:=hw x cB;simp only[iE,gX,fV,oy,ih (fun r hr=>hw r (eu _ hr))];omega
theorem tv{w:Nat}{xs:List (List U)}(hw:∀ r∈xs,r.length=w)(k:Nat):(xs.take k).flatten=xs.flatten.take (k*w):=by
 induction xs generalizing k with
 |nil=>simp
 |cons x xs ih=>
  have hx:=hw x cB;cases k with
  |zero=>simp
  |succ k=>
   simp only[List.take_succ_cons,iE,ih (fun r hr=>hw r (eu _ hr)),oy];rw[FE,gu (l:=x) (by omega),hx,Kz]
theorem tu{w:Nat}{xs:List (List U)}(hw:∀ r∈xs,r.length=w)(k:Nat):(xs.drop k).flatten=xs.flatten.drop (k*w):=by
 induction xs generalizing k with
 |nil=>simp
 |cons x xs ih=>
  have hx:=hw x cB;cases k with
  |zero=>simp
  |succ k=>
   simp only[List.drop_succ_cons,iE,ih (fun r hr=>hw r (eu _ hr)),oy];rw[show k*w+w=x.length+k*w by omega,←Ad,Ym]
end
end Go.RE
namespace Go.RE
section
variable{E:q9}{σ:Sg}{Z:Zs}{ω:Om}{s s' :Vs}{e:PT V}{st:St}{n:Nat}
theorem Z0(h:Ok E σ Z ω s e st){g:Tg}{w:Nat}{xs:List (List U)}:∀ {r:Env},Env.cw g s.e r=some (w,xs)→∃ v,OR σ Z ω g w xs v:=by
 intro r
 induction r with
 |nil=>intro h;cases h
 |cons x r ih=>
  intro hx;obtain⟨k,u⟩:=x;cases u with
  |own g' w' xs' =>
   simp only[Env.cw]at hx;split at hx
   ·split at hx
    ·rename_i g2 w2 xs2 hl;split at hx
     ·rename_i hg;subst hg;simp only[ag,ay]at hx;obtain⟨rfl,rfl⟩:=hx;obtain⟨v,_,h2⟩:=h.env _ _ hl;exact⟨v,h2.1⟩
     ·exact ih hx
    ·exact ih hx
   ·exact ih hx
  |_=>exact ih hx
theorem AG(h:Ok E σ Z ω s e st){g:Tg}{w:Nat}{xs:List (List U)}(hx:s.cw g=some (w,xs)):∃ v,OR σ Z ω g w xs v:=by
 unfold Vs.cw at hx;split at hx
 ·rename_i i off;split at hx<;>try (cases hx;done)
  rename_i cs hi;split at hx<;>try (cases hx;done)
  rename_i w' xs' hc;simp only[ag,ay]at hx;obtain⟨rfl,rfl⟩:=hx;obtain⟨cs',h1,h2,h3⟩:=h.obj i _ hi;have hlt:off<cs.length:=(aH.1 hc).1;exact⟨_,h3 off _ _ hc (aQ (by omega))⟩
 ·exact Z0 h hx
theorem Sa{i off:Nat}{u:U}{v:V}(hn:u.wo=true)(h:CR σ Z ω n i off u v):UR σ Z n u v:=by
 cases u<;>first|exact h|(simp[U.wo]at hn)
theorem ZN{i:Nat}{cs:List U}{cs' :List V}(hlen:cs.length=cs'.length)(hc:∀ (off:Nat) u v,cs[off]? =some u→cs'[off]? =some v→CR σ Z ω n i off u v){k:Option Nat}{off:Nat}{u:U}
  (hl:jf k cs off=some u):∃ v,eG k cs' off=some v∧UR σ Z n u v:=by
 cases k with
 |none=>
  simp only[jf]at hl;cases hq:cs[off]? with
  |none=>rw[hq]at hl;simp at hl
  |some x=>
   rw[hq]at hl;simp only at hl;cases hx:x.wo with
   |false=>rw[hx]at hl;simp at hl
   |true=>
    rw[hx]at hl;simp at hl;subst hl;have hlt:=(aH.1 hq).1;have hv:=aQ (l:=cs') (i:=off) (by omega);exact⟨_,hv,Sa hx (hc off _ _ hq hv)⟩
 |some k=>
  simp only[jf]at hl;cases hb:(Nat.ble (off+k) cs.length&&((cs.drop off).take k).all U.wo)with
  |false=>rw[hb]at hl;simp at hl
  |true=>
   rw[hb]at hl;simp at hl;subst hl;simp only[aI,fF]at hb;have hle:=dY hb.1;refine⟨.agg ((cs'.drop off).take k),by simp only[eG,jA (show off+k≤cs'.length by omega),cond_true],.agg (by simp;omega) fun j u v hu hv=> ?_⟩;have hmem:u∈(cs.drop off).take k:=oT hu;rw[fU]at hu hv;split at hu
   ·rw[if_pos ‹_›]at hv;rw[jX]at hu hv;exact Sa (hb.2 u hmem) (hc _ u v hu hv)
   ·simp at hu
theorem nP{row:List V}{o L off:Nat}{k:Option Nat}{v:V}(ho:o+L≤row.length)(h:eG k ((row.drop o).take L) off=some v):eG k row (o+off)=some v:=by
 cases k with
 |none=>
  simp only[eG]at h⊢;rw[fU]at h;split at h
  ·rw[jX]at h;exact h
  ·simp at h
 |some k=>
  simp only[eG]at h⊢;cases hb:Nat.ble (off+k) ((row.drop o).take L).length with
  |false=>rw[hb]at h;simp at h
  |true=>
   rw[hb]at h;have hle:=dY hb;simp only[iD,uO]at hle;simp only[cond_true,ag]at h;rw[jA (show o+off+k≤row.length by omega)];simp only[cond_true,ag];rw[←h];congr 1;rw[Ac,Ad,Yl,Fw (by omega)]
theorem Ca(h:Ok E σ Z ω s e st){i:Nat}{cs:List U}(hi:s.h[i]? =some (.row cs)){k:Option Nat}{off:Nat}{u:U}(hl:mL i k cs off=some u):
  ∃ cs' v,st.row (σ i)=some cs'∧eG k cs' off=some v∧TR σ Z ω s.h.length u v:=by
 have hlt:i<s.h.length:=(aH.1 hi).1;obtain⟨cs',h1,h2,h3⟩:=h.obj i _ hi;unfold mL at hl;split at hl
 ·rename_i w xs hc;simp at hl;subst hl;have hoff:off<cs.length:=(aH.1 hc).1;have hv:=aQ (l:=cs') (i:=off) (by omega);exact⟨cs',_,iZ h1,hv,h3 off _ _ hc hv,fun i' off' he=>by cases he;exact hlt⟩
 ·obtain⟨v,a,b⟩:=ZN h2 h3 hl;exact⟨cs',v,iZ h1,a,TR.bE b⟩
theorem Tt(h:Ok E σ Z ω s e st){w:Nat}{xs:List (List U)}{v:V}(hv:UR σ Z n (.sl w xs) v):
  ∃ cs,bN st w v=some cs∧LU σ Z 0 xs.flatten cs∧u7 v=some xs.length∧∀ r∈xs,r.length=w:=by
 cases hv with
 |slnil=>exact⟨[],rfl,.nil,rfl,fun r hr=>by cases hr⟩
 |Ak=>exact⟨[],rfl,.nil,rfl,fun r hr=>by cases hr⟩
 |AL hn hz hl hcap hr hv=>
  subst hn;refine⟨_,oO ((h.qZ _ _ hz)) hr,⟨?_,hv⟩,rfl,hl⟩;rw[dM hl];simp;omega
 |Eh hn hl hr hv=>
  subst hn;refine⟨_,by simp only[bN,fq,jA hr,jh,cond_true],⟨?_,hv⟩,rfl,hl⟩;rw[dM hl];simp;omega
theorem QT(h:Ok E σ Z ω s e st){g:Tg}{w:Nat}{xs:List (List U)}{v:V}(hv:OR σ Z ω g w xs v):
  ∃ cs,bN st w v=some cs∧LU σ Z 0 xs.flatten cs∧u7 v=some xs.length∧∀ r∈xs,r.length=w:=by
 unfold OR at hv;split at hv
 ·obtain⟨rfl,rfl|rfl⟩:=hv
  ·exact⟨[],rfl,.nil,rfl,fun r hr=>by cases hr⟩
  ·exact⟨[],rfl,.nil,rfl,fun r hr=>by cases hr⟩
 ·rename_i I hg;obtain⟨rfl,h0,h1,h2,h3,h4⟩:=hv;have hle:xs.length*w≤I.cap*w:=iB _ h1;exact⟨_,oO (iZ (h.mq g I hg)) (by omega),h4,rfl,h3⟩
theorem Cq(h:Ok E σ Z ω s e st){w:Nat}{u:U}{xs:List (List U)}{v:V}(hx:rowsOf s w u=some xs)(hv:TR σ Z ω s.h.length u v):
  ∃ cs,bN st w v=some cs∧LU σ Z s.h.length xs.flatten cs∧u7 v=some xs.length∧∀ r∈xs,r.length=w:=by
 have up:∀ {cs},LU σ Z 0 xs.flatten cs→LU σ Z s.h.length xs.flatten cs:=fun hh=>hh.mono (bU _) (fun _ _=>rfl) (fun _ _ h=>h);cases u<;>simp only[rowsOf,reduceCtorEq]at hx
 ·rename_i w' ys;cases hb:Nat.beq w' w with
  |false=>simp[hb]at hx
  |true=>
   simp[hb]at hx;subst hx;have:w' =w:=aU hb;subst this;obtain⟨cs,a,b,c,d⟩:=Tt h hv;exact⟨cs,a,up b,c,d⟩
 ·rename_i w';cases hb:Nat.beq w' w with
  |false=>simp[hb]at hx
  |true=>
   simp[hb]at hx;subst hx;have hv:UR σ Z s.h.length (.nl w') v:=hv;cases hv with
   |Ec=>exact⟨[],rfl,.nil,rfl,fun r hr=>by cases hr⟩
   |EU=>exact⟨[],rfl,.nil,rfl,fun r hr=>by cases hr⟩
 ·rename_i g w' ys;cases hb:Nat.beq w' w with
  |false=>simp[hb]at hx
  |true=>
   simp[hb]at hx;subst hx;have:w' =w:=aU hb;subst this;obtain⟨cs,a,b,c,d⟩:=QT h hv.1;exact⟨cs,a,up b,c,d⟩
 ·rename_i i off len w';split at hx<;>try (simp at hx;done)
  rename_i cs hi;cases hb:(Nat.beq w' w&&Nat.beq w 1&&Nat.ble (off+len) cs.length&&((cs.drop off).take len).all U.wo)with
  |false=>rw[hb]at hx;simp at hx
  |true=>
   rw[hb]at hx;simp only[cond_true,ag]at hx;subst hx;simp only[aI,fF]at hb;have e1:w' =w:=aU hb.1.1.1;have e2:w=1:=aU hb.1.1.2;subst e1;subst e2;have hle:=dY hb.1.2;obtain⟨hi',cap,hcap,rfl⟩:=hv;obtain⟨cs',h1,h2,h3⟩:=h.obj i _ hi;have hfl:(List.map (fun c=>[c]) (List.take len (List.drop off cs))).flatten=(cs.drop off).take len:=by
    generalize (cs.drop off).take len=l
    induction l with
    |nil=>rfl
    |cons a l ih=>simpa using ih
   refine⟨_,oO (iZ h1) (by omega),?_,by simp only[u7,oS,iD,uO,ag];omega,fun r hr=>by simp only[cD]at hr;obtain⟨x,_,rfl⟩:=hr;rfl⟩;rw[hfl,PA];refine⟨by simp;omega,fun j u v hu hv=> ?_⟩;have hmem:u∈(cs.drop off).take len:=oT hu;rw[fU]at hu hv;split at hu
   ·rw[if_pos ‹_›]at hv;rw[jX]at hu hv;exact Sa (hb.2 u hmem) (h3 _ u v hu hv)
   ·simp at hu
theorem Em:∀ {xs:List (List U)} {bs:List UInt8} {cs:List V},kz xs=some bs→LU σ Z n xs.flatten cs→bytesOf cs=some bs:=by
 intro xs
 induction xs with
 |nil=>intro bs cs h hl;simp[kz]at h;subst h;rw[hl.eF];rfl
 |cons r xs ih=>
  intro bs cs h hl;simp only[kz]at h;cases hr:vQ r with
  |none=>rw[hr]at h;simp at h
  |some b=>
   rw[hr]at h;simp only at h;cases hx:kz xs with
   |none=>rw[hx]at h;simp at h
   |some bs' =>
    rw[hx]at h;simp at h;subst h;unfold vQ at hr;split at hr<;>simp at hr;rename_i m;simp only[iE,Ku]at hl;obtain⟨v,vs,rfl,h1,h2⟩:=hl.bD;cases h1;simp only[bytesOf,ih hx h2,hr]
theorem vV{kk:iG}{k:U}{k' :V}(hk:TR σ Z ω n k k'):∀ {es:List (U×U×Nat)} {es' :List ME},es.length=es'.length→
  (∀ (j:Nat) x y,es[j]? =some x→es'[j]? =some y→UR σ Z n x.1 y.key∧UR σ Z n x.2.1 y.val∧y.born=x.2.2)→∀ {i:Nat} {r:Option (Nat×U)},oD kk k es i=some r→
  ∃ r',nF kk k' es' i=some r'∧(match r,r' with|none,none=>True|some (j,u),some (j',v)=>j=j'∧UR σ Z n u v|_,_=>False):=by
 intro es
 induction es with
 |nil=>
  intro es' hl _ i r h;have:es' =[]:=fT hl.symm;subst this;simp[oD]at h;subst h;exact⟨none,rfl,trivial⟩
 |cons x es ih=>
  intro es' hl hr i r h;cases es' with
  |nil=>simp at hl
  |cons y es' =>
   have h0:=hr 0 x y rfl rfl;simp only[oD]at h;simp only[nF];cases hp:fS kk k x.1 with
   |none=>rw[hp]at h;simp at h
   |some b=>
    rw[hp]at h;have hpe:kr kk k' y.key=some b:=by
     unfold fS at hp;split at hp
     ·rename_i a c e1 e2;rw[sE e1 hk,sE e2 (TR.bE (ω:=ω) h0.1)];exact hp
     ·simp at hp
    rw[hpe];cases b with
    |true=>simp at h;subst h;exact⟨_,rfl,rfl,h0.2.1⟩
    |false=>exact ih (by simpa using hl) (fun j a c ha hc=>hr (j+1) a c (by simpa using ha) (by simpa using hc)) h
theorem lZ{kk:iG}{k:U}{k' :V}(hk:TR σ Z ω n k k')(h:dL kk k=true):plainKey kk k' =true:=by
 unfold dL at h;split at h
 ·rename_i v e1;rw[sE e1 hk];exact h
 ·cases h
theorem AB(h:Ok E σ Z ω s e st){i:Nat}{es:List (U×U×Nat)}{c:Nat}(hi:s.h[i]? =some (.map es c)):
  ∃ es',st.get (σ i)=some (.map es' c)∧es.length=es'.length∧∀ (j:Nat) x y,es[j]? =some x→es'[j]? =some y→UR σ Z s.h.length x.1 y.key∧UR σ Z s.h.length x.2.1 y.val∧y.born=x.2.2:=h.obj i _ hi
theorem QJ(h:Ok E σ Z ω s e st){kk:iG}{zero:U}{z' :V}{ok:Bool}{m k u:U}{m' k' :V}(hz:UR σ Z s.h.length zero z')(hm:TR σ Z ω s.h.length m m')(hk:TR σ Z ω s.h.length k k')
  (hl:fQ s kk zero ok m k=some u):∃ v,qB st kk z' ok m' k' =some v∧UR σ Z s.h.length u v:=by
 have hzz:UR σ Z s.h.length (bif ok then .aZ [zero,.bool false]else zero) (if ok then .aZ [z',.bool false]else z'):=by
  cases ok with
  |true=>exact .aZ rfl (LU.cons hz (LU.cons (.bool _) .nil)).2
  |false=>exact hz
 cases m with
 |bS=>
  obtain rfl:=TR.bS hm;simp only[fQ]at hl;cases hp:dL kk k with
  |false=>rw[hp]at hl;simp at hl
  |true=>
   rw[hp]at hl;simp only[cond_true,ag]at hl;subst hl;simp only[qB,lZ hk hp,cond_true];exact⟨_,rfl,hzz⟩
 |map i=>
  obtain⟨hi,rfl⟩:=TR.map hm;simp only[fQ]at hl;cases hq:s.h[i]? with
  |none=>rw[hq]at hl;simp at hl
  |some o=>
   rw[hq]at hl;cases o with
   |map es c=>
    simp only at hl;cases hp:dL kk k with
    |false=>rw[hp]at hl;simp at hl
    |true=>
     rw[hp]at hl;simp only[cond_true]at hl;obtain⟨es',g1,g2,g3⟩:=AB h hq;simp only[qB,g1,lZ hk hp,cond_true];cases hf:oD kk k es 0 with
     |none=>rw[hf]at hl;simp at hl
     |some r=>
      rw[hf]at hl;obtain⟨r',f1,f2⟩:=vV hk g2 g3 hf;rw[f1];cases r with
      |none=>
       cases r' with
       |none=>simp only[ag]at hl;subst hl;exact⟨_,rfl,hzz⟩
       |some _=>exact f2.elim
      |some p=>
       cases r' with
       |none=>exact f2.elim
       |some q=>
        obtain⟨j,a⟩:=p;obtain⟨j',b⟩:=q;simp only[ag]at hl;subst hl;refine⟨_,rfl,?_⟩;cases ok with
        |true=>exact .aZ rfl (LU.cons f2.2 (LU.cons (.bool _) .nil)).2
        |false=>exact f2.2
   |row _=>simp at hl
   |iter a b c d=>simp at hl
   |gone=>simp at hl
 |_=>simp[fQ]at hl
theorem I9{u:U}{v:V}(h:TR σ Z ω n u v){b:Bool}(hu:u.NP=some b):(b=false∧v=.br)∨(b=true∧((∃ x y,v=.ptr x y)∨∃ x y,v=.eR x y)):=by
 cases u<;>simp[U.NP]at hu<;>subst hu
 ·cases h;exact .inl ⟨rfl,rfl⟩
 ·exact .inr ⟨rfl,.inl ⟨_,_,(TR.ptr h).2⟩⟩
 ·cases h
  ·exact .inr ⟨rfl,.inl ⟨_,_,rfl⟩⟩
  ·exact .inr ⟨rfl,.inr ⟨_,_,rfl⟩⟩
 ·obtain⟨⟨I,_,rfl⟩,_⟩:=h;exact .inr ⟨rfl,.inl ⟨_,_,rfl⟩⟩
theorem I8{u:U}{v:V}(h:TR σ Z ω n u v){b:Bool}(hu:u.NN=some b):(b=false∧v=.bS)∨(b=true∧∃ x,v=.map x):=by
 cases u<;>simp[U.NN]at hu<;>subst hu
 ·exact .inl ⟨rfl,TR.bS h⟩
 ·exact .inr ⟨rfl,_,(TR.map h).2⟩
theorem NM{u:U}{v:V}(h:TR σ Z ω n u v){b:Bool}(hu:u.ZH=some b):(b=false∧v=.dJ)∨(b=true∧∃ x y z,v=.func x y z):=by
 cases u<;>simp[U.ZH]at hu<;>subst hu
 ·cases h;exact .inl ⟨rfl,rfl⟩
 ·obtain⟨a,b,rfl,_⟩:=TR.func h;exact .inr ⟨rfl,_,_,_,rfl⟩
theorem NR{u:U}{v:V}(h:TR σ Z ω n u v){b:Bool}(hu:u.Gc=some b):(b=false∧v=.bB)∨(b=true∧((∃ a b c d e f,v=.slice a b c d e f)∨∃ a b c d,v=.ah a b c d)):=by
 cases u with
 |bB=>simp[U.Gc]at hu;subst hu;cases h;exact .inl ⟨rfl,rfl⟩
 |sl w xs=>
  cases xs with
  |nil=>simp[U.Gc]at hu
  |cons a r=>
   simp[U.Gc]at hu;subst hu;cases h
   ·exact .inr ⟨rfl,.inl ⟨_,_,_,_,_,_,rfl⟩⟩
   ·exact .inr ⟨rfl,.inr ⟨_,_,_,_,rfl⟩⟩
 |own g w xs=>
  cases xs with
  |nil=>simp[U.Gc]at hu
  |cons a r=>
   simp[U.Gc]at hu;subst hu;obtain⟨h,_⟩:=h;unfold OR at h;split at h
   ·cases h.1
   ·exact .inr ⟨rfl,.inl ⟨_,_,_,_,_,_,h.1⟩⟩
 |_=>simp[U.Gc]at hu
theorem qC{a b:Option Bool}{r:Bool}(h:ET a b=some r):∃ x y,a=some x∧b=some y∧(x=false∧r= !y∨x=true∧y=false∧r=false):=by
 unfold ET at h;split at h<;>simp at h
 ·rename_i x;exact⟨false,x,rfl,rfl,.inl ⟨rfl,by subst h;simp⟩⟩
 ·exact⟨true,false,rfl,rfl,.inr ⟨rfl,rfl,by subst h;rfl⟩⟩
theorem LS{k:iG}{a b:U}{x y:V}{r:Bool}(h:fS k a b=some r)(ha:TR σ Z ω n a x)(hb:TR σ Z ω n b y):kr k x y=some r:=by
 unfold fS at h;split at h
 ·rename_i p q e1 e2;rw[sE e1 ha,sE e2 hb];exact h
 ·simp at h
theorem Qy:∀ {ks:List (Nat×iG)} {a b:List U} {x y:List V} {r:Bool},tr ks a b=some r→LU σ Z n a x→LU σ Z n b y→rU ks x y=some r:=by
 intro ks
 induction ks with
 |nil=>intro a b x y r h _ _;simpa[tr,rU]using h
 |cons k ks ih=>
  intro a b x y r h ha hb;obtain⟨o,k⟩:=k;simp only[tr]at h;split at h<;>try (simp at h;done)
  rename_i p q e1 e2;obtain⟨p',f1,f2⟩:=ha.get e1;obtain⟨q',g1,g2⟩:=hb.get e2;simp only[rU,f1,g1];cases hp:fS k p q with
  |none=>rw[hp]at h;simp at h
  |some c=>
   rw[hp]at h;rw[LS (ω:=fun _=>none) hp (TR.bE f2) (TR.bE g2)];cases c with
   |true=>exact ih h ha hb
   |false=>exact h
theorem qhj{ek:iG}{a b:U}{x y:V}{r:Bool}(h:NC ek a b=some r)(ha:TR σ Z ω n a x)(hb:TR σ Z ω n b y):Ip ek x y=some r:=by
 cases ek with
 |bool=>
  simp only[NC]at h;split at h<;>simp at h;subst h;rw[TR.bool ha,TR.bool hb];rfl
 |br=>
  obtain⟨p,q,h1,h2,h3⟩:=qC (by simpa only[NC]using h);rcases I9 ha h1 with⟨rfl,rfl⟩|⟨rfl,h4⟩<;>rcases I9 hb h2 with⟨rfl,rfl⟩|⟨rfl,h5⟩
  ·simp at h3;subst h3;rfl
  ·simp at h3;subst h3;rcases h5 with⟨_,_,rfl⟩|⟨_,_,rfl⟩<;>rfl
  ·simp at h3;subst h3;rcases h4 with⟨_,_,rfl⟩|⟨_,_,rfl⟩<;>rfl
  ·simp at h3
 |bB=>
  obtain⟨p,q,h1,h2,h3⟩:=qC (by simpa only[NC]using h);rcases NR ha h1 with⟨rfl,rfl⟩|⟨rfl,h4⟩<;>rcases NR hb h2 with⟨rfl,rfl⟩|⟨rfl,h5⟩
  ·simp at h3;subst h3;rfl
  ·simp at h3;subst h3;rcases h5 with⟨_,_,_,_,_,_,rfl⟩|⟨_,_,_,_,rfl⟩<;>rfl
  ·simp at h3;subst h3;rcases h4 with⟨_,_,_,_,_,_,rfl⟩|⟨_,_,_,_,rfl⟩<;>rfl
  ·simp at h3
 |bS=>
  obtain⟨p,q,h1,h2,h3⟩:=qC (by simpa only[NC]using h);rcases I8 ha h1 with⟨rfl,rfl⟩|⟨rfl,_,rfl⟩<;>rcases I8 hb h2 with⟨rfl,rfl⟩|⟨rfl,_,rfl⟩
  ·simp at h3;subst h3;rfl
  ·simp at h3;subst h3;rfl
  ·simp at h3;subst h3;rfl
  ·simp at h3
 |dJ=>
  obtain⟨p,q,h1,h2,h3⟩:=qC (by simpa only[NC]using h);rcases NM ha h1 with⟨rfl,rfl⟩|⟨rfl,_,_,_,rfl⟩<;>rcases NM hb h2 with⟨rfl,rfl⟩|⟨rfl,_,_,_,rfl⟩
  ·simp at h3;subst h3;rfl
  ·simp at h3;subst h3;rfl
  ·simp at h3;subst h3;rfl
  ·simp at h3
 |iface g=>
  simp only[NC]at h;split at h
  ·rw[TR.di ha,TR.di hb];cases g with
   |true=>simp at h
   |false=>simp at h;subst h;rfl
  ·simp at h;subst h;obtain⟨v',rfl,_⟩:=TR.iface hb;rw[TR.di ha];cases g<;>rfl
  ·simp at h;subst h;obtain⟨v',rfl,_⟩:=TR.iface ha;rw[TR.di hb];cases g<;>rfl
  ·simp at h
 |flat ks=>
  simp only[NC]at h;split at h<;>try (simp at h;done)
  obtain⟨p,rfl,h1⟩:=TR.agg ha;obtain⟨q,rfl,h2⟩:=TR.agg hb;exact Qy h h1 h2
 |int=>simp[NC]at h
 |str=>simp[NC]at h
 |no=>simp[NC]at h
end
end Go.RE
