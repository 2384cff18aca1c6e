/- A second evaluator for the same code: slices are values (frozen, or a call's own), memory is a list, and what a call leaves behind is dropped. No theorem here. -/
import Derived.Test.YtmpopachilfinaaGreatPart5
set_option linter.unusedVariables false
set_option linter.unusedSimpArgs false
set_option linter.constructorNameAsVariable false
namespace Go.RE
inductive Tg where
 |t (n:Nat)
 |c (i off:Nat)
 |r
 |a
deriving DecidableEq,Inhabited
inductive U where
 |bad
 |bool (b:Bool)
 |int (k:IntKind) (n:Int)
 |str (s:List UInt8)
 |bA
 |bu
 |bQ
 |di
 |cO
 |ptr (i off:Nat)
 |eD (row:List U) (off:Nat)
 |sl (w:Nat) (xs:List (List U))
 |nl (w:Nat) -- nothing:nil,or without room
 |own (g:Tg) (w:Nat) (xs:List (List U))
 |bF (w:Nat) (xs:List (List U))
 |bD (g:Tg) (i f:Nat)
 |xU (i off len w:Nat)
 |view (g:Tg) (lo len w:Nat) -- a part of a slice of one's own,to be read
 |cZ -- a cell whose slice is in use behind the call
 |map (i:Nat)
 |func (f:Nat) (first captured:List U)
 |iface (t:Nat) (v:U)
 |agg (cs:List U)
 |aV (vs:List U)
deriving Inhabited
inductive Uo where
 |row (cs:List U)
 |map (es:List (U×U×Nat)) (clock:Nat)
 |iter (m:Option Nat) (since:Nat) (seen:List Nat) (last:Nat)
 |gone
deriving Inhabited
abbrev XG:=Nat→Option (List U→List Uo→Nat→Option (U×List Uo×Nat))
abbrev oW:=Nat→String→Option Nat
abbrev Env:=List (Nat×U)
structure Vs where
 e:Env
 h:List Uo
 fl:Nat
deriving Inhabited
def U.aH:U→Bool
 | .bad=>false
 | .own .. =>false
 | .bF .. =>false
 | .bD .. =>false
 | .xU .. =>false
 | .view .. =>false
 | .cZ=>false
 | .agg _=>false
 | .aV _=>false
 |_=>true
mutual
def V.mq:V→U
 | .bool b=> .bool b
 | .int k n=> .int k n
 | .str s=> .str s
 | .bA=> .bA
 | .bu=> .bu
 | .bQ=> .bQ
 | .di=> .di
 | .cO=> .cO
 | .ag [] 0 0 w=> .sl w []
 | .ag [] 1 0 w=> .own .r w []
 | .ag [] 2 0 w=> .bF w []
 | .ag [] 3 0 w=> .nl w
 | .func f a b=>bif(V.dc a).all U.aH&&(V.dc b).all U.aH then .func f (V.dc a) (V.dc b)else .bad
 | .iface t v=>bif v.mq.aH then .iface t v.mq else .bad
 | .agg cs=>bif(V.dc cs).all U.aH then .agg (V.dc cs)else .bad
 | .aV cs=>bif(V.dc cs).all U.aH then .aV (V.dc cs)else .bad
 |_=> .bad
def V.dc:List V→List U
 |[]=>[]
 |v::vs=>v.mq::V.dc vs
end
def V.EV(v:V):Option U:=
 match v.mq with
 | .bad=>none
 | .own .. =>none
 | .bF .. =>none
 |u=>some u
def U.oc:U→Bool
 | .bF _ _=>true
 |_=>false
mutual
def V.er:V→V
 | .ag [] _ 0 _=> .bu
 | .func f a b=> .func f (V.yL a) (V.yL b)
 | .iface t v=> .iface t v.er
 | .agg cs=> .agg (V.yL cs)
 | .aV cs=> .aV (V.yL cs)
 |v=>v
def V.yL:List V→List V
 |[]=>[]
 |v::vs=>v.er::V.yL vs
end
def bJ.er:bJ→bJ
 | .t n=> .t n
 | .c v=> .c v.er
def uD:List (Nat×Nat×bJ)→List (Nat×Nat×bJ)
 |[]=>[]
 |(a,b,x)::r=>(a,b,x.er)::uD r
def bG:Option bJ→Option bJ
 |none=>none
 |some x=>some x.er
def mZ:List bJ→List bJ
 |[]=>[]
 |x::r=>x.er::mZ r
def fS.er:fS→fS
 | .bt x=> .bt x.er
 | .pick c a b=> .pick c.er a.er b.er
 | .load n x=> .load n x.er
 | .nilCheck x=> .nilCheck x.er
 | .bin op ek x y=> .bin op ek x.er y.er
 | .un op x=> .un op x.er
 | .eO k x=> .eO k x.er
 | .th x=> .th x.er
 | .toStr x=> .toStr x.er
 | .nM t x=> .nM t x.er
 | .jf f a b=> .jf f (mZ a) (mZ b)
 | .build z p=> .build (V.yL z) (uD p)
 | .nq x lo hi=> .nq x.er (bG lo) (bG hi)
 | .slice sz x lo hi mx=> .slice sz x.er (bG lo) (bG hi) (bG mx)
 | .iP n sz x lo hi=> .iP n sz x.er (bG lo) (bG hi)
 | .fieldAddr off x=> .fieldAddr off x.er
 | .field off n x=> .field off n x.er
 | .indexAddr sz x i=> .indexAddr sz x.er i.er
 | .mL ln sz x i=> .mL ln sz x.er i.er
 | .index x i=> .index x.er i.er
 | .CB n x i=> .CB n x.er i.er
 | .lookup kk z ok x i=> .lookup kk z.er ok x.er i.er
 | .extract i x=> .extract i x.er
 | .len k x=> .len k x.er
 | .cap x=> .cap x.er
 | .max xs=> .max (mZ xs)
 | .min xs=> .min (mZ xs)
 | .mB t z x=> .mB t z.er x.er
 | .entry x=> .entry x.er
def GB.er:GB→GB
 | .alloc z=> .alloc (V.yL z)
 | .box x=> .box x.er
 | .buildSlice sz len z p=> .buildSlice sz len (V.yL z) (uD p)
 | .makeMap=> .makeMap
 | .makeSlice sz bytes z len cap=> .makeSlice sz bytes (V.yL z) len.er cap.er
 | .lV x=> .lV x.er
def xT.er:xT→xT
 | .store n a x=> .store n a.er x.er
 | .mapUpdate kk m k x=> .mapUpdate kk m.er k.er x.er
 | .delete kk m k=> .delete kk m.er k.er
 | .append sz bytes str s x=> .append sz bytes str s.er x.er
 | .copy sz str d s=> .copy sz str d.er s.er
 | .clear sz z x=> .clear sz (V.yL z) x.er
 | .range x=> .range x.er
def jE.er:jE→jE
 | .s o=> .s o.er
 | .m o=> .m o.er
 | .h o=> .h o.er
 | .call f args=> .call f.er (mZ args)
 | .invoke name x args=> .invoke name x.er (mZ args)
 | .next x=> .next x.er
 | .bad=> .bad
def aD.er(o:aD):aD:=⟨o.dst,o.op.er,o.guard,o.aO⟩
def fI:List aD→List aD
 |[]=>[]
 |o::r=>o.er::fI r
def aj.er:aj→aj
 | .skip=> .skip
 | .region ops=> .region (fI ops)
 | .draw ops=> .draw (fI ops)
 | .seq a b=> .seq a.er b.er
 | .cond c a b=> .cond c.er a.er b.er
 | .block id b=> .block id b.er
 | .loop b=> .loop b.er
 | .exit id=> .exit id
 | .ret=> .ret
 | .bad=> .bad
 | .uG n p=> .uG n p
mutual
def U.low(n:Nat):U→Bool
 | .ptr i _=>Nat.blt i n
 | .map i=>Nat.blt i n
 | .xU i _ _ _=>Nat.blt i n
 | .own (.c i _) _ _=>Nat.blt i n
 | .bD (.c i _) _ _=>Nat.blt i n
 | .view (.c i _) _ _ _=>Nat.blt i n
 | .func _ a b=>U.b8 n a&&U.b8 n b
 | .iface _ v=>v.low n
 | .agg cs=>U.b8 n cs
 | .aV cs=>U.b8 n cs
 |_=>true
def U.b8(n:Nat):List U→Bool
 |[]=>true
 |v::vs=>v.low n&&U.b8 n vs
end
mutual
def U.shift(k:Nat):U→U
 | .ptr i o=> .ptr (i+k) o
 | .map i=> .map (i+k)
 | .func f a b=> .func f (U.fQ k a) (U.fQ k b)
 | .iface t v=> .iface t (v.shift k)
 | .agg cs=> .agg (U.fQ k cs)
 | .aV cs=> .aV (U.fQ k cs)
 |v=>v
def U.fQ(k:Nat):List U→List U
 |[]=>[]
 |v::vs=>v.shift k::U.fQ k vs
end
mutual
def U.flat:U→Bool
 | .bool _=>true
 | .int _ _=>true
 | .str _=>true
 | .bA=>true
 | .bu=>true
 | .bQ=>true
 | .di=>true
 | .cO=>true
 | .ptr _ _=>true
 | .map _=>true
 | .own _ _ xs=>U.kg xs
 | .iface _ v=>v.flat
 | .agg cs=>U.ur cs
 | .aV cs=>U.ur cs
 |_=>false
def U.ur:List U→Bool
 |[]=>true
 |v::vs=>v.flat&&U.ur vs
def U.kg:List (List U)→Bool
 |[]=>true
 |v::vs=>U.ur v&&U.kg vs
end
def U.uB:U→Bool
 | .bF .. =>false
 | .cZ=>false
 | .bad=>false
 |_=>true
def U.cells:U→List U
 | .agg cs=>cs
 |v=>[v]
def U.Ws:U→Option (Nat×Nat)
 | .own (.c i off) _ _=>some (i,off)
 | .bD (.c i off) _ _=>some (i,off)
 | .view (.c i off) _ _ _=>some (i,off)
 |_=>none
def U.qaT:U→Bool
 | .nl _=>true
 |_=>false
def U.L7:U→Bool
 | .own .. =>true
 |_=>false
def look:Env→Nat→Option U
 |[],_=>none
 |(k,v)::r,t=>bif Nat.beq k t then some v else look r t
def iN(dst:Option Nat)(v:U)(e:Env):Env:=
 match dst with
 |some d=>(d,v)::e
 |none=>e
def U.kill(g:Tg):U→U
 | .own g' w xs=>if g' =g then .bad else .own g' w xs
 | .bD g' i f=>if g' =g then .bad else .bD g' i f
 | .view g' i l w=>if g' =g then .bad else .view g' i l w
 |v=>v
def Env.kill(g:Tg):Env→Env
 |[]=>[]
 |(k,v)::r=>(k,v.kill g)::Env.kill g r
def U.lT(g:Tg):U→U
 | .own g' w xs=>if g' =g then .sl w xs else .own g' w xs
 | .bD g' i f=>if g' =g then .bad else .bD g' i f
 | .view g' i l w=>if g' =g then .bad else .view g' i l w
 |v=>v
def Env.lT(g:Tg):Env→Env
 |[]=>[]
 |(k,v)::r=>(k,v.lT g)::Env.lT g r
def U.iG(g g2:Tg):U→U
 | .own g' w xs=>if g' =g then .own g2 w xs else .own g' w xs
 | .bD g' i f=>if g' =g then .bD g2 i f else .bD g' i f
 | .view g' i l w=>if g' =g then .view g2 i l w else .view g' i l w
 |v=>v
def Env.iG(g g2:Tg):Env→Env
 |[]=>[]
 |(k,v)::r=>(k,v.iG g g2)::Env.iG g g2 r
def U.fB(g:Tg)(ys:List (List U)):U→U
 | .own g' w xs=>if g' =g then .own g' w ys else .own g' w xs
 |v=>v
def Env.fB(g:Tg)(ys:List (List U)):Env→Env
 |[]=>[]
 |(k,v)::r=>(k,v.fB g ys)::Env.fB g ys r
def Tg.PX(i off n:Nat):Tg→Bool
 | .c j o=>Nat.beq j i&&Nat.ble off o&&Nat.blt o (off+n)
 |_=>false
def Tg.isC:Tg→Bool
 | .c _ _=>true
 |_=>false
def Tg.HA:Tg→Bool
 | .c _ _=>true
 | .a=>true
 |_=>false
def U.bS(p:Tg→Bool):U→U
 | .own g w xs=>bif p g then .bad else .own g w xs
 | .bD g i f=>bif p g then .bad else .bD g i f
 | .view g i l w=>bif p g then .bad else .view g i l w
 |v=>v
def Env.bS(p:Tg→Bool):Env→Env
 |[]=>[]
 |(k,v)::r=>(k,v.bS p)::Env.bS p r
def Env.cc(g:Tg)(full:Env):Env→Option (Nat×List (List U))
 |[]=>none
 |(k,.own g' _ _)::r=>if g' =g then(match look full k with
  |some (.own g2 w xs)=>if g2=g then some (w,xs)else Env.cc g full r
  |_=>Env.cc g full r)else Env.cc g full r
 |_::r=>Env.cc g full r
def setCell(h:List Uo)(i off:Nat)(v:U):List Uo:=
 match h[i]? with
 |some (.row cs)=>h.set i (.row (cs.set off v))
 |_=>h
def Vs.lT(g:Tg)(s:Vs):Vs:=
 match g with
 | .c i off=>(match s.h[i]? with
  |some (.row cs)=>(match cs[off]? with
   |some (.bF w xs)=>{s with e:=Env.lT g s.e,h:=s.h.set i (.row (cs.set off (.sl w xs)))}
   |_=>{s with e:=Env.kill g s.e})
  |_=>{s with e:=Env.kill g s.e})
 |g=>{s with e:=Env.lT g s.e}
def Vs.kill(g:Tg)(s:Vs):Vs:=
 match g with
 | .c i off=>{s with e:=Env.kill g s.e,h:=setCell s.h i off .bad}
 |g=>{s with e:=Env.kill g s.e}
def Vs.cc(g:Tg)(s:Vs):Option (Nat×List (List U)):=
 match g with
 | .c i off=>(match s.h[i]? with
  |some (.row cs)=>(match cs[off]? with
   |some (.bF w xs)=>some (w,xs)
   |_=>none)
  |_=>none)
 |g=>Env.cc g s.e s.e
def Vs.fB(g:Tg)(w:Nat)(ys:List (List U))(s:Vs):Vs:=
 match g with
 | .c i off=>{s with e:=Env.fB g ys s.e,h:=setCell s.h i off (.bF w ys)}
 |g=>{s with e:=Env.fB g ys s.e}
def esc(v:U)(s:Vs):Option (U×Vs):=
 match v with
 | .own .a _ _=>none
 | .own g w xs=>some (.sl w xs,s.lT g)
 | .bad=>none
 | .bF .. =>none
 | .bD .. =>none
 | .xU .. =>none
 | .view .. =>none
 | .cZ=>none
 | .aV _=>none
 |v=>some (v,s)
def cq(e:Env):bJ→Option U
 | .t n=>look e n
 | .c v=>some v.mq
def jy(e:Env):List bJ→Option (List U)
 |[]=>some []
 |x::r=>match cq e x with
  |some v=>(match jy e r with|some vs=>some (v::vs)|none=>none)
  |none=>none
def fN(x:bJ)(s:Vs):Option (U×Vs):=
 match cq s.e x with
 |some v=>esc v s
 |none=>none
def fW:List bJ→Vs→Option (List U×Vs)
 |[],s=>some ([],s)
 |x::r,s=>match fN x s with
  |some (v,s)=>(match fW r s with|some (vs,s)=>some (v::vs,s)|none=>none)
  |none=>none
def U.ofV:V→Option U
 | .bool b=>some (.bool b)
 | .int k n=>some (.int k n)
 | .str s=>some (.str s)
 |_=>none
def MD:Option V→Option U
 |some v=>U.ofV v
 |none=>none
def U.Xo:U→Option V
 | .bool b=>some (.bool b)
 | .int k n=>some (.int k n)
 | .str s=>some (.str s)
 |_=>none
def fJ(k:gR)(a b:U):Option Bool:=
 match a.Xo,b.Xo with
 |some x,some y=>jM k x y
 |_,_=>none
def rQ:List (Nat×gR)→List U→List U→Option Bool
 |[],_,_=>some true
 |(o,k)::r,xs,ys=>match xs[o]?,ys[o]? with
  |some a,some b=>(match fJ k a b with
   |some true=>rQ r xs ys
   |some false=>some false
   |none=>none)
  |_,_=>none
def U.L8:U→Option Bool
 | .bA=>some false
 | .ptr .. =>some true
 | .eD .. =>some true
 | .bD .. =>some true
 |_=>none
def U.WO:U→Option Bool
 | .di=>some false
 | .func .. =>some true
 |_=>none
def U.L6:U→Option Bool
 | .bQ=>some false
 | .map _=>some true
 |_=>none
def U.Er:U→Option Bool
 | .bu=>some false
 | .sl _ (_::_)=>some true
 | .own _ _ (_::_)=>some true
 |_=>none
def Ds(a b:Option Bool):Option Bool:=
 match a,b with
 |some false,some x=>some (!x)
 |some true,some false=>some false
 |_,_=>none
def LQ(ek:gR)(a b:U):Option Bool:=
 match ek with
 | .bool=>(match a,b with| .bool x,.bool y=>some (x==y)|_,_=>none)
 | .bA=>Ds a.L8 b.L8
 | .bu=>Ds a.Er b.Er
 | .bQ=>Ds a.L6 b.L6
 | .di=>Ds a.WO b.WO
 | .iface g=>(match a,b with
  | .cO,.cO=>bif g then none else some true
  | .cO,.iface _ _=>some false
  | .iface _ _,.cO=>some false
  |_,_=>none)
 | .flat ks=>(match a,b with| .agg xs,.agg ys=>rQ ks xs ys|_,_=>none)
 |_=>none
def iW(op:BinOp)(ek:gR)(a b:U):Option U:=
 match a,b with
 | .int k x,.int j y=>MD (jF op ek (.int k x) (.int j y))
 | .str x,.str y=>MD (kL op x y)
 |a,b=>(match op with
  | .eql=>(match LQ ek a b with|some r=>some (.bool r)|none=>none)
  | .neq=>(match LQ ek a b with|some r=>some (.bool (!r))|none=>none)
  |_=>none)
def unU(op:UnOp)(a:U):Option U:=
 match a.Xo with
 |some v=>MD (unV op v)
 |none=>none
def iE(n:Option Nat)(cs:List U)(off:Nat):Option U:=
 match n with
 |none=>(match cs[off]? with|some v=>bif v.uB then some v else none|none=>none)
 |some n=>bif Nat.ble (off+n) cs.length&&((cs.drop off).take n).all U.uB then some (.agg ((cs.drop off).take n))else none
def lN(i:Nat)(n:Option Nat)(cs:List U)(off:Nat):Option U:=
 match n,cs[off]? with
 |none,some (.bF w xs)=>some (.own (.c i off) w xs)
 |n,_=>iE n cs off
def gh(cs:List U)(off:Nat)(vs:List U):List U:=cs.take off++vs++cs.drop (off+vs.length)
def jV:List (Nat×Nat×bJ)→List U→Vs→Option (List U×Vs)
 |[],cells,s=>some (cells,s)
 |(off,size,x)::rest,cells,s=>match fN x s with
  |some (v,s)=>bif Nat.beq v.cells.length size&&Nat.ble (off+v.cells.length) cells.length then jV rest (gh cells off v.cells) s else none
  |none=>none
def fM(v:U)(most:Nat):Option Nat:=
 match v with
 | .int k n=>asNat (.int k n) most
 |_=>none
def bw(e:Env)(x:Option bJ)(dflt most:Nat):Option Nat:=
 match x with
 |none=>some dflt
 |some x=>match cq e x with
  |some v=>fM v most
  |none=>none
def LM(b:UInt8):List U:=[.int .u8 b.toNat]
def bE(bs:List UInt8):List (List U):=bs.map LM
def D3:List U→Option UInt8
 |[.int .u8 n]=>some (UInt8.ofNat n.toNat)
 |_=>none
def nU:List (List U)→Option (List UInt8)
 |[]=>some []
 |r::rs=>match D3 r with
  |some b=>(match nU rs with|some bs=>some (b::bs)|none=>none)
  |none=>none
def rowsOf(s:Vs)(w:Nat):U→Option (List (List U))
 | .sl v xs=>bif Nat.beq v w then some xs else none
 | .nl v=>bif Nat.beq v w then some []else none
 | .own _ v xs=>bif Nat.beq v w then some xs else none
 | .xU i off len v=>(match s.h[i]? with
  |some (.row cs)=>bif Nat.beq v w&&Nat.beq w 1&&Nat.ble (off+len) cs.length&&((cs.drop off).take len).all U.uB then some (((cs.drop off).take len).map fun c=>[c])else none
  |_=>none)
 |_=>none
def yG(s:Vs)(w:Nat)(str:Bool)(x:U):Option (List (List U)):=
 match str,x with
 |true,.str b=>bif Nat.beq w 1 then some (bE b)else none
 |false,x=>rowsOf s w x
 |_,_=>none
def Oj(s:Vs)(k:Nat):U→Option Nat
 | .str b=>bif Nat.beq k 0 then some b.length else none
 | .sl _ xs=>bif Nat.beq k 1 then some xs.length else none
 | .nl _=>bif Nat.beq k 1 then some 0 else none
 | .own _ _ xs=>bif Nat.beq k 1 then some xs.length else none
 | .xU _ _ len _=>bif Nat.beq k 1 then some len else none
 | .view _ _ len _=>bif Nat.beq k 1 then some len else none
 | .bQ=>bif Nat.beq k 2 then some 0 else none
 | .map m=>bif Nat.beq k 2 then(match s.h[m]? with
  |some (.map es _)=>some es.length
  |_=>none)else none
 |_=>none
def nG(kk:gR)(k:U):List (U×U×Nat)→Nat→Option (Option (Nat×U))
 |[],_=>some none
 |e::es,i=>match fJ kk k e.1 with
  |some true=>some (some (i,e.2.1))
  |some false=>nG kk k es (i+1)
  |none=>none
def dw(kk:gR)(k:U):Bool:=
 match k.Xo with
 |some v=>plainKey kk v
 |none=>false
def fH(s:Vs)(kk:gR)(zero:U)(ok:Bool)(m k:U):Option U:=
 match m with
 | .bQ=>bif dw kk k then some (bif ok then .aV [zero,.bool false]else zero)else none
 | .map m=>(match s.h[m]? with
  |some (.map es _)=>bif dw kk k then(match nG kk k es 0 with
   |some (some (_,v))=>some (bif ok then .aV [v,.bool true]else v)
   |some none=>some (bif ok then .aV [zero,.bool false]else zero)
   |none=>none)else none
  |_=>none)
 |_=>none
def lH(f:V→V→Option V)(a b:U):Option U:=
 match a.Xo,b.Xo with
 |some x,some y=>MD (f x y)
 |_,_=>none
def mJ(f:U→U→Option U):U→List U→Option U
 |a,[]=>some a
 |a,b::r=>match f a b with
  |some c=>mJ f c r
  |none=>none
def ir(d:Nat)(w:Nat)(lo hi mx:Option bJ)(v:U)(s:Vs):Option (U×Vs):=
 match v with
 | .sl w' xs=>bif Nat.beq w' w then
  (match bw s.e hi xs.length xs.length with
  |some h=>(match bw s.e lo 0 h with
   |some l=>(match mx with
    |none=>some (.sl w ((xs.take h).drop l),s)
    |some m=>(match bw s.e (some m) xs.length xs.length with
     |some m=>bif Nat.beq m h then(bif Nat.beq m 0 then some (.own (.t d) w [],s.kill (.t d))else some (.sl w ((xs.take h).drop l),s))else none
     |none=>none))
   |none=>none)
  |none=>none)else none
 | .own g w' xs=>bif Nat.beq w' w then
  (match mx with
  |none=>(match bw s.e hi xs.length xs.length with
   |some h=>(match bw s.e lo 0 h with
    |some l=>bif g.HA then some (.view g l (h - l) w,s)else some (.own (.t d) w ((xs.take h).drop l),(s.kill g).kill (.t d))
    |none=>none)
   |none=>none)
  |some m=>(match bw s.e hi xs.length xs.length,bw s.e (some m) xs.length xs.length,bw s.e lo 0 0 with
   |some 0,some 0,some 0=>some (.own (.t d) w [],s.kill (.t d))
   |_,_,_=>none))
  else none
 | .nl w' =>bif Nat.beq w' w then
  (match bw s.e hi 0 0,bw s.e mx 0 0,bw s.e lo 0 0 with
   |some 0,some 0,some 0=>some (.nl w,s)
   |_,_,_=>none)
  else none
 |_=>none
def mF(s:Vs)(q:Nat):Option U:=
 match s.h[q]? with
 |some (.iter (some m) _ seen last)=>(match s.h[m]?,seen.getLast? with
  |some (.map es clock),some n=>bif Nat.beq clock last then(match es.find? (fun e=>Nat.beq e.2.2 n)with
   |some e=>some (.aV [e.1,e.2.1])
   |none=>none)else none
  |_,_=>none)
 |_=>none
def fR(d:Nat)(s:Vs):fS→Option (U×Vs)
 | .bt x=>(match cq s.e x with|some (.own .r w xs)=>some (.own (.t d) w xs,s.kill (.t d))|some v=>some (v,s)|none=>none)
 | .pick c a b=>(match cq s.e c with
  |some (.bool true)=>(match cq s.e a with|some v=>some (v,s)|none=>none)
  |some (.bool false)=>(match cq s.e b with|some v=>some (v,s)|none=>none)
  |_=>none)
 | .load n x=>(match cq s.e x with
  |some (.ptr i off)=>(match s.h[i]? with
   |some (.row cs)=>(match lN i n cs off with|some v=>some (v,s)|none=>none)
   |_=>none)
  |some (.eD row off)=>(match iE n row off with|some v=>some (v,s)|none=>none)
  |some (.bD g i f)=>(match s.cc g with
   |some (_,xs)=>(match xs[i]? with
    |some r=>(match iE n r f with|some v=>some (v,s)|none=>none)
    |none=>none)
   |none=>none)
  |_=>none)
 | .nilCheck x=>(match cq s.e x with
  |some (.ptr i o)=>some (.ptr i o,s)
  |some (.eD r o)=>some (.eD r o,s)
  |some (.bD g i o)=>some (.bD g i o,s)
  |some (.func f a b)=>some (.func f a b,s)
  |some (.iface t v)=>some (.iface t v,s)
  |_=>none)
 | .bin op ek x y=>(match cq s.e x,cq s.e y with
  |some a,some b=>(match iW op ek a b with|some v=>some (v,s)|none=>none)
  |_,_=>none)
 | .un op x=>(match cq s.e x with
  |some a=>(match unU op a with|some v=>some (v,s)|none=>none)
  |none=>none)
 | .eO k x=>(match cq s.e x with
  |some (.int _ n)=>some (.int k (aI k n),s)
  |_=>none)
 | .th x=>(match cq s.e x with
  |some (.str b)=>some (.str b,s)
  |_=>none)
 | .toStr x=>(match cq s.e x with
  |some v=>(match rowsOf s 1 v with
   |some xs=>(match nU xs with|some bs=>some (.str bs,s)|none=>none)
   |none=>none)
  |none=>none)
 | .nM t x=>(match fN x s with
  |some (v,s)=>some (.iface t v,s)
  |none=>none)
 | .jf f first captured=>(match fW first s with
  |some (a,s)=>(match fW captured s with
   |some (b,s)=>some (.func f a b,s)
   |none=>none)
  |none=>none)
 | .build zero parts=>bif(V.dc zero).all U.aH then(match jV parts (V.dc zero) s with
  |some (cs,s)=>some (.agg cs,s)
  |none=>none)else none
 | .nq x lo hi=>(match cq s.e x with
  |some (.str b)=>(match bw s.e hi b.length b.length with
   |some h=>(match bw s.e lo 0 h with
    |some l=>some (.str ((b.take h).drop l),s)
    |none=>none)
   |none=>none)
  |_=>none)
 | .slice w x lo hi mx=>(match cq s.e x with
  |some v=>ir d w lo hi mx v s
  |none=>none)
 | .iP n w x lo hi=>(match cq s.e x with
  |some (.ptr i off)=>(match bw s.e hi n n with
   |some h=>(match bw s.e lo 0 h with
    |some l=>(match s.h[i]? with
     |some (.row cs)=>bif Nat.ble (off+n*w) cs.length then some (.xU i (off+l*w) (h - l) w,s)else none
     |_=>none)
    |none=>none)
   |none=>none)
  |_=>none)
 | .fieldAddr off x=>(match cq s.e x with
  |some (.ptr i o)=>some (.ptr i (o+off),s)
  |some (.eD row o)=>some (.eD row (o+off),s)
  |some (.bD g i o)=>some (.bD g i (o+off),s)
  |_=>none)
 | .field off n x=>(match cq s.e x with
  |some (.agg cs)=>(match iE n cs off with|some v=>some (v,s)|none=>none)
  |_=>none)
 | .indexAddr w x i=>(match cq s.e x,cq s.e i with
  |some (.sl w' xs),some (.int _ n)=>if 0≤n then(match xs[n.toNat]? with|some r=>bif Nat.beq w' w then some (.eD r 0,s)else none|none=>none)else none
  |some (.own g w' xs),some (.int _ n)=>if 0≤n∧n<(xs.length:Int)then(bif Nat.beq w' w then some (.bD g n.toNat 0,s)else none)else none
  |some (.xU j off len w'),some (.int _ n)=>if 0≤n∧n<(len:Int)then(bif Nat.beq w' w then some (.ptr j (off+n.toNat*w),s)else none)else none
  |some (.view g lo len w'),some (.int _ n)=>if 0≤n∧n<(len:Int)then(bif Nat.beq w' w then some (.bD g (lo+n.toNat) 0,s)else none)else none
  |_,_=>none)
 | .mL len w x i=>(match cq s.e x,cq s.e i with
  |some (.ptr j off),some (.int _ n)=>if 0≤n∧n<(len:Int)then some (.ptr j (off+n.toNat*w),s)else none
  |some (.eD row off),some (.int _ n)=>if 0≤n∧n<(len:Int)then some (.eD row (off+n.toNat*w),s)else none
  |_,_=>none)
 | .index x i=>(match cq s.e x,cq s.e i with
  |some (.str b),some (.int _ n)=>if 0≤n then(match b[n.toNat]? with|some c=>some (.int .u8 c.toNat,s)|none=>none)else none
  |_,_=>none)
 | .CB len x i=>(match cq s.e x,cq s.e i with
  |some (.agg cs),some (.int _ n)=>if 0≤n∧n<(len:Int)then(match cs[n.toNat]? with|some v=>some (v,s)|none=>none)else none
  |_,_=>none)
 | .lookup kk zero ok x i=>(match zero.EV,cq s.e x,cq s.e i with
  |some z,some m,some k=>(match fH s kk z ok m k with|some v=>some (v,s)|none=>none)
  |_,_,_=>none)
 | .extract i x=>(match cq s.e x with
  |some (.aV vs)=>(match vs[i]? with|some v=>some (v,s)|none=>none)
  |_=>none)
 | .len k x=>(match cq s.e x with
  |some v=>(match Oj s k v with|some n=>some (.int .i64 n,s)|none=>none)
  |none=>none)
 | .cap _=>none
 | .entry x=>(match cq s.e x with
  |some (.ptr q 0)=>(match mF s q with|some v=>some (v,s)|none=>none)
  |_=>none)
 | .max xs=>(match jy s.e xs with
  |some (v::vs)=>(match mJ (lH yf) v vs with|some v=>some (v,s)|none=>none)
  |_=>none)
 | .min xs=>(match jy s.e xs with
  |some (v::vs)=>(match mJ (lH AY) v vs with|some v=>some (v,s)|none=>none)
  |_=>none)
 | .mB t zero x=>(match zero.EV,cq s.e x with
  |some z,some .cO=>some (.aV [z,.bool false],s)
  |some z,some (.iface u v)=>some (if u=t then .aV [v,.bool true]else .aV [z,.bool false],s)
  |_,_=>none)
def iA(zero:List U)(n:Nat):List (List U):=List.replicate n zero
def chunks(w:Nat):Nat→List U→List (List U)
 |0,_=>[]
 |n+1,cs=>cs.take w::chunks w n (cs.drop w)
def J8(zero:List U):Nat→List U
 |0=>[]
 |n+1=>zero++J8 zero n
def mV(s:Vs)(o:Uo):Vs:={s with h:=s.h++[o]}
def yg(d:Nat)(s:Vs):GB→Option (U×Vs)
 | .alloc zero=>bif(V.dc zero).all (fun u=>u.aH||u.oc)then some (.ptr s.h.length 0,mV s (.row (V.dc zero)))else none
 | .box x=>(match cq s.e x with
  |some (.own (.c _ _) _ _)=>none
  |some (.own .a _ _)=>none
  |some (.own g w xs)=>some (.ptr s.h.length 0,{s with e:=Env.iG g (.c s.h.length 0) s.e,h:=s.h++[.row [.bF w xs]]})
  |some v=>bif v.cells.all U.aH then some (.ptr s.h.length 0,mV s (.row v.cells))else none
  |none=>none)
 | .buildSlice w len zero parts=>(match bif(V.dc zero).all U.aH then jV parts (J8 (V.dc zero) len) s else none with
  |some (cs,s)=>bif cs.all U.aH&&U.b8 0 cs&&Nat.beq cs.length (len*w)then some (.own (.t d) w (chunks w len cs),s.kill (.t d))else none
  |none=>none)
 | .makeMap=>some (.map s.h.length,mV s (.map [] 0))
 | .makeSlice w bytes zero len cap=>(match cq s.e len,cq s.e cap with
  |some l,some c=>(match fM c bp with
   |some c=>(match fM l c with
    |some l=>bif Nat.ble (c*bytes) bp&&Nat.beq zero.length w&&U.b8 0 (V.dc zero)&&(V.dc zero).all U.aH then some (.own (.t d) w (iA (V.dc zero) l),s.kill (.t d))else none
    |none=>none)
   |none=>none)
  |_,_=>none)
 | .lV x=>(match cq s.e x with
  |some (.str b)=>bif Nat.ble b.length bp then some (.sl 1 (bE b),s)else none
  |_=>none)
def lP(w:Nat)(ys:List (List U)):Bool:=ys.all fun r=>Nat.beq r.length w
def uA(g:Tg):List U→Bool
 |[]=>true
 | .own g' _ _::r=> !(decide (g' =g))&&uA g r
 |_::r=>uA g r
def pU(s:Vs)(n i off:Nat)(v:U)(cs:List U):Option Vs:=
 match v with
 | .own g w xs=>bif Nat.beq n 1&&Nat.blt off cs.length then(match g with
  | .c _ _=>none
  | .a=>none
  |g=>some {s with e:=Env.iG g (.c i off) (Env.bS (Tg.PX i off 1) s.e),h:=s.h.set i (.row (cs.set off (.bF w xs)))})
  else none
 |v=>bif Nat.beq v.cells.length n&&Nat.ble (off+n) cs.length&&v.cells.all U.aH then
   some {e:=Env.bS (Tg.PX i off n) s.e,h:=s.h.set i (.row (gh cs off v.cells)),fl:=bif v.low (i+1)then s.fl else s.h.length}
  else none
def jg(s:Vs)(off:Nat)(v:U)(cs:List U):U×Vs:=
 match v with
 | .own g w xs=>(match cs[off]? with
  |some (.sl _ _)=>bif g=.a then(.own g w xs,s)else(.sl w xs,s.lT g)
  |_=>(.own g w xs,s))
 |v=>(v,s)
def oD(i:Nat)(f:(U×U×Nat)→(U×U×Nat)):List (U×U×Nat)→List (U×U×Nat)
 |[]=>[]
 |e::es=>match i with
  |0=>f e::es
  |j+1=>e::oD j f es
def gG(i:Nat):List (U×U×Nat)→List (U×U×Nat)
 |[]=>[]
 |e::es=>match i with
  |0=>es
  |j+1=>e::gG j es
def pM(d:Nat)(s:Vs):xT→Option (U×Vs)
 | .store n a x=>(match cq s.e a,cq s.e x with
  |some (.ptr i off),some v=>(match s.h[i]? with
   |some (.row cs)=>(match jg s off v cs with
    |(v,s)=>(match s.h[i]? with
     |some (.row cs)=>(match pU s n i off v cs with|some s=>some (.aV [],s)|none=>none)
     |_=>none))
   |_=>none)
  |some (.bD g i f),some v=>(match esc v s with
   |some (v,s)=>(match s.cc g with
    |some (w,xs)=>(match xs[i]? with
     |some r=>bif Nat.beq v.cells.length n&&Nat.ble (f+n) r.length&&v.cells.all U.aH&&v.low 0 then some (.aV [],s.fB g w (xs.set i (gh r f v.cells)))else none
     |none=>none)
    |none=>none)
   |none=>none)
  |_,_=>none)
 | .mapUpdate kk m k x=>(match fN m s with
  |some (.map i,s)=>(match fN k s with
   |some (k,s)=>(match fN x s with
    |some (v,s)=>(match s.h[i]? with
     |some (.map es clock)=>bif dw kk k then
      (let fl:=bif v.low (i+1)then s.fl else s.h.length
      match nG kk k es 0 with
      |some (some (j,_))=>some (.aV [],{s with h:=s.h.set i (.map (oD j (fun e=>(k,v,e.2.2)) es) clock),fl:=fl})
      |some none=>some (.aV [],{s with h:=s.h.set i (.map (es++[(k,v,clock)]) (clock+1)),fl:=fl})
      |none=>none)else none
     |_=>none)
    |none=>none)
   |none=>none)
  |_=>none)
 | .delete kk m k=>(match cq s.e m,cq s.e k with
  |some .bQ,some k=>bif dw kk k then some (.aV [],s)else none
  |some (.map i),some k=>(match s.h[i]? with
   |some (.map es clock)=>bif dw kk k then(match nG kk k es 0 with
    |some (some (j,_))=>some (.aV [],{s with h:=s.h.set i (.map (gG j es) clock)})
    |some none=>some (.aV [],s)
    |none=>none)else none
   |_=>none)
  |_,_=>none)
 | .append w bytes str a x=>(match cq s.e a,cq s.e x with
  |some a,some x=>(match yG s w str x with
   |some ys=>(match a with
    | .own g w' xs=>bif !(decide (g=.a))&&Nat.beq w' w&&Nat.ble ((xs.length+ys.length)*bytes) bp&&Nat.ble (xs.length+ys.length) bp&&ys.all (fun r=>r.all U.aH&&U.b8 0 r&&Nat.beq r.length w)then
      some (.own (.t d) w (xs++ys),(s.kill g).kill (.t d))else none
    | .nl w' =>bif Nat.beq w' w&&Nat.ble (ys.length*bytes) bp&&Nat.ble ys.length bp&&ys.all (fun r=>r.all U.aH&&U.b8 0 r&&Nat.beq r.length w)then some (.own (.t d) w ys,(s.kill .r).kill (.t d))else none
    | .sl w' xs=>bif Nat.beq w' w&&ys.isEmpty&&Nat.ble (xs.length*bytes) bp&&Nat.ble xs.length bp then some (.sl w xs,s)else none
    |_=>none)
   |none=>none)
  |_,_=>none)
 | .copy w str a x=>(match cq s.e a,cq s.e x with
  |some (.own g w' xs),some x=>(match yG s w str x with
   |some ys=>bif Nat.beq w' w&&(s.cc g).isSome&&ys.all (fun r=>r.all U.aH&&U.b8 0 r&&Nat.beq r.length w)then
     some (.int .i64 (min ys.length xs.length:Nat),s.fB g w (ys.take xs.length++xs.drop ys.length))else none
   |none=>none)
  |_,_=>none)
 |_=>none
def sP:U→Option U
 | .own .a _ _=>none
 | .own _ w xs=>some (.sl w xs)
 | .nl w=>some (.sl w [])
 | .bad=>none
 | .bF .. =>none
 | .bD .. =>none
 | .xU .. =>none
 | .view .. =>none
 | .cZ=>none
 | .aV _=>none
 |v=>some v
def gK:List U→Option (List U)
 |[]=>some []
 |v::vs=>match sP v with
  |some u=>(match gK vs with|some us=>some (u::us)|none=>none)
  |none=>none
def dJ(d:Nat)(r:U)(s:Vs):U×Vs:=
 match r with
 | .own .r w xs=>(.own (.t d) w xs,s.kill (.t d))
 |r=>(r,s)
def aG:List U→Vs→Vs
 |[],s=>s
 | .own g _ _::r,s=>aG r (s.lT g)
 |_::r,s=>aG r s
def qt:List U→Bool
 |[]=>false
 |v::vs=>v.L7||qt vs
def eL(k:Nat):Uo→Uo
 | .row cs=> .row (U.fQ k cs)
 | .map es c=> .map (es.map fun e=>(e.1.shift k,e.2.1.shift k,e.2.2)) c
 | .iter m a b c=> .iter (m.map (· +k)) a b c
 | .gone=> .gone
def qK(d:Nat)(r:U)(hc:List Uo)(fc:Nat)(s:Vs):U×Vs:=
 match hc with
 |[]=>dJ d r s
 |_=>dJ d (r.shift s.h.length) {s with h:=s.h++hc.map (eL s.h.length),fl:=bif Nat.beq fc 0 then s.fl else s.h.length+fc}
abbrev FU:=Nat→List U→List Uo→Nat→Option (U×List Uo×Nat)
def gP(h:List Uo):Env→List (Nat×Nat)
 |[]=>[]
 |(_,v)::r=>match v.Ws with
  |some (i,off)=>(match h[i]? with
   |some (.row cs)=>(match cs[off]? with
    |some (.bF _ _)=>(i,off)::gP h r
    |_=>gP h r)
   |_=>gP h r)
  |none=>gP h r
def eu:List (Nat×Nat)→List Uo→List Uo
 |[],h=>h
 |(i,off)::r,h=>eu r (setCell h i off .cZ)
def lF(h:List Uo)(x:Nat×Nat):Bool:=
 match h[x.1]? with
 |some (.row cs)=>(match cs[x.2]? with
  |some .cZ=>true
  |_=>false)
 |_=>false
def cellAt(h:List Uo)(i off:Nat):U:=
 match h[i]? with
 |some (.row cs)=>(cs[off]?).getD .bad
 |_=> .bad
def iC(h0:List Uo):List (Nat×Nat)→List Uo→List Uo
 |[],h=>h
 |(i,off)::r,h=>iC h0 r (setCell h i off (cellAt h0 i off))
def fk(L:List (Nat×Nat)):Tg→Bool
 | .c i off=> !(L.any fun x=>Nat.beq x.1 i&&Nat.beq x.2 off)
 |_=>false
def jG(ld:Bool)(F:FU)(d f:Nat)(args:List U)(s:Vs):Option (U×Vs):=
 match gK args with
 |some us=>
  bif U.b8 0 us then
   (match F f us [] 0 with
   |some (r,hc,fc)=>
    some (qK d r hc fc (bif qt args&& !(r.flat&&hc.isEmpty)then aG args s else s))
   |none=>none)
  else
   (let s:=aG args s
   bif ld then
    (let L:=gP s.h s.e
    match F f us (eu L s.h) s.fl with
    |some (r,h,fl)=>bif L.all (lF h)then some (dJ d r {e:=Env.bS (fk L) s.e,h:=iC s.h L h,fl:=fl})else none
    |none=>none)
   else
   match F f us s.h s.fl with
   |some (r,h,fl)=>some (dJ d r {e:=Env.bS Tg.isC s.e,h:=h,fl:=fl})
   |none=>none)
 |none=>none
structure mA where
 q:Nat→Option (List (List U)→List U→Option (List (List U)))
 app:Nat→Option (List (List U)→List U→Option (List (List U)))
 ld:Nat→Bool
 Jb:Nat→Option (List (List U)→List U→Option (Nat×List (List U)))
def yB(Q:mA)(F:FU)(s:Vs)(d f:Nat)(args:List U):Option (U×Vs):=
 match Q.Jb f with
 |some q=>(match args with
  | .own g w xs::rest=>(match q xs rest with
   |some (w',ys)=>some (.own (.t d) w' ys,s.kill (.t d))
   |none=>none)
  |_=>jG (Q.ld f) F d f args s)
 |none=>jG (Q.ld f) F d f args s
section
variable(M:oW)(Q:mA)(F:FU)
def kG(s:Vs)(dst:Option Nat)(o:jE):Option (U×Vs):=
 let d:=dst.getD 0
 match o with
 | .s o=>fR d s o
 | .m o=>yg d s o
 | .h (.range x)=>(match cq s.e x with
  |some .bQ=>some (.ptr s.h.length 0,{s with h:=s.h++[.iter none 0 [] 0]})
  |some (.map m)=>(match s.h[m]? with
   |some (.map _ clock)=>some (.ptr s.h.length 0,{s with h:=s.h++[.iter (some m) clock [] clock]})
   |_=>none)
  |_=>none)
 | .h o=>pM d s o
 | .call f args=>(match cq s.e f,jy s.e args with
  |some (.func f first captured),some vs=>(match Q.q f with
   |some q=>(match first++vs++captured with
    | .own g w xs::rest=>(match q xs rest with
     |some ys=>bif(s.cc g).isSome then some (.aV [],s.fB g w ys)else none
     |none=>none)
    |_=>none)
   |none=>(match Q.app f with
    |some q=>(match first++vs++captured with
     | .own g w xs::rest=>(match q xs rest with
      |some ys=>bif !(decide (g=.a))&&lP w ys&&uA g rest then some (.own (.t d) w ys,(s.kill g).kill (.t d))else none
      |none=>none)
     | .nl w::rest=>(match q [] rest with
      |some ys=>bif lP w ys&&uA .r rest then some (.own (.t d) w ys,(s.kill .r).kill (.t d))else none
      |none=>none)
     |_=>none)
    |none=>yB Q F s d f (first++vs++captured)))
  |_,_=>none)
 | .invoke name x args=>(match cq s.e x,jy s.e args with
  |some (.iface t v),some vs=>(match M t name with
   |some f=>jG (Q.ld f) F d f (v::vs) s
   |none=>none)
  |_,_=>none)
 | .next _=>none
 | .bad=>none
def hU(g:Option (Nat×Bool))(e:Env):Option Bool:=
 match g with
 |none=>some true
 |some (t,want)=>match look e t with
  |some (.bool b)=>some (b==want)
  |some (.aV _)=>some false
  |_=>none
def gy:List aD→Vs→Option Vs
 |[],s=>some s
 |o::r,s=>match hU o.guard s.e with
  |some true=>(match kG M Q F s o.dst o.op with
   |some (v,s)=>gy r {s with e:=iN o.dst v s.e}
   |none=>none)
  |some false=>gy r {s with e:=iN o.dst (.aV []) s.e}
  |none=>none
end
mutual
def U.same:U→U→Bool
 | .bool a,.bool b=>a==b
 | .int j a,.int k b=>decide (j=k)&&decide (a=b)
 | .str a,.str b=>a==b
 | .bA,.bA=>true
 | .bQ,.bQ=>true
 | .di,.di=>true
 | .cO,.cO=>true
 | .ptr i o,.ptr j p=>Nat.beq i j&&Nat.beq o p
 | .map i,.map j=>Nat.beq i j
 | .agg a,.agg b=>U.lQ a b
 |_,_=>false
def U.lQ:List U→List U→Bool
 |[],[]=>true
 |a::as,b::bs=>U.same a b&&U.lQ as bs
 |_,_=>false
end
inductive Rk where
 |ok
 |ld (i:Nat) (n:Option Nat) (off:Nat) (u:U)
 |no
def sZ(s:Vs)(op:fS)(u:U):Rk:=
 match op with
 | .load n x=>(match cq s.e x with
  |some (.ptr i off)=> .ld i n off u
  |some (.eD _ _)=> .ok
  |_=> .no)
 | .toStr x=>(match cq s.e x with
  |some (.sl _ _)=> .ok
  |_=> .no)
 |_=> .no
def Rk.holds(s:Vs):Rk→Bool
 | .ok=>true
 | .ld i n off u=>(match s.h[i]? with
  |some (.row cs)=>(match lN i n cs off with
   |some u' =>U.same u u'
   |none=>false)
  |_=>false)
 | .no=>false
def oI(s:Vs)(aO:Nat):List (Nat×Rk)→Bool
 |[]=>true
 |(i,r)::rest=>(Nat.testBit aO i||r.holds s)&&oI s aO rest
def JC(j:Nat)(n:Option Nat)(off:Nat)(u:U)(l:List Nat×List (Nat×Nat)):List Nat×List (Nat×Nat):=
 bif n.isNone&&(u.L7||u.qaT)then(l.1,(j,off)::l.2)else(j::l.1,l.2)
def pH(s:Vs)(aO:Nat):List (Nat×Rk)→Option (List Nat×List (Nat×Nat))
 |[]=>some ([],[])
 |(i,r)::rest=>bif Nat.testBit aO i||r.holds s then pH s aO rest else match r with
  | .ld j n off u=>(match pH s aO rest with|some l=>some (JC j n off u l)|none=>none)
  |_=>none
def fT:List Nat→List Uo→List Uo
 |[],h=>h
 |j::l,h=>fT l (h.set j .gone)
def fU(aO:Nat):List (Nat×Rk)→List (Nat×Rk)
 |[]=>[]
 |(i,r)::rest=>bif Nat.testBit aO i then fU aO rest else(i,r)::fU aO rest
section
variable(M:oW)(Q:mA)(F:FU)
def fu(s:Vs)(o:jE):Bool:=
 match o with
 | .call f args=>(match cq s.e f,jy s.e args with
  |some (.func f first captured),some vs=>(match Q.q f,Q.app f,gK (first++vs++captured)with
   |none,none,some us=>U.b8 0 us&&(Q.Jb f).isNone
   |_,_,_=>false)
  |_,_=>false)
 | .invoke name x args=>(match cq s.e x,jy s.e args with
  |some (.iface t v),some vs=>(match gK (v::vs)with
   |some us=>U.b8 0 us
   |none=>false)
  |_,_=>false)
 |_=>false
def lK(F:FU)(f:Nat)(args:List U)(s:Vs)(hid:List Nat×List (Nat×Nat)):Bool:=
 match gK args with
 |some us=>(match F f us (eu hid.2 (fT hid.1 (aG args s).h)) (aG args s).fl with
  |some R=>hid.2.all (lF R.2.1)
  |none=>false)
 |none=>false
def gH(s t:Vs)(o:jE)(aO:Nat)(ah:List (Nat×Rk)):Bool:=
 match pH t aO ah with
 |some hid=>(match o with
  | .call f args=>(match cq s.e f,jy s.e args with
   |some (.func f first captured),some vs=>(match Q.q f,Q.app f with
    |none,none=>(Q.Jb f).isNone&&lK F f (first++vs++captured) s hid
    |_,_=>false)
   |_,_=>false)
  | .invoke name x args=>(match cq s.e x,jy s.e args with
   |some (.iface t v),some vs=>(match M t name with
    |some f=>lK F f (v::vs) s hid
    |none=>false)
   |_,_=>false)
  |_=>false)
 |none=>false
def bV:List Step→Vs→List (Nat×Rk)→Option Vs
 |[],s,_=>some s
 | .small i o::r,s,ah=>match hU o.guard s.e with
  |some true=>(match kG M Q F s o.dst o.op with
   |some (v,t)=>(match o.op with
    | .s op=>bV r {t with e:=iN o.dst v t.e} (bif op.impure then(i,sZ s op v)::ah else ah)
    | .m _=>bV r {t with e:=iN o.dst v t.e} ah
    |_=>none)
   |none=>none)
  |some false=>bV r {s with e:=iN o.dst (.aV []) s.e} ah
  |none=>none
 | .bp i o::r,s,ah=>match hU o.guard s.e with
  |some true=>(match kG M Q F s o.dst o.op with
   |some (v,t)=>bif fu Q s o.op||oI t o.aO ah||gH M Q F s t o.op o.aO ah then bV r {t with e:=iN o.dst v t.e} (fU o.aO ah)else none
   |none=>none)
  |some false=>bV r {s with e:=iN o.dst (.aV []) s.e} ah
  |none=>none
end
def dg:List Nat→Env→Env
 |[],_=>[]
 |t::ts,e=>match look e t with
  |some (.own (.t g) w xs)=>(t,.own (.t t) w xs)::dg ts (Env.kill (.t g) e)
  |some (.own .r w xs)=>(t,.own (.t t) w xs)::dg ts (Env.kill .r e)
  |some (.bD (.t _) _ _)=>(t,.bad)::dg ts e
  |some (.bD .r _ _)=>(t,.bad)::dg ts e
  |some (.view (.t _) _ _ _)=>(t,.bad)::dg ts e
  |some (.view .r _ _ _)=>(t,.bad)::dg ts e
  |some v=>(t,v)::dg ts e
  |none=>dg ts e
def HF(n:Nat):Env→Bool
 |[]=>true
 |(_,v)::r=>v.low n&&HF n r
def cut(n fl:Nat)(h:List Uo):List Uo:=h.take (max n fl)
def keep(L:List Nat)(n:Nat)(s:Vs):Vs:=
 let e:=dg L s.e
 {e:=e,h:=bif HF n e then cut n s.fl s.h else s.h,fl:=s.fl}
structure aC where
 ntmps:Nat
 results:List tZ
 own:Bool -- a slice is handed back as one's own
 body:aj
 head:Nat→List Nat -- what is live at a loop's head,by its block
 tail:Nat→List Nat -- what is live behind a block
def HY(s:Vs):tZ→Option U
 | .t n=>look s.e n
 | .cell a n=>(match look s.e a with
  |some (.ptr i off)=>(match s.h[i]? with
   |some (.row cs)=>lN i n cs off
   |_=>none)
  |_=>none)
def qi(s:Vs):List tZ→Option (List U)
 |[]=>some []
 |r::rs=>match HY s r with
  |some v=>(match qi s rs with|some vs=>some (v::vs)|none=>none)
  |none=>none
def U.jA(own:Bool):U→Option U
 | .own (.c _ _) w xs=>none
 | .own .a w xs=>none
 | .own _ w xs=>some (bif own then .own .r w xs else .sl w xs)
 | .nl w=>some (.sl w [])
 | .bad=>none
 | .bF .. =>none
 | .bD .. =>none
 | .xU .. =>none
 | .view .. =>none
 | .cZ=>none
 | .aV _=>none
 |v=>some v
def qG(own:Bool):List U→Option (List U)
 |[]=>some []
 |v::vs=>match v.jA own with
  |some u=>(match qG own vs with|some us=>some (u::us)|none=>none)
  |none=>none
def GD(n:Nat)(h:List Uo):List Uo:=h.take n++((h.drop n).dropLast.map fun _=>Uo.gone)++(h.drop n).getLast?.toList
def CF(n:Nat)(fn:aC)(s:Vs):Option (U×List Uo×Nat):=
 match qi s fn.results with
 |some [v]=>(match v.jA fn.own with
  |some r=>some (r,bif r.low n then cut n s.fl s.h else s.h,s.fl)
  |none=>none)
 |some vs=>(match qG false vs with
  |some us=>some (.aV us,bif U.b8 n us then cut n s.fl s.h else bif fn.own then s.h else GD n s.h,s.fl)
  |none=>none)
 |none=>none
def lM:List U→Nat→Env
 |[],_=>[]
 |v::vs,i=>(i,v)::lM vs (i+1)
def td(es:List (U×U×Nat))(since:Nat)(seen:List Nat):List (Option (U×U×Nat)):=
 let left:=es.filter fun e=> !seen.contains e.2.2;let old:=left.filter fun e=>Nat.blt e.2.2 since;let new:=left.filter fun e=>Nat.ble since e.2.2
 (bif old.isEmpty then[none]else[])++(old++new).map some
def HJ(s:Vs)(dst:Option Nat)(q j since:Nat)(seen:List Nat)(clock:Nat)(k:Vs→Prop):Option (U×U×Nat)→Prop
 |some e=>k {e:=iN dst (.aV [.bool true,e.1,e.2.1]) s.e,h:=s.h.set q (.iter (some j) since (seen++[e.2.2]) clock),fl:=s.fl}
 |none=>k {s with e:=iN dst (.aV [.bool false]) s.e}
def ig(s:Vs)(dst:Option Nat)(x:bJ)(k:Vs→Prop):Prop:=
 match cq s.e x with
 |some (.ptr q 0)=>(match s.h[q]? with
  |some (.iter none _ _ _)=>k {s with e:=iN dst (.aV [.bool false]) s.e}
  |some (.iter (some j) since seen last)=>(match s.h[j]? with
   |some (.map es clock)=>(!seen.isEmpty&& !es.isEmpty&&es.all (fun e=>Nat.ble last e.2.2))=false∧∀ c∈td es since seen,HJ s dst q j since seen clock k c
   |_=>False)
  |_=>False)
 |_=>False
open Classical in
noncomputable def pick{α:Type}(P:α→Prop):Option α:=if h:∃ x,P x then some h.choose else none
def kE(k:Nat)(fn:aC)(R:U×List Uo×Nat)(ex:Ex)(s:Vs):Prop:=
 match ex with
 | .exit _=>False
 |_=>CF k fn s=some R
def kB(fn:aC)(id n:Nat)(K:Ex→Vs→Prop)(ex:Ex)(t:Vs):Prop:=
 match ex with
 | .normal=>K .normal (keep (fn.tail id) n t)
 | .exit i=>bif Nat.beq i id then K .normal (keep (fn.tail id) n t)else K (.exit i) t
 | .ret=>K .ret t
def iq(K:Ex→Vs→Prop):Option Vs→Prop
 |some s=>K .normal s
 |none=>False
section
variable(VF:Nat→Option aC)(M:oW)(Q:mA)(Pm:XG)
def jS(F:FU)(s:Vs)(K:Ex→Vs→Prop):List aD→Prop
 |⟨dst,.next x,none,_⟩::ops=>ig s dst x fun t=>iq K (gy M Q F ops t)
 |ops=>iq K (gy M Q F ops s)
def kV(F:FU)(s:Vs)(K:Ex→Vs→Prop):Option (List Step)→Prop
 |some l=>iq K (bV M Q F l s [])
 |none=>False
mutual
noncomputable def vC:Nat→aC→aj→Vs→(Ex→Vs→Prop)→Prop
 |0,_,_,_,_=>False
 |n+1,fn,c,s,K=>
  match c with
  | .skip=>K .normal s
  | .region ops=>jS M Q (vF n) s K ops
  | .draw ops=>kV M Q (vF n) s K (sched (ops.length+1) (bq ops 0) 0)
  | .seq a b=>vC n fn a s fun ex s=>match ex with
   | .normal=>vC n fn b s K
   |ex=>K ex s
  | .cond x a b=>(match cq s.e x with
   |some (.bool true)=>vC n fn a s K
   |some (.bool false)=>vC n fn b s K
   |_=>False)
  | .block id (.loop b)=>vL n fn id b s.h.length (keep (fn.head id) s.h.length s) K
  | .block id b=>vC n fn b s (kB fn id s.h.length K)
  | .exit i=>K (.exit i) s
  | .ret=>K .ret s
  |_=>False
noncomputable def vL:Nat→aC→Nat→aj→Nat→Vs→(Ex→Vs→Prop)→Prop
 |0,_,_,_,_,_,_=>False
 |n+1,fn,id,b,m,s,K=>vC n fn b s fun ex t=>match ex with
  | .normal=>vL n fn id b m (keep (fn.head id) m t) K
  |ex=>kB fn id m K ex t
noncomputable def vF:Nat→FU
 |0,_,_,_,_=>none
 |n+1,f,args,h,fl=>(match Pm f with
  |some p=>p args h fl
  |none=>(match VF f with
   |none=>none
   |some fn=>bif Nat.ble args.length fn.ntmps then pick (fun R=>vC n fn fn.body ⟨lM args 0,h,fl⟩ (kE h.length fn R))else none))
end
end
end Go.RE
namespace Go.RE
section
variable{C:Nat→Option ck}{M:oW}{F:Nat→List V→St→(V→St→Prop)→Prop}
end
end Go.RE
namespace Go.RE
section
variable{env:PT V}{s:St}
end
theorem Cu{n:Nat}(h:n≤9223372036854775807):aI .i64 (n:Int)=(n:Int):=by
 show(bif Nat.ble n (AK .i64)then Int.ofNat n else IntKind.wrap .i64 (.ofNat n))=_;have:Nat.ble n (AK .i64)=true:=oT h;rw[this];rfl
theorem fD{n:Nat}(h:n<9223372036854775807):aI .i64 ((n:Int)+1)=((n+1:Nat):Int):=Cu (n:=n+1) (by omega)
section
variable{k:IntKind}{a b:Int}
end
end Go.RE
namespace Go.RE
theorem Ej{w:Nat}:∀ {rows:List (List V)},(∀ r∈rows,r.length=w)→rows.flatten.length=rows.length*w∧∀ i (h:i<rows.length),(rows.flatten.drop (i*w)).take w=rows[i]:=by
 intro rows
 induction rows with
 |nil=>intro _;simp
 |cons r rs ih=>
  intro hw;obtain⟨h1,h2⟩:=ih (fun x hx=>hw x (gB _ hx));have hr:r.length=w:=hw r eU;refine⟨?_,fun i hi=> ?_⟩
  ·simp only[List.flatten_cons,lZ,h1,hr,List.length_cons,Nat.succ_mul];omega
  ·cases i with
   |zero=>simp only[Nat.zero_mul,List.drop_zero,List.flatten_cons,List.getElem_cons_zero];rw[List.take_append_of_le_length (by omega),jU (by omega)]
   |succ i=>
    simp only[List.flatten_cons,List.getElem_cons_succ];have:(i+1)*w=r.length+i*w:=by rw[hr,Nat.succ_mul];omega
    rw[this,←List.drop_drop,List.drop_left];exact h2 i (by simpa using hi)
theorem nS{s:St}{b off len cap w:Nat}{ex:Bool}{cs:List V}(h:s.row b=some cs)(hl:off+len*w≤cs.length):bH s w (.slice b off len cap w ex)=some ((cs.drop off).take (len*w)):=by
 simp only[bH,h,jC,oT hl,Bool.and_true,cond_true]
end Go.RE
namespace Go.RE
inductive UR(σ:Nat→Nat)(Z:Nat→Option (List V)):Nat→U→V→Prop
 |bool {n} (b:Bool):UR σ Z n (.bool b) (.bool b)
 |int {n} (k:IntKind) (x:Int):UR σ Z n (.int k x) (.int k x)
 |str {n} (s:List UInt8):UR σ Z n (.str s) (.str s)
 |bA {n}:UR σ Z n .bA .bA
 |bu {n}:UR σ Z n .bu .bu
 |bQ {n}:UR σ Z n .bQ .bQ
 |di {n}:UR σ Z n .di .di
 |cO {n}:UR σ Z n .cO .cO
 |ptr {n i off} (h:i<n):UR σ Z n (.ptr i off) (.ptr (σ i) off)
 |map {n i} (h:i<n):UR σ Z n (.map i) (.map (σ i))
 |jr {n row off b o row'} (hz:Z b=some row') (hr:o+row.length≤row'.length)
   (hv:∀ (j:Nat) u v,row[j]? =some u→((row'.drop o).take row.length)[j]? =some v→UR σ Z 0 u v):UR σ Z n (.eD row off) (.ptr b (o+off))
 |jq {n row off o row'} (hr:o+row.length≤row'.length)
   (hv:∀ (j:Nat) u v,row[j]? =some u→((row'.drop o).take row.length)[j]? =some v→UR σ Z 0 u v):UR σ Z n (.eD row off) (.eD row' (o+off))
 |slnil {n w}:UR σ Z n (.sl w []) .bu
 |y9 {n w}:UR σ Z n (.sl w []) .bM
 |CJ {n w}:UR σ Z n (.nl w) .bu
 |Dt {n w}:UR σ Z n (.nl w) .bM
 |Bf {n w xs b off len cap ex row'} (hn:len=xs.length) (hz:Z b=some row') (hl:∀ r∈xs,r.length=w) (hcap:len≤cap) (hr:off+xs.length*w≤row'.length)
   (hv:∀ (j:Nat) u v,xs.flatten[j]? =some u→((row'.drop off).take (xs.length*w))[j]? =some v→UR σ Z 0 u v):UR σ Z n (.sl w xs) (.slice b off len cap w ex)
 |CO {n w xs off len row'} (hn:len=xs.length) (hl:∀ r∈xs,r.length=w) (hr:off+xs.length*w≤row'.length)
   (hv:∀ (j:Nat) u v,xs.flatten[j]? =some u→((row'.drop off).take (xs.length*w))[j]? =some v→UR σ Z 0 u v):UR σ Z n (.sl w xs) (.ag row' off len w)
 |func {n f a b a' b'} (ha:a.length=a'.length) (hb:b.length=b'.length)
   (va:∀ (j:Nat) u v,a[j]? =some u→a'[j]? =some v→UR σ Z n u v) (vb:∀ (j:Nat) u v,b[j]? =some u→b'[j]? =some v→UR σ Z n u v):UR σ Z n (.func f a b) (.func f a' b')
 |iface {n t u v} (h:UR σ Z n u v):UR σ Z n (.iface t u) (.iface t v)
 |agg {n a a'} (ha:a.length=a'.length) (va:∀ (j:Nat) u v,a[j]? =some u→a'[j]? =some v→UR σ Z n u v):UR σ Z n (.agg a) (.agg a')
 |aV {n a a'} (ha:a.length=a'.length) (va:∀ (j:Nat) u v,a[j]? =some u→a'[j]? =some v→UR σ Z n u v):UR σ Z n (.aV a) (.aV a')
def LU(σ:Nat→Nat)(Z:Nat→Option (List V))(n:Nat)(a:List U)(b:List V):Prop:=a.length=b.length∧∀ (j:Nat) u v,a[j]? =some u→b[j]? =some v→UR σ Z n u v
section
variable{σ σ' :Nat→Nat}{Z Z' :Nat→Option (List V)}{n m:Nat}
theorem UR.mono(hn:n≤m)(hσ:∀ i,i<n→σ' i=σ i)(hZ:∀ b r,Z b=some r→Z' b=some r){u:U}{v:V}(h:UR σ Z n u v):UR σ' Z' m u v:=by
 induction h generalizing m with
 |bool b=>exact .bool b
 |int k x=>exact .int k x
 |str s=>exact .str s
 |bA=>exact .bA
 |bu=>exact .bu
 |bQ=>exact .bQ
 |di=>exact .di
 |cO=>exact .cO
 |ptr h=>rw[←hσ _ h];exact .ptr (by omega)
 |map h=>rw[←hσ _ h];exact .map (by omega)
 |jr hz hr hv ih=>exact .jr (hZ _ _ hz) hr fun j u v h1 h2=>ih j u v h1 h2 (aq 0) (fun i hi=>by omega)
 |jq hr hv ih=>exact .jq hr fun j u v h1 h2=>ih j u v h1 h2 (aq 0) (fun i hi=>by omega)
 |slnil=>exact .slnil
 |y9=>exact .y9
 |CJ=>exact .CJ
 |Dt=>exact .Dt
 |Bf hq hz hl hc hr hv ih=>exact .Bf hq (hZ _ _ hz) hl hc hr fun j u v h1 h2=>ih j u v h1 h2 (aq 0) (fun i hi=>by omega)
 |CO hq hl hr hv ih=>exact .CO hq hl hr fun j u v h1 h2=>ih j u v h1 h2 (aq 0) (fun i hi=>by omega)
 |func ha hb va vb iha ihb=>exact .func ha hb (fun j u v h1 h2=>iha j u v h1 h2 hn hσ) (fun j u v h1 h2=>ihb j u v h1 h2 hn hσ)
 |iface h ih=>exact .iface (ih hn hσ)
 |agg ha va ih=>exact .agg ha fun j u v h1 h2=>ih j u v h1 h2 hn hσ
 |aV ha va ih=>exact .aV ha fun j u v h1 h2=>ih j u v h1 h2 hn hσ
theorem LU.mono(hn:n≤m)(hσ:∀ i,i<n→σ' i=σ i)(hZ:∀ b r,Z b=some r→Z' b=some r){a:List U}{b:List V}(h:LU σ Z n a b):LU σ' Z' m a b:=
 ⟨h.1,fun j u v h1 h2=>(h.2 j u v h1 h2).mono hn hσ hZ⟩
theorem LU.nil:LU σ Z n [] []:=⟨rfl,fun j u v h=>by simp at h⟩
theorem LU.cons{u:U}{v:V}{us:List U}{vs:List V}(h:UR σ Z n u v)(hs:LU σ Z n us vs):LU σ Z n (u::us) (v::vs):=
 ⟨by simp[hs.1],fun j a b h1 h2=>by
  cases j with
  |zero=>simp at h1 h2;subst h1;subst h2;exact h
  |succ j=>simp at h1 h2;exact hs.2 j a b h1 h2⟩
theorem LU.dY{vs:List V}(h:LU σ Z n [] vs):vs=[]:=jT h.1.symm
theorem LU.bx{u:U}{us:List U}{vs:List V}(h:LU σ Z n (u::us) vs):∃ v vs',vs=v::vs'∧UR σ Z n u v∧LU σ Z n us vs' :=by
 cases vs with
 |nil=>have:=h.1;simp at this
 |cons v vs=>
  refine⟨v,vs,rfl,h.2 0 u v rfl rfl,?_,fun j a b h1 h2=>h.2 (j+1) a b (by simpa using h1) (by simpa using h2)⟩;have:=h.1;simpa using this
theorem LU.append{a c:List U}{b d:List V}(h:LU σ Z n a b)(hs:LU σ Z n c d):LU σ Z n (a++c) (b++d):=by
 induction a generalizing b with
 |nil=>rw[h.dY];exact hs
 |cons u us ih=>
  obtain⟨v,vs,rfl,h1,h2⟩:=h.bx;exact LU.cons h1 (ih h2)
theorem LU.take{a:List U}{b:List V}(k:Nat)(h:LU σ Z n a b):LU σ Z n (a.take k) (b.take k):=
 ⟨by simp[h.1],fun j u v h1 h2=>by
  rw[jN]at h1 h2;split at h1<;>simp_all;exact h.2 j u v h1 h2⟩
theorem LU.drop{a:List U}{b:List V}(k:Nat)(h:LU σ Z n a b):LU σ Z n (a.drop k) (b.drop k):=
 ⟨by simp[h.1],fun j u v h1 h2=>by
  rw[qd]at h1 h2;exact h.2 _ u v h1 h2⟩
theorem LU.get{a:List U}{b:List V}(h:LU σ Z n a b){j:Nat}{u:U}(hu:a[j]? =some u):∃ v,b[j]? =some v∧UR σ Z n u v:=by
 obtain⟨hj,rfl⟩:=bn.1 hu;have hj' :j<b.length:=h.1▸hj;exact⟨b[j],bP hj',h.2 j _ _ hu (bP hj')⟩
theorem qP{m:Nat}:∀ {a:List U},U.b8 m a=true→∀ (j:Nat) u,a[j]? =some u→u.low m=true:=by
 intro a
 induction a with
 |nil=>intro _ j u h;simp at h
 |cons x a ih=>
  intro h j u hu;simp only[U.b8,bC]at h;cases j with
  |zero=>simp at hu;subst hu;exact h.1
  |succ j=>exact ih h.2 j u (by simpa using hu)
theorem UR.low{u:U}{v:V}(h:UR σ Z n u v)(hl:u.low m=true):UR σ Z m u v:=by
 induction h generalizing m with
 |bool b=>exact .bool b
 |int k x=>exact .int k x
 |str s=>exact .str s
 |bA=>exact .bA
 |bu=>exact .bu
 |bQ=>exact .bQ
 |di=>exact .di
 |cO=>exact .cO
 |ptr h=>exact .ptr (by simpa[U.low]using hl)
 |map h=>exact .map (by simpa[U.low]using hl)
 |jr hz hr hv ih=>exact .jr hz hr hv
 |jq hr hv ih=>exact .jq hr hv
 |slnil=>exact .slnil
 |y9=>exact .y9
 |CJ=>exact .CJ
 |Dt=>exact .Dt
 |Bf hn hz hl' hc hr hv ih=>exact .Bf hn hz hl' hc hr hv
 |CO hn hl' hr hv ih=>exact .CO hn hl' hr hv
 |func ha hb va vb iha ihb=>
  simp only[U.low,bC]at hl;exact .func ha hb (fun j u v h1 h2=>iha j u v h1 h2 (qP hl.1 j u h1)) (fun j u v h1 h2=>ihb j u v h1 h2 (qP hl.2 j u h1))
 |iface h ih=>exact .iface (ih (by simpa[U.low]using hl))
 |agg ha va ih=>exact .agg ha fun j u v h1 h2=>ih j u v h1 h2 (qP (by simpa[U.low]using hl) j u h1)
 |aV ha va ih=>exact .aV ha fun j u v h1 h2=>ih j u v h1 h2 (qP (by simpa[U.low]using hl) j u h1)
theorem LU.low{a:List U}{b:List V}(h:LU σ Z n a b)(hl:U.b8 m a=true):LU σ Z m a b:=
 ⟨h.1,fun j u v h1 h2=>(h.2 j u v h1 h2).low (qP hl j u h1)⟩
theorem kK{k:Nat}:∀ {a:List U} {j:Nat} {u:U},(U.fQ k a)[j]? =some u→∃ x,a[j]? =some x∧u=x.shift k:=by
 intro a
 induction a with
 |nil=>intro j u h;simp[U.fQ]at h
 |cons x a ih=>
  intro j u h;cases j with
  |zero=>simp[U.fQ]at h;exact⟨x,rfl,h.symm⟩
  |succ j=>simp[U.fQ]at h;simpa using ih h
theorem nk{k:Nat}:∀ {a:List U},(U.fQ k a).length=a.length:=by
 intro a
 induction a with
 |nil=>rfl
 |cons x a ih=>simp[U.fQ,ih]
theorem UR.shift{k:Nat}(hσ:∀ i,i<n→σ' (i+k)=σ i)(hm:n+k≤m){u:U}{v:V}(h:UR σ Z n u v):UR σ' Z m (u.shift k) v:=by
 have h0:∀ {u v},UR σ Z 0 u v→UR σ' Z 0 u v:=fun h=>h.mono (aq 0) (fun i hi=>by omega) (fun _ _ h=>h)
 induction h generalizing m with
 |bool b=>exact .bool b
 |int k x=>exact .int k x
 |str s=>exact .str s
 |bA=>exact .bA
 |bu=>exact .bu
 |bQ=>exact .bQ
 |di=>exact .di
 |cO=>exact .cO
 |ptr h=>rw[←hσ _ h];exact .ptr (by omega)
 |map h=>rw[←hσ _ h];exact .map (by omega)
 |jr hz hr hv ih=>exact .jr hz hr fun j u v h1 h2=>h0 (hv j u v h1 h2)
 |jq hr hv ih=>exact .jq hr fun j u v h1 h2=>h0 (hv j u v h1 h2)
 |slnil=>exact .slnil
 |y9=>exact .y9
 |CJ=>exact .CJ
 |Dt=>exact .Dt
 |Bf hn hz hl' hc hr hv ih=>exact .Bf hn hz hl' hc hr fun j u v h1 h2=>h0 (hv j u v h1 h2)
 |CO hn hl' hr hv ih=>exact .CO hn hl' hr fun j u v h1 h2=>h0 (hv j u v h1 h2)
 |func ha hb va vb iha ihb=>
  refine .func (by rw[nk];exact ha) (by rw[nk];exact hb) (fun j u v h1 h2=> ?_) (fun j u v h1 h2=> ?_)
  ·obtain⟨x,hx,rfl⟩:=kK h1;exact iha j x v hx h2 hσ hm
  ·obtain⟨x,hx,rfl⟩:=kK h1;exact ihb j x v hx h2 hσ hm
 |iface h ih=>exact .iface (ih hσ hm)
 |agg ha va ih=>
  refine .agg (by rw[nk];exact ha) fun j u v h1 h2=> ?_;obtain⟨x,hx,rfl⟩:=kK h1;exact ih j x v hx h2 hσ hm
 |aV ha va ih=>
  refine .aV (by rw[nk];exact ha) fun j u v h1 h2=> ?_;obtain⟨x,hx,rfl⟩:=kK h1;exact ih j x v hx h2 hσ hm
theorem OE:∀ {a b:List U},U.lQ a b=true→a.length=b.length∧∀ (j:Nat) x y,a[j]? =some x→b[j]? =some y→U.same x y=true:=by
 intro a
 induction a with
 |nil=>intro b h;cases b<;>simp[U.lQ]at h⊢
 |cons x a ih=>
  intro b h;cases b with
  |nil=>simp[U.lQ]at h
  |cons y b=>
   simp only[U.lQ,bC]at h;obtain⟨h1,h2⟩:=ih h.2;refine⟨by simp[h1],fun j p q hp hq=> ?_⟩;cases j with
   |zero=>simp at hp hq;subst hp;subst hq;exact h.1
   |succ j=>simp at hp hq;exact h2 j p q hp hq
theorem UR.same{u u' :U}{v v' :V}(h:UR σ Z n u v)(h' :UR σ Z n u' v')(hs:U.same u u' =true):v=v' :=by
 induction h generalizing u' v' with
 |bool b=>cases h' <;>simp_all [U.same]
 |int k x=>cases h' <;>simp_all [U.same]
 |str s=>cases h' <;>simp_all [U.same]
 |bA=>cases h' <;>simp_all [U.same]
 |bu=>cases h' <;>simp_all [U.same]
 |bQ=>cases h' <;>simp_all [U.same]
 |di=>cases h' <;>simp_all [U.same]
 |cO=>cases h' <;>simp_all [U.same]
 |ptr h=>cases h' <;>simp_all [U.same]
 |map h=>cases h' <;>simp_all [U.same]
 |agg ha va ih=>
  cases h' <;>simp[U.same]at hs;rename_i a' b' hb vb;obtain⟨h1,h2⟩:=OE hs;congr 1;apply List.ext_getElem?;intro j;rename_i p q;cases hx:p[j]? with
  |none=>
   have hl:=List.getElem?_eq_none_iff.1 hx;rw[List.getElem?_eq_none (by omega),List.getElem?_eq_none (by omega)]
  |some x=>
   obtain⟨hj,_⟩:=bn.1 hx;have e1:=bP (l:=q) (i:=j) (by omega);have e2:=bP (l:=a') (i:=j) (by omega);have e3:=bP (l:=b') (i:=j) (by omega);rw[e1,e3,ih j _ _ hx e1 (vb j _ _ e2 e3) (h2 j _ _ hx e2)]
 |_=>simp[U.same]at hs
end
end Go.RE
namespace Go.RE
structure nZ where
 b:Nat
 off:Nat
 cap:Nat
 ex:Bool
 w:Nat
 row:List V
 xs:List (List U)
abbrev Sg:=Nat→Nat
abbrev Zs:=Nat→Option (List V)
abbrev Om:=Tg→Option nZ
def OR(σ:Sg)(Z:Zs)(ω:Om)(g:Tg)(w:Nat)(xs:List (List U))(v:V):Prop:=
 match ω g with
 |none=>xs=[]∧(v=.bu∨v=.bM)
 |some I=>v=.slice I.b I.off xs.length I.cap w I.ex∧(I.w=w∧I.xs=xs)∧xs.length≤I.cap∧I.off+I.cap*w≤I.row.length∧(∀ r∈xs,r.length=w)∧LU σ Z 0 xs.flatten ((I.row.drop I.off).take (xs.length*w))
def VW(ω:Om)(g:Tg)(lo len w:Nat)(v:V):Prop:=
 match ω g with
 |none=>len=0∧(v=.bu∨v=.bM)
 |some I=>(∃ cap ex,v=.slice I.b (I.off+lo*w) len cap w ex∧len≤cap)∧I.w=w∧lo+len≤I.xs.length∨len=0∧(v=.bu∨v=.bM)
def TR(σ:Sg)(Z:Zs)(ω:Om)(n:Nat):U→V→Prop
 | .bad,_=>True
 | .bF ..,_=>True
 | .own g w xs,v=>OR σ Z ω g w xs v∧∀ i off,g=.c i off→i<n
 | .bD g i f,v=>(∃ I,ω g=some I∧v=.ptr I.b (I.off+i*I.w+f))∧∀ i off,g=.c i off→i<n
 | .view g lo len w,v=>VW ω g lo len w v∧∀ i off,g=.c i off→i<n
 | .cZ,_=>True
 | .xU i off len w,v=>i<n∧∃ cap,len≤cap∧v=.slice (σ i) off len cap w true
 |u,v=>UR σ Z n u v
def CR(σ:Sg)(Z:Zs)(ω:Om)(n i off:Nat):U→V→Prop
 | .bad,_=>True
 | .cZ,_=>True
 | .bF w xs,v=>OR σ Z ω (.c i off) w xs v
 |u,v=>UR σ Z n u v
def OB(σ:Sg)(Z:Zs)(ω:Om)(n i:Nat):Uo→Option Ob→Prop
 | .row cs,ob=>∃ cs',ob=some (.row cs')∧cs.length=cs'.length∧∀ (off:Nat) u v,cs[off]? =some u→cs'[off]? =some v→CR σ Z ω n i off u v
 | .map es c,ob=>∃ es',ob=some (.map es' c)∧es.length=es'.length∧∀ (j:Nat) e e',es[j]? =some e→es'[j]? =some e'→UR σ Z n e.1 e'.key∧UR σ Z n e.2.1 e'.val∧e'.born=e.2.2
 | .iter m a b c,ob=>ob=some (.ga (m.map σ) a b c)∧∀ j,m=some j→j<n
 | .gone,_=>True
structure qe where
 n:Nat
 σ:Sg
 I:Nat→Prop
 Z:Zs
 st:St
 G:Nat→Prop -- what lies hidden
 A:Option (Nat×Nat×Nat×Bool×Nat) -- where the slice lies that was handed on to be written
 L:Nat→Nat→Prop -- which cells are in use behind the call
def jd(h:List Uo)(i off:Nat):Prop:=∃ cs,h[i]? =some (.row cs)∧cs[off]? =some .cZ
def LN(E:qe)(σ:Sg)(h:List Uo)(st:St):Prop:=∀ (i off:Nat) cs,h[i]? =some (.row cs)→cs[off]? =some .cZ→(E.L i off∧i<E.n)∧∃ r r',st.get (σ i)=some (.row r)∧E.st.get (E.σ i)=some (.row r')∧r[off]? =r'[off]?
def nZ.desc(I:nZ):Nat×Nat×Nat×Bool×Nat:=(I.b,I.off,I.cap,I.ex,I.w)
def WA(E:qe)(ω:Om):Prop:=(ω .a).map nZ.desc=E.A
structure Ok(E:qe)(σ:Sg)(Z:Zs)(ω:Om)(s:Vs)(e:PT V)(st:St):Prop where
 env:∀ t u,look s.e t=some u→∃ v,e.get t=some v∧TR σ Z ω s.h.length u v
 obj:∀ (i:Nat) o,s.h[i]? =some o→OB σ Z ω s.h.length i o (st.get (σ i))
 qm:∀ b r,Z b=some r→st.row b=some r
 lE:∀ g I,ω g=some I→st.get I.b=some (.row I.row)
 fresh:∀ b,st.next≤b→st.get b=none
 inj:∀ i j,i<s.h.length→j<s.h.length→σ i=σ j→i=j
 gJ:∀ g g' I I',ω g=some I→ω g' =some I'→I.b=I'.b→g=g'
 sw:∀ i g I,i<s.h.length→ω g=some I→σ i≠I.b
 sz:∀ i,i<s.h.length→Z (σ i)=none
 wz:∀ g I,ω g=some I→Z I.b=none
 sb:∀ i,i<s.h.length→σ i<st.next
 zT:ω .r=none∧WA E ω
 wc:∀ i off I,ω (.c i off)=some I→i<s.h.length
 n0:E.n≤s.h.length
 sig:∀ i,i<E.n→σ i=E.σ i
 zz:∀ b r,E.Z b=some r→Z b=some r
 nx:E.st.next≤st.next
 out:∀ b,b<E.st.next→¬E.I b→st.get b=E.st.get b∧(∀ i,i<s.h.length→σ i≠b)∧(∀ g I,ω g=some I→I.b≠b)∧(∀ r,Z b=some r→E.Z b=some r)
 wC:(∀ (i:Nat),E.G i→i<E.n∧s.h[i]? =some .gone∧st.get (σ i)=E.st.get (E.σ i))∧LN E σ s.h st
theorem Ok.wr{E:qe}{σ:Sg}{Z:Zs}{ω:Om}{s:Vs}{e:PT V}{st:St}(h:Ok E σ Z ω s e st):ω .r=none:=h.zT.1
theorem Ok.gn{E:qe}{σ:Sg}{Z:Zs}{ω:Om}{s:Vs}{e:PT V}{st:St}(h:Ok E σ Z ω s e st):∀ (i:Nat),E.G i→i<E.n∧s.h[i]? =some .gone∧st.get (σ i)=E.st.get (E.σ i):=h.wC.1
theorem LN.sub{E:qe}{σ:Sg}{h h' :List Uo}{st:St}(hl:LN E σ h st)(hs:∀ (i off:Nat) cs,h'[i]? =some (.row cs)→cs[off]? =some .cZ→∃ ds,h[i]? =some (.row ds)∧ds[off]? =some .cZ):LN E σ h' st:=
 fun i off cs h1 h2=>let⟨ds,a,b⟩:=hs i off cs h1 h2;hl i off ds a b
theorem LN.set{E:qe}{σ:Sg}{h:List Uo}{st:St}{i:Nat}{o:Uo}(hl:LN E σ h st)(hs:∀ (off:Nat) cs,o=.row cs→cs[off]? =some .cZ→∃ ds,h[i]? =some (.row ds)∧ds[off]? =some .cZ):LN E σ (h.set i o) st:=
 hl.sub fun j off cs h1 h2=>by
  rw[eN]at h1;by_cases hj:i=j
  ·subst hj;rw[if_pos rfl]at h1;split at h1<;>simp at h1;exact hs off cs h1 h2
  ·rw[if_neg hj]at h1;exact⟨cs,h1,h2⟩
theorem LN.mem{E:qe}{σ:Sg}{h:List Uo}{st st' :St}(hl:LN E σ h st)(hg:∀ i,i<h.length→st'.get (σ i)=st.get (σ i)):LN E σ h st' :=
 fun i off cs h1 h2=>by rw[hg i (bn.1 h1).1];exact hl i off cs h1 h2
theorem WA.up{E:qe}{ω:Om}{ω' :Om}(h:WA E ω)(hg:ω' .a=ω .a):WA E ω' :=by unfold WA at h⊢;rw[hg];exact h
def U.tag:U→Option Tg
 | .own g _ _=>some g
 | .bD g _ _=>some g
 | .view g _ _ _=>some g
 |_=>none
section
variable{E:qe}{σ σ' :Sg}{Z Z' :Zs}{ω ω' :Om}{s:Vs}{e:PT V}{st:St}{n m:Nat}
theorem OR.mono(hZ:∀ b r,Z b=some r→Z' b=some r){g:Tg}(hg:ω' g=ω g){w:Nat}{xs:List (List U)}{v:V}(h:OR σ Z ω g w xs v):OR σ' Z' ω' g w xs v:=by
 unfold OR at h⊢;rw[hg];split at h
 ·exact h
 ·exact⟨h.1,h.2.1,h.2.2.1,h.2.2.2.1,h.2.2.2.2.1,h.2.2.2.2.2.mono (aq 0) (fun i hi=>by omega) hZ⟩
theorem VW.mono{g:Tg}(hg:ω' g=ω g){lo len w:Nat}{v:V}(h:VW ω g lo len w v):VW ω' g lo len w v:=by
 unfold VW at h⊢;rw[hg];exact h
theorem TR.mono(hn:n≤m)(hσ:∀ i,i<n→σ' i=σ i)(hZ:∀ b r,Z b=some r→Z' b=some r){u:U}{v:V}(hg:∀ g,u.tag=some g→ω' g=ω g)(h:TR σ Z ω n u v):TR σ' Z' ω' m u v:=by
 cases u with
 |bad=>trivial
 |bF _ _=>trivial
 |own g w xs=>exact⟨h.1.mono hZ (hg g rfl),fun i off e=>by have:=h.2 i off e;omega⟩
 |bD g i f=>obtain⟨⟨I,h1,h2⟩,h3⟩:=h;exact⟨⟨I,by rw[hg g rfl];exact h1,h2⟩,fun i off e=>by have:=h3 i off e;omega⟩
 |view g lo len w=>exact⟨h.1.mono (hg g rfl),fun i off e=>by have:=h.2 i off e;omega⟩
 |cZ=>trivial
 |xU i off len w=>obtain⟨h1,cap,h2,h3⟩:=h;exact⟨by omega,cap,h2,by rw[hσ i h1];exact h3⟩
 |_=>exact UR.mono hn hσ hZ h
theorem CR.mono(hn:n≤m)(hσ:∀ i,i<n→σ' i=σ i)(hZ:∀ b r,Z b=some r→Z' b=some r){i off:Nat}(hg:ω' (.c i off)=ω (.c i off)){u:U}{v:V}(h:CR σ Z ω n i off u v):CR σ' Z' ω' m i off u v:=by
 cases u with
 |bad=>trivial
 |cZ=>trivial
 |bF w xs=>exact OR.mono hZ hg h
 |_=>exact UR.mono hn hσ hZ h
theorem OB.mono(hn:n≤m)(hσ:∀ i,i<n→σ' i=σ i)(hZ:∀ b r,Z b=some r→Z' b=some r){i:Nat}(hg:∀ off,ω' (.c i off)=ω (.c i off)){o:Uo}{ob:Option Ob}(h:OB σ Z ω n i o ob):OB σ' Z' ω' m i o ob:=by
 cases o with
 |row cs=>obtain⟨cs',h1,h2,h3⟩:=h;exact⟨cs',h1,h2,fun off u v a b=>(h3 off u v a b).mono hn hσ hZ (hg off)⟩
 |map es c=>obtain⟨es',h1,h2,h3⟩:=h;exact⟨es',h1,h2,fun j x y a b=>⟨(h3 j x y a b).1.mono hn hσ hZ,(h3 j x y a b).2.1.mono hn hσ hZ,(h3 j x y a b).2.2⟩⟩
 |iter q a b c=>
  obtain⟨h1,h2⟩:=h;refine⟨?_,fun j hj=>by have:=h2 j hj;omega⟩;rw[h1];cases q with
  |none=>rfl
  |some j=>simp only[Option.map_some,hσ j (h2 j rfl)]
 |gone=>trivial
theorem TR.bB{u:U}{v:V}(h:UR σ Z n u v):TR σ Z ω n u v:=by
 cases h<;>first|exact UR.bool _|exact UR.int _ _|exact UR.str _|exact UR.bA|exact UR.bu|exact UR.bQ|exact UR.di|exact UR.cO|exact UR.ptr ‹_› |exact UR.map ‹_› |
  exact UR.jr ‹_› ‹_› ‹_› |exact UR.jq ‹_› ‹_› |exact UR.slnil|exact UR.y9|exact UR.CJ|exact UR.Dt|exact UR.Bf ‹_› ‹_› ‹_› ‹_› ‹_› ‹_› |exact UR.CO ‹_› ‹_› ‹_› ‹_› |exact UR.func ‹_› ‹_› ‹_› ‹_› |exact UR.iface ‹_› |exact UR.agg ‹_› ‹_› |exact UR.aV ‹_› ‹_›
theorem CR.bB{i off:Nat}{u:U}{v:V}(h:UR σ Z n u v):CR σ Z ω n i off u v:=by
 cases h<;>first|exact UR.bool _|exact UR.int _ _|exact UR.str _|exact UR.bA|exact UR.bu|exact UR.bQ|exact UR.di|exact UR.cO|exact UR.ptr ‹_› |exact UR.map ‹_› |
  exact UR.jr ‹_› ‹_› ‹_› |exact UR.jq ‹_› ‹_› |exact UR.slnil|exact UR.y9|exact UR.CJ|exact UR.Dt|exact UR.Bf ‹_› ‹_› ‹_› ‹_› ‹_› ‹_› |exact UR.CO ‹_› ‹_› ‹_› ‹_› |exact UR.func ‹_› ‹_› ‹_› ‹_› |exact UR.iface ‹_› |exact UR.agg ‹_› ‹_› |exact UR.aV ‹_› ‹_›
def ow(g:Tg)(s:Vs):Prop:=(∀ t u,look s.e t=some u→u.tag≠some g)∧∀ (i off:Nat),g=.c i off→∀ cs w xs,s.h[i]? =some (.row cs)→cs[off]?≠some (.bF w xs)
def dN{α β:Type}[DecidableEq α](f:α→β)(a:α)(b:β):α→β:=fun x=>if x=a then b else f x
theorem bl{α β:Type}[DecidableEq α](f:α→β)(a:α)(b:β):dN f a b a=b:=by simp[dN]
theorem cV{α β:Type}[DecidableEq α](f:α→β){a x:α}(b:β)(h:x≠a):dN f a b x=f x:=by simp[dN,h]
theorem qO(f:U→U)(F:Env→Env)(h0:F []=[])(h1:∀ k v r,F ((k,v)::r)=(k,f v)::F r):∀ (e:Env) (t:Nat),look (F e) t=(look e t).map f:=by
 intro e
 induction e with
 |nil=>intro t;rw[h0];rfl
 |cons x r ih=>
  intro t;obtain⟨k,v⟩:=x;rw[h1];simp only[look];cases Nat.beq k t<;>simp[ih]
theorem kD(g:Tg)(e:Env)(t:Nat):look (Env.kill g e) t=(look e t).map (U.kill g):=qO _ _ rfl (fun _ _ _=>rfl) e t
theorem HD(g:Tg)(e:Env)(t:Nat):look (Env.lT g e) t=(look e t).map (U.lT g):=qO _ _ rfl (fun _ _ _=>rfl) e t
theorem AT(g g2:Tg)(e:Env)(t:Nat):look (Env.iG g g2 e) t=(look e t).map (U.iG g g2):=qO _ _ rfl (fun _ _ _=>rfl) e t
theorem AU(g:Tg)(ys:List (List U))(e:Env)(t:Nat):look (Env.fB g ys e) t=(look e t).map (U.fB g ys):=qO _ _ rfl (fun _ _ _=>rfl) e t
theorem qN(p:Tg→Bool)(e:Env)(t:Nat):look (Env.bS p e) t=(look e t).map (U.bS p):=qO _ _ rfl (fun _ _ _=>rfl) e t
theorem Qd(d:Nat)(u:U)(e:Env)(t:Nat):look (iN (some d) u e) t=if t=d then some u else look e t:=by
 simp only[iN,look];by_cases h:t=d
 ·subst h;simp
 ·have:Nat.beq d t=false:=by cases hb:Nat.beq d t with|false=>rfl|true=>exact absurd (bR hb).symm h
  simp[this,h]
theorem mP{g:Tg}{u u' :U}(h:u.kill g=u'):u'.tag≠some g∧(u' =u∨u' =.bad):=by
 subst h;cases u with
 |own g' w xs=>by_cases hg:g' =g<;>simp[U.kill,U.tag,hg]
 |bD g' i f=>by_cases hg:g' =g<;>simp[U.kill,U.tag,hg]
 |view g' i l w=>by_cases hg:g' =g<;>simp[U.kill,U.tag,hg]
 |_=>simp[U.kill,U.tag]
theorem Ok.setEnv(h:Ok E σ Z ω s e st){E' :Env}{e2:PT V}(he:∀ t u,look E' t=some u→∃ v,e2.get t=some v∧TR σ Z ω s.h.length u v):Ok E σ Z ω {s with e:=E'} e2 st:=
 ⟨he,h.obj,h.qm,h.lE,h.fresh,h.inj,h.gJ,h.sw,h.sz,h.wz,h.sb,h.zT,h.wc,h.n0,h.sig,h.zz,h.nx,h.out,h.wC⟩
theorem Ok.QN(h:Ok E σ Z ω s e st)(k:Nat):Ok E σ Z ω {s with fl:=k} e st:=
 ⟨h.env,h.obj,h.qm,h.lE,h.fresh,h.inj,h.gJ,h.sw,h.sz,h.wz,h.sb,h.zT,h.wc,h.n0,h.sig,h.zz,h.nx,h.out,h.wC⟩
theorem Ok.put(h:Ok E σ Z ω s e st){dst:Option Nat}{u:U}{v:V}(hv:TR σ Z ω s.h.length u v):Ok E σ Z ω {s with e:=iN dst u s.e} (fq dst v e) st:=by
 refine h.setEnv fun t x hx=> ?_;cases dst with
 |none=>exact h.env t x hx
 |some d=>
  rw[Qd]at hx;simp only[fq,PT.iz];by_cases ht:t=d
  ·rw[if_pos ht]at hx⊢;simp at hx;subst hx;exact⟨v,rfl,hv⟩
  ·rw[if_neg ht]at hx⊢;exact h.env t x hx
theorem Ok.XY(h:Ok E σ Z ω s e st)(g:Tg):Ok E σ Z ω {s with e:=Env.kill g s.e} e st:=by
 refine h.setEnv fun t x hx=> ?_;rw[kD]at hx;cases hl:look s.e t with
 |none=>rw[hl]at hx;simp at hx
 |some u=>
  rw[hl]at hx;simp at hx;obtain⟨v,h1,h2⟩:=h.env t u hl;rcases(mP hx).2 with rfl|rfl
  ·exact⟨v,h1,h2⟩
  ·exact⟨v,h1,trivial⟩
theorem Ok.bS(h:Ok E σ Z ω s e st)(p:Tg→Bool):Ok E σ Z ω {s with e:=Env.bS p s.e} e st:=by
 refine h.setEnv fun t x hx=> ?_;rw[qN]at hx;cases hl:look s.e t with
 |none=>rw[hl]at hx;simp at hx
 |some u=>
  rw[hl]at hx;simp at hx;obtain⟨v,h1,h2⟩:=h.env t u hl;refine⟨v,h1,?_⟩;subst hx;cases u with
  |own g _ _=>simp only[U.bS];cases p g<;>first|exact h2|trivial
  |bD g _ _=>simp only[U.bS];cases p g<;>first|exact h2|trivial
  |view g _ _ _=>simp only[U.bS];cases p g<;>first|exact h2|trivial
  |_=>exact h2
theorem Ok.setRow(h:Ok E σ Z ω s e st){i:Nat}{cs' :List U}{cs:List U}(hi:s.h[i]? =some (.row cs))(hlen:cs'.length=cs.length)
  (hc:∀ (off:Nat) u u' v,cs[off]? =some u→cs'[off]? =some u'→CR σ Z ω s.h.length i off u v→CR σ Z ω s.h.length i off u' v)
  (hcl:∀ off:Nat,cs'[off]? =some .cZ→cs[off]? =some .cZ):Ok E σ Z ω {s with h:=s.h.set i (.row cs')} e st:=by
 have hl:(s.h.set i (.row cs')).length=s.h.length:=List.length_set;have hlt:i<s.h.length:=(bn.1 hi).1;have hgn:∀ j,E.G j→j<E.n∧(s.h.set i (.row cs'))[j]? =some .gone∧st.get (σ j)=E.st.get (E.σ j):=fun j hj=>by
  obtain⟨q1,q2,q3⟩:=h.gn j hj;exact⟨q1,by rw[eN,if_neg (by rintro rfl;rw[hi]at q2;cases q2)];exact q2,q3⟩
 refine⟨fun t u hu=>by rw[hl];exact h.env t u hu,fun j o ho=> ?_,h.qm,h.lE,h.fresh,by rw[hl];exact h.inj,h.gJ,by rw[hl];exact h.sw,by rw[hl];exact h.sz,h.wz,by rw[hl];exact h.sb,h.zT,by rw[hl];exact h.wc,by rw[hl];exact h.n0,h.sig,h.zz,h.nx,by rw[hl];exact h.out,hgn,h.wC.2.set fun off ds e hh=>by cases e;exact⟨cs,hi,hcl off hh⟩⟩;rw[hl];rw[eN]at ho;by_cases hj:i=j
 ·subst hj;rw[if_pos rfl,if_pos hlt]at ho;simp at ho;subst ho;obtain⟨ds,h1,h2,h3⟩:=h.obj i _ hi;refine⟨ds,h1,by omega,fun off u v hu hv=> ?_⟩;obtain⟨ho1,ho2⟩:=bn.1 hu;have hx:=bP (l:=cs) (i:=off) (by omega);exact hc off _ u v hx hu (h3 off _ v hx hv)
 ·rw[if_neg hj]at ho;exact h.obj j o ho
theorem Ok.Kd(h:Ok E σ Z ω s e st)(i off:Nat):Ok E σ Z ω {s with h:=setCell s.h i off .bad} e st:=by
 unfold setCell;split
 ·rename_i cs hi;refine h.setRow hi (by simp) (fun o u u' v h1 h2 h3=> ?_) fun o h2=> ?_
  ·rw[eN]at h2;split at h2
   ·split at h2<;>simp at h2;subst h2;trivial
   ·rw[h1]at h2;simp at h2;subst h2;exact h3
  ·rw[eN]at h2;split at h2
   ·split at h2<;>simp at h2
   ·exact h2
 ·exact h
theorem Ok.kill(h:Ok E σ Z ω s e st)(g:Tg):Ok E σ Z ω (s.kill g) e st:=by
 unfold Vs.kill;split
 ·exact(h.XY _).Kd _ _
 ·exact h.XY _
theorem Ic{h:List Uo}{i off:Nat}{v:U}{cs:List U}(hc:(setCell h i off v)[i]? =some (.row cs))(hlt:off<cs.length):cs[off]? =some v:=by
 unfold setCell at hc;split at hc
 ·rename_i ds hi;rw[eN,if_pos rfl,if_pos (bn.1 hi).1]at hc;simp at hc;subst hc;rw[List.length_set]at hlt;rw[eN,if_pos rfl,if_pos hlt]
 ·rename_i hno;exact absurd hc (hno _)
theorem nN(g:Tg)(s:Vs):∀ t u,look (Env.kill g s.e) t=some u→u.tag≠some g:=by
 intro t u hu;rw[kD]at hu;cases hl:look s.e t with
 |none=>rw[hl]at hu;simp at hu
 |some x=>rw[hl]at hu;simp at hu;exact(mP hu).1
theorem eZ(g:Tg)(s:Vs):ow g (s.kill g):=by
 unfold Vs.kill;split
 ·rename_i i off;refine⟨nN _ s,fun i' off' he cs w xs hc hx=> ?_⟩;cases he;obtain⟨hlt,_⟩:=bn.1 hx;rw[Ic hc hlt]at hx;cases hx
 ·rename_i hno;exact⟨nN _ s,fun i off he=>absurd he (hno i off)⟩
theorem ow.kill{g g' :Tg}{s:Vs}(h:ow g s):ow g (s.kill g'):=by
 have h1:∀ t u,look (Env.kill g' s.e) t=some u→u.tag≠some g:=fun t u hu=>by
  rw[kD]at hu;cases hl:look s.e t with
  |none=>rw[hl]at hu;simp at hu
  |some x=>
   rw[hl]at hu;simp at hu;rcases(mP hu).2 with rfl|rfl
   ·exact h.1 t _ hl
   ·simp[U.tag]
 unfold Vs.kill;split
 ·rename_i i off;refine⟨h1,fun i' off' he cs w xs hc hx=> ?_⟩;simp only at hc;unfold setCell at hc;split at hc
  ·rename_i ds hi;rw[eN]at hc;split at hc
   ·rename_i hii;subst hii;split at hc<;>simp at hc;subst hc;rw[eN]at hx;split at hx
    ·split at hx<;>simp at hx
    ·exact h.2 i off' he ds w xs hi hx
   ·exact h.2 i' off' he cs w xs hc hx
  ·exact h.2 i' off' he cs w xs hc hx
 ·exact⟨h1,h.2⟩
theorem Ok.Be(h:Ok E σ Z ω s e st){g:Tg}(hn:ow g s){o:Option nZ}(hr:g≠.r)
  (ho:∀ I,o=some I→st.get I.b=some (.row I.row)∧(∀ i,i<s.h.length→σ i≠I.b)∧Z I.b=none∧(∀ g' I',g'≠g→ω g' =some I'→I'.b≠I.b)∧(∀ b,b<E.st.next→¬E.I b→I.b≠b)∧∀ i off,g=.c i off→i<s.h.length) (hra:g≠.a:=by simp):
  Ok E σ Z (dN ω g o) s e st:=by
 have hne:∀ g',g'≠g→dN ω g o g' =ω g' :=fun g' hg=>cV ω o hg;have hsame:dN ω g o g=o:=bl ω g o;have hcase:∀ g' I,dN ω g o g' =some I→(g' =g∧o=some I)∨(g'≠g∧ω g' =some I):=fun g' I hI=>by
  by_cases hg:g' =g
  ·subst hg;rw[hsame]at hI;exact .inl ⟨rfl,hI⟩
  ·rw[hne g' hg]at hI;exact .inr ⟨hg,hI⟩
 refine⟨fun t u hu=> ?_,fun i ob hob=> ?_,h.qm,fun g' I hI=> ?_,h.fresh,h.inj,fun g1 g2 I1 I2 h1 h2 hb=> ?_,fun i g' I hi hI=> ?_,h.sz,fun g' I hI=> ?_,h.sb,?_,fun i off I hI=> ?_,h.n0,h.sig,h.zz,h.nx,fun b hb hbI=> ?_,h.wC⟩
 ·obtain⟨v,h1,h2⟩:=h.env t u hu;exact⟨v,h1,h2.mono (aq _) (fun _ _=>rfl) (fun _ _ h=>h) fun g' hg' =>hne g' fun hh=>hn.1 t u hu (hh▸hg')⟩
 ·have h1:=h.obj i ob hob;cases ob with
  |row cs=>
   obtain⟨cs',q1,q2,q3⟩:=h1;refine⟨cs',q1,q2,fun off u v hu hv=> ?_⟩;have h2:=q3 off u v hu hv;cases u with
   |bF w xs=>
    refine OR.mono (fun _ _ h=>h) (hne _ fun hh=> ?_) h2;exact hn.2 i off hh.symm cs w xs hob hu
   |bad=>trivial
   |cZ=>trivial
   |_=>exact h2
  |map es c=>exact h1
  |iter q a b c=>exact h1
  |gone=>trivial
 ·rcases hcase g' I hI with⟨_,hh⟩|⟨_,hh⟩
  ·exact(ho I hh).1
  ·exact h.lE g' I hh
 ·rcases hcase g1 I1 h1 with⟨e1,k1⟩|⟨e1,k1⟩<;>rcases hcase g2 I2 h2 with⟨e2,k2⟩|⟨e2,k2⟩
  ·rw[e1,e2]
  ·exact absurd hb.symm ((ho I1 k1).2.2.2.1 g2 I2 e2 k2)
  ·exact absurd hb ((ho I2 k2).2.2.2.1 g1 I1 e1 k1)
  ·exact h.gJ g1 g2 I1 I2 k1 k2 hb
 ·rcases hcase g' I hI with⟨_,hh⟩|⟨_,hh⟩
  ·exact(ho I hh).2.1 i hi
  ·exact h.sw i g' I hi hh
 ·rcases hcase g' I hI with⟨_,hh⟩|⟨_,hh⟩
  ·exact(ho I hh).2.2.1
  ·exact h.wz g' I hh
 ·exact⟨by rw[hne _ (Ne.symm hr)];exact h.wr,h.zT.2.up (hne _ (Ne.symm hra))⟩
 ·rcases hcase _ I hI with⟨hg,hh⟩|⟨_,hh⟩
  ·exact(ho I hh).2.2.2.2.2 i off hg.symm
  ·exact h.wc i off I hh
 ·obtain⟨k1,k2,k3,k4⟩:=h.out b hb hbI;refine⟨k1,k2,fun g' I hI=> ?_,k4⟩;rcases hcase g' I hI with⟨_,hh⟩|⟨_,hh⟩
  ·exact(ho I hh).2.2.2.2.1 b hb hbI
  ·exact k3 g' I hh
theorem L0{g:Tg}{u u' :U}(h:u.lT g=u'):u'.tag≠some g∧(u' =u∨u' =.bad∨∃ w xs,u=.own g w xs∧u' =.sl w xs):=by
 subst h;cases u with
 |own g' w xs=>by_cases hg:g' =g<;>simp[U.lT,U.tag,hg]
 |bD g' i f=>by_cases hg:g' =g<;>simp[U.lT,U.tag,hg]
 |view g' i l w=>by_cases hg:g' =g<;>simp[U.lT,U.tag,hg]
 |_=>simp[U.lT,U.tag]
theorem OR.sl{g:Tg}{w:Nat}{xs:List (List U)}{v:V}(h:OR σ Z ω g w xs v)(hZ:∀ b r,Z b=some r→Z' b=some r)(hI:∀ I,ω g=some I→Z' I.b=some I.row):UR σ Z' n (.sl w xs) v:=by
 unfold OR at h;split at h
 ·obtain⟨rfl,rfl|rfl⟩:=h
  ·exact .slnil
  ·exact .y9
 ·rename_i I hg;obtain⟨rfl,h0,h1,h2,h3,h4⟩:=h;have hle:xs.length*w≤I.cap*w:=lY _ h1;have h4' :=h4.mono (aq 0) (σ' :=σ) (fun i hi=>rfl) hZ;exact .Bf rfl (hI I hg) h3 h1 (by omega) fun j u v a b=>h4'.2 j u v a b
theorem Ok.lT(h:Ok E σ Z ω s e st)(g:Tg)(hga:g≠.a):∃ Z' ω',Ok E σ Z' ω' (s.lT g) e st∧(∀ b r,Z b=some r→Z' b=some r)∧(∀ g',g'≠g→ω' g' =ω g')∧ow g (s.lT g)∧(∀ I,ω g=some I→Z' I.b=some I.row)∧(s.lT g).h.length=s.h.length:=by
 -- what is told of the cells
 have key:∀ (s1:Vs),s1.h.length=s.h.length→(∀ (i:Nat),s.h[i]? =some Uo.gone→s1.h[i]? =some Uo.gone)→(∀ (i off:Nat) cs,s1.h[i]? =some (.row cs)→cs[off]? =some .cZ→∃ ds,s.h[i]? =some (.row ds)∧ds[off]? =some .cZ)→ow g s1→
   (∀ (Z' :Zs),(∀ b r,Z b=some r→Z' b=some r)→(∀ I,ω g=some I→Z' I.b=some I.row)→∀ (ω' :Om),(∀ g',g'≠g→ω' g' =ω g')→
    (∀ t u,look s1.e t=some u→∃ v,e.get t=some v∧TR σ Z' ω' s.h.length u v)∧∀ (i:Nat) o,s1.h[i]? =some o→OB σ Z' ω' s.h.length i o (st.get (σ i)))→
   ∃ Z' ω',Ok E σ Z' ω' s1 e st∧(∀ b r,Z b=some r→Z' b=some r)∧(∀ g',g'≠g→ω' g' =ω g')∧ow g s1∧(∀ I,ω g=some I→Z' I.b=some I.row)∧s1.h.length=s.h.length:=by
  intro s1 hl hgo hln hnt hk;have hgn:∀ j,E.G j→j<E.n∧s1.h[j]? =some .gone∧st.get (σ j)=E.st.get (E.σ j):=fun j hj=>⟨(h.gn j hj).1,hgo j (h.gn j hj).2.1,(h.gn j hj).2.2⟩;cases hg:ω g with
  |none=>
   obtain⟨k1,k2⟩:=hk Z (fun _ _ h=>h) (fun I hI=>by rw[hg]at hI;cases hI) ω (fun _ _=>rfl);refine⟨Z,ω,⟨by rw[hl];exact k1,by rw[hl];exact k2,h.qm,h.lE,h.fresh,by rw[hl];exact h.inj,h.gJ,by rw[hl];exact h.sw,by rw[hl];exact h.sz,h.wz,by rw[hl];exact h.sb,h.zT,by rw[hl];exact h.wc,by rw[hl];exact h.n0,h.sig,h.zz,h.nx,by rw[hl];exact h.out,hgn,h.wC.2.sub hln⟩,fun _ _ h=>h,fun _ _=>rfl,hnt,(fun I hI=>by cases hI),hl⟩
  |some I=>
   have hZn:Z I.b=none:=h.wz g I hg;have hZ:∀ b r,Z b=some r→dN Z I.b (some I.row) b=some r:=fun b r hb=>by
    rw[cV];exact hb;intro hh;subst hh;rw[hZn]at hb;cases hb
   have hω:∀ g',g'≠g→dN ω g none g' =ω g' :=fun g' hh=>cV _ _ hh;have hzc:∀ b r,dN Z I.b (some I.row) b=some r→(b=I.b∧r=I.row)∨Z b=some r:=fun b r hb=>by
    by_cases hbb:b=I.b
    ·subst hbb;rw[bl]at hb;simp at hb;exact .inl ⟨rfl,hb.symm⟩
    ·rw[cV _ _ hbb]at hb;exact .inr hb
   have hwc:∀ g' J,dN ω g none g' =some J→g'≠g∧ω g' =some J:=fun g' J hJ=>by
    by_cases hgg:g' =g
    ·subst hgg;rw[bl]at hJ;cases hJ
    ·rw[cV _ _ hgg]at hJ;exact⟨hgg,hJ⟩
   have hIn:∀ J,some I=some J→dN Z I.b (some I.row) J.b=some J.row:=fun J hJ=>by cases hJ;exact bl _ _ _
   obtain⟨k1,k2⟩:=hk (dN Z I.b (some I.row)) hZ (fun J hJ=>hIn J (hg▸hJ)) (dN ω g none) hω;refine⟨_,_,⟨by rw[hl];exact k1,by rw[hl];exact k2,fun b r hb=> ?_,fun g' J hJ=>h.lE g' J (hwc g' J hJ).2,h.fresh,by rw[hl];exact h.inj,fun g1 g2 J1 J2 h1 h2=>h.gJ g1 g2 J1 J2 (hwc _ _ h1).2 (hwc _ _ h2).2,fun i g' J hi hJ=>h.sw i g' J (by omega) (hwc _ _ hJ).2,fun i hi=> ?_,fun g' J hJ=> ?_,by rw[hl];exact h.sb,?_,fun i off J hJ=>by rw[hl];exact h.wc i off J (hwc _ _ hJ).2,by rw[hl];exact h.n0,h.sig,fun b r hb=>hZ b r (h.zz b r hb),h.nx,fun b hb hbI=> ?_,hgn,h.wC.2.sub hln⟩,hZ,hω,hnt,hIn,hl⟩
   ·rcases hzc b r hb with⟨rfl,rfl⟩|hb
    ·exact iT (h.lE g I hg)
    ·exact h.qm b r hb
   ·rw[cV _ _ (h.sw i g I (by omega) hg)];exact h.sz i (by omega)
   ·obtain⟨j1,j2⟩:=hwc g' J hJ;rw[cV];exact h.wz g' J j2;intro hh;exact j1 (h.gJ g' g J I j2 hg hh)
   ·refine⟨?_,h.zT.2.up (hω _ (Ne.symm hga))⟩;by_cases hgr:Tg.r=g
    ·subst hgr;exact bl _ _ _
    ·rw[cV _ _ hgr];exact h.wr
   ·obtain⟨q1,q2,q3,q4⟩:=h.out b hb hbI;refine⟨q1,by rw[hl];exact q2,fun g' J hJ=>q3 g' J (hwc _ _ hJ).2,fun r hr=> ?_⟩;rcases hzc b r hr with⟨rfl,_⟩|hr
    ·exact absurd rfl (q3 g I hg)
    ·exact q4 r hr
 -- the temporaries
 have henv:∀ (Z' :Zs),(∀ b r,Z b=some r→Z' b=some r)→(∀ I,ω g=some I→Z' I.b=some I.row)→∀ (ω' :Om),(∀ g',g'≠g→ω' g' =ω g')→
   ∀ t u,look (Env.lT g s.e) t=some u→∃ v,e.get t=some v∧TR σ Z' ω' s.h.length u v:=by
  intro Z' hZ hI ω' hω t u hu;rw[HD]at hu;cases hl:look s.e t with
  |none=>rw[hl]at hu;simp at hu
  |some x=>
   rw[hl]at hu;simp at hu;obtain⟨v,h1,h2⟩:=h.env t x hl;refine⟨v,h1,?_⟩;obtain⟨f1,f2⟩:=L0 hu;rcases f2 with rfl|rfl|⟨w,xs,rfl,rfl⟩
   ·exact h2.mono (aq _) (fun _ _=>rfl) hZ fun g' hg' =>hω g' fun hh=>f1 (hh▸hg')
   ·trivial
   ·exact TR.bB (h2.1.sl hZ hI)
 have henvk:∀ (Z' :Zs),(∀ b r,Z b=some r→Z' b=some r)→∀ (ω' :Om),(∀ g',g'≠g→ω' g' =ω g')→
   ∀ t u,look (Env.kill g s.e) t=some u→∃ v,e.get t=some v∧TR σ Z' ω' s.h.length u v:=by
  intro Z' hZ ω' hω t u hu;rw[kD]at hu;cases hl:look s.e t with
  |none=>rw[hl]at hu;simp at hu
  |some x=>
   rw[hl]at hu;simp at hu;obtain⟨v,h1,h2⟩:=h.env t x hl;refine⟨v,h1,?_⟩;obtain⟨f1,f2⟩:=mP hu;rcases f2 with rfl|rfl
   ·exact h2.mono (aq _) (fun _ _=>rfl) hZ fun g' hg' =>hω g' fun hh=>f1 (hh▸hg')
   ·trivial
 have hnf:∀ t u,look (Env.lT g s.e) t=some u→u.tag≠some g:=fun t u hu=>by
  rw[HD]at hu;cases hl:look s.e t with
  |none=>rw[hl]at hu;simp at hu
  |some x=>rw[hl]at hu;simp at hu;exact(L0 hu).1
 have hobj:∀ (Z' :Zs),(∀ b r,Z b=some r→Z' b=some r)→∀ (ω' :Om),(∀ g',g'≠g→ω' g' =ω g')→∀ (i:Nat) o,s.h[i]? =some o→
   (∀ off cs w xs,g=.c i off→o=.row cs→cs[off]?≠some (.bF w xs))→OB σ Z' ω' s.h.length i o (st.get (σ i)):=by
  intro Z' hZ ω' hω i o ho hno;have h1:=h.obj i o ho;cases o with
  |row cs=>
   obtain⟨cs',q1,q2,q3⟩:=h1;refine⟨cs',q1,q2,fun off u v hu hv=> ?_⟩;have h2:=q3 off u v hu hv;cases u with
   |bad=>trivial
   |cZ=>trivial
   |bF w xs=>
    refine OR.mono hZ (hω _ fun hh=> ?_) h2;exact hno off cs w xs hh.symm rfl hu
   |_=>exact UR.mono (aq _) (fun _ _=>rfl) hZ h2
  |map es c=>exact h1.mono (aq _) (fun _ _=>rfl) hZ (ω' :=ω) (fun _=>rfl)
  |iter q a b c=>exact h1
  |gone=>trivial
 unfold Vs.lT;split
 ·rename_i i off;split
  ·rename_i cs hi;have hlt:i<s.h.length:=(bn.1 hi).1;split
   ·rename_i w xs hc;have hoff:off<cs.length:=(bn.1 hc).1;refine key _ (by simp) (fun j hj=>by simp only;rw[eN,if_neg (by rintro rfl;rw[hi]at hj;cases hj)];exact hj) (fun j off' cs' h1 h2=>by
     simp only at h1;rw[eN]at h1;by_cases hj:i=j
     ·subst hj;rw[if_pos rfl,if_pos hlt]at h1;simp at h1;subst h1;rw[eN]at h2;by_cases ho:off=off'
      ·subst ho;rw[if_pos rfl,if_pos hoff]at h2;simp at h2
      ·rw[if_neg ho]at h2;exact⟨cs,hi,h2⟩
     ·rw[if_neg hj]at h1;exact⟨cs',h1,h2⟩) ⟨hnf,fun i' off' he cs' w' xs' hh hx=> ?_⟩ fun Z' hZ hI ω' hω=>⟨henv Z' hZ hI ω' hω,fun j o ho=> ?_⟩
    ·cases he;rw[eN,if_pos rfl,if_pos hlt]at hh;simp at hh;subst hh;rw[eN,if_pos rfl,if_pos hoff]at hx;simp at hx
    ·rw[eN]at ho;by_cases hj:i=j
     ·subst hj;rw[if_pos rfl,if_pos hlt]at ho;simp at ho;subst ho;obtain⟨cs',q1,q2,q3⟩:=h.obj i _ hi;refine⟨cs',q1,by rw[List.length_set];exact q2,fun o u v hu hv=> ?_⟩;rw[eN]at hu;by_cases ho:off=o
      ·subst ho;rw[if_pos rfl,if_pos hoff]at hu;simp at hu;subst hu;exact CR.bB (OR.sl (q3 off _ v hc hv) hZ hI)
      ·rw[if_neg ho]at hu;have h2:=q3 o u v hu hv;exact h2.mono (aq _) (fun _ _=>rfl) hZ (hω _ fun hh=>ho (by simp at hh;omega))
     ·rw[if_neg hj]at ho;exact hobj Z' hZ ω' hω j o ho fun off' cs' w' xs' he _=>by simp at he;exact absurd he.1 hj
   ·rename_i hno;refine key _ rfl (fun _ h=>h) (fun _ _ cs h1 h2=>⟨cs,h1,h2⟩) ⟨nN _ s,fun i' off' he cs' w' xs' hh hx=> ?_⟩ fun Z' hZ hI ω' hω=>⟨henvk Z' hZ ω' hω,fun j o ho=>hobj Z' hZ ω' hω j o ho fun off' cs' w' xs' he hoo hx=> ?_⟩
    ·cases he;rw[hi]at hh;simp at hh;subst hh;exact hno w' xs' hx
    ·cases he;rw[hi]at ho;simp at ho;subst ho;simp at hoo;subst hoo;exact hno w' xs' hx
  ·rename_i hno;refine key _ rfl (fun _ h=>h) (fun _ _ cs h1 h2=>⟨cs,h1,h2⟩) ⟨nN _ s,fun i' off' he cs' w' xs' hh hx=> ?_⟩ fun Z' hZ hI ω' hω=>⟨henvk Z' hZ ω' hω,fun j o ho=>hobj Z' hZ ω' hω j o ho fun off' cs' w' xs' he hoo hx=> ?_⟩
   ·cases he;exact hno _ hh
   ·cases he;subst hoo;exact hno _ ho
 ·rename_i hno;exact key _ rfl (fun _ h=>h) (fun _ _ cs h1 h2=>⟨cs,h1,h2⟩) ⟨hnf,fun i off he=>absurd he (hno i off)⟩ fun Z' hZ hI ω' hω=>⟨henv Z' hZ hI ω' hω,fun j o ho=>hobj Z' hZ ω' hω j o ho fun off cs w xs he=>absurd he (hno j off)⟩
end
end Go.RE
