/- A second evaluator for the same code: slices are values (frozen, or a call's own), memory is a list, and what a call leaves behind is dropped. No theorem here. -/
import Derived.Test.YtigkmaeaoaejiaaGreatDoorPart4
set_option linter.unusedVariables false
set_option linter.unusedSimpArgs false
set_option linter.constructorNameAsVariable false
namespace Go.RE
inductive Tg where
 |t (n:Nat)
 |c (i off:Nat)
 |r
deriving DecidableEq,Inhabited
inductive U where
 |bad
 |bool (b:Bool)
 |int (k:IntKind) (n:Int)
 |str (s:List UInt8)
 |aT
 |bu
 |bK
 |cZ
 |aK
 |ptr (i off:Nat)
 |dI (row:List U) (off:Nat)
 |sl (w:Nat) (xs:List (List U))
 |nl (w:Nat) -- nothing:nil,or without room
 |own (g:Tg) (w:Nat) (xs:List (List U))
 |dD (w:Nat) (xs:List (List U))
 |cA (g:Tg) (i f:Nat)
 |xX (i off len w:Nat)
 |map (i:Nat)
 |func (f:Nat) (first captured:List U)
 |iface (t:Nat) (v:U)
 |agg (cs:List U)
 |aP (vs:List U)
deriving Inhabited
inductive Uo where
 |row (cs:List U)
 |map (es:List (U×U×Nat)) (clock:Nat)
 |iter (m:Option Nat) (since:Nat) (seen:List Nat) (last:Nat)
 |gone
deriving Inhabited
abbrev gU:=Nat→Option (List U→List Uo→Nat→Option (U×List Uo×Nat))
abbrev eA:=Nat→String→Option Nat
abbrev Env:=List (Nat×U)
structure Vs where
 e:Env
 h:List Uo
 fl:Nat
deriving Inhabited
def U.aL:U→Bool
 | .bad=>false
 | .own .. =>false
 | .dD .. =>false
 | .cA .. =>false
 | .xX .. =>false
 | .agg _=>false
 | .aP _=>false
 |_=>true
mutual
def V.mX:V→U
 | .bool b=> .bool b
 | .int k n=> .int k n
 | .str s=> .str s
 | .aT=> .aT
 | .bu=> .bu
 | .bK=> .bK
 | .cZ=> .cZ
 | .aK=> .aK
 | .aj [] 0 0 w=> .sl w []
 | .aj [] 1 0 w=> .own .r w []
 | .aj [] 2 0 w=> .dD w []
 | .aj [] 3 0 w=> .nl w
 | .func f a b=>bif(V.cY a).all U.aL&&(V.cY b).all U.aL then .func f (V.cY a) (V.cY b)else .bad
 | .iface t v=>bif v.mX.aL then .iface t v.mX else .bad
 | .agg cs=>bif(V.cY cs).all U.aL then .agg (V.cY cs)else .bad
 | .aP cs=>bif(V.cY cs).all U.aL then .aP (V.cY cs)else .bad
 |_=> .bad
def V.cY:List V→List U
 |[]=>[]
 |v::vs=>v.mX::V.cY vs
end
def V.HT(v:V):Option U:=
 match v.mX with
 | .bad=>none
 | .own .. =>none
 | .dD .. =>none
 |u=>some u
def U.qO:U→Bool
 | .dD _ _=>true
 |_=>false
mutual
def V.er:V→V
 | .aj [] _ 0 _=> .bu
 | .func f a b=> .func f (V.yU a) (V.yU b)
 | .iface t v=> .iface t v.er
 | .agg cs=> .agg (V.yU cs)
 | .aP cs=> .aP (V.yU cs)
 |v=>v
def V.yU:List V→List V
 |[]=>[]
 |v::vs=>v.er::V.yU vs
end
def bB.er:bB→bB
 | .t n=> .t n
 | .c v=> .c v.er
def vg:List (Nat×Nat×bB)→List (Nat×Nat×bB)
 |[]=>[]
 |(a,b,x)::r=>(a,b,x.er)::vg r
def bT:Option bB→Option bB
 |none=>none
 |some x=>some x.er
def nQ:List bB→List bB
 |[]=>[]
 |x::r=>x.er::nQ r
def ga.er:ga→ga
 | .aJ x=> .aJ x.er
 | .pick c a b=> .pick c.er a.er b.er
 | .load n x=> .load n x.er
 | .nilCheck x=> .nilCheck x.er
 | .bin op ek x y=> .bin op ek x.er y.er
 | .un op x=> .un op x.er
 | .bI k x=> .bI k x.er
 | .tF x=> .tF x.er
 | .toStr x=> .toStr x.er
 | .fm t x=> .fm t x.er
 | .lP f a b=> .lP f (nQ a) (nQ b)
 | .build z p=> .build (V.yU z) (vg p)
 | .jJ x lo hi=> .jJ x.er (bT lo) (bT hi)
 | .slice sz x lo hi mx=> .slice sz x.er (bT lo) (bT hi) (bT mx)
 | .ir n sz x lo hi=> .ir n sz x.er (bT lo) (bT hi)
 | .fieldAddr off x=> .fieldAddr off x.er
 | .field off n x=> .field off n x.er
 | .indexAddr sz x i=> .indexAddr sz x.er i.er
 | .kM ln sz x i=> .kM ln sz x.er i.er
 | .index x i=> .index x.er i.er
 | .lookup kk z ok x i=> .lookup kk z.er ok x.er i.er
 | .extract i x=> .extract i x.er
 | .len k x=> .len k x.er
 | .cap x=> .cap x.er
 | .max xs=> .max (nQ xs)
 | .min xs=> .min (nQ xs)
 | .oz t z x=> .oz t z.er x.er
 | .entry x=> .entry x.er
def Gb.er:Gb→Gb
 | .alloc z=> .alloc (V.yU z)
 | .box x=> .box x.er
 | .buildSlice sz len z p=> .buildSlice sz len (V.yU z) (vg p)
 | .makeMap=> .makeMap
 | .makeSlice sz bytes z len cap=> .makeSlice sz bytes (V.yU z) len.er cap.er
 | .qs x=> .qs x.er
def xL.er:xL→xL
 | .store n a x=> .store n a.er x.er
 | .mapUpdate kk m k x=> .mapUpdate kk m.er k.er x.er
 | .delete kk m k=> .delete kk m.er k.er
 | .append sz bytes str s x=> .append sz bytes str s.er x.er
 | .copy sz str d s=> .copy sz str d.er s.er
 | .clear sz z x=> .clear sz (V.yU z) x.er
 | .range x=> .range x.er
def lH.er:lH→lH
 | .s o=> .s o.er
 | .m o=> .m o.er
 | .h o=> .h o.er
 | .call f args=> .call f.er (nQ args)
 | .invoke name x args=> .invoke name x.er (nQ args)
 | .next x=> .next x.er
 | .bad=> .bad
def aH.er(o:aH):aH:=⟨o.dst,o.op.er,o.guard,o.aS⟩
def fG:List aH→List aH
 |[]=>[]
 |o::r=>o.er::fG r
def ag.er:ag→ag
 | .skip=> .skip
 | .region ops=> .region (fG ops)
 | .draw ops=> .draw (fG ops)
 | .seq a b=> .seq a.er b.er
 | .cond c a b=> .cond c.er a.er b.er
 | .block id b=> .block id b.er
 | .loop b=> .loop b.er
 | .exit id=> .exit id
 | .ret=> .ret
 | .bad=> .bad
 | .uh n p=> .uh n p
mutual
def U.low(n:Nat):U→Bool
 | .ptr i _=>Nat.blt i n
 | .map i=>Nat.blt i n
 | .xX i _ _ _=>Nat.blt i n
 | .own (.c i _) _ _=>Nat.blt i n
 | .cA (.c i _) _ _=>Nat.blt i n
 | .func _ a b=>U.bX n a&&U.bX n b
 | .iface _ v=>v.low n
 | .agg cs=>U.bX n cs
 | .aP cs=>U.bX n cs
 |_=>true
def U.bX(n:Nat):List U→Bool
 |[]=>true
 |v::vs=>v.low n&&U.bX n vs
end
mutual
def U.shift(k:Nat):U→U
 | .ptr i o=> .ptr (i+k) o
 | .map i=> .map (i+k)
 | .func f a b=> .func f (U.fK k a) (U.fK k b)
 | .iface t v=> .iface t (v.shift k)
 | .agg cs=> .agg (U.fK k cs)
 | .aP cs=> .aP (U.fK k cs)
 |v=>v
def U.fK(k:Nat):List U→List U
 |[]=>[]
 |v::vs=>v.shift k::U.fK k vs
end
mutual
def U.flat:U→Bool
 | .bool _=>true
 | .int _ _=>true
 | .str _=>true
 | .aT=>true
 | .bu=>true
 | .bK=>true
 | .cZ=>true
 | .aK=>true
 | .ptr _ _=>true
 | .map _=>true
 | .own _ _ xs=>U.rE xs
 | .iface _ v=>v.flat
 | .agg cs=>U.tq cs
 | .aP cs=>U.tq cs
 |_=>false
def U.tq:List U→Bool
 |[]=>true
 |v::vs=>v.flat&&U.tq vs
def U.rE:List (List U)→Bool
 |[]=>true
 |v::vs=>U.tq v&&U.rE vs
end
def U.ve:U→Bool
 | .dD .. =>false
 | .bad=>false
 |_=>true
def U.cells:U→List U
 | .agg cs=>cs
 |v=>[v]
def U.qa7:U→Bool
 | .own .. =>true
 |_=>false
def look:Env→Nat→Option U
 |[],_=>none
 |(k,v)::r,t=>bif Nat.beq k t then some v else look r t
def jD(dst:Option Nat)(v:U)(e:Env):Env:=
 match dst with
 |some d=>(d,v)::e
 |none=>e
def U.kill(g:Tg):U→U
 | .own g' w xs=>if g' =g then .bad else .own g' w xs
 | .cA g' i f=>if g' =g then .bad else .cA g' i f
 |v=>v
def Env.kill(g:Tg):Env→Env
 |[]=>[]
 |(k,v)::r=>(k,v.kill g)::Env.kill g r
def U.oB(g:Tg):U→U
 | .own g' w xs=>if g' =g then .sl w xs else .own g' w xs
 | .cA g' i f=>if g' =g then .bad else .cA g' i f
 |v=>v
def Env.oB(g:Tg):Env→Env
 |[]=>[]
 |(k,v)::r=>(k,v.oB g)::Env.oB g r
def U.jH(g g2:Tg):U→U
 | .own g' w xs=>if g' =g then .own g2 w xs else .own g' w xs
 | .cA g' i f=>if g' =g then .cA g2 i f else .cA g' i f
 |v=>v
def Env.jH(g g2:Tg):Env→Env
 |[]=>[]
 |(k,v)::r=>(k,v.jH g g2)::Env.jH g g2 r
def U.mz(g:Tg)(ys:List (List U)):U→U
 | .own g' w xs=>if g' =g then .own g' w ys else .own g' w xs
 |v=>v
def Env.mz(g:Tg)(ys:List (List U)):Env→Env
 |[]=>[]
 |(k,v)::r=>(k,v.mz g ys)::Env.mz g ys r
def Tg.kG(i off n:Nat):Tg→Bool
 | .c j o=>Nat.beq j i&&Nat.ble off o&&Nat.blt o (off+n)
 |_=>false
def Tg.NV:Tg→Bool
 | .c _ _=>true
 |_=>false
def U.cy(p:Tg→Bool):U→U
 | .own g w xs=>bif p g then .bad else .own g w xs
 | .cA g i f=>bif p g then .bad else .cA g i f
 |v=>v
def Env.cy(p:Tg→Bool):Env→Env
 |[]=>[]
 |(k,v)::r=>(k,v.cy p)::Env.cy p r
def Env.gI(g:Tg)(full:Env):Env→Option (Nat×List (List U))
 |[]=>none
 |(k,.own g' _ _)::r=>if g' =g then(match look full k with
  |some (.own g2 w xs)=>if g2=g then some (w,xs)else Env.gI g full r
  |_=>Env.gI g full r)else Env.gI g full r
 |_::r=>Env.gI g full r
def setCell(h:List Uo)(i off:Nat)(v:U):List Uo:=
 match h[i]? with
 |some (.row cs)=>h.set i (.row (cs.set off v))
 |_=>h
def Vs.oB(g:Tg)(s:Vs):Vs:=
 match g with
 | .c i off=>(match s.h[i]? with
  |some (.row cs)=>(match cs[off]? with
   |some (.dD w xs)=>{s with e:=Env.oB g s.e,h:=s.h.set i (.row (cs.set off (.sl w xs)))}
   |_=>{s with e:=Env.kill g s.e})
  |_=>{s with e:=Env.kill g s.e})
 |g=>{s with e:=Env.oB g s.e}
def Vs.kill(g:Tg)(s:Vs):Vs:=
 match g with
 | .c i off=>{s with e:=Env.kill g s.e,h:=setCell s.h i off .bad}
 |g=>{s with e:=Env.kill g s.e}
def Vs.gI(g:Tg)(s:Vs):Option (Nat×List (List U)):=
 match g with
 | .c i off=>(match s.h[i]? with
  |some (.row cs)=>(match cs[off]? with
   |some (.dD w xs)=>some (w,xs)
   |_=>none)
  |_=>none)
 |g=>Env.gI g s.e s.e
def Vs.mz(g:Tg)(w:Nat)(ys:List (List U))(s:Vs):Vs:=
 match g with
 | .c i off=>{s with e:=Env.mz g ys s.e,h:=setCell s.h i off (.dD w ys)}
 |g=>{s with e:=Env.mz g ys s.e}
def esc(v:U)(s:Vs):Option (U×Vs):=
 match v with
 | .own g w xs=>some (.sl w xs,s.oB g)
 | .bad=>none
 | .dD .. =>none
 | .cA .. =>none
 | .xX .. =>none
 | .aP _=>none
 |v=>some (v,s)
def ck(e:Env):bB→Option U
 | .t n=>look e n
 | .c v=>some v.mX
def jE(e:Env):List bB→Option (List U)
 |[]=>some []
 |x::r=>match ck e x with
  |some v=>(match jE e r with|some vs=>some (v::vs)|none=>none)
  |none=>none
def fC(x:bB)(s:Vs):Option (U×Vs):=
 match ck s.e x with
 |some v=>esc v s
 |none=>none
def fX:List bB→Vs→Option (List U×Vs)
 |[],s=>some ([],s)
 |x::r,s=>match fC x s with
  |some (v,s)=>(match fX r s with|some (vs,s)=>some (v::vs,s)|none=>none)
  |none=>none
def U.ofV:V→Option U
 | .bool b=>some (.bool b)
 | .int k n=>some (.int k n)
 | .str s=>some (.str s)
 |_=>none
def Vg:Option V→Option U
 |some v=>U.ofV v
 |none=>none
def U.Pz:U→Option V
 | .bool b=>some (.bool b)
 | .int k n=>some (.int k n)
 | .str s=>some (.str s)
 |_=>none
def fF(k:fD)(a b:U):Option Bool:=
 match a.Pz,b.Pz with
 |some x,some y=>jN k x y
 |_,_=>none
def gN:List (Nat×fD)→List U→List U→Option Bool
 |[],_,_=>some true
 |(o,k)::r,xs,ys=>match xs[o]?,ys[o]? with
  |some a,some b=>(match fF k a b with
   |some true=>gN r xs ys
   |some false=>some false
   |none=>none)
  |_,_=>none
def U.Mu:U→Option Bool
 | .aT=>some false
 | .ptr .. =>some true
 | .dI .. =>some true
 | .cA .. =>some true
 |_=>none
def U.YI:U→Option Bool
 | .cZ=>some false
 | .func .. =>some true
 |_=>none
def U.N5:U→Option Bool
 | .bK=>some false
 | .map _=>some true
 |_=>none
def U.Ea:U→Option Bool
 | .bu=>some false
 | .sl _ (_::_)=>some true
 | .own _ _ (_::_)=>some true
 |_=>none
def CV(a b:Option Bool):Option Bool:=
 match a,b with
 |some false,some x=>some (!x)
 |some true,some false=>some false
 |_,_=>none
def Oe(ek:fD)(a b:U):Option Bool:=
 match ek with
 | .bool=>(match a,b with| .bool x,.bool y=>some (x==y)|_,_=>none)
 | .aT=>CV a.Mu b.Mu
 | .bu=>CV a.Ea b.Ea
 | .bK=>CV a.N5 b.N5
 | .cZ=>CV a.YI b.YI
 | .iface g=>(match a,b with
  | .aK,.aK=>bif g then none else some true
  | .aK,.iface _ _=>some false
  | .iface _ _,.aK=>some false
  |_,_=>none)
 | .flat ks=>(match a,b with| .agg xs,.agg ys=>gN ks xs ys|_,_=>none)
 |_=>none
def iz(op:BinOp)(ek:fD)(a b:U):Option U:=
 match a,b with
 | .int k x,.int j y=>Vg (cU op ek (.int k x) (.int j y))
 | .str x,.str y=>Vg (mL op x y)
 |a,b=>(match op with
  | .eql=>(match Oe ek a b with|some r=>some (.bool r)|none=>none)
  | .neq=>(match Oe ek a b with|some r=>some (.bool (!r))|none=>none)
  |_=>none)
def unU(op:UnOp)(a:U):Option U:=
 match a.Pz with
 |some v=>Vg (unV op v)
 |none=>none
def gv(n:Option Nat)(cs:List U)(off:Nat):Option U:=
 match n with
 |none=>(match cs[off]? with|some v=>bif v.ve then some v else none|none=>none)
 |some n=>bif Nat.ble (off+n) cs.length&&((cs.drop off).take n).all U.ve then some (.agg ((cs.drop off).take n))else none
def mN(i:Nat)(n:Option Nat)(cs:List U)(off:Nat):Option U:=
 match n,cs[off]? with
 |none,some (.dD w xs)=>some (.own (.c i off) w xs)
 |n,_=>gv n cs off
def jy(cs:List U)(off:Nat)(vs:List U):List U:=cs.take off++vs++cs.drop (off+vs.length)
def lp:List (Nat×Nat×bB)→List U→Vs→Option (List U×Vs)
 |[],cells,s=>some (cells,s)
 |(off,size,x)::rest,cells,s=>match fC x s with
  |some (v,s)=>bif Nat.beq v.cells.length size&&Nat.ble (off+v.cells.length) cells.length then lp rest (jy cells off v.cells) s else none
  |none=>none
def gJ(v:U)(most:Nat):Option Nat:=
 match v with
 | .int k n=>asNat (.int k n) most
 |_=>none
def cD(e:Env)(x:Option bB)(dflt most:Nat):Option Nat:=
 match x with
 |none=>some dflt
 |some x=>match ck e x with
  |some v=>gJ v most
  |none=>none
def nZ(b:UInt8):List U:=[.int .u8 b.toNat]
def az(bs:List UInt8):List (List U):=bs.map nZ
def qt:List U→Option UInt8
 |[.int .u8 n]=>some (UInt8.ofNat n.toNat)
 |_=>none
def eH:List (List U)→Option (List UInt8)
 |[]=>some []
 |r::rs=>match qt r with
  |some b=>(match eH rs with|some bs=>some (b::bs)|none=>none)
  |none=>none
def rowsOf(s:Vs)(w:Nat):U→Option (List (List U))
 | .sl v xs=>bif Nat.beq v w then some xs else none
 | .nl v=>bif Nat.beq v w then some []else none
 | .own _ v xs=>bif Nat.beq v w then some xs else none
 | .xX i off len v=>(match s.h[i]? with
  |some (.row cs)=>bif Nat.beq v w&&Nat.beq w 1&&Nat.ble (off+len) cs.length&&((cs.drop off).take len).all U.ve then some (((cs.drop off).take len).map fun c=>[c])else none
  |_=>none)
 |_=>none
def vz(s:Vs)(w:Nat)(str:Bool)(x:U):Option (List (List U)):=
 match str,x with
 |true,.str b=>bif Nat.beq w 1 then some (az b)else none
 |false,x=>rowsOf s w x
 |_,_=>none
def ZY(s:Vs)(k:Nat):U→Option Nat
 | .str b=>bif Nat.beq k 0 then some b.length else none
 | .sl _ xs=>bif Nat.beq k 1 then some xs.length else none
 | .nl _=>bif Nat.beq k 1 then some 0 else none
 | .own _ _ xs=>bif Nat.beq k 1 then some xs.length else none
 | .xX _ _ len _=>bif Nat.beq k 1 then some len else none
 | .bK=>bif Nat.beq k 2 then some 0 else none
 | .map m=>bif Nat.beq k 2 then(match s.h[m]? with
  |some (.map es _)=>some es.length
  |_=>none)else none
 |_=>none
def jt(kk:fD)(k:U):List (U×U×Nat)→Nat→Option (Option (Nat×U))
 |[],_=>some none
 |e::es,i=>match fF kk k e.1 with
  |some true=>some (some (i,e.2.1))
  |some false=>jt kk k es (i+1)
  |none=>none
def bR(kk:fD)(k:U):Bool:=
 match k.Pz with
 |some v=>plainKey kk v
 |none=>false
def fO(s:Vs)(kk:fD)(zero:U)(ok:Bool)(m k:U):Option U:=
 match m with
 | .bK=>bif bR kk k then some (bif ok then .aP [zero,.bool false]else zero)else none
 | .map m=>(match s.h[m]? with
  |some (.map es _)=>bif bR kk k then(match jt kk k es 0 with
   |some (some (_,v))=>some (bif ok then .aP [v,.bool true]else v)
   |some none=>some (bif ok then .aP [zero,.bool false]else zero)
   |none=>none)else none
  |_=>none)
 |_=>none
def oZ(f:V→V→Option V)(a b:U):Option U:=
 match a.Pz,b.Pz with
 |some x,some y=>Vg (f x y)
 |_,_=>none
def oW(f:U→U→Option U):U→List U→Option U
 |a,[]=>some a
 |a,b::r=>match f a b with
  |some c=>oW f c r
  |none=>none
def kR(d:Nat)(w:Nat)(lo hi mx:Option bB)(v:U)(s:Vs):Option (U×Vs):=
 match v with
 | .sl w' xs=>bif Nat.beq w' w then
  (match cD s.e hi xs.length xs.length with
  |some h=>(match cD s.e lo 0 h with
   |some l=>(match mx with
    |none=>some (.sl w ((xs.take h).drop l),s)
    |some m=>(match cD s.e (some m) xs.length xs.length with
     |some m=>bif Nat.beq m h then(bif Nat.beq m 0 then some (.own (.t d) w [],s.kill (.t d))else some (.sl w ((xs.take h).drop l),s))else none
     |none=>none))
   |none=>none)
  |none=>none)else none
 | .own g w' xs=>bif Nat.beq w' w then
  (match mx with
  |none=>(match cD s.e hi xs.length xs.length with
   |some h=>(match cD s.e lo 0 h with
    |some l=>some (.own (.t d) w ((xs.take h).drop l),(s.kill g).kill (.t d))
    |none=>none)
   |none=>none)
  |some m=>(match cD s.e hi xs.length xs.length,cD s.e (some m) xs.length xs.length,cD s.e lo 0 0 with
   |some 0,some 0,some 0=>some (.own (.t d) w [],s.kill (.t d))
   |_,_,_=>none))
  else none
 |_=>none
def mH(s:Vs)(q:Nat):Option U:=
 match s.h[q]? with
 |some (.iter (some m) _ seen last)=>(match s.h[m]?,seen.getLast? with
  |some (.map es clock),some n=>bif Nat.beq clock last then(match es.find? (fun e=>Nat.beq e.2.2 n)with
   |some e=>some (.aP [e.1,e.2.1])
   |none=>none)else none
  |_,_=>none)
 |_=>none
def fA(d:Nat)(s:Vs):ga→Option (U×Vs)
 | .aJ x=>(match ck s.e x with|some (.own .r w xs)=>some (.own (.t d) w xs,s.kill (.t d))|some v=>some (v,s)|none=>none)
 | .pick c a b=>(match ck s.e c with
  |some (.bool true)=>(match ck s.e a with|some v=>some (v,s)|none=>none)
  |some (.bool false)=>(match ck s.e b with|some v=>some (v,s)|none=>none)
  |_=>none)
 | .load n x=>(match ck s.e x with
  |some (.ptr i off)=>(match s.h[i]? with
   |some (.row cs)=>(match mN i n cs off with|some v=>some (v,s)|none=>none)
   |_=>none)
  |some (.dI row off)=>(match gv n row off with|some v=>some (v,s)|none=>none)
  |some (.cA g i f)=>(match s.gI g with
   |some (_,xs)=>(match xs[i]? with
    |some r=>(match gv n r f with|some v=>some (v,s)|none=>none)
    |none=>none)
   |none=>none)
  |_=>none)
 | .nilCheck x=>(match ck s.e x with
  |some (.ptr i o)=>some (.ptr i o,s)
  |some (.dI r o)=>some (.dI r o,s)
  |some (.cA g i o)=>some (.cA g i o,s)
  |some (.func f a b)=>some (.func f a b,s)
  |some (.iface t v)=>some (.iface t v,s)
  |_=>none)
 | .bin op ek x y=>(match ck s.e x,ck s.e y with
  |some a,some b=>(match iz op ek a b with|some v=>some (v,s)|none=>none)
  |_,_=>none)
 | .un op x=>(match ck s.e x with
  |some a=>(match unU op a with|some v=>some (v,s)|none=>none)
  |none=>none)
 | .bI k x=>(match ck s.e x with
  |some (.int _ n)=>some (.int k (aD k n),s)
  |_=>none)
 | .tF x=>(match ck s.e x with
  |some (.str b)=>some (.str b,s)
  |_=>none)
 | .toStr x=>(match ck s.e x with
  |some v=>(match rowsOf s 1 v with
   |some xs=>(match eH xs with|some bs=>some (.str bs,s)|none=>none)
   |none=>none)
  |none=>none)
 | .fm t x=>(match fC x s with
  |some (v,s)=>some (.iface t v,s)
  |none=>none)
 | .lP f first captured=>(match fX first s with
  |some (a,s)=>(match fX captured s with
   |some (b,s)=>some (.func f a b,s)
   |none=>none)
  |none=>none)
 | .build zero parts=>bif(V.cY zero).all U.aL then(match lp parts (V.cY zero) s with
  |some (cs,s)=>some (.agg cs,s)
  |none=>none)else none
 | .jJ x lo hi=>(match ck s.e x with
  |some (.str b)=>(match cD s.e hi b.length b.length with
   |some h=>(match cD s.e lo 0 h with
    |some l=>some (.str ((b.take h).drop l),s)
    |none=>none)
   |none=>none)
  |_=>none)
 | .slice w x lo hi mx=>(match ck s.e x with
  |some v=>kR d w lo hi mx v s
  |none=>none)
 | .ir n w x lo hi=>(match ck s.e x with
  |some (.ptr i off)=>(match cD s.e hi n n with
   |some h=>(match cD s.e lo 0 h with
    |some l=>(match s.h[i]? with
     |some (.row cs)=>bif Nat.ble (off+n*w) cs.length then some (.xX i (off+l*w) (h - l) w,s)else none
     |_=>none)
    |none=>none)
   |none=>none)
  |_=>none)
 | .fieldAddr off x=>(match ck s.e x with
  |some (.ptr i o)=>some (.ptr i (o+off),s)
  |some (.dI row o)=>some (.dI row (o+off),s)
  |some (.cA g i o)=>some (.cA g i (o+off),s)
  |_=>none)
 | .field off n x=>(match ck s.e x with
  |some (.agg cs)=>(match gv n cs off with|some v=>some (v,s)|none=>none)
  |_=>none)
 | .indexAddr w x i=>(match ck s.e x,ck s.e i with
  |some (.sl w' xs),some (.int _ n)=>if 0≤n then(match xs[n.toNat]? with|some r=>bif Nat.beq w' w then some (.dI r 0,s)else none|none=>none)else none
  |some (.own g w' xs),some (.int _ n)=>if 0≤n∧n<(xs.length:Int)then(bif Nat.beq w' w then some (.cA g n.toNat 0,s)else none)else none
  |some (.xX j off len w'),some (.int _ n)=>if 0≤n∧n<(len:Int)then(bif Nat.beq w' w then some (.ptr j (off+n.toNat*w),s)else none)else none
  |_,_=>none)
 | .kM len w x i=>(match ck s.e x,ck s.e i with
  |some (.ptr j off),some (.int _ n)=>if 0≤n∧n<(len:Int)then some (.ptr j (off+n.toNat*w),s)else none
  |some (.dI row off),some (.int _ n)=>if 0≤n∧n<(len:Int)then some (.dI row (off+n.toNat*w),s)else none
  |_,_=>none)
 | .index x i=>(match ck s.e x,ck s.e i with
  |some (.str b),some (.int _ n)=>if 0≤n then(match b[n.toNat]? with|some c=>some (.int .u8 c.toNat,s)|none=>none)else none
  |_,_=>none)
 | .lookup kk zero ok x i=>(match zero.HT,ck s.e x,ck s.e i with
  |some z,some m,some k=>(match fO s kk z ok m k with|some v=>some (v,s)|none=>none)
  |_,_,_=>none)
 | .extract i x=>(match ck s.e x with
  |some (.aP vs)=>(match vs[i]? with|some v=>some (v,s)|none=>none)
  |_=>none)
 | .len k x=>(match ck s.e x with
  |some v=>(match ZY s k v with|some n=>some (.int .i64 n,s)|none=>none)
  |none=>none)
 | .cap _=>none
 | .entry x=>(match ck s.e x with
  |some (.ptr q 0)=>(match mH s q with|some v=>some (v,s)|none=>none)
  |_=>none)
 | .max xs=>(match jE s.e xs with
  |some (v::vs)=>(match oW (oZ Av) v vs with|some v=>some (v,s)|none=>none)
  |_=>none)
 | .min xs=>(match jE s.e xs with
  |some (v::vs)=>(match oW (oZ zA) v vs with|some v=>some (v,s)|none=>none)
  |_=>none)
 | .oz t zero x=>(match zero.HT,ck s.e x with
  |some z,some .aK=>some (.aP [z,.bool false],s)
  |some z,some (.iface u v)=>some (if u=t then .aP [v,.bool true]else .aP [z,.bool false],s)
  |_,_=>none)
def jq(zero:List U)(n:Nat):List (List U):=List.replicate n zero
def chunks(w:Nat):Nat→List U→List (List U)
 |0,_=>[]
 |n+1,cs=>cs.take w::chunks w n (cs.drop w)
def Jt(zero:List U):Nat→List U
 |0=>[]
 |n+1=>zero++Jt zero n
def ou(s:Vs)(o:Uo):Vs:={s with h:=s.h++[o]}
def yq(d:Nat)(s:Vs):Gb→Option (U×Vs)
 | .alloc zero=>bif(V.cY zero).all (fun u=>u.aL||u.qO)then some (.ptr s.h.length 0,ou s (.row (V.cY zero)))else none
 | .box x=>(match ck s.e x with
  |some (.own (.c _ _) _ _)=>none
  |some (.own g w xs)=>some (.ptr s.h.length 0,{s with e:=Env.jH g (.c s.h.length 0) s.e,h:=s.h++[.row [.dD w xs]]})
  |some v=>bif v.cells.all U.aL then some (.ptr s.h.length 0,ou s (.row v.cells))else none
  |none=>none)
 | .buildSlice w len zero parts=>(match bif(V.cY zero).all U.aL then lp parts (Jt (V.cY zero) len) s else none with
  |some (cs,s)=>bif cs.all U.aL&&U.bX 0 cs&&Nat.beq cs.length (len*w)then some (.own (.t d) w (chunks w len cs),s.kill (.t d))else none
  |none=>none)
 | .makeMap=>some (.map s.h.length,ou s (.map [] 0))
 | .makeSlice w bytes zero len cap=>(match ck s.e len,ck s.e cap with
  |some l,some c=>(match gJ c aW with
   |some c=>(match gJ l c with
    |some l=>bif Nat.ble (c*bytes) aW&&Nat.beq zero.length w&&U.bX 0 (V.cY zero)&&(V.cY zero).all U.aL then some (.own (.t d) w (jq (V.cY zero) l),s.kill (.t d))else none
    |none=>none)
   |none=>none)
  |_,_=>none)
 | .qs x=>(match ck s.e x with
  |some (.str b)=>some (.own (.t d) 1 (az b),s.kill (.t d))
  |_=>none)
def qi(s:Vs)(n i off:Nat)(v:U)(cs:List U):Option Vs:=
 match v with
 | .own g w xs=>bif Nat.beq n 1&&Nat.blt off cs.length then(match g with
  | .c _ _=>none
  |g=>some {s with e:=Env.jH g (.c i off) (Env.cy (Tg.kG i off 1) s.e),h:=s.h.set i (.row (cs.set off (.dD w xs)))})
  else none
 |v=>bif Nat.beq v.cells.length n&&Nat.ble (off+n) cs.length&&v.cells.all U.aL then
   some {e:=Env.cy (Tg.kG i off n) s.e,h:=s.h.set i (.row (jy cs off v.cells)),fl:=bif v.low (i+1)then s.fl else s.h.length}
  else none
def jR(s:Vs)(off:Nat)(v:U)(cs:List U):U×Vs:=
 match v with
 | .own g w xs=>(match cs[off]? with
  |some (.sl _ _)=>(.sl w xs,s.oB g)
  |_=>(.own g w xs,s))
 |v=>(v,s)
def ox(i:Nat)(f:(U×U×Nat)→(U×U×Nat)):List (U×U×Nat)→List (U×U×Nat)
 |[]=>[]
 |e::es=>match i with
  |0=>f e::es
  |j+1=>e::ox j f es
def gr(i:Nat):List (U×U×Nat)→List (U×U×Nat)
 |[]=>[]
 |e::es=>match i with
  |0=>es
  |j+1=>e::gr j es
def qm(d:Nat)(s:Vs):xL→Option (U×Vs)
 | .store n a x=>(match ck s.e a,ck s.e x with
  |some (.ptr i off),some v=>(match s.h[i]? with
   |some (.row cs)=>(match jR s off v cs with
    |(v,s)=>(match s.h[i]? with
     |some (.row cs)=>(match qi s n i off v cs with|some s=>some (.aP [],s)|none=>none)
     |_=>none))
   |_=>none)
  |some (.cA g i f),some v=>(match esc v s with
   |some (v,s)=>(match s.gI g with
    |some (w,xs)=>(match xs[i]? with
     |some r=>bif Nat.beq v.cells.length n&&Nat.ble (f+n) r.length&&v.cells.all U.aL&&v.low 0 then some (.aP [],s.mz g w (xs.set i (jy r f v.cells)))else none
     |none=>none)
    |none=>none)
   |none=>none)
  |_,_=>none)
 | .mapUpdate kk m k x=>(match fC m s with
  |some (.map i,s)=>(match fC k s with
   |some (k,s)=>(match fC x s with
    |some (v,s)=>(match s.h[i]? with
     |some (.map es clock)=>bif bR kk k then
      (let fl:=bif v.low (i+1)then s.fl else s.h.length
      match jt kk k es 0 with
      |some (some (j,_))=>some (.aP [],{s with h:=s.h.set i (.map (ox j (fun e=>(k,v,e.2.2)) es) clock),fl:=fl})
      |some none=>some (.aP [],{s with h:=s.h.set i (.map (es++[(k,v,clock)]) (clock+1)),fl:=fl})
      |none=>none)else none
     |_=>none)
    |none=>none)
   |none=>none)
  |_=>none)
 | .delete kk m k=>(match ck s.e m,ck s.e k with
  |some .bK,some k=>bif bR kk k then some (.aP [],s)else none
  |some (.map i),some k=>(match s.h[i]? with
   |some (.map es clock)=>bif bR kk k then(match jt kk k es 0 with
    |some (some (j,_))=>some (.aP [],{s with h:=s.h.set i (.map (gr j es) clock)})
    |some none=>some (.aP [],s)
    |none=>none)else none
   |_=>none)
  |_,_=>none)
 | .append w bytes str a x=>(match ck s.e a,ck s.e x with
  |some a,some x=>(match vz s w str x with
   |some ys=>(match a with
    | .own g w' xs=>bif Nat.beq w' w&&Nat.ble ((xs.length+ys.length)*bytes) aW&&Nat.ble (xs.length+ys.length) aW&&ys.all (fun r=>r.all U.aL&&U.bX 0 r&&Nat.beq r.length w)then
      some (.own (.t d) w (xs++ys),(s.kill g).kill (.t d))else none
    | .nl w' =>bif Nat.beq w' w&&Nat.ble (ys.length*bytes) aW&&Nat.ble ys.length aW&&ys.all (fun r=>r.all U.aL&&U.bX 0 r&&Nat.beq r.length w)then some (.own (.t d) w ys,(s.kill .r).kill (.t d))else none
    | .sl w' xs=>bif Nat.beq w' w&&ys.isEmpty&&Nat.ble (xs.length*bytes) aW&&Nat.ble xs.length aW then some (.sl w xs,s)else none
    |_=>none)
   |none=>none)
  |_,_=>none)
 | .copy w str a x=>(match ck s.e a,ck s.e x with
  |some (.own g w' xs),some x=>(match vz s w str x with
   |some ys=>bif Nat.beq w' w&&(s.gI g).isSome&&ys.all (fun r=>r.all U.aL&&U.bX 0 r&&Nat.beq r.length w)then
     some (.int .i64 (min ys.length xs.length:Nat),s.mz g w (ys.take xs.length++xs.drop ys.length))else none
   |none=>none)
  |_,_=>none)
 |_=>none
def ye:U→Option U
 | .own _ w xs=>some (.sl w xs)
 | .nl w=>some (.sl w [])
 | .bad=>none
 | .dD .. =>none
 | .cA .. =>none
 | .xX .. =>none
 | .aP _=>none
 |v=>some v
def kj:List U→Option (List U)
 |[]=>some []
 |v::vs=>match ye v with
  |some u=>(match kj vs with|some us=>some (u::us)|none=>none)
  |none=>none
def dV(d:Nat)(r:U)(s:Vs):U×Vs:=
 match r with
 | .own .r w xs=>(.own (.t d) w xs,s.kill (.t d))
 |r=>(r,s)
def bp:List U→Vs→Vs
 |[],s=>s
 | .own g _ _::r,s=>bp r (s.oB g)
 |_::r,s=>bp r s
def rY:List U→Bool
 |[]=>false
 |v::vs=>v.qa7||rY vs
def fW(k:Nat):Uo→Uo
 | .row cs=> .row (U.fK k cs)
 | .map es c=> .map (es.map fun e=>(e.1.shift k,e.2.1.shift k,e.2.2)) c
 | .iter m a b c=> .iter (m.map (· +k)) a b c
 | .gone=> .gone
def rF(d:Nat)(r:U)(hc:List Uo)(fc:Nat)(s:Vs):U×Vs:=
 match hc with
 |[]=>dV d r s
 |_=>dV d (r.shift s.h.length) {s with h:=s.h++hc.map (fW s.h.length),fl:=bif Nat.beq fc 0 then s.fl else s.h.length+fc}
abbrev FU:=Nat→List U→List Uo→Nat→Option (U×List Uo×Nat)
def mO(F:FU)(d f:Nat)(args:List U)(s:Vs):Option (U×Vs):=
 match kj args with
 |some us=>
  bif U.bX 0 us then
   (match F f us [] 0 with
   |some (r,hc,fc)=>
    some (rF d r hc fc (bif rY args&& !(r.flat&&hc.isEmpty)then bp args s else s))
   |none=>none)
  else
   (let s:=bp args s
   match F f us s.h s.fl with
   |some (r,h,fl)=>some (dV d r {e:=Env.cy Tg.NV s.e,h:=h,fl:=fl})
   |none=>none)
 |none=>none
abbrev fq:=Nat→Option (List (List U)→List U→Option (List (List U)))
section
variable(M:eA)(Q:fq)(F:FU)
def lg(s:Vs)(dst:Option Nat)(o:lH):Option (U×Vs):=
 let d:=dst.getD 0
 match o with
 | .s o=>fA d s o
 | .m o=>yq d s o
 | .h (.range x)=>(match ck s.e x with
  |some .bK=>some (.ptr s.h.length 0,{s with h:=s.h++[.iter none 0 [] 0]})
  |some (.map m)=>(match s.h[m]? with
   |some (.map _ clock)=>some (.ptr s.h.length 0,{s with h:=s.h++[.iter (some m) clock [] clock]})
   |_=>none)
  |_=>none)
 | .h o=>qm d s o
 | .call f args=>(match ck s.e f,jE s.e args with
  |some (.func f first captured),some vs=>(match Q f with
   |some q=>(match first++vs++captured with
    | .own g w xs::rest=>(match q xs rest with
     |some ys=>bif(s.gI g).isSome then some (.aP [],s.mz g w ys)else none
     |none=>none)
    |_=>none)
   |none=>mO F d f (first++vs++captured) s)
  |_,_=>none)
 | .invoke name x args=>(match ck s.e x,jE s.e args with
  |some (.iface t v),some vs=>(match M t name with
   |some f=>mO F d f (v::vs) s
   |none=>none)
  |_,_=>none)
 | .next _=>none
 | .bad=>none
def iJ(g:Option (Nat×Bool))(e:Env):Option Bool:=
 match g with
 |none=>some true
 |some (t,want)=>match look e t with
  |some (.bool b)=>some (b==want)
  |some (.aP _)=>some false
  |_=>none
def gw:List aH→Vs→Option Vs
 |[],s=>some s
 |o::r,s=>match iJ o.guard s.e with
  |some true=>(match lg M Q F s o.dst o.op with
   |some (v,s)=>gw r {s with e:=jD o.dst v s.e}
   |none=>none)
  |some false=>gw r {s with e:=jD o.dst (.aP []) s.e}
  |none=>none
end
mutual
def U.same:U→U→Bool
 | .bool a,.bool b=>a==b
 | .int j a,.int k b=>decide (j=k)&&decide (a=b)
 | .str a,.str b=>a==b
 | .aT,.aT=>true
 | .bK,.bK=>true
 | .cZ,.cZ=>true
 | .aK,.aK=>true
 | .ptr i o,.ptr j p=>Nat.beq i j&&Nat.beq o p
 | .map i,.map j=>Nat.beq i j
 | .agg a,.agg b=>U.mQ a b
 |_,_=>false
def U.mQ:List U→List U→Bool
 |[],[]=>true
 |a::as,b::bs=>U.same a b&&U.mQ as bs
 |_,_=>false
end
inductive Rk where
 |ok
 |ld (i:Nat) (n:Option Nat) (off:Nat) (u:U)
 |no
def tw(s:Vs)(op:ga)(u:U):Rk:=
 match op with
 | .load n x=>(match ck s.e x with
  |some (.ptr i off)=> .ld i n off u
  |some (.dI _ _)=> .ok
  |_=> .no)
 | .toStr x=>(match ck s.e x with
  |some (.sl _ _)=> .ok
  |_=> .no)
 |_=> .no
def Rk.holds(s:Vs):Rk→Bool
 | .ok=>true
 | .ld i n off u=>(match s.h[i]? with
  |some (.row cs)=>(match mN i n cs off with
   |some u' =>U.same u u'
   |none=>false)
  |_=>false)
 | .no=>false
def p7(s:Vs)(aS:Nat):List (Nat×Rk)→Bool
 |[]=>true
 |(i,r)::rest=>(Nat.testBit aS i||r.holds s)&&p7 s aS rest
def pS(s:Vs)(aS:Nat):List (Nat×Rk)→Option (List Nat)
 |[]=>some []
 |(i,r)::rest=>bif Nat.testBit aS i||r.holds s then pS s aS rest else match r with
  | .ld j _ _ _=>(match pS s aS rest with|some l=>some (j::l)|none=>none)
  |_=>none
def gm:List Nat→List Uo→List Uo
 |[],h=>h
 |j::l,h=>gm l (h.set j .gone)
def fM(aS:Nat):List (Nat×Rk)→List (Nat×Rk)
 |[]=>[]
 |(i,r)::rest=>bif Nat.testBit aS i then fM aS rest else(i,r)::fM aS rest
section
variable(M:eA)(Q:fq)(F:FU)
def gH(s:Vs)(o:lH):Bool:=
 match o with
 | .call f args=>(match ck s.e f,jE s.e args with
  |some (.func f first captured),some vs=>(match Q f,kj (first++vs++captured)with
   |none,some us=>U.bX 0 us
   |_,_=>false)
  |_,_=>false)
 | .invoke name x args=>(match ck s.e x,jE s.e args with
  |some (.iface t v),some vs=>(match kj (v::vs)with
   |some us=>U.bX 0 us
   |none=>false)
  |_,_=>false)
 |_=>false
def mT(F:FU)(f:Nat)(args:List U)(s:Vs)(hid:List Nat):Bool:=
 match kj args with
 |some us=>(F f us (gm hid (bp args s).h) (bp args s).fl).isSome
 |none=>false
def gG(s t:Vs)(o:lH)(aS:Nat)(recs:List (Nat×Rk)):Bool:=
 match pS t aS recs with
 |some hid=>(match o with
  | .call f args=>(match ck s.e f,jE s.e args with
   |some (.func f first captured),some vs=>(match Q f with
    |none=>mT F f (first++vs++captured) s hid
    |some _=>false)
   |_,_=>false)
  | .invoke name x args=>(match ck s.e x,jE s.e args with
   |some (.iface t v),some vs=>(match M t name with
    |some f=>mT F f (v::vs) s hid
    |none=>false)
   |_,_=>false)
  |_=>false)
 |none=>false
def b7:List Step→Vs→List (Nat×Rk)→Option Vs
 |[],s,_=>some s
 | .small i o::r,s,recs=>match iJ o.guard s.e with
  |some true=>(match lg M Q F s o.dst o.op with
   |some (v,t)=>(match o.op with
    | .s op=>b7 r {t with e:=jD o.dst v t.e} (bif op.impure then(i,tw s op v)::recs else recs)
    | .m _=>b7 r {t with e:=jD o.dst v t.e} recs
    |_=>none)
   |none=>none)
  |some false=>b7 r {s with e:=jD o.dst (.aP []) s.e} recs
  |none=>none
 | .aW i o::r,s,recs=>match iJ o.guard s.e with
  |some true=>(match lg M Q F s o.dst o.op with
   |some (v,t)=>bif gH Q s o.op||p7 t o.aS recs||gG M Q F s t o.op o.aS recs then b7 r {t with e:=jD o.dst v t.e} (fM o.aS recs)else none
   |none=>none)
  |some false=>b7 r {s with e:=jD o.dst (.aP []) s.e} recs
  |none=>none
end
def eg:List Nat→Env→Env
 |[],_=>[]
 |t::ts,e=>match look e t with
  |some (.own (.t g) w xs)=>(t,.own (.t t) w xs)::eg ts (Env.kill (.t g) e)
  |some (.own .r w xs)=>(t,.own (.t t) w xs)::eg ts (Env.kill .r e)
  |some (.cA (.t _) _ _)=>(t,.bad)::eg ts e
  |some (.cA .r _ _)=>(t,.bad)::eg ts e
  |some v=>(t,v)::eg ts e
  |none=>eg ts e
def HM(n:Nat):Env→Bool
 |[]=>true
 |(_,v)::r=>v.low n&&HM n r
def cut(n fl:Nat)(h:List Uo):List Uo:=h.take (max n fl)
def keep(L:List Nat)(n:Nat)(s:Vs):Vs:=
 let e:=eg L s.e
 {e:=e,h:=bif HM n e then cut n s.fl s.h else s.h,fl:=s.fl}
structure aA where
 ntmps:Nat
 results:List uH
 own:Bool -- a slice is handed back as one's own
 body:ag
 head:Nat→List Nat -- what is live at a loop's head,by its block
 tail:Nat→List Nat -- what is live behind a block
def Io(s:Vs):uH→Option U
 | .t n=>look s.e n
 | .cell a n=>(match look s.e a with
  |some (.ptr i off)=>(match s.h[i]? with
   |some (.row cs)=>mN i n cs off
   |_=>none)
  |_=>none)
def qJ(s:Vs):List uH→Option (List U)
 |[]=>some []
 |r::rs=>match Io s r with
  |some v=>(match qJ s rs with|some vs=>some (v::vs)|none=>none)
  |none=>none
def U.oh(own:Bool):U→Option U
 | .own (.c _ _) w xs=>none
 | .own _ w xs=>some (bif own then .own .r w xs else .sl w xs)
 | .nl w=>some (.sl w [])
 | .bad=>none
 | .dD .. =>none
 | .cA .. =>none
 | .xX .. =>none
 | .aP _=>none
 |v=>some v
def tn(own:Bool):List U→Option (List U)
 |[]=>some []
 |v::vs=>match v.oh own with
  |some u=>(match tn own vs with|some us=>some (u::us)|none=>none)
  |none=>none
def EP(n:Nat)(h:List Uo):List Uo:=h.take n++((h.drop n).dropLast.map fun _=>Uo.gone)++(h.drop n).getLast?.toList
def Cq(n:Nat)(fn:aA)(s:Vs):Option (U×List Uo×Nat):=
 match qJ s fn.results with
 |some [v]=>(match v.oh fn.own with
  |some r=>some (r,bif r.low n then cut n s.fl s.h else s.h,s.fl)
  |none=>none)
 |some vs=>(match tn false vs with
  |some us=>some (.aP us,bif U.bX n us then cut n s.fl s.h else bif fn.own then s.h else EP n s.h,s.fl)
  |none=>none)
 |none=>none
def su:List U→Nat→Env
 |[],_=>[]
 |v::vs,i=>(i,v)::su vs (i+1)
def qk(es:List (U×U×Nat))(since:Nat)(seen:List Nat):List (Option (U×U×Nat)):=
 let left:=es.filter fun e=> !seen.contains e.2.2;let old:=left.filter fun e=>Nat.blt e.2.2 since;let new:=left.filter fun e=>Nat.ble since e.2.2
 (bif old.isEmpty then[none]else[])++(old++new).map some
def Bp(s:Vs)(dst:Option Nat)(q j since:Nat)(seen:List Nat)(clock:Nat)(k:Vs→Prop):Option (U×U×Nat)→Prop
 |some e=>k {e:=jD dst (.aP [.bool true,e.1,e.2.1]) s.e,h:=s.h.set q (.iter (some j) since (seen++[e.2.2]) clock),fl:=s.fl}
 |none=>k {s with e:=jD dst (.aP [.bool false]) s.e}
def gz(s:Vs)(dst:Option Nat)(x:bB)(k:Vs→Prop):Prop:=
 match ck s.e x with
 |some (.ptr q 0)=>(match s.h[q]? with
  |some (.iter none _ _ _)=>k {s with e:=jD dst (.aP [.bool false]) s.e}
  |some (.iter (some j) since seen last)=>(match s.h[j]? with
   |some (.map es clock)=>(!seen.isEmpty&& !es.isEmpty&&es.all (fun e=>Nat.ble last e.2.2))=false∧∀ c∈qk es since seen,Bp s dst q j since seen clock k c
   |_=>False)
  |_=>False)
 |_=>False
open Classical in
noncomputable def pick{α:Type}(P:α→Prop):Option α:=if h:∃ x,P x then some h.choose else none
def kE(k:Nat)(fn:aA)(R:U×List Uo×Nat)(ex:Ex)(s:Vs):Prop:=
 match ex with
 | .exit _=>False
 |_=>Cq k fn s=some R
def kB(fn:aA)(id n:Nat)(K:Ex→Vs→Prop)(ex:Ex)(t:Vs):Prop:=
 match ex with
 | .normal=>K .normal (keep (fn.tail id) n t)
 | .exit i=>bif Nat.beq i id then K .normal (keep (fn.tail id) n t)else K (.exit i) t
 | .ret=>K .ret t
def iH(K:Ex→Vs→Prop):Option Vs→Prop
 |some s=>K .normal s
 |none=>False
section
variable(VF:Nat→Option aA)(M:eA)(Q:fq)(Pm:gU)
def k9(F:FU)(s:Vs)(K:Ex→Vs→Prop):List aH→Prop
 |⟨dst,.next x,none,_⟩::ops=>gz s dst x fun t=>iH K (gw M Q F ops t)
 |ops=>iH K (gw M Q F ops s)
def l8(F:FU)(s:Vs)(K:Ex→Vs→Prop):Option (List Step)→Prop
 |some l=>iH K (b7 M Q F l s [])
 |none=>False
mutual
noncomputable def vC:Nat→aA→ag→Vs→(Ex→Vs→Prop)→Prop
 |0,_,_,_,_=>False
 |n+1,fn,c,s,K=>
  match c with
  | .skip=>K .normal s
  | .region ops=>k9 M Q (vF n) s K ops
  | .draw ops=>l8 M Q (vF n) s K (sched (ops.length+1) (aC ops 0) 0)
  | .seq a b=>vC n fn a s fun ex s=>match ex with
   | .normal=>vC n fn b s K
   |ex=>K ex s
  | .cond x a b=>(match ck s.e x with
   |some (.bool true)=>vC n fn a s K
   |some (.bool false)=>vC n fn b s K
   |_=>False)
  | .block id (.loop b)=>vL n fn id b s.h.length (keep (fn.head id) s.h.length s) K
  | .block id b=>vC n fn b s (kB fn id s.h.length K)
  | .exit i=>K (.exit i) s
  | .ret=>K .ret s
  |_=>False
noncomputable def vL:Nat→aA→Nat→ag→Nat→Vs→(Ex→Vs→Prop)→Prop
 |0,_,_,_,_,_,_=>False
 |n+1,fn,id,b,m,s,K=>vC n fn b s fun ex t=>match ex with
  | .normal=>vL n fn id b m (keep (fn.head id) m t) K
  |ex=>kB fn id m K ex t
noncomputable def vF:Nat→FU
 |0,_,_,_,_=>none
 |n+1,f,args,h,fl=>(match Pm f with
  |some p=>p args h fl
  |none=>(match VF f with
   |none=>none
   |some fn=>bif Nat.ble args.length fn.ntmps then pick (fun R=>vC n fn fn.body ⟨su args 0,h,fl⟩ (kE h.length fn R))else none))
end
end
end Go.RE
namespace Go.RE
section
variable{C:Nat→Option dW}{M:eA}{F:Nat→List V→St→(V→St→Prop)→Prop}
end
end Go.RE
namespace Go.RE
section
variable{env:PT V}{s:St}
end
theorem zS{n:Nat}(h:n≤9223372036854775807):aD .i64 (n:Int)=(n:Int):=by
 show(bif Nat.ble n (HB .i64)then Int.ofNat n else IntKind.wrap .i64 (.ofNat n))=_;have:Nat.ble n (HB .i64)=true:=tD h;rw[this];rfl
theorem cj{n:Nat}(h:n<9223372036854775807):aD .i64 ((n:Int)+1)=((n+1:Nat):Int):=zS (n:=n+1) (by omega)
theorem wrap_add{a b:Nat}(h:a+b≤9223372036854775807):aD .i64 ((a:Int)+(b:Int))=((a+b:Nat):Int):=zS (n:=a+b) (by omega)
section
variable{k:IntKind}{a b:Int}
end
theorem Fs{l:List UInt8}:V.one (.str l)=true:=rfl
end Go.RE
namespace Go.RE
theorem Ew{w:Nat}:∀ {rows:List (List V)},(∀ r∈rows,r.length=w)→rows.flatten.length=rows.length*w∧∀ i (h:i<rows.length),(rows.flatten.drop (i*w)).take w=rows[i]:=by
 intro rows
 induction rows with
 |nil=>intro _;simp
 |cons r rs ih=>
  intro hw;obtain⟨h1,h2⟩:=ih (fun x hx=>hw x (ki _ hx));have hr:r.length=w:=hw r k7;refine⟨?_,fun i hi=> ?_⟩
  ·simp only[List.flatten_cons,oC,h1,hr,List.length_cons,Nat.succ_mul];omega
  ·cases i with
   |zero=>simp only[Nat.zero_mul,List.drop_zero,List.flatten_cons,List.getElem_cons_zero];rw[List.take_append_of_le_length (by omega),pI (by omega)]
   |succ i=>
    simp only[List.flatten_cons,List.getElem_cons_succ];have:(i+1)*w=r.length+i*w:=by rw[hr,Nat.succ_mul];omega
    rw[this,←List.drop_drop,List.drop_left];exact h2 i (by simpa using hi)
theorem oJ{s:St}{b off len cap w:Nat}{ex:Bool}{cs:List V}(h:s.row b=some cs)(hl:off+len*w≤cs.length):bx s w (.slice b off len cap w ex)=some ((cs.drop off).take (len*w)):=by
 simp only[bx,h,nX,tD hl,Bool.and_true,cond_true]
end Go.RE
namespace Go.RE
inductive UR(σ:Nat→Nat)(Z:Nat→Option (List V)):Nat→U→V→Prop
 |bool {n} (b:Bool):UR σ Z n (.bool b) (.bool b)
 |int {n} (k:IntKind) (x:Int):UR σ Z n (.int k x) (.int k x)
 |str {n} (s:List UInt8):UR σ Z n (.str s) (.str s)
 |aT {n}:UR σ Z n .aT .aT
 |bu {n}:UR σ Z n .bu .bu
 |bK {n}:UR σ Z n .bK .bK
 |cZ {n}:UR σ Z n .cZ .cZ
 |aK {n}:UR σ Z n .aK .aK
 |ptr {n i off} (h:i<n):UR σ Z n (.ptr i off) (.ptr (σ i) off)
 |map {n i} (h:i<n):UR σ Z n (.map i) (.map (σ i))
 |kn {n row off b o row'} (hz:Z b=some row') (hr:o+row.length≤row'.length)
   (hv:∀ (j:Nat) u v,row[j]? =some u→((row'.drop o).take row.length)[j]? =some v→UR σ Z 0 u v):UR σ Z n (.dI row off) (.ptr b (o+off))
 |kq {n row off o row'} (hr:o+row.length≤row'.length)
   (hv:∀ (j:Nat) u v,row[j]? =some u→((row'.drop o).take row.length)[j]? =some v→UR σ Z 0 u v):UR σ Z n (.dI row off) (.dI row' (o+off))
 |slnil {n w}:UR σ Z n (.sl w []) .bu
 |zW {n w}:UR σ Z n (.sl w []) .bQ
 |Ge {n w}:UR σ Z n (.nl w) .bu
 |Ho {n w}:UR σ Z n (.nl w) .bQ
 |Cs {n w xs b off len cap ex row'} (hn:len=xs.length) (hz:Z b=some row') (hl:∀ r∈xs,r.length=w) (hcap:len≤cap) (hr:off+xs.length*w≤row'.length)
   (hv:∀ (j:Nat) u v,xs.flatten[j]? =some u→((row'.drop off).take (xs.length*w))[j]? =some v→UR σ Z 0 u v):UR σ Z n (.sl w xs) (.slice b off len cap w ex)
 |Cn {n w xs off len row'} (hn:len=xs.length) (hl:∀ r∈xs,r.length=w) (hr:off+xs.length*w≤row'.length)
   (hv:∀ (j:Nat) u v,xs.flatten[j]? =some u→((row'.drop off).take (xs.length*w))[j]? =some v→UR σ Z 0 u v):UR σ Z n (.sl w xs) (.aj row' off len w)
 |func {n f a b a' b'} (ha:a.length=a'.length) (hb:b.length=b'.length)
   (va:∀ (j:Nat) u v,a[j]? =some u→a'[j]? =some v→UR σ Z n u v) (vb:∀ (j:Nat) u v,b[j]? =some u→b'[j]? =some v→UR σ Z n u v):UR σ Z n (.func f a b) (.func f a' b')
 |iface {n t u v} (h:UR σ Z n u v):UR σ Z n (.iface t u) (.iface t v)
 |agg {n a a'} (ha:a.length=a'.length) (va:∀ (j:Nat) u v,a[j]? =some u→a'[j]? =some v→UR σ Z n u v):UR σ Z n (.agg a) (.agg a')
 |aP {n a a'} (ha:a.length=a'.length) (va:∀ (j:Nat) u v,a[j]? =some u→a'[j]? =some v→UR σ Z n u v):UR σ Z n (.aP a) (.aP a')
def LU(σ:Nat→Nat)(Z:Nat→Option (List V))(n:Nat)(a:List U)(b:List V):Prop:=a.length=b.length∧∀ (j:Nat) u v,a[j]? =some u→b[j]? =some v→UR σ Z n u v
section
variable{σ σ' :Nat→Nat}{Z Z' :Nat→Option (List V)}{n m:Nat}
theorem UR.mono(hn:n≤m)(hσ:∀ i,i<n→σ' i=σ i)(hZ:∀ b r,Z b=some r→Z' b=some r){u:U}{v:V}(h:UR σ Z n u v):UR σ' Z' m u v:=by
 induction h generalizing m with
 |bool b=>exact .bool b
 |int k x=>exact .int k x
 |str s=>exact .str s
 |aT=>exact .aT
 |bu=>exact .bu
 |bK=>exact .bK
 |cZ=>exact .cZ
 |aK=>exact .aK
 |ptr h=>rw[←hσ _ h];exact .ptr (by omega)
 |map h=>rw[←hσ _ h];exact .map (by omega)
 |kn hz hr hv ih=>exact .kn (hZ _ _ hz) hr fun j u v h1 h2=>ih j u v h1 h2 (aM 0) (fun i hi=>by omega)
 |kq hr hv ih=>exact .kq hr fun j u v h1 h2=>ih j u v h1 h2 (aM 0) (fun i hi=>by omega)
 |slnil=>exact .slnil
 |zW=>exact .zW
 |Ge=>exact .Ge
 |Ho=>exact .Ho
 |Cs hq hz hl hc hr hv ih=>exact .Cs hq (hZ _ _ hz) hl hc hr fun j u v h1 h2=>ih j u v h1 h2 (aM 0) (fun i hi=>by omega)
 |Cn hq hl hr hv ih=>exact .Cn hq hl hr fun j u v h1 h2=>ih j u v h1 h2 (aM 0) (fun i hi=>by omega)
 |func ha hb va vb iha ihb=>exact .func ha hb (fun j u v h1 h2=>iha j u v h1 h2 hn hσ) (fun j u v h1 h2=>ihb j u v h1 h2 hn hσ)
 |iface h ih=>exact .iface (ih hn hσ)
 |agg ha va ih=>exact .agg ha fun j u v h1 h2=>ih j u v h1 h2 hn hσ
 |aP ha va ih=>exact .aP ha fun j u v h1 h2=>ih j u v h1 h2 hn hσ
theorem LU.mono(hn:n≤m)(hσ:∀ i,i<n→σ' i=σ i)(hZ:∀ b r,Z b=some r→Z' b=some r){a:List U}{b:List V}(h:LU σ Z n a b):LU σ' Z' m a b:=
 ⟨h.1,fun j u v h1 h2=>(h.2 j u v h1 h2).mono hn hσ hZ⟩
theorem LU.nil:LU σ Z n [] []:=⟨rfl,fun j u v h=>by simp at h⟩
theorem LU.cons{u:U}{v:V}{us:List U}{vs:List V}(h:UR σ Z n u v)(hs:LU σ Z n us vs):LU σ Z n (u::us) (v::vs):=
 ⟨by simp[hs.1],fun j a b h1 h2=>by
  cases j with
  |zero=>simp at h1 h2;subst h1;subst h2;exact h
  |succ j=>simp at h1 h2;exact hs.2 j a b h1 h2⟩
theorem LU.eF{vs:List V}(h:LU σ Z n [] vs):vs=[]:=pQ h.1.symm
theorem LU.cq{u:U}{us:List U}{vs:List V}(h:LU σ Z n (u::us) vs):∃ v vs',vs=v::vs'∧UR σ Z n u v∧LU σ Z n us vs' :=by
 cases vs with
 |nil=>have:=h.1;simp at this
 |cons v vs=>
  refine⟨v,vs,rfl,h.2 0 u v rfl rfl,?_,fun j a b h1 h2=>h.2 (j+1) a b (by simpa using h1) (by simpa using h2)⟩;have:=h.1;simpa using this
theorem LU.append{a c:List U}{b d:List V}(h:LU σ Z n a b)(hs:LU σ Z n c d):LU σ Z n (a++c) (b++d):=by
 induction a generalizing b with
 |nil=>rw[h.eF];exact hs
 |cons u us ih=>
  obtain⟨v,vs,rfl,h1,h2⟩:=h.cq;exact LU.cons h1 (ih h2)
theorem LU.take{a:List U}{b:List V}(k:Nat)(h:LU σ Z n a b):LU σ Z n (a.take k) (b.take k):=
 ⟨by simp[h.1],fun j u v h1 h2=>by
  rw[o3]at h1 h2;split at h1<;>simp_all;exact h.2 j u v h1 h2⟩
theorem LU.drop{a:List U}{b:List V}(k:Nat)(h:LU σ Z n a b):LU σ Z n (a.drop k) (b.drop k):=
 ⟨by simp[h.1],fun j u v h1 h2=>by
  rw[td]at h1 h2;exact h.2 _ u v h1 h2⟩
theorem LU.get{a:List U}{b:List V}(h:LU σ Z n a b){j:Nat}{u:U}(hu:a[j]? =some u):∃ v,b[j]? =some v∧UR σ Z n u v:=by
 obtain⟨hj,rfl⟩:=cz.1 hu;have hj' :j<b.length:=h.1▸hj;exact⟨b[j],dm hj',h.2 j _ _ hu (dm hj')⟩
theorem rP{m:Nat}:∀ {a:List U},U.bX m a=true→∀ (j:Nat) u,a[j]? =some u→u.low m=true:=by
 intro a
 induction a with
 |nil=>intro _ j u h;simp at h
 |cons x a ih=>
  intro h j u hu;simp only[U.bX,cm]at h;cases j with
  |zero=>simp at hu;subst hu;exact h.1
  |succ j=>exact ih h.2 j u (by simpa using hu)
theorem UR.low{u:U}{v:V}(h:UR σ Z n u v)(hl:u.low m=true):UR σ Z m u v:=by
 induction h generalizing m with
 |bool b=>exact .bool b
 |int k x=>exact .int k x
 |str s=>exact .str s
 |aT=>exact .aT
 |bu=>exact .bu
 |bK=>exact .bK
 |cZ=>exact .cZ
 |aK=>exact .aK
 |ptr h=>exact .ptr (by simpa[U.low]using hl)
 |map h=>exact .map (by simpa[U.low]using hl)
 |kn hz hr hv ih=>exact .kn hz hr hv
 |kq hr hv ih=>exact .kq hr hv
 |slnil=>exact .slnil
 |zW=>exact .zW
 |Ge=>exact .Ge
 |Ho=>exact .Ho
 |Cs hn hz hl' hc hr hv ih=>exact .Cs hn hz hl' hc hr hv
 |Cn hn hl' hr hv ih=>exact .Cn hn hl' hr hv
 |func ha hb va vb iha ihb=>
  simp only[U.low,cm]at hl;exact .func ha hb (fun j u v h1 h2=>iha j u v h1 h2 (rP hl.1 j u h1)) (fun j u v h1 h2=>ihb j u v h1 h2 (rP hl.2 j u h1))
 |iface h ih=>exact .iface (ih (by simpa[U.low]using hl))
 |agg ha va ih=>exact .agg ha fun j u v h1 h2=>ih j u v h1 h2 (rP (by simpa[U.low]using hl) j u h1)
 |aP ha va ih=>exact .aP ha fun j u v h1 h2=>ih j u v h1 h2 (rP (by simpa[U.low]using hl) j u h1)
theorem LU.low{a:List U}{b:List V}(h:LU σ Z n a b)(hl:U.bX m a=true):LU σ Z m a b:=
 ⟨h.1,fun j u v h1 h2=>(h.2 j u v h1 h2).low (rP hl j u h1)⟩
theorem nK{k:Nat}:∀ {a:List U} {j:Nat} {u:U},(U.fK k a)[j]? =some u→∃ x,a[j]? =some x∧u=x.shift k:=by
 intro a
 induction a with
 |nil=>intro j u h;simp[U.fK]at h
 |cons x a ih=>
  intro j u h;cases j with
  |zero=>simp[U.fK]at h;exact⟨x,rfl,h.symm⟩
  |succ j=>simp[U.fK]at h;simpa using ih h
theorem nJ{k:Nat}:∀ {a:List U},(U.fK k a).length=a.length:=by
 intro a
 induction a with
 |nil=>rfl
 |cons x a ih=>simp[U.fK,ih]
theorem UR.shift{k:Nat}(hσ:∀ i,i<n→σ' (i+k)=σ i)(hm:n+k≤m){u:U}{v:V}(h:UR σ Z n u v):UR σ' Z m (u.shift k) v:=by
 have h0:∀ {u v},UR σ Z 0 u v→UR σ' Z 0 u v:=fun h=>h.mono (aM 0) (fun i hi=>by omega) (fun _ _ h=>h)
 induction h generalizing m with
 |bool b=>exact .bool b
 |int k x=>exact .int k x
 |str s=>exact .str s
 |aT=>exact .aT
 |bu=>exact .bu
 |bK=>exact .bK
 |cZ=>exact .cZ
 |aK=>exact .aK
 |ptr h=>rw[←hσ _ h];exact .ptr (by omega)
 |map h=>rw[←hσ _ h];exact .map (by omega)
 |kn hz hr hv ih=>exact .kn hz hr fun j u v h1 h2=>h0 (hv j u v h1 h2)
 |kq hr hv ih=>exact .kq hr fun j u v h1 h2=>h0 (hv j u v h1 h2)
 |slnil=>exact .slnil
 |zW=>exact .zW
 |Ge=>exact .Ge
 |Ho=>exact .Ho
 |Cs hn hz hl' hc hr hv ih=>exact .Cs hn hz hl' hc hr fun j u v h1 h2=>h0 (hv j u v h1 h2)
 |Cn hn hl' hr hv ih=>exact .Cn hn hl' hr fun j u v h1 h2=>h0 (hv j u v h1 h2)
 |func ha hb va vb iha ihb=>
  refine .func (by rw[nJ];exact ha) (by rw[nJ];exact hb) (fun j u v h1 h2=> ?_) (fun j u v h1 h2=> ?_)
  ·obtain⟨x,hx,rfl⟩:=nK h1;exact iha j x v hx h2 hσ hm
  ·obtain⟨x,hx,rfl⟩:=nK h1;exact ihb j x v hx h2 hσ hm
 |iface h ih=>exact .iface (ih hσ hm)
 |agg ha va ih=>
  refine .agg (by rw[nJ];exact ha) fun j u v h1 h2=> ?_;obtain⟨x,hx,rfl⟩:=nK h1;exact ih j x v hx h2 hσ hm
 |aP ha va ih=>
  refine .aP (by rw[nJ];exact ha) fun j u v h1 h2=> ?_;obtain⟨x,hx,rfl⟩:=nK h1;exact ih j x v hx h2 hσ hm
theorem Qa:∀ {a b:List U},U.mQ a b=true→a.length=b.length∧∀ (j:Nat) x y,a[j]? =some x→b[j]? =some y→U.same x y=true:=by
 intro a
 induction a with
 |nil=>intro b h;cases b<;>simp[U.mQ]at h⊢
 |cons x a ih=>
  intro b h;cases b with
  |nil=>simp[U.mQ]at h
  |cons y b=>
   simp only[U.mQ,cm]at h;obtain⟨h1,h2⟩:=ih h.2;refine⟨by simp[h1],fun j p q hp hq=> ?_⟩;cases j with
   |zero=>simp at hp hq;subst hp;subst hq;exact h.1
   |succ j=>simp at hp hq;exact h2 j p q hp hq
theorem UR.same{u u' :U}{v v' :V}(h:UR σ Z n u v)(h' :UR σ Z n u' v')(hs:U.same u u' =true):v=v' :=by
 induction h generalizing u' v' with
 |bool b=>cases h' <;>simp_all [U.same]
 |int k x=>cases h' <;>simp_all [U.same]
 |str s=>cases h' <;>simp_all [U.same]
 |aT=>cases h' <;>simp_all [U.same]
 |bu=>cases h' <;>simp_all [U.same]
 |bK=>cases h' <;>simp_all [U.same]
 |cZ=>cases h' <;>simp_all [U.same]
 |aK=>cases h' <;>simp_all [U.same]
 |ptr h=>cases h' <;>simp_all [U.same]
 |map h=>cases h' <;>simp_all [U.same]
 |agg ha va ih=>
  cases h' <;>simp[U.same]at hs;rename_i a' b' hb vb;obtain⟨h1,h2⟩:=Qa hs;congr 1;apply List.ext_getElem?;intro j;rename_i p q;cases hx:p[j]? with
  |none=>
   have hl:=List.getElem?_eq_none_iff.1 hx;rw[List.getElem?_eq_none (by omega),List.getElem?_eq_none (by omega)]
  |some x=>
   obtain⟨hj,_⟩:=cz.1 hx;have e1:=dm (l:=q) (i:=j) (by omega);have e2:=dm (l:=a') (i:=j) (by omega);have e3:=dm (l:=b') (i:=j) (by omega);rw[e1,e3,ih j _ _ hx e1 (vb j _ _ e2 e3) (h2 j _ _ hx e2)]
 |_=>simp[U.same]at hs
end
end Go.RE
namespace Go.RE
structure G7 where
 b:Nat
 off:Nat
 cap:Nat
 ex:Bool
 w:Nat
 row:List V
 xs:List (List U)
abbrev Sg:=Nat→Nat
abbrev Zs:=Nat→Option (List V)
abbrev Om:=Tg→Option G7
def OR(σ:Sg)(Z:Zs)(ω:Om)(g:Tg)(w:Nat)(xs:List (List U))(v:V):Prop:=
 match ω g with
 |none=>xs=[]∧(v=.bu∨v=.bQ)
 |some I=>v=.slice I.b I.off xs.length I.cap w I.ex∧(I.w=w∧I.xs=xs)∧xs.length≤I.cap∧I.off+I.cap*w≤I.row.length∧(∀ r∈xs,r.length=w)∧LU σ Z 0 xs.flatten ((I.row.drop I.off).take (xs.length*w))
def TR(σ:Sg)(Z:Zs)(ω:Om)(n:Nat):U→V→Prop
 | .bad,_=>True
 | .dD ..,_=>True
 | .own g w xs,v=>OR σ Z ω g w xs v∧∀ i off,g=.c i off→i<n
 | .cA g i f,v=>(∃ I,ω g=some I∧v=.ptr I.b (I.off+i*I.w+f))∧∀ i off,g=.c i off→i<n
 | .xX i off len w,v=>i<n∧∃ cap,len≤cap∧v=.slice (σ i) off len cap w true
 |u,v=>UR σ Z n u v
def CR(σ:Sg)(Z:Zs)(ω:Om)(n i off:Nat):U→V→Prop
 | .bad,_=>True
 | .dD w xs,v=>OR σ Z ω (.c i off) w xs v
 |u,v=>UR σ Z n u v
def OB(σ:Sg)(Z:Zs)(ω:Om)(n i:Nat):Uo→Option Ob→Prop
 | .row cs,ob=>∃ cs',ob=some (.row cs')∧cs.length=cs'.length∧∀ (off:Nat) u v,cs[off]? =some u→cs'[off]? =some v→CR σ Z ω n i off u v
 | .map es c,ob=>∃ es',ob=some (.map es' c)∧es.length=es'.length∧∀ (j:Nat) e e',es[j]? =some e→es'[j]? =some e'→UR σ Z n e.1 e'.key∧UR σ Z n e.2.1 e'.val∧e'.born=e.2.2
 | .iter m a b c,ob=>ob=some (.fS (m.map σ) a b c)∧∀ j,m=some j→j<n
 | .gone,_=>True
structure vK where
 n:Nat
 σ:Sg
 I:Nat→Prop
 Z:Zs
 st:St
 G:Nat→Prop -- what lies hidden
structure Ok(E:vK)(σ:Sg)(Z:Zs)(ω:Om)(s:Vs)(e:PT V)(st:St):Prop where
 env:∀ t u,look s.e t=some u→∃ v,e.get t=some v∧TR σ Z ω s.h.length u v
 obj:∀ (i:Nat) o,s.h[i]? =some o→OB σ Z ω s.h.length i o (st.get (σ i))
 tL:∀ b r,Z b=some r→st.get b=some (.row r)
 pW:∀ g I,ω g=some I→st.get I.b=some (.row I.row)
 fresh:∀ b,st.next≤b→st.get b=none
 inj:∀ i j,i<s.h.length→j<s.h.length→σ i=σ j→i=j
 jA:∀ g g' I I',ω g=some I→ω g' =some I'→I.b=I'.b→g=g'
 sw:∀ i g I,i<s.h.length→ω g=some I→σ i≠I.b
 sz:∀ i,i<s.h.length→Z (σ i)=none
 wz:∀ g I,ω g=some I→Z I.b=none
 sb:∀ i,i<s.h.length→σ i<st.next
 wr:ω .r=none
 wc:∀ i off I,ω (.c i off)=some I→i<s.h.length
 n0:E.n≤s.h.length
 sig:∀ i,i<E.n→σ i=E.σ i
 zz:∀ b r,E.Z b=some r→Z b=some r
 nx:E.st.next≤st.next
 out:∀ b,b<E.st.next→¬E.I b→st.get b=E.st.get b∧(∀ i,i<s.h.length→σ i≠b)∧(∀ g I,ω g=some I→I.b≠b)∧(∀ r,Z b=some r→E.Z b=some r)
 gn:∀ (i:Nat),E.G i→i<E.n∧s.h[i]? =some .gone∧st.get (σ i)=E.st.get (E.σ i)
def U.tag:U→Option Tg
 | .own g _ _=>some g
 | .cA g _ _=>some g
 |_=>none
section
variable{E:vK}{σ σ' :Sg}{Z Z' :Zs}{ω ω' :Om}{s:Vs}{e:PT V}{st:St}{n m:Nat}
theorem OR.mono(hZ:∀ b r,Z b=some r→Z' b=some r){g:Tg}(hg:ω' g=ω g){w:Nat}{xs:List (List U)}{v:V}(h:OR σ Z ω g w xs v):OR σ' Z' ω' g w xs v:=by
 unfold OR at h⊢;rw[hg];split at h
 ·exact h
 ·exact⟨h.1,h.2.1,h.2.2.1,h.2.2.2.1,h.2.2.2.2.1,h.2.2.2.2.2.mono (aM 0) (fun i hi=>by omega) hZ⟩
theorem TR.mono(hn:n≤m)(hσ:∀ i,i<n→σ' i=σ i)(hZ:∀ b r,Z b=some r→Z' b=some r){u:U}{v:V}(hg:∀ g,u.tag=some g→ω' g=ω g)(h:TR σ Z ω n u v):TR σ' Z' ω' m u v:=by
 cases u with
 |bad=>trivial
 |dD _ _=>trivial
 |own g w xs=>exact⟨h.1.mono hZ (hg g rfl),fun i off e=>by have:=h.2 i off e;omega⟩
 |cA g i f=>obtain⟨⟨I,h1,h2⟩,h3⟩:=h;exact⟨⟨I,by rw[hg g rfl];exact h1,h2⟩,fun i off e=>by have:=h3 i off e;omega⟩
 |xX i off len w=>obtain⟨h1,cap,h2,h3⟩:=h;exact⟨by omega,cap,h2,by rw[hσ i h1];exact h3⟩
 |_=>exact UR.mono hn hσ hZ h
theorem CR.mono(hn:n≤m)(hσ:∀ i,i<n→σ' i=σ i)(hZ:∀ b r,Z b=some r→Z' b=some r){i off:Nat}(hg:ω' (.c i off)=ω (.c i off)){u:U}{v:V}(h:CR σ Z ω n i off u v):CR σ' Z' ω' m i off u v:=by
 cases u with
 |bad=>trivial
 |dD w xs=>exact OR.mono hZ hg h
 |_=>exact UR.mono hn hσ hZ h
theorem OB.mono(hn:n≤m)(hσ:∀ i,i<n→σ' i=σ i)(hZ:∀ b r,Z b=some r→Z' b=some r){i:Nat}(hg:∀ off,ω' (.c i off)=ω (.c i off)){o:Uo}{ob:Option Ob}(h:OB σ Z ω n i o ob):OB σ' Z' ω' m i o ob:=by
 cases o with
 |row cs=>obtain⟨cs',h1,h2,h3⟩:=h;exact⟨cs',h1,h2,fun off u v a b=>(h3 off u v a b).mono hn hσ hZ (hg off)⟩
 |map es c=>obtain⟨es',h1,h2,h3⟩:=h;exact⟨es',h1,h2,fun j x y a b=>⟨(h3 j x y a b).1.mono hn hσ hZ,(h3 j x y a b).2.1.mono hn hσ hZ,(h3 j x y a b).2.2⟩⟩
 |iter q a b c=>
  obtain⟨h1,h2⟩:=h;refine⟨?_,fun j hj=>by have:=h2 j hj;omega⟩;rw[h1];cases q with
  |none=>rfl
  |some j=>simp only[Option.map_some,hσ j (h2 j rfl)]
 |gone=>trivial
theorem TR.bz{u:U}{v:V}(h:UR σ Z n u v):TR σ Z ω n u v:=by
 cases h<;>first|exact UR.bool _|exact UR.int _ _|exact UR.str _|exact UR.aT|exact UR.bu|exact UR.bK|exact UR.cZ|exact UR.aK|exact UR.ptr ‹_› |exact UR.map ‹_› |
  exact UR.kn ‹_› ‹_› ‹_› |exact UR.kq ‹_› ‹_› |exact UR.slnil|exact UR.zW|exact UR.Ge|exact UR.Ho|exact UR.Cs ‹_› ‹_› ‹_› ‹_› ‹_› ‹_› |exact UR.Cn ‹_› ‹_› ‹_› ‹_› |exact UR.func ‹_› ‹_› ‹_› ‹_› |exact UR.iface ‹_› |exact UR.agg ‹_› ‹_› |exact UR.aP ‹_› ‹_›
theorem CR.bz{i off:Nat}{u:U}{v:V}(h:UR σ Z n u v):CR σ Z ω n i off u v:=by
 cases h<;>first|exact UR.bool _|exact UR.int _ _|exact UR.str _|exact UR.aT|exact UR.bu|exact UR.bK|exact UR.cZ|exact UR.aK|exact UR.ptr ‹_› |exact UR.map ‹_› |
  exact UR.kn ‹_› ‹_› ‹_› |exact UR.kq ‹_› ‹_› |exact UR.slnil|exact UR.zW|exact UR.Ge|exact UR.Ho|exact UR.Cs ‹_› ‹_› ‹_› ‹_› ‹_› ‹_› |exact UR.Cn ‹_› ‹_› ‹_› ‹_› |exact UR.func ‹_› ‹_› ‹_› ‹_› |exact UR.iface ‹_› |exact UR.agg ‹_› ‹_› |exact UR.aP ‹_› ‹_›
def pU(g:Tg)(s:Vs):Prop:=(∀ t u,look s.e t=some u→u.tag≠some g)∧∀ (i off:Nat),g=.c i off→∀ cs w xs,s.h[i]? =some (.row cs)→cs[off]?≠some (.dD w xs)
def dM{α β:Type}[DecidableEq α](f:α→β)(a:α)(b:β):α→β:=fun x=>if x=a then b else f x
theorem bw{α β:Type}[DecidableEq α](f:α→β)(a:α)(b:β):dM f a b a=b:=by simp[dM]
theorem dF{α β:Type}[DecidableEq α](f:α→β){a x:α}(b:β)(h:x≠a):dM f a b x=f x:=by simp[dM,h]
theorem ru(f:U→U)(F:Env→Env)(h0:F []=[])(h1:∀ k v r,F ((k,v)::r)=(k,f v)::F r):∀ (e:Env) (t:Nat),look (F e) t=(look e t).map f:=by
 intro e
 induction e with
 |nil=>intro t;rw[h0];rfl
 |cons x r ih=>
  intro t;obtain⟨k,v⟩:=x;rw[h1];simp only[look];cases Nat.beq k t<;>simp[ih]
theorem lW(g:Tg)(e:Env)(t:Nat):look (Env.kill g e) t=(look e t).map (U.kill g):=ru _ _ rfl (fun _ _ _=>rfl) e t
theorem Im(g:Tg)(e:Env)(t:Nat):look (Env.oB g e) t=(look e t).map (U.oB g):=ru _ _ rfl (fun _ _ _=>rfl) e t
theorem Al(g g2:Tg)(e:Env)(t:Nat):look (Env.jH g g2 e) t=(look e t).map (U.jH g g2):=ru _ _ rfl (fun _ _ _=>rfl) e t
theorem Bm(g:Tg)(ys:List (List U))(e:Env)(t:Nat):look (Env.mz g ys e) t=(look e t).map (U.mz g ys):=ru _ _ rfl (fun _ _ _=>rfl) e t
theorem rL(p:Tg→Bool)(e:Env)(t:Nat):look (Env.cy p e) t=(look e t).map (U.cy p):=ru _ _ rfl (fun _ _ _=>rfl) e t
theorem TI(d:Nat)(u:U)(e:Env)(t:Nat):look (jD (some d) u e) t=if t=d then some u else look e t:=by
 simp only[jD,look];by_cases h:t=d
 ·subst h;simp
 ·have:Nat.beq d t=false:=by cases hb:Nat.beq d t with|false=>rfl|true=>exact absurd (bS hb).symm h
  simp[this,h]
theorem nH{g:Tg}{u u' :U}(h:u.kill g=u'):u'.tag≠some g∧(u' =u∨u' =.bad):=by
 subst h;cases u with
 |own g' w xs=>by_cases hg:g' =g<;>simp[U.kill,U.tag,hg]
 |cA g' i f=>by_cases hg:g' =g<;>simp[U.kill,U.tag,hg]
 |_=>simp[U.kill,U.tag]
theorem Ok.setEnv(h:Ok E σ Z ω s e st){E' :Env}{e2:PT V}(he:∀ t u,look E' t=some u→∃ v,e2.get t=some v∧TR σ Z ω s.h.length u v):Ok E σ Z ω {s with e:=E'} e2 st:=
 ⟨he,h.obj,h.tL,h.pW,h.fresh,h.inj,h.jA,h.sw,h.sz,h.wz,h.sb,h.wr,h.wc,h.n0,h.sig,h.zz,h.nx,h.out,h.gn⟩
theorem Ok.NB(h:Ok E σ Z ω s e st)(k:Nat):Ok E σ Z ω {s with fl:=k} e st:=
 ⟨h.env,h.obj,h.tL,h.pW,h.fresh,h.inj,h.jA,h.sw,h.sz,h.wz,h.sb,h.wr,h.wc,h.n0,h.sig,h.zz,h.nx,h.out,h.gn⟩
theorem Ok.put(h:Ok E σ Z ω s e st){dst:Option Nat}{u:U}{v:V}(hv:TR σ Z ω s.h.length u v):Ok E σ Z ω {s with e:=jD dst u s.e} (fB dst v e) st:=by
 refine h.setEnv fun t x hx=> ?_;cases dst with
 |none=>exact h.env t x hx
 |some d=>
  rw[TI]at hx;simp only[fB,PT.iW];by_cases ht:t=d
  ·rw[if_pos ht]at hx⊢;simp at hx;subst hx;exact⟨v,rfl,hv⟩
  ·rw[if_neg ht]at hx⊢;exact h.env t x hx
theorem Ok.qa8(h:Ok E σ Z ω s e st)(g:Tg):Ok E σ Z ω {s with e:=Env.kill g s.e} e st:=by
 refine h.setEnv fun t x hx=> ?_;rw[lW]at hx;cases hl:look s.e t with
 |none=>rw[hl]at hx;simp at hx
 |some u=>
  rw[hl]at hx;simp at hx;obtain⟨v,h1,h2⟩:=h.env t u hl;rcases(nH hx).2 with rfl|rfl
  ·exact⟨v,h1,h2⟩
  ·exact⟨v,h1,trivial⟩
theorem Ok.cy(h:Ok E σ Z ω s e st)(p:Tg→Bool):Ok E σ Z ω {s with e:=Env.cy p s.e} e st:=by
 refine h.setEnv fun t x hx=> ?_;rw[rL]at hx;cases hl:look s.e t with
 |none=>rw[hl]at hx;simp at hx
 |some u=>
  rw[hl]at hx;simp at hx;obtain⟨v,h1,h2⟩:=h.env t u hl;refine⟨v,h1,?_⟩;subst hx;cases u<;>try exact h2
  all_goals
   simp only[U.cy];rename_i g _ _;cases p g<;>first|exact h2|trivial
theorem Ok.setRow(h:Ok E σ Z ω s e st){i:Nat}{cs' :List U}{cs:List U}(hi:s.h[i]? =some (.row cs))(hlen:cs'.length=cs.length)
  (hc:∀ (off:Nat) u u' v,cs[off]? =some u→cs'[off]? =some u'→CR σ Z ω s.h.length i off u v→CR σ Z ω s.h.length i off u' v):Ok E σ Z ω {s with h:=s.h.set i (.row cs')} e st:=by
 have hl:(s.h.set i (.row cs')).length=s.h.length:=List.length_set;have hlt:i<s.h.length:=(cz.1 hi).1;have hgn:∀ j,E.G j→j<E.n∧(s.h.set i (.row cs'))[j]? =some .gone∧st.get (σ j)=E.st.get (E.σ j):=fun j hj=>by
  obtain⟨q1,q2,q3⟩:=h.gn j hj;exact⟨q1,by rw[gZ,if_neg (by rintro rfl;rw[hi]at q2;cases q2)];exact q2,q3⟩
 refine⟨fun t u hu=>by rw[hl];exact h.env t u hu,fun j o ho=> ?_,h.tL,h.pW,h.fresh,by rw[hl];exact h.inj,h.jA,by rw[hl];exact h.sw,by rw[hl];exact h.sz,h.wz,by rw[hl];exact h.sb,h.wr,by rw[hl];exact h.wc,by rw[hl];exact h.n0,h.sig,h.zz,h.nx,by rw[hl];exact h.out,hgn⟩;rw[hl];rw[gZ]at ho;by_cases hj:i=j
 ·subst hj;rw[if_pos rfl,if_pos hlt]at ho;simp at ho;subst ho;obtain⟨ds,h1,h2,h3⟩:=h.obj i _ hi;refine⟨ds,h1,by omega,fun off u v hu hv=> ?_⟩;obtain⟨ho1,ho2⟩:=cz.1 hu;have hx:=dm (l:=cs) (i:=off) (by omega);exact hc off _ u v hx hu (h3 off _ v hx hv)
 ·rw[if_neg hj]at ho;exact h.obj j o ho
theorem Ok.JD(h:Ok E σ Z ω s e st)(i off:Nat):Ok E σ Z ω {s with h:=setCell s.h i off .bad} e st:=by
 unfold setCell;split
 ·rename_i cs hi;refine h.setRow hi (by simp) fun o u u' v h1 h2 h3=> ?_;rw[gZ]at h2;split at h2
  ·split at h2<;>simp at h2;subst h2;trivial
  ·rw[h1]at h2;simp at h2;subst h2;exact h3
 ·exact h
theorem Ok.kill(h:Ok E σ Z ω s e st)(g:Tg):Ok E σ Z ω (s.kill g) e st:=by
 unfold Vs.kill;split
 ·exact(h.qa8 _).JD _ _
 ·exact h.qa8 _
theorem Gk{h:List Uo}{i off:Nat}{v:U}{cs:List U}(hc:(setCell h i off v)[i]? =some (.row cs))(hlt:off<cs.length):cs[off]? =some v:=by
 unfold setCell at hc;split at hc
 ·rename_i ds hi;rw[gZ,if_pos rfl,if_pos (cz.1 hi).1]at hc;simp at hc;subst hc;rw[List.length_set]at hlt;rw[gZ,if_pos rfl,if_pos hlt]
 ·rename_i hno;exact absurd hc (hno _)
theorem oI(g:Tg)(s:Vs):∀ t u,look (Env.kill g s.e) t=some u→u.tag≠some g:=by
 intro t u hu;rw[lW]at hu;cases hl:look s.e t with
 |none=>rw[hl]at hu;simp at hu
 |some x=>rw[hl]at hu;simp at hu;exact(nH hu).1
theorem fJ(g:Tg)(s:Vs):pU g (s.kill g):=by
 unfold Vs.kill;split
 ·rename_i i off;refine⟨oI _ s,fun i' off' he cs w xs hc hx=> ?_⟩;cases he;obtain⟨hlt,_⟩:=cz.1 hx;rw[Gk hc hlt]at hx;cases hx
 ·rename_i hno;exact⟨oI _ s,fun i off he=>absurd he (hno i off)⟩
theorem pU.kill{g g' :Tg}{s:Vs}(h:pU g s):pU g (s.kill g'):=by
 have h1:∀ t u,look (Env.kill g' s.e) t=some u→u.tag≠some g:=fun t u hu=>by
  rw[lW]at hu;cases hl:look s.e t with
  |none=>rw[hl]at hu;simp at hu
  |some x=>
   rw[hl]at hu;simp at hu;rcases(nH hu).2 with rfl|rfl
   ·exact h.1 t _ hl
   ·simp[U.tag]
 unfold Vs.kill;split
 ·rename_i i off;refine⟨h1,fun i' off' he cs w xs hc hx=> ?_⟩;simp only at hc;unfold setCell at hc;split at hc
  ·rename_i ds hi;rw[gZ]at hc;split at hc
   ·rename_i hii;subst hii;split at hc<;>simp at hc;subst hc;rw[gZ]at hx;split at hx
    ·split at hx<;>simp at hx
    ·exact h.2 i off' he ds w xs hi hx
   ·exact h.2 i' off' he cs w xs hc hx
  ·exact h.2 i' off' he cs w xs hc hx
 ·exact⟨h1,h.2⟩
theorem Ok.Ch(h:Ok E σ Z ω s e st){g:Tg}(hn:pU g s){o:Option G7}(hr:g≠.r)
  (ho:∀ I,o=some I→st.get I.b=some (.row I.row)∧(∀ i,i<s.h.length→σ i≠I.b)∧Z I.b=none∧(∀ g' I',g'≠g→ω g' =some I'→I'.b≠I.b)∧(∀ b,b<E.st.next→¬E.I b→I.b≠b)∧∀ i off,g=.c i off→i<s.h.length):
  Ok E σ Z (dM ω g o) s e st:=by
 have hne:∀ g',g'≠g→dM ω g o g' =ω g' :=fun g' hg=>dF ω o hg;have hsame:dM ω g o g=o:=bw ω g o;have hcase:∀ g' I,dM ω g o g' =some I→(g' =g∧o=some I)∨(g'≠g∧ω g' =some I):=fun g' I hI=>by
  by_cases hg:g' =g
  ·subst hg;rw[hsame]at hI;exact .inl ⟨rfl,hI⟩
  ·rw[hne g' hg]at hI;exact .inr ⟨hg,hI⟩
 refine⟨fun t u hu=> ?_,fun i ob hob=> ?_,h.tL,fun g' I hI=> ?_,h.fresh,h.inj,fun g1 g2 I1 I2 h1 h2 hb=> ?_,fun i g' I hi hI=> ?_,h.sz,fun g' I hI=> ?_,h.sb,?_,fun i off I hI=> ?_,h.n0,h.sig,h.zz,h.nx,fun b hb hbI=> ?_,h.gn⟩
 ·obtain⟨v,h1,h2⟩:=h.env t u hu;exact⟨v,h1,h2.mono (aM _) (fun _ _=>rfl) (fun _ _ h=>h) fun g' hg' =>hne g' fun hh=>hn.1 t u hu (hh▸hg')⟩
 ·have h1:=h.obj i ob hob;cases ob with
  |row cs=>
   obtain⟨cs',q1,q2,q3⟩:=h1;refine⟨cs',q1,q2,fun off u v hu hv=> ?_⟩;have h2:=q3 off u v hu hv;cases u with
   |dD w xs=>
    refine OR.mono (fun _ _ h=>h) (hne _ fun hh=> ?_) h2;exact hn.2 i off hh.symm cs w xs hob hu
   |bad=>trivial
   |_=>exact h2
  |map es c=>exact h1
  |iter q a b c=>exact h1
  |gone=>trivial
 ·rcases hcase g' I hI with⟨_,hh⟩|⟨_,hh⟩
  ·exact(ho I hh).1
  ·exact h.pW g' I hh
 ·rcases hcase g1 I1 h1 with⟨e1,k1⟩|⟨e1,k1⟩<;>rcases hcase g2 I2 h2 with⟨e2,k2⟩|⟨e2,k2⟩
  ·rw[e1,e2]
  ·exact absurd hb.symm ((ho I1 k1).2.2.2.1 g2 I2 e2 k2)
  ·exact absurd hb ((ho I2 k2).2.2.2.1 g1 I1 e1 k1)
  ·exact h.jA g1 g2 I1 I2 k1 k2 hb
 ·rcases hcase g' I hI with⟨_,hh⟩|⟨_,hh⟩
  ·exact(ho I hh).2.1 i hi
  ·exact h.sw i g' I hi hh
 ·rcases hcase g' I hI with⟨_,hh⟩|⟨_,hh⟩
  ·exact(ho I hh).2.2.1
  ·exact h.wz g' I hh
 ·rw[hne _ (Ne.symm hr)];exact h.wr
 ·rcases hcase _ I hI with⟨hg,hh⟩|⟨_,hh⟩
  ·exact(ho I hh).2.2.2.2.2 i off hg.symm
  ·exact h.wc i off I hh
 ·obtain⟨k1,k2,k3,k4⟩:=h.out b hb hbI;refine⟨k1,k2,fun g' I hI=> ?_,k4⟩;rcases hcase g' I hI with⟨_,hh⟩|⟨_,hh⟩
  ·exact(ho I hh).2.2.2.2.1 b hb hbI
  ·exact k3 g' I hh
theorem Mw{g:Tg}{u u' :U}(h:u.oB g=u'):u'.tag≠some g∧(u' =u∨u' =.bad∨∃ w xs,u=.own g w xs∧u' =.sl w xs):=by
 subst h;cases u with
 |own g' w xs=>by_cases hg:g' =g<;>simp[U.oB,U.tag,hg]
 |cA g' i f=>by_cases hg:g' =g<;>simp[U.oB,U.tag,hg]
 |_=>simp[U.oB,U.tag]
theorem OR.sl{g:Tg}{w:Nat}{xs:List (List U)}{v:V}(h:OR σ Z ω g w xs v)(hZ:∀ b r,Z b=some r→Z' b=some r)(hI:∀ I,ω g=some I→Z' I.b=some I.row):UR σ Z' n (.sl w xs) v:=by
 unfold OR at h;split at h
 ·obtain⟨rfl,rfl|rfl⟩:=h
  ·exact .slnil
  ·exact .zW
 ·rename_i I hg;obtain⟨rfl,h0,h1,h2,h3,h4⟩:=h;have hle:xs.length*w≤I.cap*w:=o7 _ h1;have h4' :=h4.mono (aM 0) (σ' :=σ) (fun i hi=>rfl) hZ;exact .Cs rfl (hI I hg) h3 h1 (by omega) fun j u v a b=>h4'.2 j u v a b
theorem Ok.oB(h:Ok E σ Z ω s e st)(g:Tg):∃ Z' ω',Ok E σ Z' ω' (s.oB g) e st∧(∀ b r,Z b=some r→Z' b=some r)∧(∀ g',g'≠g→ω' g' =ω g')∧pU g (s.oB g)∧(∀ I,ω g=some I→Z' I.b=some I.row)∧(s.oB g).h.length=s.h.length:=by
 -- what is told of the cells
 have key:∀ (s1:Vs),s1.h.length=s.h.length→(∀ (i:Nat),s.h[i]? =some Uo.gone→s1.h[i]? =some Uo.gone)→pU g s1→
   (∀ (Z' :Zs),(∀ b r,Z b=some r→Z' b=some r)→(∀ I,ω g=some I→Z' I.b=some I.row)→∀ (ω' :Om),(∀ g',g'≠g→ω' g' =ω g')→
    (∀ t u,look s1.e t=some u→∃ v,e.get t=some v∧TR σ Z' ω' s.h.length u v)∧∀ (i:Nat) o,s1.h[i]? =some o→OB σ Z' ω' s.h.length i o (st.get (σ i)))→
   ∃ Z' ω',Ok E σ Z' ω' s1 e st∧(∀ b r,Z b=some r→Z' b=some r)∧(∀ g',g'≠g→ω' g' =ω g')∧pU g s1∧(∀ I,ω g=some I→Z' I.b=some I.row)∧s1.h.length=s.h.length:=by
  intro s1 hl hgo hnt hk;have hgn:∀ j,E.G j→j<E.n∧s1.h[j]? =some .gone∧st.get (σ j)=E.st.get (E.σ j):=fun j hj=>⟨(h.gn j hj).1,hgo j (h.gn j hj).2.1,(h.gn j hj).2.2⟩;cases hg:ω g with
  |none=>
   obtain⟨k1,k2⟩:=hk Z (fun _ _ h=>h) (fun I hI=>by rw[hg]at hI;cases hI) ω (fun _ _=>rfl);refine⟨Z,ω,⟨by rw[hl];exact k1,by rw[hl];exact k2,h.tL,h.pW,h.fresh,by rw[hl];exact h.inj,h.jA,by rw[hl];exact h.sw,by rw[hl];exact h.sz,h.wz,by rw[hl];exact h.sb,h.wr,by rw[hl];exact h.wc,by rw[hl];exact h.n0,h.sig,h.zz,h.nx,by rw[hl];exact h.out,hgn⟩,fun _ _ h=>h,fun _ _=>rfl,hnt,(fun I hI=>by cases hI),hl⟩
  |some I=>
   have hZn:Z I.b=none:=h.wz g I hg;have hZ:∀ b r,Z b=some r→dM Z I.b (some I.row) b=some r:=fun b r hb=>by
    rw[dF];exact hb;intro hh;subst hh;rw[hZn]at hb;cases hb
   have hω:∀ g',g'≠g→dM ω g none g' =ω g' :=fun g' hh=>dF _ _ hh;have hzc:∀ b r,dM Z I.b (some I.row) b=some r→(b=I.b∧r=I.row)∨Z b=some r:=fun b r hb=>by
    by_cases hbb:b=I.b
    ·subst hbb;rw[bw]at hb;simp at hb;exact .inl ⟨rfl,hb.symm⟩
    ·rw[dF _ _ hbb]at hb;exact .inr hb
   have hwc:∀ g' J,dM ω g none g' =some J→g'≠g∧ω g' =some J:=fun g' J hJ=>by
    by_cases hgg:g' =g
    ·subst hgg;rw[bw]at hJ;cases hJ
    ·rw[dF _ _ hgg]at hJ;exact⟨hgg,hJ⟩
   have hIn:∀ J,some I=some J→dM Z I.b (some I.row) J.b=some J.row:=fun J hJ=>by cases hJ;exact bw _ _ _
   obtain⟨k1,k2⟩:=hk (dM Z I.b (some I.row)) hZ (fun J hJ=>hIn J (hg▸hJ)) (dM ω g none) hω;refine⟨_,_,⟨by rw[hl];exact k1,by rw[hl];exact k2,fun b r hb=> ?_,fun g' J hJ=>h.pW g' J (hwc g' J hJ).2,h.fresh,by rw[hl];exact h.inj,fun g1 g2 J1 J2 h1 h2=>h.jA g1 g2 J1 J2 (hwc _ _ h1).2 (hwc _ _ h2).2,fun i g' J hi hJ=>h.sw i g' J (by omega) (hwc _ _ hJ).2,fun i hi=> ?_,fun g' J hJ=> ?_,by rw[hl];exact h.sb,?_,fun i off J hJ=>by rw[hl];exact h.wc i off J (hwc _ _ hJ).2,by rw[hl];exact h.n0,h.sig,fun b r hb=>hZ b r (h.zz b r hb),h.nx,fun b hb hbI=> ?_,hgn⟩,hZ,hω,hnt,hIn,hl⟩
   ·rcases hzc b r hb with⟨rfl,rfl⟩|hb
    ·exact h.pW g I hg
    ·exact h.tL b r hb
   ·rw[dF _ _ (h.sw i g I (by omega) hg)];exact h.sz i (by omega)
   ·obtain⟨j1,j2⟩:=hwc g' J hJ;rw[dF];exact h.wz g' J j2;intro hh;exact j1 (h.jA g' g J I j2 hg hh)
   ·by_cases hgr:Tg.r=g
    ·subst hgr;exact bw _ _ _
    ·rw[dF _ _ hgr];exact h.wr
   ·obtain⟨q1,q2,q3,q4⟩:=h.out b hb hbI;refine⟨q1,by rw[hl];exact q2,fun g' J hJ=>q3 g' J (hwc _ _ hJ).2,fun r hr=> ?_⟩;rcases hzc b r hr with⟨rfl,_⟩|hr
    ·exact absurd rfl (q3 g I hg)
    ·exact q4 r hr
 -- the temporaries
 have henv:∀ (Z' :Zs),(∀ b r,Z b=some r→Z' b=some r)→(∀ I,ω g=some I→Z' I.b=some I.row)→∀ (ω' :Om),(∀ g',g'≠g→ω' g' =ω g')→
   ∀ t u,look (Env.oB g s.e) t=some u→∃ v,e.get t=some v∧TR σ Z' ω' s.h.length u v:=by
  intro Z' hZ hI ω' hω t u hu;rw[Im]at hu;cases hl:look s.e t with
  |none=>rw[hl]at hu;simp at hu
  |some x=>
   rw[hl]at hu;simp at hu;obtain⟨v,h1,h2⟩:=h.env t x hl;refine⟨v,h1,?_⟩;obtain⟨f1,f2⟩:=Mw hu;rcases f2 with rfl|rfl|⟨w,xs,rfl,rfl⟩
   ·exact h2.mono (aM _) (fun _ _=>rfl) hZ fun g' hg' =>hω g' fun hh=>f1 (hh▸hg')
   ·trivial
   ·exact TR.bz (h2.1.sl hZ hI)
 have henvk:∀ (Z' :Zs),(∀ b r,Z b=some r→Z' b=some r)→∀ (ω' :Om),(∀ g',g'≠g→ω' g' =ω g')→
   ∀ t u,look (Env.kill g s.e) t=some u→∃ v,e.get t=some v∧TR σ Z' ω' s.h.length u v:=by
  intro Z' hZ ω' hω t u hu;rw[lW]at hu;cases hl:look s.e t with
  |none=>rw[hl]at hu;simp at hu
  |some x=>
   rw[hl]at hu;simp at hu;obtain⟨v,h1,h2⟩:=h.env t x hl;refine⟨v,h1,?_⟩;obtain⟨f1,f2⟩:=nH hu;rcases f2 with rfl|rfl
   ·exact h2.mono (aM _) (fun _ _=>rfl) hZ fun g' hg' =>hω g' fun hh=>f1 (hh▸hg')
   ·trivial
 have hnf:∀ t u,look (Env.oB g s.e) t=some u→u.tag≠some g:=fun t u hu=>by
  rw[Im]at hu;cases hl:look s.e t with
  |none=>rw[hl]at hu;simp at hu
  |some x=>rw[hl]at hu;simp at hu;exact(Mw hu).1
 have hobj:∀ (Z' :Zs),(∀ b r,Z b=some r→Z' b=some r)→∀ (ω' :Om),(∀ g',g'≠g→ω' g' =ω g')→∀ (i:Nat) o,s.h[i]? =some o→
   (∀ off cs w xs,g=.c i off→o=.row cs→cs[off]?≠some (.dD w xs))→OB σ Z' ω' s.h.length i o (st.get (σ i)):=by
  intro Z' hZ ω' hω i o ho hno;have h1:=h.obj i o ho;cases o with
  |row cs=>
   obtain⟨cs',q1,q2,q3⟩:=h1;refine⟨cs',q1,q2,fun off u v hu hv=> ?_⟩;have h2:=q3 off u v hu hv;cases u with
   |bad=>trivial
   |dD w xs=>
    refine OR.mono hZ (hω _ fun hh=> ?_) h2;exact hno off cs w xs hh.symm rfl hu
   |_=>exact UR.mono (aM _) (fun _ _=>rfl) hZ h2
  |map es c=>exact h1.mono (aM _) (fun _ _=>rfl) hZ (ω' :=ω) (fun _=>rfl)
  |iter q a b c=>exact h1
  |gone=>trivial
 unfold Vs.oB;split
 ·rename_i i off;split
  ·rename_i cs hi;have hlt:i<s.h.length:=(cz.1 hi).1;split
   ·rename_i w xs hc;have hoff:off<cs.length:=(cz.1 hc).1;refine key _ (by simp) (fun j hj=>by simp only;rw[gZ,if_neg (by rintro rfl;rw[hi]at hj;cases hj)];exact hj) ⟨hnf,fun i' off' he cs' w' xs' hh hx=> ?_⟩ fun Z' hZ hI ω' hω=>⟨henv Z' hZ hI ω' hω,fun j o ho=> ?_⟩
    ·cases he;rw[gZ,if_pos rfl,if_pos hlt]at hh;simp at hh;subst hh;rw[gZ,if_pos rfl,if_pos hoff]at hx;simp at hx
    ·rw[gZ]at ho;by_cases hj:i=j
     ·subst hj;rw[if_pos rfl,if_pos hlt]at ho;simp at ho;subst ho;obtain⟨cs',q1,q2,q3⟩:=h.obj i _ hi;refine⟨cs',q1,by rw[List.length_set];exact q2,fun o u v hu hv=> ?_⟩;rw[gZ]at hu;by_cases ho:off=o
      ·subst ho;rw[if_pos rfl,if_pos hoff]at hu;simp at hu;subst hu;exact CR.bz (OR.sl (q3 off _ v hc hv) hZ hI)
      ·rw[if_neg ho]at hu;have h2:=q3 o u v hu hv;exact h2.mono (aM _) (fun _ _=>rfl) hZ (hω _ fun hh=>ho (by simp at hh;omega))
     ·rw[if_neg hj]at ho;exact hobj Z' hZ ω' hω j o ho fun off' cs' w' xs' he _=>by simp at he;exact absurd he.1 hj
   ·rename_i hno;refine key _ rfl (fun _ h=>h) ⟨oI _ s,fun i' off' he cs' w' xs' hh hx=> ?_⟩ fun Z' hZ hI ω' hω=>⟨henvk Z' hZ ω' hω,fun j o ho=>hobj Z' hZ ω' hω j o ho fun off' cs' w' xs' he hoo hx=> ?_⟩
    ·cases he;rw[hi]at hh;simp at hh;subst hh;exact hno w' xs' hx
    ·cases he;rw[hi]at ho;simp at ho;subst ho;simp at hoo;subst hoo;exact hno w' xs' hx
  ·rename_i hno;refine key _ rfl (fun _ h=>h) ⟨oI _ s,fun i' off' he cs' w' xs' hh hx=> ?_⟩ fun Z' hZ hI ω' hω=>⟨henvk Z' hZ ω' hω,fun j o ho=>hobj Z' hZ ω' hω j o ho fun off' cs' w' xs' he hoo hx=> ?_⟩
   ·cases he;exact hno _ hh
   ·cases he;subst hoo;exact hno _ ho
 ·rename_i hno;exact key _ rfl (fun _ h=>h) ⟨hnf,fun i off he=>absurd he (hno i off)⟩ fun Z' hZ hI ω' hω=>⟨henv Z' hZ hI ω' hω,fun j o ho=>hobj Z' hZ ω' hω j o ho fun off cs w xs he=>absurd he (hno j off)⟩
end
end Go.RE
namespace Go.RE
section
variable{E:vK}{σ:Sg}{Z:Zs}{ω:Om}{s s' :Vs}{e:PT V}{st:St}{n:Nat}
mutual
theorem qa:∀ (v:V),(v.mX≠.bad)→(∀ g w xs,v.mX≠.own g w xs)→(∀ w xs,v.mX≠.dD w xs)→UR σ Z n v.mX v.er
 | .bool b,_,_,_=> .bool b
 | .int k x,_,_,_=> .int k x
 | .str s,_,_,_=> .str s
 | .aT,_,_,_=> .aT
 | .bu,_,_,_=> .bu
 | .bK,_,_,_=> .bK
 | .cZ,_,_,_=> .cZ
 | .aK,_,_,_=> .aK
 | .bQ,h,_,_=>absurd rfl h
 | .ptr _ _,h,_,_=>absurd rfl h
 | .dI _ _,h,_,_=>absurd rfl h
 | .slice ..,h,_,_=>absurd rfl h
 | .map _,h,_,_=>absurd rfl h
 | .aj [] 0 0 w,_,_,_=> .slnil
 | .aj [] 1 0 w,_,h,_=>absurd rfl (h _ _ _)
 | .aj [] 2 0 w,_,_,h=>absurd rfl (h _ _)
 | .aj [] 3 0 w,_,_,_=> .Ge
 | .aj [] (k+4) 0 w,h,_,_=>absurd rfl h
 | .aj [] 0 (l+1) w,h,_,_=>absurd rfl h
 | .aj [] 1 (l+1) w,h,_,_=>absurd rfl h
 | .aj [] 2 (l+1) w,h,_,_=>absurd rfl h
 | .aj [] 3 (l+1) w,h,_,_=>absurd rfl h
 | .aj [] (k+4) (l+1) w,h,_,_=>absurd rfl h
 | .aj (a::r) o l w,h,_,_=>absurd rfl h
 | .func f a b,h,_,_=>by
  simp only[V.mX,V.er]at h⊢;cases hc:((V.cY a).all U.aL&&(V.cY b).all U.aL)with
  |false=>rw[hc]at h;exact absurd rfl h
  |true=>
   simp only[cm]at hc;have h1:=kF a hc.1;have h2:=kF b hc.2;simp only[hc.1,hc.2,Bool.and_self,cond_true];exact .func h1.1 h2.1 h1.2 h2.2
 | .iface t v,h,_,_=>by
  simp only[V.mX,V.er]at h⊢;cases hc:v.mX.aL with
  |false=>rw[hc]at h;exact absurd rfl h
  |true=>
   simp only[cond_true];exact .iface (qa v (fun hh=>by rw[hh]at hc;cases hc) (fun g w xs hh=>by rw[hh]at hc;cases hc) (fun w xs hh=>by rw[hh]at hc;cases hc))
 | .agg cs,h,_,_=>by
  simp only[V.mX,V.er]at h⊢;cases hc:(V.cY cs).all U.aL with
  |false=>rw[hc]at h;exact absurd rfl h
  |true=>
   have h1:=kF cs hc;simp only[cond_true];exact .agg h1.1 h1.2
 | .aP cs,h,_,_=>by
  simp only[V.mX,V.er]at h⊢;cases hc:(V.cY cs).all U.aL with
  |false=>rw[hc]at h;exact absurd rfl h
  |true=>
   have h1:=kF cs hc;simp only[cond_true];exact .aP h1.1 h1.2
theorem kF:∀ (vs:List V),(V.cY vs).all U.aL=true→LU σ Z n (V.cY vs) (V.yU vs)
 |[],_=>LU.nil
 |v::vs,h=>by
  simp only[V.cY,List.all_cons,cm]at h;exact LU.cons (qa v (fun hh=>by rw[hh]at h;cases h.1) (fun g w xs hh=>by rw[hh]at h;cases h.1) (fun w xs hh=>by rw[hh]at h;cases h.1)) (kF vs h.2)
end
theorem LM{v:V}{u:U}(h:v.HT=some u):UR σ Z n u v.er:=by
 unfold V.HT at h;have:=qa (σ:=σ) (Z:=Z) (n:=n) v;generalize v.mX=x at h this;cases x<;>simp at h<;>subst h<;>exact this (by simp) (by simp) (by simp)
theorem Ql{v:V}:∀ {g w xs},v.mX=.own g w xs→g=.r∧xs=[]∧v.er=.bu:=by
 intro g w xs h;cases v with
 |aj r o l z=>
  match r,o,l with
  |[],0,0=>simp[V.mX]at h
  |[],1,0=>simp[V.mX]at h;exact⟨h.1.symm,h.2.2,rfl⟩
  |[],2,0=>simp[V.mX]at h
  |[],3,0=>simp[V.mX]at h
  |[],k+4,0=>simp[V.mX]at h
  |[],_,l+1=>simp[V.mX]at h
  |a::r,_,_=>simp[V.mX]at h
 |func f a b=>simp only[V.mX]at h;generalize (_&&_:Bool)=c at h;cases c<;>simp at h
 |iface t v=>simp only[V.mX]at h;generalize U.aL _=c at h;cases c<;>simp at h
 |agg cs=>simp only[V.mX]at h;generalize List.all _ _=c at h;cases c<;>simp at h
 |aP cs=>simp only[V.mX]at h;generalize List.all _ _=c at h;cases c<;>simp at h
 |_=>simp[V.mX]at h
theorem Ok.cO(h:Ok E σ Z ω s e st){x:bB}{u:U}(hu:ck s.e x=some u):∃ v,x.er.ev e=some v∧TR σ Z ω s.h.length u v:=by
 cases x with
 |t t=>exact h.env t u hu
 |c v=>
  simp only[ck,ay]at hu;refine⟨v.er,rfl,?_⟩;subst hu;have hc:=qa (σ:=σ) (Z:=Z) (n:=s.h.length) v;cases hq:v.mX with
  |bad=>trivial
  |dD w xs=>trivial
  |own g w xs=>
   obtain⟨rfl,rfl,he⟩:=Ql hq;refine⟨?_,fun i off hh=>by cases hh⟩;unfold OR;rw[h.wr,he];exact⟨rfl,.inl rfl⟩
  |_=>rw[←hq];exact TR.bz (hc (by rw[hq];simp) (by rw[hq];simp) (by rw[hq];simp))
theorem TR.bool{b:Bool}{v:V}(h:TR σ Z ω n (.bool b) v):v=.bool b:=by cases h;rfl
theorem TR.int{k:IntKind}{x:Int}{v:V}(h:TR σ Z ω n (.int k x) v):v=.int k x:=by cases h;rfl
theorem TR.str{b:List UInt8}{v:V}(h:TR σ Z ω n (.str b) v):v=.str b:=by cases h;rfl
theorem TR.ptr{i off:Nat}{v:V}(h:TR σ Z ω n (.ptr i off) v):i<n∧v=.ptr (σ i) off:=by cases h;exact⟨‹_›,rfl⟩
theorem TR.map{i:Nat}{v:V}(h:TR σ Z ω n (.map i) v):i<n∧v=.map (σ i):=by cases h;exact⟨‹_›,rfl⟩
theorem TR.bK{v:V}(h:TR σ Z ω n .bK v):v=.bK:=by cases h;rfl
theorem TR.aK{v:V}(h:TR σ Z ω n .aK v):v=.aK:=by cases h;rfl
theorem TR.agg{cs:List U}{v:V}(h:TR σ Z ω n (.agg cs) v):∃ cs',v=.agg cs'∧LU σ Z n cs cs' :=by cases h;exact⟨_,rfl,‹_›,‹_›⟩
theorem TR.aP{cs:List U}{v:V}(h:TR σ Z ω n (.aP cs) v):∃ cs',v=.aP cs'∧LU σ Z n cs cs' :=by cases h;exact⟨_,rfl,‹_›,‹_›⟩
theorem TR.iface{t:Nat}{u:U}{v:V}(h:TR σ Z ω n (.iface t u) v):∃ v',v=.iface t v'∧UR σ Z n u v' :=by cases h;exact⟨_,rfl,‹_›⟩
theorem TR.func{f:Nat}{a b:List U}{v:V}(h:TR σ Z ω n (.func f a b) v):∃ a' b',v=.func f a' b'∧LU σ Z n a a'∧LU σ Z n b b' :=by cases h;exact⟨_,_,rfl,⟨‹_›,‹_›⟩,⟨‹_›,‹_›⟩⟩
theorem r8{u:U}{x v:V}(hx:u.Pz=some x)(h:TR σ Z ω n u v):v=x:=by
 cases u<;>simp[U.Pz]at hx<;>subst hx
 ·exact TR.bool h
 ·exact TR.int h
 ·exact TR.str h
theorem qdl{u:U}{x:V}(hx:U.ofV x=some u):UR σ Z n u x:=by
 cases x<;>simp[U.ofV]at hx<;>subst hx
 ·exact .bool _
 ·exact .int _ _
 ·exact .str _
theorem EU{o:Option V}{u:U}(h:Vg o=some u):∃ x,o=some x∧UR σ Z n u x:=by
 cases o with
 |none=>simp[Vg]at h
 |some x=>exact⟨x,rfl,qdl h⟩
theorem UR.cells{u:U}{v:V}(h:UR σ Z n u v):LU σ Z n u.cells v.cells:=by
 cases h with
 |agg ha va=>exact⟨ha,va⟩
 |bool b=>exact LU.cons (.bool b) .nil
 |int k x=>exact LU.cons (.int k x) .nil
 |str b=>exact LU.cons (.str b) .nil
 |aT=>exact LU.cons .aT .nil
 |bu=>exact LU.cons .bu .nil
 |bK=>exact LU.cons .bK .nil
 |cZ=>exact LU.cons .cZ .nil
 |aK=>exact LU.cons .aK .nil
 |ptr h=>exact LU.cons (.ptr h) .nil
 |map h=>exact LU.cons (.map h) .nil
 |kn a b c=>exact LU.cons (.kn a b c) .nil
 |kq a b=>exact LU.cons (.kq a b) .nil
 |slnil=>exact LU.cons .slnil .nil
 |zW=>exact LU.cons .zW .nil
 |Ge=>exact LU.cons .Ge .nil
 |Ho=>exact LU.cons .Ho .nil
 |Cs a b c d f g=>exact LU.cons (.Cs a b c d f g) .nil
 |Cn a b c d=>exact LU.cons (.Cn a b c d) .nil
 |func a b c d=>exact LU.cons (.func a b c d) .nil
 |iface a=>exact LU.cons (.iface a) .nil
 |aP a b=>exact LU.cons (.aP a b) .nil
theorem Ok.esc(h:Ok E σ Z ω s e st){u u' :U}{v:V}(hu:TR σ Z ω s.h.length u v)(he:esc u s=some (u',s')):
  ∃ Z' ω',Ok E σ Z' ω' s' e st∧UR σ Z' s.h.length u' v∧s'.h.length=s.h.length∧∀ b r,Z b=some r→Z' b=some r:=by
 cases u with
 |own g w xs=>
  simp only[RE.esc,ay,aO]at he;obtain⟨rfl,rfl⟩:=he;obtain⟨Z',ω',h1,h2,h3,h4,h5,h6⟩:=h.oB g;exact⟨Z',ω',h1,hu.1.sl h2 h5,h6,h2⟩
 |bad=>simp[RE.esc]at he
 |dD w xs=>simp[RE.esc]at he
 |cA g i f=>simp[RE.esc]at he
 |xX i o l w=>simp[RE.esc]at he
 |aP vs=>simp[RE.esc]at he
 |_=>
  simp only[RE.esc,ay,aO]at he;obtain⟨rfl,rfl⟩:=he;exact⟨Z,ω,h,hu,rfl,fun _ _ h=>h⟩
theorem Ok.fC(h:Ok E σ Z ω s e st){x:bB}{u' :U}(he:fC x s=some (u',s')):
  ∃ Z' ω' v,x.er.ev e=some v∧Ok E σ Z' ω' s' e st∧UR σ Z' s.h.length u' v∧s'.h.length=s.h.length∧∀ b r,Z b=some r→Z' b=some r:=by
 unfold RE.fC at he;cases hx:ck s.e x with
 |none=>rw[hx]at he;simp at he
 |some u=>
  rw[hx]at he;obtain⟨v,h1,h2⟩:=h.cO hx;obtain⟨Z',ω',h3⟩:=h.esc h2 he;exact⟨Z',ω',v,h1,h3⟩
theorem Ok.fX:∀ {xs:List bB} {s s' :Vs} {Z:Zs} {ω:Om} {us:List U},Ok E σ Z ω s e st→fX xs s=some (us,s')→
  ∃ Z' ω' vs,KQ e (nQ xs)=some vs∧Ok E σ Z' ω' s' e st∧LU σ Z' s.h.length us vs∧s'.h.length=s.h.length∧∀ b r,Z b=some r→Z' b=some r:=by
 intro xs
 induction xs with
 |nil=>
  intro s s' Z ω us h he;simp[RE.fX]at he;obtain⟨rfl,rfl⟩:=he;exact⟨Z,ω,[],rfl,h,.nil,rfl,fun _ _ h=>h⟩
 |cons x xs ih=>
  intro s s' Z ω us h he;simp only[RE.fX]at he;cases hx:RE.fC x s with
  |none=>rw[hx]at he;simp at he
  |some r=>
   obtain⟨u,s1⟩:=r;rw[hx]at he;simp only at he;cases hr:RE.fX xs s1 with
   |none=>rw[hr]at he;simp at he
   |some r=>
    obtain⟨us',s2⟩:=r;rw[hr]at he;simp only[ay,aO]at he;obtain⟨rfl,rfl⟩:=he;obtain⟨Z1,ω1,v,a1,a2,a3,a4,a5⟩:=h.fC hx;obtain⟨Z2,ω2,vs,b1,b2,b3,b4,b5⟩:=ih a2 hr;refine⟨Z2,ω2,v::vs,by simp only[nQ,KQ,a1,b1],b2,LU.cons (a3.mono (aM _) (fun _ _=>rfl) b5) (by rw[←a4];exact b3),by omega,fun b r hb=>b5 b r (a5 b r hb)⟩
theorem IW{a:List U}{b:List V}{off:Nat}{us:List U}{vs:List V}(h:LU σ Z n a b)(hs:LU σ Z n us vs):LU σ Z n (jy a off us) (kT b off vs):=by
 unfold jy kT;rw[hs.1];exact((h.take off).append hs).append (h.drop _)
theorem HV{a:List U}{off:Nat}{us:List U}(h:off+us.length≤a.length):(jy a off us).length=a.length:=by
 simp[jy];omega
theorem Ok.fill:∀ {parts:List (Nat×Nat×bB)} {s s' :Vs} {Z:Zs} {ω:Om} {us cs:List U} {vs:List V},Ok E σ Z ω s e st→LU σ Z s.h.length us vs→lp parts us s=some (cs,s')→
  ∃ Z' ω' ws,pY e vs (vg parts)=some ws∧Ok E σ Z' ω' s' e st∧LU σ Z' s.h.length cs ws∧s'.h.length=s.h.length∧∀ b r,Z b=some r→Z' b=some r:=by
 intro parts
 induction parts with
 |nil=>
  intro s s' Z ω us cs vs h hl he;simp[lp]at he;obtain⟨rfl,rfl⟩:=he;exact⟨Z,ω,vs,rfl,h,hl,rfl,fun _ _ h=>h⟩
 |cons p parts ih=>
  intro s s' Z ω us cs vs h hl he;obtain⟨off,size,x⟩:=p;simp only[lp]at he;cases hx:RE.fC x s with
  |none=>rw[hx]at he;simp at he
  |some r=>
   obtain⟨u,s1⟩:=r;rw[hx]at he;simp only at he;obtain⟨Z1,ω1,v,a1,a2,a3,a4,a5⟩:=h.fC hx;have hc:=a3.cells;cases hb:(Nat.beq u.cells.length size&&Nat.ble (off+u.cells.length) us.length)with
   |false=>rw[hb]at he;simp at he
   |true=>
    rw[hb]at he;simp only[cond_true]at he;have hl1:=hl.mono (aM _) (σ' :=σ) (fun _ _=>rfl) a5;obtain⟨Z2,ω2,ws,b1,b2,b3,b4,b5⟩:=ih (vs:=kT vs off v.cells) a2 (by rw[a4];exact IW hl1 hc) he;refine⟨Z2,ω2,ws,?_,b2,by rw[←a4];exact b3,by omega,fun b r hb=>b5 b r (a5 b r hb)⟩;simp only[vg,pY,a1];rw[hc.1,hl.1]at hb;rw[hb];exact b1
theorem Ay{u:U}{v:V}{most k:Nat}(h:gJ u most=some k)(hu:TR σ Z ω n u v):asNat v most=some k:=by
 cases u<;>simp[gJ]at h;rw[TR.int hu];exact h
theorem Ok.aF(h:Ok E σ Z ω s e st){x:Option bB}{d most k:Nat}(hx:cD s.e x d most=some k):aF e (bT x) d most=some k:=by
 cases x with
 |none=>exact hx
 |some x=>
  simp only[cD]at hx;cases hq:ck s.e x with
  |none=>rw[hq]at hx;simp at hx
  |some u=>
   rw[hq]at hx;obtain⟨v,h1,h2⟩:=h.cO hq;simp only[bT,RE.aF,h1];exact Ay hx h2
theorem yW{cs:List U}{cs' :List V}{k:Option Nat}{off:Nat}{u:U}(h:LU σ Z n cs cs')(hl:gv k cs off=some u):∃ v,ei k cs' off=some v∧UR σ Z n u v:=by
 cases k with
 |none=>
  simp only[gv]at hl;cases hq:cs[off]? with
  |none=>rw[hq]at hl;simp at hl
  |some x=>
   rw[hq]at hl;simp only at hl;cases hc:x.ve with
   |false=>rw[hc]at hl;simp at hl
   |true=>
    rw[hc]at hl;simp at hl;subst hl;obtain⟨v,h1,h2⟩:=h.get hq;exact⟨v,h1,h2⟩
 |some k=>
  simp only[gv]at hl;cases hb:(Nat.ble (off+k) cs.length&&((cs.drop off).take k).all U.ve)with
  |false=>rw[hb]at hl;simp at hl
  |true=>
   rw[hb]at hl;simp at hl;subst hl;simp only[cm]at hb;rw[h.1]at hb;have h1:=(h.drop off).take k;exact⟨_,by simp only[ei,hb.1,cond_true],.agg h1.1 h1.2⟩
theorem Bh{w:Nat}:∀ {xs:List (List U)},(∀ r∈xs,r.length=w)→∀ {i:Nat} {r:List U},xs[i]? =some r→i*w+w≤xs.flatten.length∧(xs.flatten.drop (i*w)).take w=r:=by
 intro xs
 induction xs with
 |nil=>intro _ i r h;simp at h
 |cons x xs ih=>
  intro hw i r h;have hx:=hw x k7;cases i with
  |zero=>
   simp at h;subst h;simp only[List.flatten_cons,Nat.zero_mul,List.drop_zero,oC];exact⟨by omega,by rw[List.take_append_of_le_length (by omega),pI (by omega)]⟩
  |succ i=>
   simp at h;obtain⟨h1,h2⟩:=ih (fun r hr=>hw r (ki _ hr)) h;simp only[List.flatten_cons,oC,Nat.succ_mul];refine⟨by omega,?_⟩;rw[show i*w+w=x.length+i*w by omega,←List.drop_drop,List.drop_left];exact h2
theorem dB{w:Nat}:∀ {xs:List (List U)},(∀ r∈xs,r.length=w)→xs.flatten.length=xs.length*w:=by
 intro xs
 induction xs with
 |nil=>intro _;simp
 |cons x xs ih=>
  intro hw;have hx:=hw x k7;simp only[List.flatten_cons,oC,List.length_cons,Nat.succ_mul,ih (fun r hr=>hw r (ki _ hr))];omega
theorem s7{w:Nat}{xs:List (List U)}(hw:∀ r∈xs,r.length=w)(k:Nat):(xs.take k).flatten=xs.flatten.take (k*w):=by
 induction xs generalizing k with
 |nil=>simp
 |cons x xs ih=>
  have hx:=hw x k7;cases k with
  |zero=>simp
  |succ k=>
   simp only[List.take_succ_cons,List.flatten_cons,ih (fun r hr=>hw r (ki _ hr)),Nat.succ_mul];rw[List.take_append,pI (l:=x) (by omega),hx,Nat.add_sub_cancel]
theorem sO{w:Nat}{xs:List (List U)}(hw:∀ r∈xs,r.length=w)(k:Nat):(xs.drop k).flatten=xs.flatten.drop (k*w):=by
 induction xs generalizing k with
 |nil=>simp
 |cons x xs ih=>
  have hx:=hw x k7;cases k with
  |zero=>simp
  |succ k=>
   simp only[List.drop_succ_cons,List.flatten_cons,ih (fun r hr=>hw r (ki _ hr)),Nat.succ_mul];rw[show k*w+w=x.length+k*w by omega,←List.drop_drop,List.drop_left]
end
end Go.RE
