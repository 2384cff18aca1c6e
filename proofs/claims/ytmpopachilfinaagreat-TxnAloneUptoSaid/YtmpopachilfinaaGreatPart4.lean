/- A part of a proof. -/
import Derived.Test.YtmpopachilfinaaGreatPart3
set_option linter.unusedVariables false
set_option linter.unusedSimpArgs false
set_option linter.constructorNameAsVariable false
namespace Go.RE
inductive Tg where
 |t (n:Nat)
 |c (i off:Nat)
 |r
 |a
deriving DecidableEq,Inhabited
inductive U where
 |bad
 |bool (b:Bool)
 |int (k:IntKind) (n:Int)
 |str (s:List UInt8)
 |bA
 |bu
 |bO
 |dy
 |cU
 |ptr (i off:Nat)
 |eu (row:List U) (off:Nat)
 |sl (w:Nat) (xs:List (List U))
 |nl (w:Nat) -- nothing:nil,or without room
 |own (g:Tg) (w:Nat) (xs:List (List U))
 |bE (w:Nat) (xs:List (List U))
 |bD (g:Tg) (i f:Nat)
 |xW (i off len w:Nat)
 |view (g:Tg) (lo len w:Nat) -- a part of a slice of one's own,to be read
 |de -- a cell whose slice is in use behind the call
 |map (i:Nat)
 |func (f:Nat) (first captured:List U)
 |iface (t:Nat) (v:U)
 |agg (cs:List U)
 |aX (vs:List U)
deriving Inhabited
inductive Uo where
 |row (cs:List U)
 |map (es:List (U×U×Nat)) (clock:Nat)
 |iter (m:Option Nat) (since:Nat) (seen:List Nat) (last:Nat)
 |gone
deriving Inhabited
abbrev XH:=Nat→Option (List U→List Uo→Nat→Option (U×List Uo×Nat))
abbrev oV:=Nat→String→Option Nat
abbrev Env:=List (Nat×U)
structure Vs where
 e:Env
 h:List Uo
 fl:Nat
deriving Inhabited
def U.aJ:U→Bool
 | .bad=>false
 | .own .. =>false
 | .bE .. =>false
 | .bD .. =>false
 | .xW .. =>false
 | .view .. =>false
 | .de=>false
 | .agg _=>false
 | .aX _=>false
 |_=>true
mutual
def V.mw:V→U
 | .bool b=> .bool b
 | .int k n=> .int k n
 | .str s=> .str s
 | .bA=> .bA
 | .bu=> .bu
 | .bO=> .bO
 | .dy=> .dy
 | .cU=> .cU
 | .ag [] 0 0 w=> .sl w []
 | .ag [] 1 0 w=> .own .r w []
 | .ag [] 2 0 w=> .bE w []
 | .ag [] 3 0 w=> .nl w
 | .func f a b=>bif(V.dg a).all U.aJ&&(V.dg b).all U.aJ then .func f (V.dg a) (V.dg b)else .bad
 | .iface t v=>bif v.mw.aJ then .iface t v.mw else .bad
 | .agg cs=>bif(V.dg cs).all U.aJ then .agg (V.dg cs)else .bad
 | .aX cs=>bif(V.dg cs).all U.aJ then .aX (V.dg cs)else .bad
 |_=> .bad
def V.dg:List V→List U
 |[]=>[]
 |v::vs=>v.mw::V.dg vs
end
def V.EL(v:V):Option U:=
 match v.mw with
 | .bad=>none
 | .own .. =>none
 | .bE .. =>none
 |u=>some u
def U.og:U→Bool
 | .bE _ _=>true
 |_=>false
mutual
def V.er:V→V
 | .ag [] _ 0 _=> .bu
 | .func f a b=> .func f (V.yP a) (V.yP b)
 | .iface t v=> .iface t v.er
 | .agg cs=> .agg (V.yP cs)
 | .aX cs=> .aX (V.yP cs)
 |v=>v
def V.yP:List V→List V
 |[]=>[]
 |v::vs=>v.er::V.yP vs
end
def bH.er:bH→bH
 | .t n=> .t n
 | .c v=> .c v.er
def uz:List (Nat×Nat×bH)→List (Nat×Nat×bH)
 |[]=>[]
 |(a,b,x)::r=>(a,b,x.er)::uz r
def bF:Option bH→Option bH
 |none=>none
 |some x=>some x.er
def nk:List bH→List bH
 |[]=>[]
 |x::r=>x.er::nk r
def fR.er:fR→fR
 | .br x=> .br x.er
 | .pick c a b=> .pick c.er a.er b.er
 | .load n x=> .load n x.er
 | .nilCheck x=> .nilCheck x.er
 | .bin op ek x y=> .bin op ek x.er y.er
 | .un op x=> .un op x.er
 | .ep k x=> .ep k x.er
 | .tg x=> .tg x.er
 | .toStr x=> .toStr x.er
 | .nP t x=> .nP t x.er
 | .ji f a b=> .ji f (nk a) (nk b)
 | .build z p=> .build (V.yP z) (uz p)
 | .nA x lo hi=> .nA x.er (bF lo) (bF hi)
 | .slice sz x lo hi mx=> .slice sz x.er (bF lo) (bF hi) (bF mx)
 | .iV n sz x lo hi=> .iV n sz x.er (bF lo) (bF hi)
 | .fieldAddr off x=> .fieldAddr off x.er
 | .field off n x=> .field off n x.er
 | .indexAddr sz x i=> .indexAddr sz x.er i.er
 | .mR ln sz x i=> .mR ln sz x.er i.er
 | .index x i=> .index x.er i.er
 | .CB n x i=> .CB n x.er i.er
 | .lookup kk z ok x i=> .lookup kk z.er ok x.er i.er
 | .extract i x=> .extract i x.er
 | .len k x=> .len k x.er
 | .cap x=> .cap x.er
 | .max xs=> .max (nk xs)
 | .min xs=> .min (nk xs)
 | .mF t z x=> .mF t z.er x.er
 | .entry x=> .entry x.er
def Gv.er:Gv→Gv
 | .alloc z=> .alloc (V.yP z)
 | .box x=> .box x.er
 | .buildSlice sz len z p=> .buildSlice sz len (V.yP z) (uz p)
 | .makeMap=> .makeMap
 | .makeSlice sz bytes z len cap=> .makeSlice sz bytes (V.yP z) len.er cap.er
 | .l9 x=> .l9 x.er
def xV.er:xV→xV
 | .store n a x=> .store n a.er x.er
 | .mapUpdate kk m k x=> .mapUpdate kk m.er k.er x.er
 | .delete kk m k=> .delete kk m.er k.er
 | .append sz bytes str s x=> .append sz bytes str s.er x.er
 | .copy sz str d s=> .copy sz str d.er s.er
 | .clear sz z x=> .clear sz (V.yP z) x.er
 | .range x=> .range x.er
def jF.er:jF→jF
 | .s o=> .s o.er
 | .m o=> .m o.er
 | .h o=> .h o.er
 | .call f args=> .call f.er (nk args)
 | .invoke name x args=> .invoke name x.er (nk args)
 | .next x=> .next x.er
 | .bad=> .bad
def aF.er(o:aF):aF:=⟨o.dst,o.op.er,o.guard,o.aQ⟩
def fH:List aF→List aF
 |[]=>[]
 |o::r=>o.er::fH r
def aj.er:aj→aj
 | .skip=> .skip
 | .region ops=> .region (fH ops)
 | .draw ops=> .draw (fH ops)
 | .seq a b=> .seq a.er b.er
 | .cond c a b=> .cond c.er a.er b.er
 | .block id b=> .block id b.er
 | .loop b=> .loop b.er
 | .exit id=> .exit id
 | .ret=> .ret
 | .bad=> .bad
 | .uD n p=> .uD n p
mutual
def U.low(n:Nat):U→Bool
 | .ptr i _=>Nat.blt i n
 | .map i=>Nat.blt i n
 | .xW i _ _ _=>Nat.blt i n
 | .own (.c i _) _ _=>Nat.blt i n
 | .bD (.c i _) _ _=>Nat.blt i n
 | .view (.c i _) _ _ _=>Nat.blt i n
 | .func _ a b=>U.bW n a&&U.bW n b
 | .iface _ v=>v.low n
 | .agg cs=>U.bW n cs
 | .aX cs=>U.bW n cs
 |_=>true
def U.bW(n:Nat):List U→Bool
 |[]=>true
 |v::vs=>v.low n&&U.bW n vs
end
mutual
def U.shift(k:Nat):U→U
 | .ptr i o=> .ptr (i+k) o
 | .map i=> .map (i+k)
 | .func f a b=> .func f (U.fP k a) (U.fP k b)
 | .iface t v=> .iface t (v.shift k)
 | .agg cs=> .agg (U.fP k cs)
 | .aX cs=> .aX (U.fP k cs)
 |v=>v
def U.fP(k:Nat):List U→List U
 |[]=>[]
 |v::vs=>v.shift k::U.fP k vs
end
mutual
def U.flat:U→Bool
 | .bool _=>true
 | .int _ _=>true
 | .str _=>true
 | .bA=>true
 | .bu=>true
 | .bO=>true
 | .dy=>true
 | .cU=>true
 | .ptr _ _=>true
 | .map _=>true
 | .own _ _ xs=>U.j8 xs
 | .iface _ v=>v.flat
 | .agg cs=>U.uk cs
 | .aX cs=>U.uk cs
 |_=>false
def U.uk:List U→Bool
 |[]=>true
 |v::vs=>v.flat&&U.uk vs
def U.j8:List (List U)→Bool
 |[]=>true
 |v::vs=>U.uk v&&U.j8 vs
end
def U.uw:U→Bool
 | .bE .. =>false
 | .de=>false
 | .bad=>false
 |_=>true
def U.cells:U→List U
 | .agg cs=>cs
 |v=>[v]
def U.Wn:U→Option (Nat×Nat)
 | .own (.c i off) _ _=>some (i,off)
 | .bD (.c i off) _ _=>some (i,off)
 | .view (.c i off) _ _ _=>some (i,off)
 |_=>none
def U.qaV:U→Bool
 | .nl _=>true
 |_=>false
def U.LH:U→Bool
 | .own .. =>true
 |_=>false
def look:Env→Nat→Option U
 |[],_=>none
 |(k,v)::r,t=>bif Nat.beq k t then some v else look r t
def iT(dst:Option Nat)(v:U)(e:Env):Env:=
 match dst with
 |some d=>(d,v)::e
 |none=>e
def U.kill(g:Tg):U→U
 | .own g' w xs=>if g' =g then .bad else .own g' w xs
 | .bD g' i f=>if g' =g then .bad else .bD g' i f
 | .view g' i l w=>if g' =g then .bad else .view g' i l w
 |v=>v
def Env.kill(g:Tg):Env→Env
 |[]=>[]
 |(k,v)::r=>(k,v.kill g)::Env.kill g r
def U.lY(g:Tg):U→U
 | .own g' w xs=>if g' =g then .sl w xs else .own g' w xs
 | .bD g' i f=>if g' =g then .bad else .bD g' i f
 | .view g' i l w=>if g' =g then .bad else .view g' i l w
 |v=>v
def Env.lY(g:Tg):Env→Env
 |[]=>[]
 |(k,v)::r=>(k,v.lY g)::Env.lY g r
def U.iL(g g2:Tg):U→U
 | .own g' w xs=>if g' =g then .own g2 w xs else .own g' w xs
 | .bD g' i f=>if g' =g then .bD g2 i f else .bD g' i f
 | .view g' i l w=>if g' =g then .view g2 i l w else .view g' i l w
 |v=>v
def Env.iL(g g2:Tg):Env→Env
 |[]=>[]
 |(k,v)::r=>(k,v.iL g g2)::Env.iL g g2 r
def U.fB(g:Tg)(ys:List (List U)):U→U
 | .own g' w xs=>if g' =g then .own g' w ys else .own g' w xs
 |v=>v
def Env.fB(g:Tg)(ys:List (List U)):Env→Env
 |[]=>[]
 |(k,v)::r=>(k,v.fB g ys)::Env.fB g ys r
def Tg.PD(i off n:Nat):Tg→Bool
 | .c j o=>Nat.beq j i&&Nat.ble off o&&Nat.blt o (off+n)
 |_=>false
def Tg.isC:Tg→Bool
 | .c _ _=>true
 |_=>false
def Tg.Hq:Tg→Bool
 | .c _ _=>true
 | .a=>true
 |_=>false
def U.bS(p:Tg→Bool):U→U
 | .own g w xs=>bif p g then .bad else .own g w xs
 | .bD g i f=>bif p g then .bad else .bD g i f
 | .view g i l w=>bif p g then .bad else .view g i l w
 |v=>v
def Env.bS(p:Tg→Bool):Env→Env
 |[]=>[]
 |(k,v)::r=>(k,v.bS p)::Env.bS p r
def Env.cg(g:Tg)(full:Env):Env→Option (Nat×List (List U))
 |[]=>none
 |(k,.own g' _ _)::r=>if g' =g then(match look full k with
  |some (.own g2 w xs)=>if g2=g then some (w,xs)else Env.cg g full r
  |_=>Env.cg g full r)else Env.cg g full r
 |_::r=>Env.cg g full r
def setCell(h:List Uo)(i off:Nat)(v:U):List Uo:=
 match h[i]? with
 |some (.row cs)=>h.set i (.row (cs.set off v))
 |_=>h
def Vs.lY(g:Tg)(s:Vs):Vs:=
 match g with
 | .c i off=>(match s.h[i]? with
  |some (.row cs)=>(match cs[off]? with
   |some (.bE w xs)=>{s with e:=Env.lY g s.e,h:=s.h.set i (.row (cs.set off (.sl w xs)))}
   |_=>{s with e:=Env.kill g s.e})
  |_=>{s with e:=Env.kill g s.e})
 |g=>{s with e:=Env.lY g s.e}
def Vs.kill(g:Tg)(s:Vs):Vs:=
 match g with
 | .c i off=>{s with e:=Env.kill g s.e,h:=setCell s.h i off .bad}
 |g=>{s with e:=Env.kill g s.e}
def Vs.cg(g:Tg)(s:Vs):Option (Nat×List (List U)):=
 match g with
 | .c i off=>(match s.h[i]? with
  |some (.row cs)=>(match cs[off]? with
   |some (.bE w xs)=>some (w,xs)
   |_=>none)
  |_=>none)
 |g=>Env.cg g s.e s.e
def Vs.fB(g:Tg)(w:Nat)(ys:List (List U))(s:Vs):Vs:=
 match g with
 | .c i off=>{s with e:=Env.fB g ys s.e,h:=setCell s.h i off (.bE w ys)}
 |g=>{s with e:=Env.fB g ys s.e}
def esc(v:U)(s:Vs):Option (U×Vs):=
 match v with
 | .own .a _ _=>none
 | .own g w xs=>some (.sl w xs,s.lY g)
 | .bad=>none
 | .bE .. =>none
 | .bD .. =>none
 | .xW .. =>none
 | .view .. =>none
 | .de=>none
 | .aX _=>none
 |v=>some (v,s)
def cq(e:Env):bH→Option U
 | .t n=>look e n
 | .c v=>some v.mw
def jC(e:Env):List bH→Option (List U)
 |[]=>some []
 |x::r=>match cq e x with
  |some v=>(match jC e r with|some vs=>some (v::vs)|none=>none)
  |none=>none
def fM(x:bH)(s:Vs):Option (U×Vs):=
 match cq s.e x with
 |some v=>esc v s
 |none=>none
def fU:List bH→Vs→Option (List U×Vs)
 |[],s=>some ([],s)
 |x::r,s=>match fM x s with
  |some (v,s)=>(match fU r s with|some (vs,s)=>some (v::vs,s)|none=>none)
  |none=>none
def U.ofV:V→Option U
 | .bool b=>some (.bool b)
 | .int k n=>some (.int k n)
 | .str s=>some (.str s)
 |_=>none
def Md:Option V→Option U
 |some v=>U.ofV v
 |none=>none
def U.Xq:U→Option V
 | .bool b=>some (.bool b)
 | .int k n=>some (.int k n)
 | .str s=>some (.str s)
 |_=>none
def fI(k:gU)(a b:U):Option Bool:=
 match a.Xq,b.Xq with
 |some x,some y=>jN k x y
 |_,_=>none
def rO:List (Nat×gU)→List U→List U→Option Bool
 |[],_,_=>some true
 |(o,k)::r,xs,ys=>match xs[o]?,ys[o]? with
  |some a,some b=>(match fI k a b with
   |some true=>rO r xs ys
   |some false=>some false
   |none=>none)
  |_,_=>none
def U.LI:U→Option Bool
 | .bA=>some false
 | .ptr .. =>some true
 | .eu .. =>some true
 | .bD .. =>some true
 |_=>none
def U.WN:U→Option Bool
 | .dy=>some false
 | .func .. =>some true
 |_=>none
def U.LG:U→Option Bool
 | .bO=>some false
 | .map _=>some true
 |_=>none
def U.Eh:U→Option Bool
 | .bu=>some false
 | .sl _ (_::_)=>some true
 | .own _ _ (_::_)=>some true
 |_=>none
def Dq(a b:Option Bool):Option Bool:=
 match a,b with
 |some false,some x=>some (!x)
 |some true,some false=>some false
 |_,_=>none
def Ls(ek:gU)(a b:U):Option Bool:=
 match ek with
 | .bool=>(match a,b with| .bool x,.bool y=>some (x==y)|_,_=>none)
 | .bA=>Dq a.LI b.LI
 | .bu=>Dq a.Eh b.Eh
 | .bO=>Dq a.LG b.LG
 | .dy=>Dq a.WN b.WN
 | .iface g=>(match a,b with
  | .cU,.cU=>bif g then none else some true
  | .cU,.iface _ _=>some false
  | .iface _ _,.cU=>some false
  |_,_=>none)
 | .flat ks=>(match a,b with| .agg xs,.agg ys=>rO ks xs ys|_,_=>none)
 |_=>none
def iR(op:BinOp)(ek:gU)(a b:U):Option U:=
 match a,b with
 | .int k x,.int j y=>Md (jG op ek (.int k x) (.int j y))
 | .str x,.str y=>Md (kK op x y)
 |a,b=>(match op with
  | .eql=>(match Ls ek a b with|some r=>some (.bool r)|none=>none)
  | .neq=>(match Ls ek a b with|some r=>some (.bool (!r))|none=>none)
  |_=>none)
def unU(op:UnOp)(a:U):Option U:=
 match a.Xq with
 |some v=>Md (unV op v)
 |none=>none
def iK(n:Option Nat)(cs:List U)(off:Nat):Option U:=
 match n with
 |none=>(match cs[off]? with|some v=>bif v.uw then some v else none|none=>none)
 |some n=>bif Nat.ble (off+n) cs.length&&((cs.drop off).take n).all U.uw then some (.agg ((cs.drop off).take n))else none
def lU(i:Nat)(n:Option Nat)(cs:List U)(off:Nat):Option U:=
 match n,cs[off]? with
 |none,some (.bE w xs)=>some (.own (.c i off) w xs)
 |n,_=>iK n cs off
def gi(cs:List U)(off:Nat)(vs:List U):List U:=cs.take off++vs++cs.drop (off+vs.length)
def jX:List (Nat×Nat×bH)→List U→Vs→Option (List U×Vs)
 |[],cells,s=>some (cells,s)
 |(off,size,x)::rest,cells,s=>match fM x s with
  |some (v,s)=>bif Nat.beq v.cells.length size&&Nat.ble (off+v.cells.length) cells.length then jX rest (gi cells off v.cells) s else none
  |none=>none
def fK(v:U)(most:Nat):Option Nat:=
 match v with
 | .int k n=>asNat (.int k n) most
 |_=>none
def bw(e:Env)(x:Option bH)(dflt most:Nat):Option Nat:=
 match x with
 |none=>some dflt
 |some x=>match cq e x with
  |some v=>fK v most
  |none=>none
def Lp(b:UInt8):List U:=[.int .u8 b.toNat]
def bQ(bs:List UInt8):List (List U):=bs.map Lp
def DZ:List U→Option UInt8
 |[.int .u8 n]=>some (UInt8.ofNat n.toNat)
 |_=>none
def nX:List (List U)→Option (List UInt8)
 |[]=>some []
 |r::rs=>match DZ r with
  |some b=>(match nX rs with|some bs=>some (b::bs)|none=>none)
  |none=>none
def rowsOf(s:Vs)(w:Nat):U→Option (List (List U))
 | .sl v xs=>bif Nat.beq v w then some xs else none
 | .nl v=>bif Nat.beq v w then some []else none
 | .own _ v xs=>bif Nat.beq v w then some xs else none
 | .xW i off len v=>(match s.h[i]? with
  |some (.row cs)=>bif Nat.beq v w&&Nat.beq w 1&&Nat.ble (off+len) cs.length&&((cs.drop off).take len).all U.uw then some (((cs.drop off).take len).map fun c=>[c])else none
  |_=>none)
 |_=>none
def yJ(s:Vs)(w:Nat)(str:Bool)(x:U):Option (List (List U)):=
 match str,x with
 |true,.str b=>bif Nat.beq w 1 then some (bQ b)else none
 |false,x=>rowsOf s w x
 |_,_=>none
def NS(s:Vs)(k:Nat):U→Option Nat
 | .str b=>bif Nat.beq k 0 then some b.length else none
 | .sl _ xs=>bif Nat.beq k 1 then some xs.length else none
 | .nl _=>bif Nat.beq k 1 then some 0 else none
 | .own _ _ xs=>bif Nat.beq k 1 then some xs.length else none
 | .xW _ _ len _=>bif Nat.beq k 1 then some len else none
 | .view _ _ len _=>bif Nat.beq k 1 then some len else none
 | .bO=>bif Nat.beq k 2 then some 0 else none
 | .map m=>bif Nat.beq k 2 then(match s.h[m]? with
  |some (.map es _)=>some es.length
  |_=>none)else none
 |_=>none
def nJ(kk:gU)(k:U):List (U×U×Nat)→Nat→Option (Option (Nat×U))
 |[],_=>some none
 |e::es,i=>match fI kk k e.1 with
  |some true=>some (some (i,e.2.1))
  |some false=>nJ kk k es (i+1)
  |none=>none
def dB(kk:gU)(k:U):Bool:=
 match k.Xq with
 |some v=>plainKey kk v
 |none=>false
def fG(s:Vs)(kk:gU)(zero:U)(ok:Bool)(m k:U):Option U:=
 match m with
 | .bO=>bif dB kk k then some (bif ok then .aX [zero,.bool false]else zero)else none
 | .map m=>(match s.h[m]? with
  |some (.map es _)=>bif dB kk k then(match nJ kk k es 0 with
   |some (some (_,v))=>some (bif ok then .aX [v,.bool true]else v)
   |some none=>some (bif ok then .aX [zero,.bool false]else zero)
   |none=>none)else none
  |_=>none)
 |_=>none
def lN(f:V→V→Option V)(a b:U):Option U:=
 match a.Xq,b.Xq with
 |some x,some y=>Md (f x y)
 |_,_=>none
def mP(f:U→U→Option U):U→List U→Option U
 |a,[]=>some a
 |a,b::r=>match f a b with
  |some c=>mP f c r
  |none=>none
def iz(d:Nat)(w:Nat)(lo hi mx:Option bH)(v:U)(s:Vs):Option (U×Vs):=
 match v with
 | .sl w' xs=>bif Nat.beq w' w then
  (match bw s.e hi xs.length xs.length with
  |some h=>(match bw s.e lo 0 h with
   |some l=>(match mx with
    |none=>some (.sl w ((xs.take h).drop l),s)
    |some m=>(match bw s.e (some m) xs.length xs.length with
     |some m=>bif Nat.beq m h then(bif Nat.beq m 0 then some (.own (.t d) w [],s.kill (.t d))else some (.sl w ((xs.take h).drop l),s))else none
     |none=>none))
   |none=>none)
  |none=>none)else none
 | .own g w' xs=>bif Nat.beq w' w then
  (match mx with
  |none=>(match bw s.e hi xs.length xs.length with
   |some h=>(match bw s.e lo 0 h with
    |some l=>bif g.Hq then some (.view g l (h - l) w,s)else some (.own (.t d) w ((xs.take h).drop l),(s.kill g).kill (.t d))
    |none=>none)
   |none=>none)
  |some m=>(match bw s.e hi xs.length xs.length,bw s.e (some m) xs.length xs.length,bw s.e lo 0 0 with
   |some 0,some 0,some 0=>some (.own (.t d) w [],s.kill (.t d))
   |_,_,_=>none))
  else none
 | .nl w' =>bif Nat.beq w' w then
  (match bw s.e hi 0 0,bw s.e mx 0 0,bw s.e lo 0 0 with
   |some 0,some 0,some 0=>some (.nl w,s)
   |_,_,_=>none)
  else none
 |_=>none
def mL(s:Vs)(q:Nat):Option U:=
 match s.h[q]? with
 |some (.iter (some m) _ seen last)=>(match s.h[m]?,seen.getLast? with
  |some (.map es clock),some n=>bif Nat.beq clock last then(match es.find? (fun e=>Nat.beq e.2.2 n)with
   |some e=>some (.aX [e.1,e.2.1])
   |none=>none)else none
  |_,_=>none)
 |_=>none
def fQ(d:Nat)(s:Vs):fR→Option (U×Vs)
 | .br x=>(match cq s.e x with|some (.own .r w xs)=>some (.own (.t d) w xs,s.kill (.t d))|some v=>some (v,s)|none=>none)
 | .pick c a b=>(match cq s.e c with
  |some (.bool true)=>(match cq s.e a with|some v=>some (v,s)|none=>none)
  |some (.bool false)=>(match cq s.e b with|some v=>some (v,s)|none=>none)
  |_=>none)
 | .load n x=>(match cq s.e x with
  |some (.ptr i off)=>(match s.h[i]? with
   |some (.row cs)=>(match lU i n cs off with|some v=>some (v,s)|none=>none)
   |_=>none)
  |some (.eu row off)=>(match iK n row off with|some v=>some (v,s)|none=>none)
  |some (.bD g i f)=>(match s.cg g with
   |some (_,xs)=>(match xs[i]? with
    |some r=>(match iK n r f with|some v=>some (v,s)|none=>none)
    |none=>none)
   |none=>none)
  |_=>none)
 | .nilCheck x=>(match cq s.e x with
  |some (.ptr i o)=>some (.ptr i o,s)
  |some (.eu r o)=>some (.eu r o,s)
  |some (.bD g i o)=>some (.bD g i o,s)
  |some (.func f a b)=>some (.func f a b,s)
  |some (.iface t v)=>some (.iface t v,s)
  |_=>none)
 | .bin op ek x y=>(match cq s.e x,cq s.e y with
  |some a,some b=>(match iR op ek a b with|some v=>some (v,s)|none=>none)
  |_,_=>none)
 | .un op x=>(match cq s.e x with
  |some a=>(match unU op a with|some v=>some (v,s)|none=>none)
  |none=>none)
 | .ep k x=>(match cq s.e x with
  |some (.int _ n)=>some (.int k (aI k n),s)
  |_=>none)
 | .tg x=>(match cq s.e x with
  |some (.str b)=>some (.str b,s)
  |_=>none)
 | .toStr x=>(match cq s.e x with
  |some v=>(match rowsOf s 1 v with
   |some xs=>(match nX xs with|some bs=>some (.str bs,s)|none=>none)
   |none=>none)
  |none=>none)
 | .nP t x=>(match fM x s with
  |some (v,s)=>some (.iface t v,s)
  |none=>none)
 | .ji f first captured=>(match fU first s with
  |some (a,s)=>(match fU captured s with
   |some (b,s)=>some (.func f a b,s)
   |none=>none)
  |none=>none)
 | .build zero parts=>bif(V.dg zero).all U.aJ then(match jX parts (V.dg zero) s with
  |some (cs,s)=>some (.agg cs,s)
  |none=>none)else none
 | .nA x lo hi=>(match cq s.e x with
  |some (.str b)=>(match bw s.e hi b.length b.length with
   |some h=>(match bw s.e lo 0 h with
    |some l=>some (.str ((b.take h).drop l),s)
    |none=>none)
   |none=>none)
  |_=>none)
 | .slice w x lo hi mx=>(match cq s.e x with
  |some v=>iz d w lo hi mx v s
  |none=>none)
 | .iV n w x lo hi=>(match cq s.e x with
  |some (.ptr i off)=>(match bw s.e hi n n with
   |some h=>(match bw s.e lo 0 h with
    |some l=>(match s.h[i]? with
     |some (.row cs)=>bif Nat.ble (off+n*w) cs.length then some (.xW i (off+l*w) (h - l) w,s)else none
     |_=>none)
    |none=>none)
   |none=>none)
  |_=>none)
 | .fieldAddr off x=>(match cq s.e x with
  |some (.ptr i o)=>some (.ptr i (o+off),s)
  |some (.eu row o)=>some (.eu row (o+off),s)
  |some (.bD g i o)=>some (.bD g i (o+off),s)
  |_=>none)
 | .field off n x=>(match cq s.e x with
  |some (.agg cs)=>(match iK n cs off with|some v=>some (v,s)|none=>none)
  |_=>none)
 | .indexAddr w x i=>(match cq s.e x,cq s.e i with
  |some (.sl w' xs),some (.int _ n)=>if 0≤n then(match xs[n.toNat]? with|some r=>bif Nat.beq w' w then some (.eu r 0,s)else none|none=>none)else none
  |some (.own g w' xs),some (.int _ n)=>if 0≤n∧n<(xs.length:Int)then(bif Nat.beq w' w then some (.bD g n.toNat 0,s)else none)else none
  |some (.xW j off len w'),some (.int _ n)=>if 0≤n∧n<(len:Int)then(bif Nat.beq w' w then some (.ptr j (off+n.toNat*w),s)else none)else none
  |some (.view g lo len w'),some (.int _ n)=>if 0≤n∧n<(len:Int)then(bif Nat.beq w' w then some (.bD g (lo+n.toNat) 0,s)else none)else none
  |_,_=>none)
 | .mR len w x i=>(match cq s.e x,cq s.e i with
  |some (.ptr j off),some (.int _ n)=>if 0≤n∧n<(len:Int)then some (.ptr j (off+n.toNat*w),s)else none
  |some (.eu row off),some (.int _ n)=>if 0≤n∧n<(len:Int)then some (.eu row (off+n.toNat*w),s)else none
  |_,_=>none)
 | .index x i=>(match cq s.e x,cq s.e i with
  |some (.str b),some (.int _ n)=>if 0≤n then(match b[n.toNat]? with|some c=>some (.int .u8 c.toNat,s)|none=>none)else none
  |_,_=>none)
 | .CB len x i=>(match cq s.e x,cq s.e i with
  |some (.agg cs),some (.int _ n)=>if 0≤n∧n<(len:Int)then(match cs[n.toNat]? with|some v=>some (v,s)|none=>none)else none
  |_,_=>none)
 | .lookup kk zero ok x i=>(match zero.EL,cq s.e x,cq s.e i with
  |some z,some m,some k=>(match fG s kk z ok m k with|some v=>some (v,s)|none=>none)
  |_,_,_=>none)
 | .extract i x=>(match cq s.e x with
  |some (.aX vs)=>(match vs[i]? with|some v=>some (v,s)|none=>none)
  |_=>none)
 | .len k x=>(match cq s.e x with
  |some v=>(match NS s k v with|some n=>some (.int .i64 n,s)|none=>none)
  |none=>none)
 | .cap _=>none
 | .entry x=>(match cq s.e x with
  |some (.ptr q 0)=>(match mL s q with|some v=>some (v,s)|none=>none)
  |_=>none)
 | .max xs=>(match jC s.e xs with
  |some (v::vs)=>(match mP (lN yj) v vs with|some v=>some (v,s)|none=>none)
  |_=>none)
 | .min xs=>(match jC s.e xs with
  |some (v::vs)=>(match mP (lN A0) v vs with|some v=>some (v,s)|none=>none)
  |_=>none)
 | .mF t zero x=>(match zero.EL,cq s.e x with
  |some z,some .cU=>some (.aX [z,.bool false],s)
  |some z,some (.iface u v)=>some (if u=t then .aX [v,.bool true]else .aX [z,.bool false],s)
  |_,_=>none)
def iF(zero:List U)(n:Nat):List (List U):=List.replicate n zero
def chunks(w:Nat):Nat→List U→List (List U)
 |0,_=>[]
 |n+1,cs=>cs.take w::chunks w n (cs.drop w)
def JL(zero:List U):Nat→List U
 |0=>[]
 |n+1=>zero++JL zero n
def ng(s:Vs)(o:Uo):Vs:={s with h:=s.h++[o]}
def yl(d:Nat)(s:Vs):Gv→Option (U×Vs)
 | .alloc zero=>bif(V.dg zero).all (fun u=>u.aJ||u.og)then some (.ptr s.h.length 0,ng s (.row (V.dg zero)))else none
 | .box x=>(match cq s.e x with
  |some (.own (.c _ _) _ _)=>none
  |some (.own .a _ _)=>none
  |some (.own g w xs)=>some (.ptr s.h.length 0,{s with e:=Env.iL g (.c s.h.length 0) s.e,h:=s.h++[.row [.bE w xs]]})
  |some v=>bif v.cells.all U.aJ then some (.ptr s.h.length 0,ng s (.row v.cells))else none
  |none=>none)
 | .buildSlice w len zero parts=>(match bif(V.dg zero).all U.aJ then jX parts (JL (V.dg zero) len) s else none with
  |some (cs,s)=>bif cs.all U.aJ&&U.bW 0 cs&&Nat.beq cs.length (len*w)then some (.own (.t d) w (chunks w len cs),s.kill (.t d))else none
  |none=>none)
 | .makeMap=>some (.map s.h.length,ng s (.map [] 0))
 | .makeSlice w bytes zero len cap=>(match cq s.e len,cq s.e cap with
  |some l,some c=>(match fK c aZ with
   |some c=>(match fK l c with
    |some l=>bif Nat.ble (c*bytes) aZ&&Nat.beq zero.length w&&U.bW 0 (V.dg zero)&&(V.dg zero).all U.aJ then some (.own (.t d) w (iF (V.dg zero) l),s.kill (.t d))else none
    |none=>none)
   |none=>none)
  |_,_=>none)
 | .l9 x=>(match cq s.e x with
  |some (.str b)=>bif Nat.ble b.length aZ then some (.sl 1 (bQ b),s)else none
  |_=>none)
def lW(w:Nat)(ys:List (List U)):Bool:=ys.all fun r=>Nat.beq r.length w
def uv(g:Tg):List U→Bool
 |[]=>true
 | .own g' _ _::r=> !(decide (g' =g))&&uv g r
 |_::r=>uv g r
def pR(s:Vs)(n i off:Nat)(v:U)(cs:List U):Option Vs:=
 match v with
 | .own g w xs=>bif Nat.beq n 1&&Nat.blt off cs.length then(match g with
  | .c _ _=>none
  | .a=>none
  |g=>some {s with e:=Env.iL g (.c i off) (Env.bS (Tg.PD i off 1) s.e),h:=s.h.set i (.row (cs.set off (.bE w xs)))})
  else none
 |v=>bif Nat.beq v.cells.length n&&Nat.ble (off+n) cs.length&&v.cells.all U.aJ then
   some {e:=Env.bS (Tg.PD i off n) s.e,h:=s.h.set i (.row (gi cs off v.cells)),fl:=bif v.low (i+1)then s.fl else s.h.length}
  else none
def jj(s:Vs)(off:Nat)(v:U)(cs:List U):U×Vs:=
 match v with
 | .own g w xs=>(match cs[off]? with
  |some (.sl _ _)=>bif g=.a then(.own g w xs,s)else(.sl w xs,s.lY g)
  |_=>(.own g w xs,s))
 |v=>(v,s)
def oD(i:Nat)(f:(U×U×Nat)→(U×U×Nat)):List (U×U×Nat)→List (U×U×Nat)
 |[]=>[]
 |e::es=>match i with
  |0=>f e::es
  |j+1=>e::oD j f es
def gH(i:Nat):List (U×U×Nat)→List (U×U×Nat)
 |[]=>[]
 |e::es=>match i with
  |0=>es
  |j+1=>e::gH j es
def pL(d:Nat)(s:Vs):xV→Option (U×Vs)
 | .store n a x=>(match cq s.e a,cq s.e x with
  |some (.ptr i off),some v=>(match s.h[i]? with
   |some (.row cs)=>(match jj s off v cs with
    |(v,s)=>(match s.h[i]? with
     |some (.row cs)=>(match pR s n i off v cs with|some s=>some (.aX [],s)|none=>none)
     |_=>none))
   |_=>none)
  |some (.bD g i f),some v=>(match esc v s with
   |some (v,s)=>(match s.cg g with
    |some (w,xs)=>(match xs[i]? with
     |some r=>bif Nat.beq v.cells.length n&&Nat.ble (f+n) r.length&&v.cells.all U.aJ&&v.low 0 then some (.aX [],s.fB g w (xs.set i (gi r f v.cells)))else none
     |none=>none)
    |none=>none)
   |none=>none)
  |_,_=>none)
 | .mapUpdate kk m k x=>(match fM m s with
  |some (.map i,s)=>(match fM k s with
   |some (k,s)=>(match fM x s with
    |some (v,s)=>(match s.h[i]? with
     |some (.map es clock)=>bif dB kk k then
      (let fl:=bif v.low (i+1)then s.fl else s.h.length
      match nJ kk k es 0 with
      |some (some (j,_))=>some (.aX [],{s with h:=s.h.set i (.map (oD j (fun e=>(k,v,e.2.2)) es) clock),fl:=fl})
      |some none=>some (.aX [],{s with h:=s.h.set i (.map (es++[(k,v,clock)]) (clock+1)),fl:=fl})
      |none=>none)else none
     |_=>none)
    |none=>none)
   |none=>none)
  |_=>none)
 | .delete kk m k=>(match cq s.e m,cq s.e k with
  |some .bO,some k=>bif dB kk k then some (.aX [],s)else none
  |some (.map i),some k=>(match s.h[i]? with
   |some (.map es clock)=>bif dB kk k then(match nJ kk k es 0 with
    |some (some (j,_))=>some (.aX [],{s with h:=s.h.set i (.map (gH j es) clock)})
    |some none=>some (.aX [],s)
    |none=>none)else none
   |_=>none)
  |_,_=>none)
 | .append w bytes str a x=>(match cq s.e a,cq s.e x with
  |some a,some x=>(match yJ s w str x with
   |some ys=>(match a with
    | .own g w' xs=>bif !(decide (g=.a))&&Nat.beq w' w&&Nat.ble ((xs.length+ys.length)*bytes) aZ&&Nat.ble (xs.length+ys.length) aZ&&ys.all (fun r=>r.all U.aJ&&U.bW 0 r&&Nat.beq r.length w)then
      some (.own (.t d) w (xs++ys),(s.kill g).kill (.t d))else none
    | .nl w' =>bif Nat.beq w' w&&Nat.ble (ys.length*bytes) aZ&&Nat.ble ys.length aZ&&ys.all (fun r=>r.all U.aJ&&U.bW 0 r&&Nat.beq r.length w)then some (.own (.t d) w ys,(s.kill .r).kill (.t d))else none
    | .sl w' xs=>bif Nat.beq w' w&&ys.isEmpty&&Nat.ble (xs.length*bytes) aZ&&Nat.ble xs.length aZ then some (.sl w xs,s)else none
    |_=>none)
   |none=>none)
  |_,_=>none)
 | .copy w str a x=>(match cq s.e a,cq s.e x with
  |some (.own g w' xs),some x=>(match yJ s w str x with
   |some ys=>bif Nat.beq w' w&&(s.cg g).isSome&&ys.all (fun r=>r.all U.aJ&&U.bW 0 r&&Nat.beq r.length w)then
     some (.int .i64 (min ys.length xs.length:Nat),s.fB g w (ys.take xs.length++xs.drop ys.length))else none
   |none=>none)
  |_,_=>none)
 |_=>none
def sM:U→Option U
 | .own .a _ _=>none
 | .own _ w xs=>some (.sl w xs)
 | .nl w=>some (.sl w [])
 | .bad=>none
 | .bE .. =>none
 | .bD .. =>none
 | .xW .. =>none
 | .view .. =>none
 | .de=>none
 | .aX _=>none
 |v=>some v
def gM:List U→Option (List U)
 |[]=>some []
 |v::vs=>match sM v with
  |some u=>(match gM vs with|some us=>some (u::us)|none=>none)
  |none=>none
def dH(d:Nat)(r:U)(s:Vs):U×Vs:=
 match r with
 | .own .r w xs=>(.own (.t d) w xs,s.kill (.t d))
 |r=>(r,s)
def aH:List U→Vs→Vs
 |[],s=>s
 | .own g _ _::r,s=>aH r (s.lY g)
 |_::r,s=>aH r s
def qt:List U→Bool
 |[]=>false
 |v::vs=>v.LH||qt vs
def eH(k:Nat):Uo→Uo
 | .row cs=> .row (U.fP k cs)
 | .map es c=> .map (es.map fun e=>(e.1.shift k,e.2.1.shift k,e.2.2)) c
 | .iter m a b c=> .iter (m.map (· +k)) a b c
 | .gone=> .gone
def qF(d:Nat)(r:U)(hc:List Uo)(fc:Nat)(s:Vs):U×Vs:=
 match hc with
 |[]=>dH d r s
 |_=>dH d (r.shift s.h.length) {s with h:=s.h++hc.map (eH s.h.length),fl:=bif Nat.beq fc 0 then s.fl else s.h.length+fc}
abbrev FU:=Nat→List U→List Uo→Nat→Option (U×List Uo×Nat)
def gR(h:List Uo):Env→List (Nat×Nat)
 |[]=>[]
 |(_,v)::r=>match v.Wn with
  |some (i,off)=>(match h[i]? with
   |some (.row cs)=>(match cs[off]? with
    |some (.bE _ _)=>(i,off)::gR h r
    |_=>gR h r)
   |_=>gR h r)
  |none=>gR h r
def dZ:List (Nat×Nat)→List Uo→List Uo
 |[],h=>h
 |(i,off)::r,h=>dZ r (setCell h i off .de)
def lJ(h:List Uo)(x:Nat×Nat):Bool:=
 match h[x.1]? with
 |some (.row cs)=>(match cs[x.2]? with
  |some .de=>true
  |_=>false)
 |_=>false
def cellAt(h:List Uo)(i off:Nat):U:=
 match h[i]? with
 |some (.row cs)=>(cs[off]?).getD .bad
 |_=> .bad
def iI(h0:List Uo):List (Nat×Nat)→List Uo→List Uo
 |[],h=>h
 |(i,off)::r,h=>iI h0 r (setCell h i off (cellAt h0 i off))
def fm(L:List (Nat×Nat)):Tg→Bool
 | .c i off=> !(L.any fun x=>Nat.beq x.1 i&&Nat.beq x.2 off)
 |_=>false
def jH(ld:Bool)(F:FU)(d f:Nat)(args:List U)(s:Vs):Option (U×Vs):=
 match gM args with
 |some us=>
  bif U.bW 0 us then
   (match F f us [] 0 with
   |some (r,hc,fc)=>
    some (qF d r hc fc (bif qt args&& !(r.flat&&hc.isEmpty)then aH args s else s))
   |none=>none)
  else
   (let s:=aH args s
   bif ld then
    (let L:=gR s.h s.e
    match F f us (dZ L s.h) s.fl with
    |some (r,h,fl)=>bif L.all (lJ h)then some (dH d r {e:=Env.bS (fm L) s.e,h:=iI s.h L h,fl:=fl})else none
    |none=>none)
   else
   match F f us s.h s.fl with
   |some (r,h,fl)=>some (dH d r {e:=Env.bS Tg.isC s.e,h:=h,fl:=fl})
   |none=>none)
 |none=>none
structure mE where
 q:Nat→Option (List (List U)→List U→Option (List (List U)))
 app:Nat→Option (List (List U)→List U→Option (List (List U)))
 ld:Nat→Bool
 IN:Nat→Option (Nat→List (List U)→List U→Option (Nat×List (List U)))
def yD(Q:mE)(F:FU)(s:Vs)(d f:Nat)(args:List U):Option (U×Vs):=
 match Q.IN f with
 |some q=>(match args with
  | .own g w xs::rest=>(match q w xs rest with
   |some (w',ys)=>some (.own (.t d) w' ys,s.kill (.t d))
   |none=>none)
  |_=>jH (Q.ld f) F d f args s)
 |none=>jH (Q.ld f) F d f args s
section
variable(M:oV)(Q:mE)(F:FU)
def kD(s:Vs)(dst:Option Nat)(o:jF):Option (U×Vs):=
 let d:=dst.getD 0
 match o with
 | .s o=>fQ d s o
 | .m o=>yl d s o
 | .h (.range x)=>(match cq s.e x with
  |some .bO=>some (.ptr s.h.length 0,{s with h:=s.h++[.iter none 0 [] 0]})
  |some (.map m)=>(match s.h[m]? with
   |some (.map _ clock)=>some (.ptr s.h.length 0,{s with h:=s.h++[.iter (some m) clock [] clock]})
   |_=>none)
  |_=>none)
 | .h o=>pL d s o
 | .call f args=>(match cq s.e f,jC s.e args with
  |some (.func f first captured),some vs=>(match Q.q f with
   |some q=>(match first++vs++captured with
    | .own g w xs::rest=>(match q xs rest with
     |some ys=>bif(s.cg g).isSome then some (.aX [],s.fB g w ys)else none
     |none=>none)
    |_=>none)
   |none=>(match Q.app f with
    |some q=>(match first++vs++captured with
     | .own g w xs::rest=>(match q xs rest with
      |some ys=>bif !(decide (g=.a))&&lW w ys&&uv g rest then some (.own (.t d) w ys,(s.kill g).kill (.t d))else none
      |none=>none)
     | .nl w::rest=>(match q [] rest with
      |some ys=>bif lW w ys&&uv .r rest then some (.own (.t d) w ys,(s.kill .r).kill (.t d))else none
      |none=>none)
     |_=>none)
    |none=>yD Q F s d f (first++vs++captured)))
  |_,_=>none)
 | .invoke name x args=>(match cq s.e x,jC s.e args with
  |some (.iface t v),some vs=>(match M t name with
   |some f=>jH (Q.ld f) F d f (v::vs) s
   |none=>none)
  |_,_=>none)
 | .next _=>none
 | .bad=>none
def iq(g:Option (Nat×Bool))(e:Env):Option Bool:=
 match g with
 |none=>some true
 |some (t,want)=>match look e t with
  |some (.bool b)=>some (b==want)
  |some (.aX _)=>some false
  |_=>none
def gx:List aF→Vs→Option Vs
 |[],s=>some s
 |o::r,s=>match iq o.guard s.e with
  |some true=>(match kD M Q F s o.dst o.op with
   |some (v,s)=>gx r {s with e:=iT o.dst v s.e}
   |none=>none)
  |some false=>gx r {s with e:=iT o.dst (.aX []) s.e}
  |none=>none
end
mutual
def U.same:U→U→Bool
 | .bool a,.bool b=>a==b
 | .int j a,.int k b=>decide (j=k)&&decide (a=b)
 | .str a,.str b=>a==b
 | .bA,.bA=>true
 | .bO,.bO=>true
 | .dy,.dy=>true
 | .cU,.cU=>true
 | .ptr i o,.ptr j p=>Nat.beq i j&&Nat.beq o p
 | .map i,.map j=>Nat.beq i j
 | .agg a,.agg b=>U.lX a b
 |_,_=>false
def U.lX:List U→List U→Bool
 |[],[]=>true
 |a::as,b::bs=>U.same a b&&U.lX as bs
 |_,_=>false
end
inductive Rk where
 |ok
 |ld (i:Nat) (n:Option Nat) (off:Nat) (u:U)
 |no
def sX(s:Vs)(op:fR)(u:U):Rk:=
 match op with
 | .load n x=>(match cq s.e x with
  |some (.ptr i off)=> .ld i n off u
  |some (.eu _ _)=> .ok
  |_=> .no)
 | .toStr x=>(match cq s.e x with
  |some (.sl _ _)=> .ok
  |_=> .no)
 |_=> .no
def Rk.holds(s:Vs):Rk→Bool
 | .ok=>true
 | .ld i n off u=>(match s.h[i]? with
  |some (.row cs)=>(match lU i n cs off with
   |some u' =>U.same u u'
   |none=>false)
  |_=>false)
 | .no=>false
def oI(s:Vs)(aQ:Nat):List (Nat×Rk)→Bool
 |[]=>true
 |(i,r)::rest=>(Nat.testBit aQ i||r.holds s)&&oI s aQ rest
def Jg(j:Nat)(n:Option Nat)(off:Nat)(u:U)(l:List Nat×List (Nat×Nat)):List Nat×List (Nat×Nat):=
 bif n.isNone&&(u.LH||u.qaV)then(l.1,(j,off)::l.2)else(j::l.1,l.2)
def pG(s:Vs)(aQ:Nat):List (Nat×Rk)→Option (List Nat×List (Nat×Nat))
 |[]=>some ([],[])
 |(i,r)::rest=>bif Nat.testBit aQ i||r.holds s then pG s aQ rest else match r with
  | .ld j n off u=>(match pG s aQ rest with|some l=>some (Jg j n off u l)|none=>none)
  |_=>none
def fS:List Nat→List Uo→List Uo
 |[],h=>h
 |j::l,h=>fS l (h.set j .gone)
def fT(aQ:Nat):List (Nat×Rk)→List (Nat×Rk)
 |[]=>[]
 |(i,r)::rest=>bif Nat.testBit aQ i then fT aQ rest else(i,r)::fT aQ rest
section
variable(M:oV)(Q:mE)(F:FU)
def fA(s:Vs)(o:jF):Bool:=
 match o with
 | .call f args=>(match cq s.e f,jC s.e args with
  |some (.func f first captured),some vs=>(match Q.q f,Q.app f,gM (first++vs++captured)with
   |none,none,some us=>U.bW 0 us&&(Q.IN f).isNone
   |_,_,_=>false)
  |_,_=>false)
 | .invoke name x args=>(match cq s.e x,jC s.e args with
  |some (.iface t v),some vs=>(match gM (v::vs)with
   |some us=>U.bW 0 us
   |none=>false)
  |_,_=>false)
 |_=>false
def lR(F:FU)(f:Nat)(args:List U)(s:Vs)(hid:List Nat×List (Nat×Nat)):Bool:=
 match gM args with
 |some us=>(match F f us (dZ hid.2 (fS hid.1 (aH args s).h)) (aH args s).fl with
  |some R=>hid.2.all (lJ R.2.1)
  |none=>false)
 |none=>false
def gI(s t:Vs)(o:jF)(aQ:Nat)(ah:List (Nat×Rk)):Bool:=
 match pG t aQ ah with
 |some hid=>(match o with
  | .call f args=>(match cq s.e f,jC s.e args with
   |some (.func f first captured),some vs=>(match Q.q f,Q.app f with
    |none,none=>(Q.IN f).isNone&&lR F f (first++vs++captured) s hid
    |_,_=>false)
   |_,_=>false)
  | .invoke name x args=>(match cq s.e x,jC s.e args with
   |some (.iface t v),some vs=>(match M t name with
    |some f=>lR F f (v::vs) s hid
    |none=>false)
   |_,_=>false)
  |_=>false)
 |none=>false
def bU:List Step→Vs→List (Nat×Rk)→Option Vs
 |[],s,_=>some s
 | .small i o::r,s,ah=>match iq o.guard s.e with
  |some true=>(match kD M Q F s o.dst o.op with
   |some (v,t)=>(match o.op with
    | .s op=>bU r {t with e:=iT o.dst v t.e} (bif op.impure then(i,sX s op v)::ah else ah)
    | .m _=>bU r {t with e:=iT o.dst v t.e} ah
    |_=>none)
   |none=>none)
  |some false=>bU r {s with e:=iT o.dst (.aX []) s.e} ah
  |none=>none
 | .aZ i o::r,s,ah=>match iq o.guard s.e with
  |some true=>(match kD M Q F s o.dst o.op with
   |some (v,t)=>bif fA Q s o.op||oI t o.aQ ah||gI M Q F s t o.op o.aQ ah then bU r {t with e:=iT o.dst v t.e} (fT o.aQ ah)else none
   |none=>none)
  |some false=>bU r {s with e:=iT o.dst (.aX []) s.e} ah
  |none=>none
end
def di:List Nat→Env→Env
 |[],_=>[]
 |t::ts,e=>match look e t with
  |some (.own (.t g) w xs)=>(t,.own (.t t) w xs)::di ts (Env.kill (.t g) e)
  |some (.own .r w xs)=>(t,.own (.t t) w xs)::di ts (Env.kill .r e)
  |some (.bD (.t _) _ _)=>(t,.bad)::di ts e
  |some (.bD .r _ _)=>(t,.bad)::di ts e
  |some (.view (.t _) _ _ _)=>(t,.bad)::di ts e
  |some (.view .r _ _ _)=>(t,.bad)::di ts e
  |some v=>(t,v)::di ts e
  |none=>di ts e
def Hv(n:Nat):Env→Bool
 |[]=>true
 |(_,v)::r=>v.low n&&Hv n r
def cut(n fl:Nat)(h:List Uo):List Uo:=h.take (max n fl)
def keep(L:List Nat)(n:Nat)(s:Vs):Vs:=
 let e:=di L s.e
 {e:=e,h:=bif Hv n e then cut n s.fl s.h else s.h,fl:=s.fl}
structure az where
 ntmps:Nat
 results:List tX
 own:Bool -- a slice is handed back as one's own
 body:aj
 head:Nat→List Nat -- what is live at a loop's head,by its block
 tail:Nat→List Nat -- what is live behind a block
def HP(s:Vs):tX→Option U
 | .t n=>look s.e n
 | .cell a n=>(match look s.e a with
  |some (.ptr i off)=>(match s.h[i]? with
   |some (.row cs)=>lU i n cs off
   |_=>none)
  |_=>none)
def qj(s:Vs):List tX→Option (List U)
 |[]=>some []
 |r::rs=>match HP s r with
  |some v=>(match qj s rs with|some vs=>some (v::vs)|none=>none)
  |none=>none
def U.jD(own:Bool):U→Option U
 | .own (.c _ _) w xs=>none
 | .own .a w xs=>none
 | .own _ w xs=>some (bif own then .own .r w xs else .sl w xs)
 | .nl w=>some (.sl w [])
 | .bad=>none
 | .bE .. =>none
 | .bD .. =>none
 | .xW .. =>none
 | .view .. =>none
 | .de=>none
 | .aX _=>none
 |v=>some v
def sW(own:Bool):List U→Option (List U)
 |[]=>some []
 |v::vs=>match v.jD own with
  |some u=>(match sW own vs with|some us=>some (u::us)|none=>none)
  |none=>none
def Gx(n:Nat)(h:List Uo):List Uo:=h.take n++((h.drop n).dropLast.map fun _=>Uo.gone)++(h.drop n).getLast?.toList
def CF(n:Nat)(fn:az)(s:Vs):Option (U×List Uo×Nat):=
 match qj s fn.results with
 |some [v]=>(match v.jD fn.own with
  |some r=>some (r,bif r.low n then cut n s.fl s.h else s.h,s.fl)
  |none=>none)
 |some vs=>(match sW false vs with
  |some us=>some (.aX us,bif U.bW n us then cut n s.fl s.h else bif fn.own then s.h else Gx n s.h,s.fl)
  |none=>none)
 |none=>none
def lT:List U→Nat→Env
 |[],_=>[]
 |v::vs,i=>(i,v)::lT vs (i+1)
def td(es:List (U×U×Nat))(since:Nat)(seen:List Nat):List (Option (U×U×Nat)):=
 let left:=es.filter fun e=> !seen.contains e.2.2;let old:=left.filter fun e=>Nat.blt e.2.2 since;let new:=left.filter fun e=>Nat.ble since e.2.2
 (bif old.isEmpty then[none]else[])++(old++new).map some
def HA(s:Vs)(dst:Option Nat)(q j since:Nat)(seen:List Nat)(clock:Nat)(k:Vs→Prop):Option (U×U×Nat)→Prop
 |some e=>k {e:=iT dst (.aX [.bool true,e.1,e.2.1]) s.e,h:=s.h.set q (.iter (some j) since (seen++[e.2.2]) clock),fl:=s.fl}
 |none=>k {s with e:=iT dst (.aX [.bool false]) s.e}
def iu(s:Vs)(dst:Option Nat)(x:bH)(k:Vs→Prop):Prop:=
 match cq s.e x with
 |some (.ptr q 0)=>(match s.h[q]? with
  |some (.iter none _ _ _)=>k {s with e:=iT dst (.aX [.bool false]) s.e}
  |some (.iter (some j) since seen last)=>(match s.h[j]? with
   |some (.map es clock)=>(!seen.isEmpty&& !es.isEmpty&&es.all (fun e=>Nat.ble last e.2.2))=false∧∀ c∈td es since seen,HA s dst q j since seen clock k c
   |_=>False)
  |_=>False)
 |_=>False
open Classical in
noncomputable def pick{α:Type}(P:α→Prop):Option α:=if h:∃ x,P x then some h.choose else none
def kE(k:Nat)(fn:az)(R:U×List Uo×Nat)(ex:Ex)(s:Vs):Prop:=
 match ex with
 | .exit _=>False
 |_=>CF k fn s=some R
def kB(fn:az)(id n:Nat)(K:Ex→Vs→Prop)(ex:Ex)(t:Vs):Prop:=
 match ex with
 | .normal=>K .normal (keep (fn.tail id) n t)
 | .exit i=>bif Nat.beq i id then K .normal (keep (fn.tail id) n t)else K (.exit i) t
 | .ret=>K .ret t
def iy(K:Ex→Vs→Prop):Option Vs→Prop
 |some s=>K .normal s
 |none=>False
section
variable(VF:Nat→Option az)(M:oV)(Q:mE)(Pm:XH)
def jT(F:FU)(s:Vs)(K:Ex→Vs→Prop):List aF→Prop
 |⟨dst,.next x,none,_⟩::ops=>iu s dst x fun t=>iy K (gx M Q F ops t)
 |ops=>iy K (gx M Q F ops s)
def kW(F:FU)(s:Vs)(K:Ex→Vs→Prop):Option (List Step)→Prop
 |some l=>iy K (bU M Q F l s [])
 |none=>False
mutual
noncomputable def vC:Nat→az→aj→Vs→(Ex→Vs→Prop)→Prop
 |0,_,_,_,_=>False
 |n+1,fn,c,s,K=>
  match c with
  | .skip=>K .normal s
  | .region ops=>jT M Q (vF n) s K ops
  | .draw ops=>kW M Q (vF n) s K (sched (ops.length+1) (bt ops 0) 0)
  | .seq a b=>vC n fn a s fun ex s=>match ex with
   | .normal=>vC n fn b s K
   |ex=>K ex s
  | .cond x a b=>(match cq s.e x with
   |some (.bool true)=>vC n fn a s K
   |some (.bool false)=>vC n fn b s K
   |_=>False)
  | .block id (.loop b)=>vL n fn id b s.h.length (keep (fn.head id) s.h.length s) K
  | .block id b=>vC n fn b s (kB fn id s.h.length K)
  | .exit i=>K (.exit i) s
  | .ret=>K .ret s
  |_=>False
noncomputable def vL:Nat→az→Nat→aj→Nat→Vs→(Ex→Vs→Prop)→Prop
 |0,_,_,_,_,_,_=>False
 |n+1,fn,id,b,m,s,K=>vC n fn b s fun ex t=>match ex with
  | .normal=>vL n fn id b m (keep (fn.head id) m t) K
  |ex=>kB fn id m K ex t
noncomputable def vF:Nat→FU
 |0,_,_,_,_=>none
 |n+1,f,args,h,fl=>(match Pm f with
  |some p=>p args h fl
  |none=>(match VF f with
   |none=>none
   |some fn=>bif Nat.ble args.length fn.ntmps then pick (fun R=>vC n fn fn.body ⟨lT args 0,h,fl⟩ (kE h.length fn R))else none))
end
end
end Go.RE
namespace Go.RE
section
variable{C:Nat→Option b8}{M:oV}{F:Nat→List V→St→(V→St→Prop)→Prop}
end
end Go.RE
namespace Go.RE
section
variable{env:PT V}{s:St}
end
theorem Cu{n:Nat}(h:n≤9223372036854775807):aI .i64 (n:Int)=(n:Int):=by
 show(bif Nat.ble n (AN .i64)then Int.ofNat n else IntKind.wrap .i64 (.ofNat n))=_;have:Nat.ble n (AN .i64)=true:=ou h;rw[this];rfl
theorem eY{n:Nat}(h:n<9223372036854775807):aI .i64 ((n:Int)+1)=((n+1:Nat):Int):=Cu (n:=n+1) (by omega)
section
variable{k:IntKind}{a b:Int}
end
end Go.RE
namespace Go.RE
theorem Eb{w:Nat}:∀ {rows:List (List V)},(∀ r∈rows,r.length=w)→rows.flatten.length=rows.length*w∧∀ i (h:i<rows.length),(rows.flatten.drop (i*w)).take w=rows[i]:=by
 intro rows
 induction rows with
 |nil=>intro _;simp
 |cons r rs ih=>
  intro hw;obtain⟨h1,h2⟩:=ih (fun x hx=>hw x (gB _ hx));have hr:r.length=w:=hw r eU;refine⟨?_,fun i hi=> ?_⟩
  ·simp only[List.flatten_cons,lG,h1,hr,List.length_cons,Nat.succ_mul];omega
  ·cases i with
   |zero=>simp only[Nat.zero_mul,List.drop_zero,List.flatten_cons,List.getElem_cons_zero];rw[List.take_append_of_le_length (by omega),jU (by omega)]
   |succ i=>
    simp only[List.flatten_cons,List.getElem_cons_succ];have:(i+1)*w=r.length+i*w:=by rw[hr,Nat.succ_mul];omega
    rw[this,←List.drop_drop,List.drop_left];exact h2 i (by simpa using hi)
theorem nV{s:St}{b off len cap w:Nat}{ex:Bool}{cs:List V}(h:s.row b=some cs)(hl:off+len*w≤cs.length):bG s w (.slice b off len cap w ex)=some ((cs.drop off).take (len*w)):=by
 simp only[bG,h,iY,ou hl,Bool.and_true,cond_true]
end Go.RE
namespace Go.RE
inductive UR(σ:Nat→Nat)(Z:Nat→Option (List V)):Nat→U→V→Prop
 |bool {n} (b:Bool):UR σ Z n (.bool b) (.bool b)
 |int {n} (k:IntKind) (x:Int):UR σ Z n (.int k x) (.int k x)
 |str {n} (s:List UInt8):UR σ Z n (.str s) (.str s)
 |bA {n}:UR σ Z n .bA .bA
 |bu {n}:UR σ Z n .bu .bu
 |bO {n}:UR σ Z n .bO .bO
 |dy {n}:UR σ Z n .dy .dy
 |cU {n}:UR σ Z n .cU .cU
 |ptr {n i off} (h:i<n):UR σ Z n (.ptr i off) (.ptr (σ i) off)
 |map {n i} (h:i<n):UR σ Z n (.map i) (.map (σ i))
 |jy {n row off b o row'} (hz:Z b=some row') (hr:o+row.length≤row'.length)
   (hv:∀ (j:Nat) u v,row[j]? =some u→((row'.drop o).take row.length)[j]? =some v→UR σ Z 0 u v):UR σ Z n (.eu row off) (.ptr b (o+off))
 |jw {n row off o row'} (hr:o+row.length≤row'.length)
   (hv:∀ (j:Nat) u v,row[j]? =some u→((row'.drop o).take row.length)[j]? =some v→UR σ Z 0 u v):UR σ Z n (.eu row off) (.eu row' (o+off))
 |slnil {n w}:UR σ Z n (.sl w []) .bu
 |yI {n w}:UR σ Z n (.sl w []) .bK
 |CJ {n w}:UR σ Z n (.nl w) .bu
 |Dr {n w}:UR σ Z n (.nl w) .bK
 |zd {n w xs b off len cap ex row'} (hn:len=xs.length) (hz:Z b=some row') (hl:∀ r∈xs,r.length=w) (hcap:len≤cap) (hr:off+xs.length*w≤row'.length)
   (hv:∀ (j:Nat) u v,xs.flatten[j]? =some u→((row'.drop off).take (xs.length*w))[j]? =some v→UR σ Z 0 u v):UR σ Z n (.sl w xs) (.slice b off len cap w ex)
 |CN {n w xs off len row'} (hn:len=xs.length) (hl:∀ r∈xs,r.length=w) (hr:off+xs.length*w≤row'.length)
   (hv:∀ (j:Nat) u v,xs.flatten[j]? =some u→((row'.drop off).take (xs.length*w))[j]? =some v→UR σ Z 0 u v):UR σ Z n (.sl w xs) (.ag row' off len w)
 |func {n f a b a' b'} (ha:a.length=a'.length) (hb:b.length=b'.length)
   (va:∀ (j:Nat) u v,a[j]? =some u→a'[j]? =some v→UR σ Z n u v) (vb:∀ (j:Nat) u v,b[j]? =some u→b'[j]? =some v→UR σ Z n u v):UR σ Z n (.func f a b) (.func f a' b')
 |iface {n t u v} (h:UR σ Z n u v):UR σ Z n (.iface t u) (.iface t v)
 |agg {n a a'} (ha:a.length=a'.length) (va:∀ (j:Nat) u v,a[j]? =some u→a'[j]? =some v→UR σ Z n u v):UR σ Z n (.agg a) (.agg a')
 |aX {n a a'} (ha:a.length=a'.length) (va:∀ (j:Nat) u v,a[j]? =some u→a'[j]? =some v→UR σ Z n u v):UR σ Z n (.aX a) (.aX a')
def LU(σ:Nat→Nat)(Z:Nat→Option (List V))(n:Nat)(a:List U)(b:List V):Prop:=a.length=b.length∧∀ (j:Nat) u v,a[j]? =some u→b[j]? =some v→UR σ Z n u v
section
variable{σ σ' :Nat→Nat}{Z Z' :Nat→Option (List V)}{n m:Nat}
theorem UR.mono(hn:n≤m)(hσ:∀ i,i<n→σ' i=σ i)(hZ:∀ b r,Z b=some r→Z' b=some r){u:U}{v:V}(h:UR σ Z n u v):UR σ' Z' m u v:=by
 induction h generalizing m with
 |bool b=>exact .bool b
 |int k x=>exact .int k x
 |str s=>exact .str s
 |bA=>exact .bA
 |bu=>exact .bu
 |bO=>exact .bO
 |dy=>exact .dy
 |cU=>exact .cU
 |ptr h=>rw[←hσ _ h];exact .ptr (by omega)
 |map h=>rw[←hσ _ h];exact .map (by omega)
 |jy hz hr hv ih=>exact .jy (hZ _ _ hz) hr fun j u v h1 h2=>ih j u v h1 h2 (aq 0) (fun i hi=>by omega)
 |jw hr hv ih=>exact .jw hr fun j u v h1 h2=>ih j u v h1 h2 (aq 0) (fun i hi=>by omega)
 |slnil=>exact .slnil
 |yI=>exact .yI
 |CJ=>exact .CJ
 |Dr=>exact .Dr
 |zd hq hz hl hc hr hv ih=>exact .zd hq (hZ _ _ hz) hl hc hr fun j u v h1 h2=>ih j u v h1 h2 (aq 0) (fun i hi=>by omega)
 |CN hq hl hr hv ih=>exact .CN hq hl hr fun j u v h1 h2=>ih j u v h1 h2 (aq 0) (fun i hi=>by omega)
 |func ha hb va vb iha ihb=>exact .func ha hb (fun j u v h1 h2=>iha j u v h1 h2 hn hσ) (fun j u v h1 h2=>ihb j u v h1 h2 hn hσ)
 |iface h ih=>exact .iface (ih hn hσ)
 |agg ha va ih=>exact .agg ha fun j u v h1 h2=>ih j u v h1 h2 hn hσ
 |aX ha va ih=>exact .aX ha fun j u v h1 h2=>ih j u v h1 h2 hn hσ
theorem LU.mono(hn:n≤m)(hσ:∀ i,i<n→σ' i=σ i)(hZ:∀ b r,Z b=some r→Z' b=some r){a:List U}{b:List V}(h:LU σ Z n a b):LU σ' Z' m a b:=
 ⟨h.1,fun j u v h1 h2=>(h.2 j u v h1 h2).mono hn hσ hZ⟩
theorem LU.nil:LU σ Z n [] []:=⟨rfl,fun j u v h=>by simp at h⟩
theorem LU.cons{u:U}{v:V}{us:List U}{vs:List V}(h:UR σ Z n u v)(hs:LU σ Z n us vs):LU σ Z n (u::us) (v::vs):=
 ⟨by simp[hs.1],fun j a b h1 h2=>by
  cases j with
  |zero=>simp at h1 h2;subst h1;subst h2;exact h
  |succ j=>simp at h1 h2;exact hs.2 j a b h1 h2⟩
theorem LU.dV{vs:List V}(h:LU σ Z n [] vs):vs=[]:=jq h.1.symm
theorem LU.bx{u:U}{us:List U}{vs:List V}(h:LU σ Z n (u::us) vs):∃ v vs',vs=v::vs'∧UR σ Z n u v∧LU σ Z n us vs' :=by
 cases vs with
 |nil=>have:=h.1;simp at this
 |cons v vs=>
  refine⟨v,vs,rfl,h.2 0 u v rfl rfl,?_,fun j a b h1 h2=>h.2 (j+1) a b (by simpa using h1) (by simpa using h2)⟩;have:=h.1;simpa using this
theorem LU.append{a c:List U}{b d:List V}(h:LU σ Z n a b)(hs:LU σ Z n c d):LU σ Z n (a++c) (b++d):=by
 induction a generalizing b with
 |nil=>rw[h.dV];exact hs
 |cons u us ih=>
  obtain⟨v,vs,rfl,h1,h2⟩:=h.bx;exact LU.cons h1 (ih h2)
theorem LU.take{a:List U}{b:List V}(k:Nat)(h:LU σ Z n a b):LU σ Z n (a.take k) (b.take k):=
 ⟨by simp[h.1],fun j u v h1 h2=>by
  rw[jP]at h1 h2;split at h1<;>simp_all;exact h.2 j u v h1 h2⟩
theorem LU.drop{a:List U}{b:List V}(k:Nat)(h:LU σ Z n a b):LU σ Z n (a.drop k) (b.drop k):=
 ⟨by simp[h.1],fun j u v h1 h2=>by
  rw[qd]at h1 h2;exact h.2 _ u v h1 h2⟩
theorem LU.get{a:List U}{b:List V}(h:LU σ Z n a b){j:Nat}{u:U}(hu:a[j]? =some u):∃ v,b[j]? =some v∧UR σ Z n u v:=by
 obtain⟨hj,rfl⟩:=bn.1 hu;have hj' :j<b.length:=h.1▸hj;exact⟨b[j],bL hj',h.2 j _ _ hu (bL hj')⟩
theorem qK{m:Nat}:∀ {a:List U},U.bW m a=true→∀ (j:Nat) u,a[j]? =some u→u.low m=true:=by
 intro a
 induction a with
 |nil=>intro _ j u h;simp at h
 |cons x a ih=>
  intro h j u hu;simp only[U.bW,bC]at h;cases j with
  |zero=>simp at hu;subst hu;exact h.1
  |succ j=>exact ih h.2 j u (by simpa using hu)
theorem UR.low{u:U}{v:V}(h:UR σ Z n u v)(hl:u.low m=true):UR σ Z m u v:=by
 induction h generalizing m with
 |bool b=>exact .bool b
 |int k x=>exact .int k x
 |str s=>exact .str s
 |bA=>exact .bA
 |bu=>exact .bu
 |bO=>exact .bO
 |dy=>exact .dy
 |cU=>exact .cU
 |ptr h=>exact .ptr (by simpa[U.low]using hl)
 |map h=>exact .map (by simpa[U.low]using hl)
 |jy hz hr hv ih=>exact .jy hz hr hv
 |jw hr hv ih=>exact .jw hr hv
 |slnil=>exact .slnil
 |yI=>exact .yI
 |CJ=>exact .CJ
 |Dr=>exact .Dr
 |zd hn hz hl' hc hr hv ih=>exact .zd hn hz hl' hc hr hv
 |CN hn hl' hr hv ih=>exact .CN hn hl' hr hv
 |func ha hb va vb iha ihb=>
  simp only[U.low,bC]at hl;exact .func ha hb (fun j u v h1 h2=>iha j u v h1 h2 (qK hl.1 j u h1)) (fun j u v h1 h2=>ihb j u v h1 h2 (qK hl.2 j u h1))
 |iface h ih=>exact .iface (ih (by simpa[U.low]using hl))
 |agg ha va ih=>exact .agg ha fun j u v h1 h2=>ih j u v h1 h2 (qK (by simpa[U.low]using hl) j u h1)
 |aX ha va ih=>exact .aX ha fun j u v h1 h2=>ih j u v h1 h2 (qK (by simpa[U.low]using hl) j u h1)
theorem LU.low{a:List U}{b:List V}(h:LU σ Z n a b)(hl:U.bW m a=true):LU σ Z m a b:=
 ⟨h.1,fun j u v h1 h2=>(h.2 j u v h1 h2).low (qK hl j u h1)⟩
theorem kI{k:Nat}:∀ {a:List U} {j:Nat} {u:U},(U.fP k a)[j]? =some u→∃ x,a[j]? =some x∧u=x.shift k:=by
 intro a
 induction a with
 |nil=>intro j u h;simp[U.fP]at h
 |cons x a ih=>
  intro j u h;cases j with
  |zero=>simp[U.fP]at h;exact⟨x,rfl,h.symm⟩
  |succ j=>simp[U.fP]at h;simpa using ih h
theorem ny{k:Nat}:∀ {a:List U},(U.fP k a).length=a.length:=by
 intro a
 induction a with
 |nil=>rfl
 |cons x a ih=>simp[U.fP,ih]
theorem UR.shift{k:Nat}(hσ:∀ i,i<n→σ' (i+k)=σ i)(hm:n+k≤m){u:U}{v:V}(h:UR σ Z n u v):UR σ' Z m (u.shift k) v:=by
 have h0:∀ {u v},UR σ Z 0 u v→UR σ' Z 0 u v:=fun h=>h.mono (aq 0) (fun i hi=>by omega) (fun _ _ h=>h)
 induction h generalizing m with
 |bool b=>exact .bool b
 |int k x=>exact .int k x
 |str s=>exact .str s
 |bA=>exact .bA
 |bu=>exact .bu
 |bO=>exact .bO
 |dy=>exact .dy
 |cU=>exact .cU
 |ptr h=>rw[←hσ _ h];exact .ptr (by omega)
 |map h=>rw[←hσ _ h];exact .map (by omega)
 |jy hz hr hv ih=>exact .jy hz hr fun j u v h1 h2=>h0 (hv j u v h1 h2)
 |jw hr hv ih=>exact .jw hr fun j u v h1 h2=>h0 (hv j u v h1 h2)
 |slnil=>exact .slnil
 |yI=>exact .yI
 |CJ=>exact .CJ
 |Dr=>exact .Dr
 |zd hn hz hl' hc hr hv ih=>exact .zd hn hz hl' hc hr fun j u v h1 h2=>h0 (hv j u v h1 h2)
 |CN hn hl' hr hv ih=>exact .CN hn hl' hr fun j u v h1 h2=>h0 (hv j u v h1 h2)
 |func ha hb va vb iha ihb=>
  refine .func (by rw[ny];exact ha) (by rw[ny];exact hb) (fun j u v h1 h2=> ?_) (fun j u v h1 h2=> ?_)
  ·obtain⟨x,hx,rfl⟩:=kI h1;exact iha j x v hx h2 hσ hm
  ·obtain⟨x,hx,rfl⟩:=kI h1;exact ihb j x v hx h2 hσ hm
 |iface h ih=>exact .iface (ih hσ hm)
 |agg ha va ih=>
  refine .agg (by rw[ny];exact ha) fun j u v h1 h2=> ?_;obtain⟨x,hx,rfl⟩:=kI h1;exact ih j x v hx h2 hσ hm
 |aX ha va ih=>
  refine .aX (by rw[ny];exact ha) fun j u v h1 h2=> ?_;obtain⟨x,hx,rfl⟩:=kI h1;exact ih j x v hx h2 hσ hm
theorem N9:∀ {a b:List U},U.lX a b=true→a.length=b.length∧∀ (j:Nat) x y,a[j]? =some x→b[j]? =some y→U.same x y=true:=by
 intro a
 induction a with
 |nil=>intro b h;cases b<;>simp[U.lX]at h⊢
 |cons x a ih=>
  intro b h;cases b with
  |nil=>simp[U.lX]at h
  |cons y b=>
   simp only[U.lX,bC]at h;obtain⟨h1,h2⟩:=ih h.2;refine⟨by simp[h1],fun j p q hp hq=> ?_⟩;cases j with
   |zero=>simp at hp hq;subst hp;subst hq;exact h.1
   |succ j=>simp at hp hq;exact h2 j p q hp hq
theorem UR.same{u u' :U}{v v' :V}(h:UR σ Z n u v)(h' :UR σ Z n u' v')(hs:U.same u u' =true):v=v' :=by
 induction h generalizing u' v' with
 |bool b=>cases h' <;>simp_all [U.same]
 |int k x=>cases h' <;>simp_all [U.same]
 |str s=>cases h' <;>simp_all [U.same]
 |bA=>cases h' <;>simp_all [U.same]
 |bu=>cases h' <;>simp_all [U.same]
 |bO=>cases h' <;>simp_all [U.same]
 |dy=>cases h' <;>simp_all [U.same]
 |cU=>cases h' <;>simp_all [U.same]
 |ptr h=>cases h' <;>simp_all [U.same]
 |map h=>cases h' <;>simp_all [U.same]
 |agg ha va ih=>
  cases h' <;>simp[U.same]at hs;rename_i a' b' hb vb;obtain⟨h1,h2⟩:=N9 hs;congr 1;apply List.ext_getElem?;intro j;rename_i p q;cases hx:p[j]? with
  |none=>
   have hl:=List.getElem?_eq_none_iff.1 hx;rw[List.getElem?_eq_none (by omega),List.getElem?_eq_none (by omega)]
  |some x=>
   obtain⟨hj,_⟩:=bn.1 hx;have e1:=bL (l:=q) (i:=j) (by omega);have e2:=bL (l:=a') (i:=j) (by omega);have e3:=bL (l:=b') (i:=j) (by omega);rw[e1,e3,ih j _ _ hx e1 (vb j _ _ e2 e3) (h2 j _ _ hx e2)]
 |_=>simp[U.same]at hs
end
end Go.RE
namespace Go.RE
structure oa where
 b:Nat
 off:Nat
 cap:Nat
 ex:Bool
 w:Nat
 row:List V
 xs:List (List U)
abbrev Sg:=Nat→Nat
abbrev Zs:=Nat→Option (List V)
abbrev Om:=Tg→Option oa
def OR(σ:Sg)(Z:Zs)(ω:Om)(g:Tg)(w:Nat)(xs:List (List U))(v:V):Prop:=
 match ω g with
 |none=>xs=[]∧(v=.bu∨v=.bK)
 |some I=>v=.slice I.b I.off xs.length I.cap w I.ex∧(I.w=w∧I.xs=xs)∧xs.length≤I.cap∧I.off+I.cap*w≤I.row.length∧(∀ r∈xs,r.length=w)∧LU σ Z 0 xs.flatten ((I.row.drop I.off).take (xs.length*w))
def VW(ω:Om)(g:Tg)(lo len w:Nat)(v:V):Prop:=
 match ω g with
 |none=>len=0∧(v=.bu∨v=.bK)
 |some I=>(∃ cap ex,v=.slice I.b (I.off+lo*w) len cap w ex∧len≤cap)∧I.w=w∧lo+len≤I.xs.length∨len=0∧(v=.bu∨v=.bK)
def TR(σ:Sg)(Z:Zs)(ω:Om)(n:Nat):U→V→Prop
 | .bad,_=>True
 | .bE ..,_=>True
 | .own g w xs,v=>OR σ Z ω g w xs v∧∀ i off,g=.c i off→i<n
 | .bD g i f,v=>(∃ I,ω g=some I∧v=.ptr I.b (I.off+i*I.w+f))∧∀ i off,g=.c i off→i<n
 | .view g lo len w,v=>VW ω g lo len w v∧∀ i off,g=.c i off→i<n
 | .de,_=>True
 | .xW i off len w,v=>i<n∧∃ cap,len≤cap∧v=.slice (σ i) off len cap w true
 |u,v=>UR σ Z n u v
def CR(σ:Sg)(Z:Zs)(ω:Om)(n i off:Nat):U→V→Prop
 | .bad,_=>True
 | .de,_=>True
 | .bE w xs,v=>OR σ Z ω (.c i off) w xs v
 |u,v=>UR σ Z n u v
def OB(σ:Sg)(Z:Zs)(ω:Om)(n i:Nat):Uo→Option Ob→Prop
 | .row cs,ob=>∃ cs',ob=some (.row cs')∧cs.length=cs'.length∧∀ (off:Nat) u v,cs[off]? =some u→cs'[off]? =some v→CR σ Z ω n i off u v
 | .map es c,ob=>∃ es',ob=some (.map es' c)∧es.length=es'.length∧∀ (j:Nat) e e',es[j]? =some e→es'[j]? =some e'→UR σ Z n e.1 e'.key∧UR σ Z n e.2.1 e'.val∧e'.born=e.2.2
 | .iter m a b c,ob=>ob=some (.fZ (m.map σ) a b c)∧∀ j,m=some j→j<n
 | .gone,_=>True
structure qe where
 n:Nat
 σ:Sg
 I:Nat→Prop
 Z:Zs
 st:St
 G:Nat→Prop -- what lies hidden
 A:Option (Nat×Nat×Nat×Bool×Nat) -- where the slice lies that was handed on to be written
 L:Nat→Nat→Prop -- which cells are in use behind the call
def jh(h:List Uo)(i off:Nat):Prop:=∃ cs,h[i]? =some (.row cs)∧cs[off]? =some .de
def LN(E:qe)(σ:Sg)(h:List Uo)(st:St):Prop:=∀ (i off:Nat) cs,h[i]? =some (.row cs)→cs[off]? =some .de→(E.L i off∧i<E.n)∧∃ r r',st.get (σ i)=some (.row r)∧E.st.get (E.σ i)=some (.row r')∧r[off]? =r'[off]?
def oa.desc(I:oa):Nat×Nat×Nat×Bool×Nat:=(I.b,I.off,I.cap,I.ex,I.w)
def WA(E:qe)(ω:Om):Prop:=(ω .a).map oa.desc=E.A
structure Ok(E:qe)(σ:Sg)(Z:Zs)(ω:Om)(s:Vs)(e:PT V)(st:St):Prop where
 env:∀ t u,look s.e t=some u→∃ v,e.get t=some v∧TR σ Z ω s.h.length u v
 obj:∀ (i:Nat) o,s.h[i]? =some o→OB σ Z ω s.h.length i o (st.get (σ i))
 qc:∀ b r,Z b=some r→st.row b=some r
 lF:∀ g I,ω g=some I→st.get I.b=some (.row I.row)
 fresh:∀ b,st.next≤b→st.get b=none
 inj:∀ i j,i<s.h.length→j<s.h.length→σ i=σ j→i=j
 gJ:∀ g g' I I',ω g=some I→ω g' =some I'→I.b=I'.b→g=g'
 sw:∀ i g I,i<s.h.length→ω g=some I→σ i≠I.b
 sz:∀ i,i<s.h.length→Z (σ i)=none
 wz:∀ g I,ω g=some I→Z I.b=none
 sb:∀ i,i<s.h.length→σ i<st.next
 zW:ω .r=none∧WA E ω
 wc:∀ i off I,ω (.c i off)=some I→i<s.h.length
 n0:E.n≤s.h.length
 sig:∀ i,i<E.n→σ i=E.σ i
 zz:∀ b r,E.Z b=some r→Z b=some r
 nx:E.st.next≤st.next
 out:∀ b,b<E.st.next→¬E.I b→st.get b=E.st.get b∧(∀ i,i<s.h.length→σ i≠b)∧(∀ g I,ω g=some I→I.b≠b)∧(∀ r,Z b=some r→E.Z b=some r)
 wE:(∀ (i:Nat),E.G i→i<E.n∧s.h[i]? =some .gone∧st.get (σ i)=E.st.get (E.σ i))∧LN E σ s.h st
theorem Ok.wr{E:qe}{σ:Sg}{Z:Zs}{ω:Om}{s:Vs}{e:PT V}{st:St}(h:Ok E σ Z ω s e st):ω .r=none:=h.zW.1
theorem Ok.gn{E:qe}{σ:Sg}{Z:Zs}{ω:Om}{s:Vs}{e:PT V}{st:St}(h:Ok E σ Z ω s e st):∀ (i:Nat),E.G i→i<E.n∧s.h[i]? =some .gone∧st.get (σ i)=E.st.get (E.σ i):=h.wE.1
theorem LN.sub{E:qe}{σ:Sg}{h h' :List Uo}{st:St}(hl:LN E σ h st)(hs:∀ (i off:Nat) cs,h'[i]? =some (.row cs)→cs[off]? =some .de→∃ ds,h[i]? =some (.row ds)∧ds[off]? =some .de):LN E σ h' st:=
 fun i off cs h1 h2=>let⟨ds,a,b⟩:=hs i off cs h1 h2;hl i off ds a b
theorem LN.set{E:qe}{σ:Sg}{h:List Uo}{st:St}{i:Nat}{o:Uo}(hl:LN E σ h st)(hs:∀ (off:Nat) cs,o=.row cs→cs[off]? =some .de→∃ ds,h[i]? =some (.row ds)∧ds[off]? =some .de):LN E σ (h.set i o) st:=
 hl.sub fun j off cs h1 h2=>by
  rw[eM]at h1;by_cases hj:i=j
  ·subst hj;rw[if_pos rfl]at h1;split at h1<;>simp at h1;exact hs off cs h1 h2
  ·rw[if_neg hj]at h1;exact⟨cs,h1,h2⟩
theorem LN.mem{E:qe}{σ:Sg}{h:List Uo}{st st' :St}(hl:LN E σ h st)(hg:∀ i,i<h.length→st'.get (σ i)=st.get (σ i)):LN E σ h st' :=
 fun i off cs h1 h2=>by rw[hg i (bn.1 h1).1];exact hl i off cs h1 h2
theorem WA.up{E:qe}{ω:Om}{ω' :Om}(h:WA E ω)(hg:ω' .a=ω .a):WA E ω' :=by unfold WA at h⊢;rw[hg];exact h
def U.tag:U→Option Tg
 | .own g _ _=>some g
 | .bD g _ _=>some g
 | .view g _ _ _=>some g
 |_=>none
section
variable{E:qe}{σ σ' :Sg}{Z Z' :Zs}{ω ω' :Om}{s:Vs}{e:PT V}{st:St}{n m:Nat}
theorem OR.mono(hZ:∀ b r,Z b=some r→Z' b=some r){g:Tg}(hg:ω' g=ω g){w:Nat}{xs:List (List U)}{v:V}(h:OR σ Z ω g w xs v):OR σ' Z' ω' g w xs v:=by
 unfold OR at h⊢;rw[hg];split at h
 ·exact h
 ·exact⟨h.1,h.2.1,h.2.2.1,h.2.2.2.1,h.2.2.2.2.1,h.2.2.2.2.2.mono (aq 0) (fun i hi=>by omega) hZ⟩
theorem VW.mono{g:Tg}(hg:ω' g=ω g){lo len w:Nat}{v:V}(h:VW ω g lo len w v):VW ω' g lo len w v:=by
 unfold VW at h⊢;rw[hg];exact h
theorem TR.mono(hn:n≤m)(hσ:∀ i,i<n→σ' i=σ i)(hZ:∀ b r,Z b=some r→Z' b=some r){u:U}{v:V}(hg:∀ g,u.tag=some g→ω' g=ω g)(h:TR σ Z ω n u v):TR σ' Z' ω' m u v:=by
 cases u with
 |bad=>trivial
 |bE _ _=>trivial
 |own g w xs=>exact⟨h.1.mono hZ (hg g rfl),fun i off e=>by have:=h.2 i off e;omega⟩
 |bD g i f=>obtain⟨⟨I,h1,h2⟩,h3⟩:=h;exact⟨⟨I,by rw[hg g rfl];exact h1,h2⟩,fun i off e=>by have:=h3 i off e;omega⟩
 |view g lo len w=>exact⟨h.1.mono (hg g rfl),fun i off e=>by have:=h.2 i off e;omega⟩
 |de=>trivial
 |xW i off len w=>obtain⟨h1,cap,h2,h3⟩:=h;exact⟨by omega,cap,h2,by rw[hσ i h1];exact h3⟩
 |_=>exact UR.mono hn hσ hZ h
theorem CR.mono(hn:n≤m)(hσ:∀ i,i<n→σ' i=σ i)(hZ:∀ b r,Z b=some r→Z' b=some r){i off:Nat}(hg:ω' (.c i off)=ω (.c i off)){u:U}{v:V}(h:CR σ Z ω n i off u v):CR σ' Z' ω' m i off u v:=by
 cases u with
 |bad=>trivial
 |de=>trivial
 |bE w xs=>exact OR.mono hZ hg h
 |_=>exact UR.mono hn hσ hZ h
theorem OB.mono(hn:n≤m)(hσ:∀ i,i<n→σ' i=σ i)(hZ:∀ b r,Z b=some r→Z' b=some r){i:Nat}(hg:∀ off,ω' (.c i off)=ω (.c i off)){o:Uo}{ob:Option Ob}(h:OB σ Z ω n i o ob):OB σ' Z' ω' m i o ob:=by
 cases o with
 |row cs=>obtain⟨cs',h1,h2,h3⟩:=h;exact⟨cs',h1,h2,fun off u v a b=>(h3 off u v a b).mono hn hσ hZ (hg off)⟩
 |map es c=>obtain⟨es',h1,h2,h3⟩:=h;exact⟨es',h1,h2,fun j x y a b=>⟨(h3 j x y a b).1.mono hn hσ hZ,(h3 j x y a b).2.1.mono hn hσ hZ,(h3 j x y a b).2.2⟩⟩
 |iter q a b c=>
  obtain⟨h1,h2⟩:=h;refine⟨?_,fun j hj=>by have:=h2 j hj;omega⟩;rw[h1];cases q with
  |none=>rfl
  |some j=>simp only[Option.map_some,hσ j (h2 j rfl)]
 |gone=>trivial
theorem TR.bB{u:U}{v:V}(h:UR σ Z n u v):TR σ Z ω n u v:=by
 cases h<;>first|exact UR.bool _|exact UR.int _ _|exact UR.str _|exact UR.bA|exact UR.bu|exact UR.bO|exact UR.dy|exact UR.cU|exact UR.ptr ‹_› |exact UR.map ‹_› |
  exact UR.jy ‹_› ‹_› ‹_› |exact UR.jw ‹_› ‹_› |exact UR.slnil|exact UR.yI|exact UR.CJ|exact UR.Dr|exact UR.zd ‹_› ‹_› ‹_› ‹_› ‹_› ‹_› |exact UR.CN ‹_› ‹_› ‹_› ‹_› |exact UR.func ‹_› ‹_› ‹_› ‹_› |exact UR.iface ‹_› |exact UR.agg ‹_› ‹_› |exact UR.aX ‹_› ‹_›
theorem CR.bB{i off:Nat}{u:U}{v:V}(h:UR σ Z n u v):CR σ Z ω n i off u v:=by
 cases h<;>first|exact UR.bool _|exact UR.int _ _|exact UR.str _|exact UR.bA|exact UR.bu|exact UR.bO|exact UR.dy|exact UR.cU|exact UR.ptr ‹_› |exact UR.map ‹_› |
  exact UR.jy ‹_› ‹_› ‹_› |exact UR.jw ‹_› ‹_› |exact UR.slnil|exact UR.yI|exact UR.CJ|exact UR.Dr|exact UR.zd ‹_› ‹_› ‹_› ‹_› ‹_› ‹_› |exact UR.CN ‹_› ‹_› ‹_› ‹_› |exact UR.func ‹_› ‹_› ‹_› ‹_› |exact UR.iface ‹_› |exact UR.agg ‹_› ‹_› |exact UR.aX ‹_› ‹_›
def ov(g:Tg)(s:Vs):Prop:=(∀ t u,look s.e t=some u→u.tag≠some g)∧∀ (i off:Nat),g=.c i off→∀ cs w xs,s.h[i]? =some (.row cs)→cs[off]?≠some (.bE w xs)
def dL{α β:Type}[DecidableEq α](f:α→β)(a:α)(b:β):α→β:=fun x=>if x=a then b else f x
theorem bp{α β:Type}[DecidableEq α](f:α→β)(a:α)(b:β):dL f a b a=b:=by simp[dL]
theorem cW{α β:Type}[DecidableEq α](f:α→β){a x:α}(b:β)(h:x≠a):dL f a b x=f x:=by simp[dL,h]
theorem qJ(f:U→U)(F:Env→Env)(h0:F []=[])(h1:∀ k v r,F ((k,v)::r)=(k,f v)::F r):∀ (e:Env) (t:Nat),look (F e) t=(look e t).map f:=by
 intro e
 induction e with
 |nil=>intro t;rw[h0];rfl
 |cons x r ih=>
  intro t;obtain⟨k,v⟩:=x;rw[h1];simp only[look];cases Nat.beq k t<;>simp[ih]
theorem kr(g:Tg)(e:Env)(t:Nat):look (Env.kill g e) t=(look e t).map (U.kill g):=qJ _ _ rfl (fun _ _ _=>rfl) e t
theorem Hu(g:Tg)(e:Env)(t:Nat):look (Env.lY g e) t=(look e t).map (U.lY g):=qJ _ _ rfl (fun _ _ _=>rfl) e t
theorem AU(g g2:Tg)(e:Env)(t:Nat):look (Env.iL g g2 e) t=(look e t).map (U.iL g g2):=qJ _ _ rfl (fun _ _ _=>rfl) e t
theorem AV(g:Tg)(ys:List (List U))(e:Env)(t:Nat):look (Env.fB g ys e) t=(look e t).map (U.fB g ys):=qJ _ _ rfl (fun _ _ _=>rfl) e t
theorem qI(p:Tg→Bool)(e:Env)(t:Nat):look (Env.bS p e) t=(look e t).map (U.bS p):=qJ _ _ rfl (fun _ _ _=>rfl) e t
theorem PV(d:Nat)(u:U)(e:Env)(t:Nat):look (iT (some d) u e) t=if t=d then some u else look e t:=by
 simp only[iT,look];by_cases h:t=d
 ·subst h;simp
 ·have:Nat.beq d t=false:=by cases hb:Nat.beq d t with|false=>rfl|true=>exact absurd (bR hb).symm h
  simp[this,h]
theorem mV{g:Tg}{u u' :U}(h:u.kill g=u'):u'.tag≠some g∧(u' =u∨u' =.bad):=by
 subst h;cases u with
 |own g' w xs=>by_cases hg:g' =g<;>simp[U.kill,U.tag,hg]
 |bD g' i f=>by_cases hg:g' =g<;>simp[U.kill,U.tag,hg]
 |view g' i l w=>by_cases hg:g' =g<;>simp[U.kill,U.tag,hg]
 |_=>simp[U.kill,U.tag]
theorem Ok.setEnv(h:Ok E σ Z ω s e st){E' :Env}{e2:PT V}(he:∀ t u,look E' t=some u→∃ v,e2.get t=some v∧TR σ Z ω s.h.length u v):Ok E σ Z ω {s with e:=E'} e2 st:=
 ⟨he,h.obj,h.qc,h.lF,h.fresh,h.inj,h.gJ,h.sw,h.sz,h.wz,h.sb,h.zW,h.wc,h.n0,h.sig,h.zz,h.nx,h.out,h.wE⟩
theorem Ok.Qw(h:Ok E σ Z ω s e st)(k:Nat):Ok E σ Z ω {s with fl:=k} e st:=
 ⟨h.env,h.obj,h.qc,h.lF,h.fresh,h.inj,h.gJ,h.sw,h.sz,h.wz,h.sb,h.zW,h.wc,h.n0,h.sig,h.zz,h.nx,h.out,h.wE⟩
theorem Ok.put(h:Ok E σ Z ω s e st){dst:Option Nat}{u:U}{v:V}(hv:TR σ Z ω s.h.length u v):Ok E σ Z ω {s with e:=iT dst u s.e} (fu dst v e) st:=by
 refine h.setEnv fun t x hx=> ?_;cases dst with
 |none=>exact h.env t x hx
 |some d=>
  rw[PV]at hx;simp only[fu,PT.iC];by_cases ht:t=d
  ·rw[if_pos ht]at hx⊢;simp at hx;subst hx;exact⟨v,rfl,hv⟩
  ·rw[if_neg ht]at hx⊢;exact h.env t x hx
theorem Ok.XY(h:Ok E σ Z ω s e st)(g:Tg):Ok E σ Z ω {s with e:=Env.kill g s.e} e st:=by
 refine h.setEnv fun t x hx=> ?_;rw[kr]at hx;cases hl:look s.e t with
 |none=>rw[hl]at hx;simp at hx
 |some u=>
  rw[hl]at hx;simp at hx;obtain⟨v,h1,h2⟩:=h.env t u hl;rcases(mV hx).2 with rfl|rfl
  ·exact⟨v,h1,h2⟩
  ·exact⟨v,h1,trivial⟩
theorem Ok.bS(h:Ok E σ Z ω s e st)(p:Tg→Bool):Ok E σ Z ω {s with e:=Env.bS p s.e} e st:=by
 refine h.setEnv fun t x hx=> ?_;rw[qI]at hx;cases hl:look s.e t with
 |none=>rw[hl]at hx;simp at hx
 |some u=>
  rw[hl]at hx;simp at hx;obtain⟨v,h1,h2⟩:=h.env t u hl;refine⟨v,h1,?_⟩;subst hx;cases u with
  |own g _ _=>simp only[U.bS];cases p g<;>first|exact h2|trivial
  |bD g _ _=>simp only[U.bS];cases p g<;>first|exact h2|trivial
  |view g _ _ _=>simp only[U.bS];cases p g<;>first|exact h2|trivial
  |_=>exact h2
theorem Ok.setRow(h:Ok E σ Z ω s e st){i:Nat}{cs' :List U}{cs:List U}(hi:s.h[i]? =some (.row cs))(hlen:cs'.length=cs.length)
  (hc:∀ (off:Nat) u u' v,cs[off]? =some u→cs'[off]? =some u'→CR σ Z ω s.h.length i off u v→CR σ Z ω s.h.length i off u' v)
  (hcl:∀ off:Nat,cs'[off]? =some .de→cs[off]? =some .de):Ok E σ Z ω {s with h:=s.h.set i (.row cs')} e st:=by
 have hl:(s.h.set i (.row cs')).length=s.h.length:=List.length_set;have hlt:i<s.h.length:=(bn.1 hi).1;have hgn:∀ j,E.G j→j<E.n∧(s.h.set i (.row cs'))[j]? =some .gone∧st.get (σ j)=E.st.get (E.σ j):=fun j hj=>by
  obtain⟨q1,q2,q3⟩:=h.gn j hj;exact⟨q1,by rw[eM,if_neg (by rintro rfl;rw[hi]at q2;cases q2)];exact q2,q3⟩
 refine⟨fun t u hu=>by rw[hl];exact h.env t u hu,fun j o ho=> ?_,h.qc,h.lF,h.fresh,by rw[hl];exact h.inj,h.gJ,by rw[hl];exact h.sw,by rw[hl];exact h.sz,h.wz,by rw[hl];exact h.sb,h.zW,by rw[hl];exact h.wc,by rw[hl];exact h.n0,h.sig,h.zz,h.nx,by rw[hl];exact h.out,hgn,h.wE.2.set fun off ds e hh=>by cases e;exact⟨cs,hi,hcl off hh⟩⟩;rw[hl];rw[eM]at ho;by_cases hj:i=j
 ·subst hj;rw[if_pos rfl,if_pos hlt]at ho;simp at ho;subst ho;obtain⟨ds,h1,h2,h3⟩:=h.obj i _ hi;refine⟨ds,h1,by omega,fun off u v hu hv=> ?_⟩;obtain⟨ho1,ho2⟩:=bn.1 hu;have hx:=bL (l:=cs) (i:=off) (by omega);exact hc off _ u v hx hu (h3 off _ v hx hv)
 ·rw[if_neg hj]at ho;exact h.obj j o ho
theorem Ok.JR(h:Ok E σ Z ω s e st)(i off:Nat):Ok E σ Z ω {s with h:=setCell s.h i off .bad} e st:=by
 unfold setCell;split
 ·rename_i cs hi;refine h.setRow hi (by simp) (fun o u u' v h1 h2 h3=> ?_) fun o h2=> ?_
  ·rw[eM]at h2;split at h2
   ·split at h2<;>simp at h2;subst h2;trivial
   ·rw[h1]at h2;simp at h2;subst h2;exact h3
  ·rw[eM]at h2;split at h2
   ·split at h2<;>simp at h2
   ·exact h2
 ·exact h
theorem Ok.kill(h:Ok E σ Z ω s e st)(g:Tg):Ok E σ Z ω (s.kill g) e st:=by
 unfold Vs.kill;split
 ·exact(h.XY _).JR _ _
 ·exact h.XY _
theorem HX{h:List Uo}{i off:Nat}{v:U}{cs:List U}(hc:(setCell h i off v)[i]? =some (.row cs))(hlt:off<cs.length):cs[off]? =some v:=by
 unfold setCell at hc;split at hc
 ·rename_i ds hi;rw[eM,if_pos rfl,if_pos (bn.1 hi).1]at hc;simp at hc;subst hc;rw[List.length_set]at hlt;rw[eM,if_pos rfl,if_pos hlt]
 ·rename_i hno;exact absurd hc (hno _)
theorem nQ(g:Tg)(s:Vs):∀ t u,look (Env.kill g s.e) t=some u→u.tag≠some g:=by
 intro t u hu;rw[kr]at hu;cases hl:look s.e t with
 |none=>rw[hl]at hu;simp at hu
 |some x=>rw[hl]at hu;simp at hu;exact(mV hu).1
theorem fh(g:Tg)(s:Vs):ov g (s.kill g):=by
 unfold Vs.kill;split
 ·rename_i i off;refine⟨nQ _ s,fun i' off' he cs w xs hc hx=> ?_⟩;cases he;obtain⟨hlt,_⟩:=bn.1 hx;rw[HX hc hlt]at hx;cases hx
 ·rename_i hno;exact⟨nQ _ s,fun i off he=>absurd he (hno i off)⟩
theorem ov.kill{g g' :Tg}{s:Vs}(h:ov g s):ov g (s.kill g'):=by
 have h1:∀ t u,look (Env.kill g' s.e) t=some u→u.tag≠some g:=fun t u hu=>by
  rw[kr]at hu;cases hl:look s.e t with
  |none=>rw[hl]at hu;simp at hu
  |some x=>
   rw[hl]at hu;simp at hu;rcases(mV hu).2 with rfl|rfl
   ·exact h.1 t _ hl
   ·simp[U.tag]
 unfold Vs.kill;split
 ·rename_i i off;refine⟨h1,fun i' off' he cs w xs hc hx=> ?_⟩;simp only at hc;unfold setCell at hc;split at hc
  ·rename_i ds hi;rw[eM]at hc;split at hc
   ·rename_i hii;subst hii;split at hc<;>simp at hc;subst hc;rw[eM]at hx;split at hx
    ·split at hx<;>simp at hx
    ·exact h.2 i off' he ds w xs hi hx
   ·exact h.2 i' off' he cs w xs hc hx
  ·exact h.2 i' off' he cs w xs hc hx
 ·exact⟨h1,h.2⟩
theorem Ok.Bf(h:Ok E σ Z ω s e st){g:Tg}(hn:ov g s){o:Option oa}(hr:g≠.r)
  (ho:∀ I,o=some I→st.get I.b=some (.row I.row)∧(∀ i,i<s.h.length→σ i≠I.b)∧Z I.b=none∧(∀ g' I',g'≠g→ω g' =some I'→I'.b≠I.b)∧(∀ b,b<E.st.next→¬E.I b→I.b≠b)∧∀ i off,g=.c i off→i<s.h.length) (hra:g≠.a:=by simp):
  Ok E σ Z (dL ω g o) s e st:=by
 have hne:∀ g',g'≠g→dL ω g o g' =ω g' :=fun g' hg=>cW ω o hg;have hsame:dL ω g o g=o:=bp ω g o;have hcase:∀ g' I,dL ω g o g' =some I→(g' =g∧o=some I)∨(g'≠g∧ω g' =some I):=fun g' I hI=>by
  by_cases hg:g' =g
  ·subst hg;rw[hsame]at hI;exact .inl ⟨rfl,hI⟩
  ·rw[hne g' hg]at hI;exact .inr ⟨hg,hI⟩
 refine⟨fun t u hu=> ?_,fun i ob hob=> ?_,h.qc,fun g' I hI=> ?_,h.fresh,h.inj,fun g1 g2 I1 I2 h1 h2 hb=> ?_,fun i g' I hi hI=> ?_,h.sz,fun g' I hI=> ?_,h.sb,?_,fun i off I hI=> ?_,h.n0,h.sig,h.zz,h.nx,fun b hb hbI=> ?_,h.wE⟩
 ·obtain⟨v,h1,h2⟩:=h.env t u hu;exact⟨v,h1,h2.mono (aq _) (fun _ _=>rfl) (fun _ _ h=>h) fun g' hg' =>hne g' fun hh=>hn.1 t u hu (hh▸hg')⟩
 ·have h1:=h.obj i ob hob;cases ob with
  |row cs=>
   obtain⟨cs',q1,q2,q3⟩:=h1;refine⟨cs',q1,q2,fun off u v hu hv=> ?_⟩;have h2:=q3 off u v hu hv;cases u with
   |bE w xs=>
    refine OR.mono (fun _ _ h=>h) (hne _ fun hh=> ?_) h2;exact hn.2 i off hh.symm cs w xs hob hu
   |bad=>trivial
   |de=>trivial
   |_=>exact h2
  |map es c=>exact h1
  |iter q a b c=>exact h1
  |gone=>trivial
 ·rcases hcase g' I hI with⟨_,hh⟩|⟨_,hh⟩
  ·exact(ho I hh).1
  ·exact h.lF g' I hh
 ·rcases hcase g1 I1 h1 with⟨e1,k1⟩|⟨e1,k1⟩<;>rcases hcase g2 I2 h2 with⟨e2,k2⟩|⟨e2,k2⟩
  ·rw[e1,e2]
  ·exact absurd hb.symm ((ho I1 k1).2.2.2.1 g2 I2 e2 k2)
  ·exact absurd hb ((ho I2 k2).2.2.2.1 g1 I1 e1 k1)
  ·exact h.gJ g1 g2 I1 I2 k1 k2 hb
 ·rcases hcase g' I hI with⟨_,hh⟩|⟨_,hh⟩
  ·exact(ho I hh).2.1 i hi
  ·exact h.sw i g' I hi hh
 ·rcases hcase g' I hI with⟨_,hh⟩|⟨_,hh⟩
  ·exact(ho I hh).2.2.1
  ·exact h.wz g' I hh
 ·exact⟨by rw[hne _ (Ne.symm hr)];exact h.wr,h.zW.2.up (hne _ (Ne.symm hra))⟩
 ·rcases hcase _ I hI with⟨hg,hh⟩|⟨_,hh⟩
  ·exact(ho I hh).2.2.2.2.2 i off hg.symm
  ·exact h.wc i off I hh
 ·obtain⟨k1,k2,k3,k4⟩:=h.out b hb hbI;refine⟨k1,k2,fun g' I hI=> ?_,k4⟩;rcases hcase g' I hI with⟨_,hh⟩|⟨_,hh⟩
  ·exact(ho I hh).2.2.2.2.1 b hb hbI
  ·exact k3 g' I hh
theorem Ly{g:Tg}{u u' :U}(h:u.lY g=u'):u'.tag≠some g∧(u' =u∨u' =.bad∨∃ w xs,u=.own g w xs∧u' =.sl w xs):=by
 subst h;cases u with
 |own g' w xs=>by_cases hg:g' =g<;>simp[U.lY,U.tag,hg]
 |bD g' i f=>by_cases hg:g' =g<;>simp[U.lY,U.tag,hg]
 |view g' i l w=>by_cases hg:g' =g<;>simp[U.lY,U.tag,hg]
 |_=>simp[U.lY,U.tag]
theorem OR.sl{g:Tg}{w:Nat}{xs:List (List U)}{v:V}(h:OR σ Z ω g w xs v)(hZ:∀ b r,Z b=some r→Z' b=some r)(hI:∀ I,ω g=some I→Z' I.b=some I.row):UR σ Z' n (.sl w xs) v:=by
 unfold OR at h;split at h
 ·obtain⟨rfl,rfl|rfl⟩:=h
  ·exact .slnil
  ·exact .yI
 ·rename_i I hg;obtain⟨rfl,h0,h1,h2,h3,h4⟩:=h;have hle:xs.length*w≤I.cap*w:=me _ h1;have h4' :=h4.mono (aq 0) (σ' :=σ) (fun i hi=>rfl) hZ;exact .zd rfl (hI I hg) h3 h1 (by omega) fun j u v a b=>h4'.2 j u v a b
theorem Ok.lY(h:Ok E σ Z ω s e st)(g:Tg)(hga:g≠.a):∃ Z' ω',Ok E σ Z' ω' (s.lY g) e st∧(∀ b r,Z b=some r→Z' b=some r)∧(∀ g',g'≠g→ω' g' =ω g')∧ov g (s.lY g)∧(∀ I,ω g=some I→Z' I.b=some I.row)∧(s.lY g).h.length=s.h.length:=by
 -- what is told of the cells
 have key:∀ (s1:Vs),s1.h.length=s.h.length→(∀ (i:Nat),s.h[i]? =some Uo.gone→s1.h[i]? =some Uo.gone)→(∀ (i off:Nat) cs,s1.h[i]? =some (.row cs)→cs[off]? =some .de→∃ ds,s.h[i]? =some (.row ds)∧ds[off]? =some .de)→ov g s1→
   (∀ (Z' :Zs),(∀ b r,Z b=some r→Z' b=some r)→(∀ I,ω g=some I→Z' I.b=some I.row)→∀ (ω' :Om),(∀ g',g'≠g→ω' g' =ω g')→
    (∀ t u,look s1.e t=some u→∃ v,e.get t=some v∧TR σ Z' ω' s.h.length u v)∧∀ (i:Nat) o,s1.h[i]? =some o→OB σ Z' ω' s.h.length i o (st.get (σ i)))→
   ∃ Z' ω',Ok E σ Z' ω' s1 e st∧(∀ b r,Z b=some r→Z' b=some r)∧(∀ g',g'≠g→ω' g' =ω g')∧ov g s1∧(∀ I,ω g=some I→Z' I.b=some I.row)∧s1.h.length=s.h.length:=by
  intro s1 hl hgo hln hnt hk;have hgn:∀ j,E.G j→j<E.n∧s1.h[j]? =some .gone∧st.get (σ j)=E.st.get (E.σ j):=fun j hj=>⟨(h.gn j hj).1,hgo j (h.gn j hj).2.1,(h.gn j hj).2.2⟩;cases hg:ω g with
  |none=>
   obtain⟨k1,k2⟩:=hk Z (fun _ _ h=>h) (fun I hI=>by rw[hg]at hI;cases hI) ω (fun _ _=>rfl);refine⟨Z,ω,⟨by rw[hl];exact k1,by rw[hl];exact k2,h.qc,h.lF,h.fresh,by rw[hl];exact h.inj,h.gJ,by rw[hl];exact h.sw,by rw[hl];exact h.sz,h.wz,by rw[hl];exact h.sb,h.zW,by rw[hl];exact h.wc,by rw[hl];exact h.n0,h.sig,h.zz,h.nx,by rw[hl];exact h.out,hgn,h.wE.2.sub hln⟩,fun _ _ h=>h,fun _ _=>rfl,hnt,(fun I hI=>by cases hI),hl⟩
  |some I=>
   have hZn:Z I.b=none:=h.wz g I hg;have hZ:∀ b r,Z b=some r→dL Z I.b (some I.row) b=some r:=fun b r hb=>by
    rw[cW];exact hb;intro hh;subst hh;rw[hZn]at hb;cases hb
   have hω:∀ g',g'≠g→dL ω g none g' =ω g' :=fun g' hh=>cW _ _ hh;have hzc:∀ b r,dL Z I.b (some I.row) b=some r→(b=I.b∧r=I.row)∨Z b=some r:=fun b r hb=>by
    by_cases hbb:b=I.b
    ·subst hbb;rw[bp]at hb;simp at hb;exact .inl ⟨rfl,hb.symm⟩
    ·rw[cW _ _ hbb]at hb;exact .inr hb
   have hwc:∀ g' J,dL ω g none g' =some J→g'≠g∧ω g' =some J:=fun g' J hJ=>by
    by_cases hgg:g' =g
    ·subst hgg;rw[bp]at hJ;cases hJ
    ·rw[cW _ _ hgg]at hJ;exact⟨hgg,hJ⟩
   have hIn:∀ J,some I=some J→dL Z I.b (some I.row) J.b=some J.row:=fun J hJ=>by cases hJ;exact bp _ _ _
   obtain⟨k1,k2⟩:=hk (dL Z I.b (some I.row)) hZ (fun J hJ=>hIn J (hg▸hJ)) (dL ω g none) hω;refine⟨_,_,⟨by rw[hl];exact k1,by rw[hl];exact k2,fun b r hb=> ?_,fun g' J hJ=>h.lF g' J (hwc g' J hJ).2,h.fresh,by rw[hl];exact h.inj,fun g1 g2 J1 J2 h1 h2=>h.gJ g1 g2 J1 J2 (hwc _ _ h1).2 (hwc _ _ h2).2,fun i g' J hi hJ=>h.sw i g' J (by omega) (hwc _ _ hJ).2,fun i hi=> ?_,fun g' J hJ=> ?_,by rw[hl];exact h.sb,?_,fun i off J hJ=>by rw[hl];exact h.wc i off J (hwc _ _ hJ).2,by rw[hl];exact h.n0,h.sig,fun b r hb=>hZ b r (h.zz b r hb),h.nx,fun b hb hbI=> ?_,hgn,h.wE.2.sub hln⟩,hZ,hω,hnt,hIn,hl⟩
   ·rcases hzc b r hb with⟨rfl,rfl⟩|hb
    ·exact iG (h.lF g I hg)
    ·exact h.qc b r hb
   ·rw[cW _ _ (h.sw i g I (by omega) hg)];exact h.sz i (by omega)
   ·obtain⟨j1,j2⟩:=hwc g' J hJ;rw[cW];exact h.wz g' J j2;intro hh;exact j1 (h.gJ g' g J I j2 hg hh)
   ·refine⟨?_,h.zW.2.up (hω _ (Ne.symm hga))⟩;by_cases hgr:Tg.r=g
    ·subst hgr;exact bp _ _ _
    ·rw[cW _ _ hgr];exact h.wr
   ·obtain⟨q1,q2,q3,q4⟩:=h.out b hb hbI;refine⟨q1,by rw[hl];exact q2,fun g' J hJ=>q3 g' J (hwc _ _ hJ).2,fun r hr=> ?_⟩;rcases hzc b r hr with⟨rfl,_⟩|hr
    ·exact absurd rfl (q3 g I hg)
    ·exact q4 r hr
 -- the temporaries
 have henv:∀ (Z' :Zs),(∀ b r,Z b=some r→Z' b=some r)→(∀ I,ω g=some I→Z' I.b=some I.row)→∀ (ω' :Om),(∀ g',g'≠g→ω' g' =ω g')→
   ∀ t u,look (Env.lY g s.e) t=some u→∃ v,e.get t=some v∧TR σ Z' ω' s.h.length u v:=by
  intro Z' hZ hI ω' hω t u hu;rw[Hu]at hu;cases hl:look s.e t with
  |none=>rw[hl]at hu;simp at hu
  |some x=>
   rw[hl]at hu;simp at hu;obtain⟨v,h1,h2⟩:=h.env t x hl;refine⟨v,h1,?_⟩;obtain⟨f1,f2⟩:=Ly hu;rcases f2 with rfl|rfl|⟨w,xs,rfl,rfl⟩
   ·exact h2.mono (aq _) (fun _ _=>rfl) hZ fun g' hg' =>hω g' fun hh=>f1 (hh▸hg')
   ·trivial
   ·exact TR.bB (h2.1.sl hZ hI)
 have henvk:∀ (Z' :Zs),(∀ b r,Z b=some r→Z' b=some r)→∀ (ω' :Om),(∀ g',g'≠g→ω' g' =ω g')→
   ∀ t u,look (Env.kill g s.e) t=some u→∃ v,e.get t=some v∧TR σ Z' ω' s.h.length u v:=by
  intro Z' hZ ω' hω t u hu;rw[kr]at hu;cases hl:look s.e t with
  |none=>rw[hl]at hu;simp at hu
  |some x=>
   rw[hl]at hu;simp at hu;obtain⟨v,h1,h2⟩:=h.env t x hl;refine⟨v,h1,?_⟩;obtain⟨f1,f2⟩:=mV hu;rcases f2 with rfl|rfl
   ·exact h2.mono (aq _) (fun _ _=>rfl) hZ fun g' hg' =>hω g' fun hh=>f1 (hh▸hg')
   ·trivial
 have hnf:∀ t u,look (Env.lY g s.e) t=some u→u.tag≠some g:=fun t u hu=>by
  rw[Hu]at hu;cases hl:look s.e t with
  |none=>rw[hl]at hu;simp at hu
  |some x=>rw[hl]at hu;simp at hu;exact(Ly hu).1
 have hobj:∀ (Z' :Zs),(∀ b r,Z b=some r→Z' b=some r)→∀ (ω' :Om),(∀ g',g'≠g→ω' g' =ω g')→∀ (i:Nat) o,s.h[i]? =some o→
   (∀ off cs w xs,g=.c i off→o=.row cs→cs[off]?≠some (.bE w xs))→OB σ Z' ω' s.h.length i o (st.get (σ i)):=by
  intro Z' hZ ω' hω i o ho hno;have h1:=h.obj i o ho;cases o with
  |row cs=>
   obtain⟨cs',q1,q2,q3⟩:=h1;refine⟨cs',q1,q2,fun off u v hu hv=> ?_⟩;have h2:=q3 off u v hu hv;cases u with
   |bad=>trivial
   |de=>trivial
   |bE w xs=>
    refine OR.mono hZ (hω _ fun hh=> ?_) h2;exact hno off cs w xs hh.symm rfl hu
   |_=>exact UR.mono (aq _) (fun _ _=>rfl) hZ h2
  |map es c=>exact h1.mono (aq _) (fun _ _=>rfl) hZ (ω' :=ω) (fun _=>rfl)
  |iter q a b c=>exact h1
  |gone=>trivial
 unfold Vs.lY;split
 ·rename_i i off;split
  ·rename_i cs hi;have hlt:i<s.h.length:=(bn.1 hi).1;split
   ·rename_i w xs hc;have hoff:off<cs.length:=(bn.1 hc).1;refine key _ (by simp) (fun j hj=>by simp only;rw[eM,if_neg (by rintro rfl;rw[hi]at hj;cases hj)];exact hj) (fun j off' cs' h1 h2=>by
     simp only at h1;rw[eM]at h1;by_cases hj:i=j
     ·subst hj;rw[if_pos rfl,if_pos hlt]at h1;simp at h1;subst h1;rw[eM]at h2;by_cases ho:off=off'
      ·subst ho;rw[if_pos rfl,if_pos hoff]at h2;simp at h2
      ·rw[if_neg ho]at h2;exact⟨cs,hi,h2⟩
     ·rw[if_neg hj]at h1;exact⟨cs',h1,h2⟩) ⟨hnf,fun i' off' he cs' w' xs' hh hx=> ?_⟩ fun Z' hZ hI ω' hω=>⟨henv Z' hZ hI ω' hω,fun j o ho=> ?_⟩
    ·cases he;rw[eM,if_pos rfl,if_pos hlt]at hh;simp at hh;subst hh;rw[eM,if_pos rfl,if_pos hoff]at hx;simp at hx
    ·rw[eM]at ho;by_cases hj:i=j
     ·subst hj;rw[if_pos rfl,if_pos hlt]at ho;simp at ho;subst ho;obtain⟨cs',q1,q2,q3⟩:=h.obj i _ hi;refine⟨cs',q1,by rw[List.length_set];exact q2,fun o u v hu hv=> ?_⟩;rw[eM]at hu;by_cases ho:off=o
      ·subst ho;rw[if_pos rfl,if_pos hoff]at hu;simp at hu;subst hu;exact CR.bB (OR.sl (q3 off _ v hc hv) hZ hI)
      ·rw[if_neg ho]at hu;have h2:=q3 o u v hu hv;exact h2.mono (aq _) (fun _ _=>rfl) hZ (hω _ fun hh=>ho (by simp at hh;omega))
     ·rw[if_neg hj]at ho;exact hobj Z' hZ ω' hω j o ho fun off' cs' w' xs' he _=>by simp at he;exact absurd he.1 hj
   ·rename_i hno;refine key _ rfl (fun _ h=>h) (fun _ _ cs h1 h2=>⟨cs,h1,h2⟩) ⟨nQ _ s,fun i' off' he cs' w' xs' hh hx=> ?_⟩ fun Z' hZ hI ω' hω=>⟨henvk Z' hZ ω' hω,fun j o ho=>hobj Z' hZ ω' hω j o ho fun off' cs' w' xs' he hoo hx=> ?_⟩
    ·cases he;rw[hi]at hh;simp at hh;subst hh;exact hno w' xs' hx
    ·cases he;rw[hi]at ho;simp at ho;subst ho;simp at hoo;subst hoo;exact hno w' xs' hx
  ·rename_i hno;refine key _ rfl (fun _ h=>h) (fun _ _ cs h1 h2=>⟨cs,h1,h2⟩) ⟨nQ _ s,fun i' off' he cs' w' xs' hh hx=> ?_⟩ fun Z' hZ hI ω' hω=>⟨henvk Z' hZ ω' hω,fun j o ho=>hobj Z' hZ ω' hω j o ho fun off' cs' w' xs' he hoo hx=> ?_⟩
   ·cases he;exact hno _ hh
   ·cases he;subst hoo;exact hno _ ho
 ·rename_i hno;exact key _ rfl (fun _ h=>h) (fun _ _ cs h1 h2=>⟨cs,h1,h2⟩) ⟨hnf,fun i off he=>absurd he (hno i off)⟩ fun Z' hZ hI ω' hω=>⟨henv Z' hZ hI ω' hω,fun j o ho=>hobj Z' hZ ω' hω j o ho fun off cs w xs he=>absurd he (hno j off)⟩
end
end Go.RE
namespace Go.RE
section
variable{E:qe}{σ:Sg}{Z:Zs}{ω:Om}{s s' :Vs}{e:PT V}{st:St}{n:Nat}
mutual
theorem oy:∀ (v:V),(v.mw≠.bad)→(∀ g w xs,v.mw≠.own g w xs)→(∀ w xs,v.mw≠.bE w xs)→UR σ Z n v.mw v.er
 | .bool b,_,_,_=> .bool b
 | .int k x,_,_,_=> .int k x
 | .str s,_,_,_=> .str s
 | .bA,_,_,_=> .bA
 | .bu,_,_,_=> .bu
 | .bO,_,_,_=> .bO
 | .dy,_,_,_=> .dy
 | .cU,_,_,_=> .cU
 | .bK,h,_,_=>absurd rfl h
 | .ptr _ _,h,_,_=>absurd rfl h
 | .eu _ _,h,_,_=>absurd rfl h
 | .slice ..,h,_,_=>absurd rfl h
 | .map _,h,_,_=>absurd rfl h
 | .ag [] 0 0 w,_,_,_=> .slnil
 | .ag [] 1 0 w,_,h,_=>absurd rfl (h _ _ _)
 | .ag [] 2 0 w,_,_,h=>absurd rfl (h _ _)
 | .ag [] 3 0 w,_,_,_=> .CJ
 | .ag [] (k+4) 0 w,h,_,_=>absurd rfl h
 | .ag [] 0 (l+1) w,h,_,_=>absurd rfl h
 | .ag [] 1 (l+1) w,h,_,_=>absurd rfl h
 | .ag [] 2 (l+1) w,h,_,_=>absurd rfl h
 | .ag [] 3 (l+1) w,h,_,_=>absurd rfl h
 | .ag [] (k+4) (l+1) w,h,_,_=>absurd rfl h
 | .ag (a::r) o l w,h,_,_=>absurd rfl h
 | .func f a b,h,_,_=>by
  simp only[V.mw,V.er]at h⊢;cases hc:((V.dg a).all U.aJ&&(V.dg b).all U.aJ)with
  |false=>rw[hc]at h;exact absurd rfl h
  |true=>
   simp only[bC]at hc;have h1:=jt a hc.1;have h2:=jt b hc.2;simp only[hc.1,hc.2,Bool.and_self,cond_true];exact .func h1.1 h2.1 h1.2 h2.2
 | .iface t v,h,_,_=>by
  simp only[V.mw,V.er]at h⊢;cases hc:v.mw.aJ with
  |false=>rw[hc]at h;exact absurd rfl h
  |true=>
   simp only[cond_true];exact .iface (oy v (fun hh=>by rw[hh]at hc;cases hc) (fun g w xs hh=>by rw[hh]at hc;cases hc) (fun w xs hh=>by rw[hh]at hc;cases hc))
 | .agg cs,h,_,_=>by
  simp only[V.mw,V.er]at h⊢;cases hc:(V.dg cs).all U.aJ with
  |false=>rw[hc]at h;exact absurd rfl h
  |true=>
   have h1:=jt cs hc;simp only[cond_true];exact .agg h1.1 h1.2
 | .aX cs,h,_,_=>by
  simp only[V.mw,V.er]at h⊢;cases hc:(V.dg cs).all U.aJ with
  |false=>rw[hc]at h;exact absurd rfl h
  |true=>
   have h1:=jt cs hc;simp only[cond_true];exact .aX h1.1 h1.2
theorem jt:∀ (vs:List V),(V.dg vs).all U.aJ=true→LU σ Z n (V.dg vs) (V.yP vs)
 |[],_=>LU.nil
 |v::vs,h=>by
  simp only[V.dg,List.all_cons,bC]at h;exact LU.cons (oy v (fun hh=>by rw[hh]at h;cases h.1) (fun g w xs hh=>by rw[hh]at h;cases h.1) (fun w xs hh=>by rw[hh]at h;cases h.1)) (jt vs h.2)
end
theorem J3{v:V}{u:U}(h:v.EL=some u):UR σ Z n u v.er:=by
 unfold V.EL at h;have:=oy (σ:=σ) (Z:=Z) (n:=n) v;generalize v.mw=x at h this;cases x<;>simp at h<;>subst h<;>exact this (by simp) (by simp) (by simp)
theorem Nx{v:V}:∀ {g w xs},v.mw=.own g w xs→g=.r∧xs=[]∧v.er=.bu:=by
 intro g w xs h;cases v with
 |ag r o l z=>
  match r,o,l with
  |[],0,0=>simp[V.mw]at h
  |[],1,0=>simp[V.mw]at h;exact⟨h.1.symm,h.2.2,rfl⟩
  |[],2,0=>simp[V.mw]at h
  |[],3,0=>simp[V.mw]at h
  |[],k+4,0=>simp[V.mw]at h
  |[],_,l+1=>simp[V.mw]at h
  |a::r,_,_=>simp[V.mw]at h
 |func f a b=>simp only[V.mw]at h;generalize (_&&_:Bool)=c at h;cases c<;>simp at h
 |iface t v=>simp only[V.mw]at h;generalize U.aJ _=c at h;cases c<;>simp at h
 |agg cs=>simp only[V.mw]at h;generalize List.all _ _=c at h;cases c<;>simp at h
 |aX cs=>simp only[V.mw]at h;generalize List.all _ _=c at h;cases c<;>simp at h
 |_=>simp[V.mw]at h
theorem Ok.cI(h:Ok E σ Z ω s e st){x:bH}{u:U}(hu:cq s.e x=some u):∃ v,x.er.ev e=some v∧TR σ Z ω s.h.length u v:=by
 cases x with
 |t t=>exact h.env t u hu
 |c v=>
  simp only[cq,ai]at hu;refine⟨v.er,rfl,?_⟩;subst hu;have hc:=oy (σ:=σ) (Z:=Z) (n:=s.h.length) v;cases hq:v.mw with
  |bad=>trivial
  |bE w xs=>trivial
  |own g w xs=>
   obtain⟨rfl,rfl,he⟩:=Nx hq;refine⟨?_,fun i off hh=>by cases hh⟩;unfold OR;rw[h.wr,he];exact⟨rfl,.inl rfl⟩
  |_=>rw[←hq];exact TR.bB (hc (by rw[hq];simp) (by rw[hq];simp) (by rw[hq];simp))
theorem TR.bool{b:Bool}{v:V}(h:TR σ Z ω n (.bool b) v):v=.bool b:=by cases h;rfl
theorem TR.int{k:IntKind}{x:Int}{v:V}(h:TR σ Z ω n (.int k x) v):v=.int k x:=by cases h;rfl
theorem TR.str{b:List UInt8}{v:V}(h:TR σ Z ω n (.str b) v):v=.str b:=by cases h;rfl
theorem TR.ptr{i off:Nat}{v:V}(h:TR σ Z ω n (.ptr i off) v):i<n∧v=.ptr (σ i) off:=by cases h;exact⟨‹_›,rfl⟩
theorem TR.map{i:Nat}{v:V}(h:TR σ Z ω n (.map i) v):i<n∧v=.map (σ i):=by cases h;exact⟨‹_›,rfl⟩
theorem TR.bO{v:V}(h:TR σ Z ω n .bO v):v=.bO:=by cases h;rfl
theorem TR.cU{v:V}(h:TR σ Z ω n .cU v):v=.cU:=by cases h;rfl
theorem TR.agg{cs:List U}{v:V}(h:TR σ Z ω n (.agg cs) v):∃ cs',v=.agg cs'∧LU σ Z n cs cs' :=by cases h;exact⟨_,rfl,‹_›,‹_›⟩
theorem TR.aX{cs:List U}{v:V}(h:TR σ Z ω n (.aX cs) v):∃ cs',v=.aX cs'∧LU σ Z n cs cs' :=by cases h;exact⟨_,rfl,‹_›,‹_›⟩
theorem TR.iface{t:Nat}{u:U}{v:V}(h:TR σ Z ω n (.iface t u) v):∃ v',v=.iface t v'∧UR σ Z n u v' :=by cases h;exact⟨_,rfl,‹_›⟩
theorem TR.func{f:Nat}{a b:List U}{v:V}(h:TR σ Z ω n (.func f a b) v):∃ a' b',v=.func f a' b'∧LU σ Z n a a'∧LU σ Z n b b' :=by cases h;exact⟨_,_,rfl,⟨‹_›,‹_›⟩,⟨‹_›,‹_›⟩⟩
theorem qR{u:U}{x v:V}(hx:u.Xq=some x)(h:TR σ Z ω n u v):v=x:=by
 cases u<;>simp[U.Xq]at hx<;>subst hx
 ·exact TR.bool h
 ·exact TR.int h
 ·exact TR.str h
theorem qbe{u:U}{x:V}(hx:U.ofV x=some u):UR σ Z n u x:=by
 cases x<;>simp[U.ofV]at hx<;>subst hx
 ·exact .bool _
 ·exact .int _ _
 ·exact .str _
theorem EM{o:Option V}{u:U}(h:Md o=some u):∃ x,o=some x∧UR σ Z n u x:=by
 cases o with
 |none=>simp[Md]at h
 |some x=>exact⟨x,rfl,qbe h⟩
theorem UR.cells{u:U}{v:V}(h:UR σ Z n u v):LU σ Z n u.cells v.cells:=by
 cases h with
 |agg ha va=>exact⟨ha,va⟩
 |bool b=>exact LU.cons (.bool b) .nil
 |int k x=>exact LU.cons (.int k x) .nil
 |str b=>exact LU.cons (.str b) .nil
 |bA=>exact LU.cons .bA .nil
 |bu=>exact LU.cons .bu .nil
 |bO=>exact LU.cons .bO .nil
 |dy=>exact LU.cons .dy .nil
 |cU=>exact LU.cons .cU .nil
 |ptr h=>exact LU.cons (.ptr h) .nil
 |map h=>exact LU.cons (.map h) .nil
 |jy a b c=>exact LU.cons (.jy a b c) .nil
 |jw a b=>exact LU.cons (.jw a b) .nil
 |slnil=>exact LU.cons .slnil .nil
 |yI=>exact LU.cons .yI .nil
 |CJ=>exact LU.cons .CJ .nil
 |Dr=>exact LU.cons .Dr .nil
 |zd a b c d f g=>exact LU.cons (.zd a b c d f g) .nil
 |CN a b c d=>exact LU.cons (.CN a b c d) .nil
 |func a b c d=>exact LU.cons (.func a b c d) .nil
 |iface a=>exact LU.cons (.iface a) .nil
 |aX a b=>exact LU.cons (.aX a b) .nil
theorem Ok.esc(h:Ok E σ Z ω s e st){u u' :U}{v:V}(hu:TR σ Z ω s.h.length u v)(he:esc u s=some (u',s')):
  ∃ Z' ω',Ok E σ Z' ω' s' e st∧UR σ Z' s.h.length u' v∧s'.h.length=s.h.length∧∀ b r,Z b=some r→Z' b=some r:=by
 cases u with
 |own g w xs=>
  have hga:g≠.a:=by rintro rfl;simp[RE.esc]at he
  have he:(U.sl w xs,s.lY g)=(u',s'):=by cases g<;>first|exact absurd rfl hga|simpa[RE.esc]using he
  simp only[aL]at he;obtain⟨rfl,rfl⟩:=he;obtain⟨Z',ω',h1,h2,h3,h4,h5,h6⟩:=h.lY g hga;exact⟨Z',ω',h1,hu.1.sl h2 h5,h6,h2⟩
 |bad=>simp[RE.esc]at he
 |bE w xs=>simp[RE.esc]at he
 |bD g i f=>simp[RE.esc]at he
 |xW i o l w=>simp[RE.esc]at he
 |view g i l w=>simp[RE.esc]at he
 |de=>simp[RE.esc]at he
 |aX vs=>simp[RE.esc]at he
 |_=>
  simp only[RE.esc,ai,aL]at he;obtain⟨rfl,rfl⟩:=he;exact⟨Z,ω,h,hu,rfl,fun _ _ h=>h⟩
theorem Ok.fM(h:Ok E σ Z ω s e st){x:bH}{u' :U}(he:fM x s=some (u',s')):
  ∃ Z' ω' v,x.er.ev e=some v∧Ok E σ Z' ω' s' e st∧UR σ Z' s.h.length u' v∧s'.h.length=s.h.length∧∀ b r,Z b=some r→Z' b=some r:=by
 unfold RE.fM at he;cases hx:cq s.e x with
 |none=>rw[hx]at he;simp at he
 |some u=>
  rw[hx]at he;obtain⟨v,h1,h2⟩:=h.cI hx;obtain⟨Z',ω',h3⟩:=h.esc h2 he;exact⟨Z',ω',v,h1,h3⟩
theorem Ok.fU:∀ {xs:List bH} {s s' :Vs} {Z:Zs} {ω:Om} {us:List U},Ok E σ Z ω s e st→fU xs s=some (us,s')→
  ∃ Z' ω' vs,I7 e (nk xs)=some vs∧Ok E σ Z' ω' s' e st∧LU σ Z' s.h.length us vs∧s'.h.length=s.h.length∧∀ b r,Z b=some r→Z' b=some r:=by
 intro xs
 induction xs with
 |nil=>
  intro s s' Z ω us h he;simp[RE.fU]at he;obtain⟨rfl,rfl⟩:=he;exact⟨Z,ω,[],rfl,h,.nil,rfl,fun _ _ h=>h⟩
 |cons x xs ih=>
  intro s s' Z ω us h he;simp only[RE.fU]at he;cases hx:RE.fM x s with
  |none=>rw[hx]at he;simp at he
  |some r=>
   obtain⟨u,s1⟩:=r;rw[hx]at he;simp only at he;cases hr:RE.fU xs s1 with
   |none=>rw[hr]at he;simp at he
   |some r=>
    obtain⟨us',s2⟩:=r;rw[hr]at he;simp only[ai,aL]at he;obtain⟨rfl,rfl⟩:=he;obtain⟨Z1,ω1,v,a1,a2,a3,a4,a5⟩:=h.fM hx;obtain⟨Z2,ω2,vs,b1,b2,b3,b4,b5⟩:=ih a2 hr;refine⟨Z2,ω2,v::vs,by simp only[nk,I7,a1,b1],b2,LU.cons (a3.mono (aq _) (fun _ _=>rfl) b5) (by rw[←a4];exact b3),by omega,fun b r hb=>b5 b r (a5 b r hb)⟩
theorem JT{a:List U}{b:List V}{off:Nat}{us:List U}{vs:List V}(h:LU σ Z n a b)(hs:LU σ Z n us vs):LU σ Z n (gi a off us) (jR b off vs):=by
 unfold gi jR;rw[hs.1];exact((h.take off).append hs).append (h.drop _)
theorem Ic{a:List U}{off:Nat}{us:List U}(h:off+us.length≤a.length):(gi a off us).length=a.length:=by
 simp[gi];omega
theorem Ok.fill:∀ {parts:List (Nat×Nat×bH)} {s s' :Vs} {Z:Zs} {ω:Om} {us cs:List U} {vs:List V},Ok E σ Z ω s e st→LU σ Z s.h.length us vs→jX parts us s=some (cs,s')→
  ∃ Z' ω' ws,mN e vs (uz parts)=some ws∧Ok E σ Z' ω' s' e st∧LU σ Z' s.h.length cs ws∧s'.h.length=s.h.length∧∀ b r,Z b=some r→Z' b=some r:=by
 intro parts
 induction parts with
 |nil=>
  intro s s' Z ω us cs vs h hl he;simp[jX]at he;obtain⟨rfl,rfl⟩:=he;exact⟨Z,ω,vs,rfl,h,hl,rfl,fun _ _ h=>h⟩
 |cons p parts ih=>
  intro s s' Z ω us cs vs h hl he;obtain⟨off,size,x⟩:=p;simp only[jX]at he;cases hx:RE.fM x s with
  |none=>rw[hx]at he;simp at he
  |some r=>
   obtain⟨u,s1⟩:=r;rw[hx]at he;simp only at he;obtain⟨Z1,ω1,v,a1,a2,a3,a4,a5⟩:=h.fM hx;have hc:=a3.cells;cases hb:(Nat.beq u.cells.length size&&Nat.ble (off+u.cells.length) us.length)with
   |false=>rw[hb]at he;simp at he
   |true=>
    rw[hb]at he;simp only[cond_true]at he;have hl1:=hl.mono (aq _) (σ' :=σ) (fun _ _=>rfl) a5;obtain⟨Z2,ω2,ws,b1,b2,b3,b4,b5⟩:=ih (vs:=jR vs off v.cells) a2 (by rw[a4];exact JT hl1 hc) he;refine⟨Z2,ω2,ws,?_,b2,by rw[←a4];exact b3,by omega,fun b r hb=>b5 b r (a5 b r hb)⟩;simp only[uz,mN,a1];rw[hc.1,hl.1]at hb;rw[hb];exact b1
theorem Ac{u:U}{v:V}{most k:Nat}(h:fK u most=some k)(hu:TR σ Z ω n u v):asNat v most=some k:=by
 cases u<;>simp[fK]at h;rw[TR.int hu];exact h
theorem Ok.ay(h:Ok E σ Z ω s e st){x:Option bH}{d most k:Nat}(hx:bw s.e x d most=some k):ay e (bF x) d most=some k:=by
 cases x with
 |none=>exact hx
 |some x=>
  simp only[bw]at hx;cases hq:cq s.e x with
  |none=>rw[hq]at hx;simp at hx
  |some u=>
   rw[hq]at hx;obtain⟨v,h1,h2⟩:=h.cI hq;simp only[bF,RE.ay,h1];exact Ac hx h2
theorem yU{cs:List U}{cs' :List V}{k:Option Nat}{off:Nat}{u:U}(h:LU σ Z n cs cs')(hl:iK k cs off=some u):∃ v,dW k cs' off=some v∧UR σ Z n u v:=by
 cases k with
 |none=>
  simp only[iK]at hl;cases hq:cs[off]? with
  |none=>rw[hq]at hl;simp at hl
  |some x=>
   rw[hq]at hl;simp only at hl;cases hc:x.uw with
   |false=>rw[hc]at hl;simp at hl
   |true=>
    rw[hc]at hl;simp at hl;subst hl;obtain⟨v,h1,h2⟩:=h.get hq;exact⟨v,h1,h2⟩
 |some k=>
  simp only[iK]at hl;cases hb:(Nat.ble (off+k) cs.length&&((cs.drop off).take k).all U.uw)with
  |false=>rw[hb]at hl;simp at hl
  |true=>
   rw[hb]at hl;simp at hl;subst hl;simp only[bC]at hb;rw[h.1]at hb;have h1:=(h.drop off).take k;exact⟨_,by simp only[dW,hb.1,cond_true],.agg h1.1 h1.2⟩
theorem AD{w:Nat}:∀ {xs:List (List U)},(∀ r∈xs,r.length=w)→∀ {i:Nat} {r:List U},xs[i]? =some r→i*w+w≤xs.flatten.length∧(xs.flatten.drop (i*w)).take w=r:=by
 intro xs
 induction xs with
 |nil=>intro _ i r h;simp at h
 |cons x xs ih=>
  intro hw i r h;have hx:=hw x eU;cases i with
  |zero=>
   simp at h;subst h;simp only[List.flatten_cons,Nat.zero_mul,List.drop_zero,lG];exact⟨by omega,by rw[List.take_append_of_le_length (by omega),jU (by omega)]⟩
  |succ i=>
   simp at h;obtain⟨h1,h2⟩:=ih (fun r hr=>hw r (gB _ hr)) h;simp only[List.flatten_cons,lG,Nat.succ_mul];refine⟨by omega,?_⟩;rw[show i*w+w=x.length+i*w by omega,←List.drop_drop,List.drop_left];exact h2
theorem dD{w:Nat}:∀ {xs:List (List U)},(∀ r∈xs,r.length=w)→xs.flatten.length=xs.length*w:=by
 intro xs
 induction xs with
 |nil=>intro _;simp
 |cons x xs ih=>
  intro hw;have hx:=hw x eU;simp only[List.flatten_cons,lG,List.length_cons,Nat.succ_mul,ih (fun r hr=>hw r (gB _ hr))];omega
theorem rQ{w:Nat}{xs:List (List U)}(hw:∀ r∈xs,r.length=w)(k:Nat):(xs.take k).flatten=xs.flatten.take (k*w):=by
 induction xs generalizing k with
 |nil=>simp
 |cons x xs ih=>
  have hx:=hw x eU;cases k with
  |zero=>simp
  |succ k=>
   simp only[List.take_succ_cons,List.flatten_cons,ih (fun r hr=>hw r (gB _ hr)),Nat.succ_mul];rw[List.take_append,jU (l:=x) (by omega),hx,Nat.add_sub_cancel]
theorem rP{w:Nat}{xs:List (List U)}(hw:∀ r∈xs,r.length=w)(k:Nat):(xs.drop k).flatten=xs.flatten.drop (k*w):=by
 induction xs generalizing k with
 |nil=>simp
 |cons x xs ih=>
  have hx:=hw x eU;cases k with
  |zero=>simp
  |succ k=>
   simp only[List.drop_succ_cons,List.flatten_cons,ih (fun r hr=>hw r (gB _ hr)),Nat.succ_mul];rw[show k*w+w=x.length+k*w by omega,←List.drop_drop,List.drop_left]
end
end Go.RE
namespace Go.RE
section
variable{E:qe}{σ:Sg}{Z:Zs}{ω:Om}{s s' :Vs}{e:PT V}{st:St}{n:Nat}
theorem W5(h:Ok E σ Z ω s e st){g:Tg}{w:Nat}{xs:List (List U)}:∀ {r:Env},Env.cg g s.e r=some (w,xs)→∃ v,OR σ Z ω g w xs v:=by
 intro r
 induction r with
 |nil=>intro h;cases h
 |cons x r ih=>
  intro hx;obtain⟨k,u⟩:=x;cases u with
  |own g' w' xs' =>
   simp only[Env.cg]at hx;split at hx
   ·split at hx
    ·rename_i g2 w2 xs2 hl;split at hx
     ·rename_i hg;subst hg;simp only[ai,aL]at hx;obtain⟨rfl,rfl⟩:=hx;obtain⟨v,_,h2⟩:=h.env _ _ hl;exact⟨v,h2.1⟩
     ·exact ih hx
    ·exact ih hx
   ·exact ih hx
  |_=>exact ih hx
theorem y8(h:Ok E σ Z ω s e st){g:Tg}{w:Nat}{xs:List (List U)}(hx:s.cg g=some (w,xs)):∃ v,OR σ Z ω g w xs v:=by
 unfold Vs.cg at hx;split at hx
 ·rename_i i off;split at hx<;>try (cases hx;done)
  rename_i cs hi;split at hx<;>try (cases hx;done)
  rename_i w' xs' hc;simp only[ai,aL]at hx;obtain⟨rfl,rfl⟩:=hx;obtain⟨cs',h1,h2,h3⟩:=h.obj i _ hi;have hlt:off<cs.length:=(bn.1 hc).1;exact⟨_,h3 off _ _ hc (bL (by omega))⟩
 ·exact W5 h hx
theorem Pc{i off:Nat}{u:U}{v:V}(hn:u.uw=true)(h:CR σ Z ω n i off u v):UR σ Z n u v:=by
 cases u<;>first|exact h|(simp[U.uw]at hn)
theorem WT{i:Nat}{cs:List U}{cs' :List V}(hlen:cs.length=cs'.length)(hc:∀ (off:Nat) u v,cs[off]? =some u→cs'[off]? =some v→CR σ Z ω n i off u v){k:Option Nat}{off:Nat}{u:U}
  (hl:iK k cs off=some u):∃ v,dW k cs' off=some v∧UR σ Z n u v:=by
 cases k with
 |none=>
  simp only[iK]at hl;cases hq:cs[off]? with
  |none=>rw[hq]at hl;simp at hl
  |some x=>
   rw[hq]at hl;simp only at hl;cases hx:x.uw with
   |false=>rw[hx]at hl;simp at hl
   |true=>
    rw[hx]at hl;simp at hl;subst hl;have hlt:=(bn.1 hq).1;have hv:=bL (l:=cs') (i:=off) (by omega);exact⟨_,hv,Pc hx (hc off _ _ hq hv)⟩
 |some k=>
  simp only[iK]at hl;cases hb:(Nat.ble (off+k) cs.length&&((cs.drop off).take k).all U.uw)with
  |false=>rw[hb]at hl;simp at hl
  |true=>
   rw[hb]at hl;simp at hl;subst hl;simp only[bC,jr]at hb;have hle:=gb hb.1;refine⟨.agg ((cs'.drop off).take k),by simp only[dW,ou (show off+k≤cs'.length by omega),cond_true],.agg (by simp;omega) fun j u v hu hv=> ?_⟩;have hmem:u∈(cs.drop off).take k:=List.mem_of_getElem? hu;rw[jP]at hu hv;split at hu
   ·rw[if_pos ‹_›]at hv;rw[qd]at hu hv;exact Pc (hb.2 u hmem) (hc _ u v hu hv)
   ·simp at hu
theorem mX{row:List V}{o L off:Nat}{k:Option Nat}{v:V}(ho:o+L≤row.length)(h:dW k ((row.drop o).take L) off=some v):dW k row (o+off)=some v:=by
 cases k with
 |none=>
  simp only[dW]at h⊢;rw[jP]at h;split at h
  ·rw[qd]at h;exact h
  ·simp at h
 |some k=>
  simp only[dW]at h⊢;cases hb:Nat.ble (off+k) ((row.drop o).take L).length with
  |false=>rw[hb]at h;simp at h
  |true=>
   rw[hb]at h;have hle:=gb hb;simp only[List.length_take,List.length_drop]at hle;simp only[cond_true,ai]at h;rw[ou (show o+off+k≤row.length by omega)];simp only[cond_true,ai];rw[←h];congr 1;rw[List.drop_take,List.drop_drop,List.take_take,Nat.min_eq_left (by omega)]
theorem AS(h:Ok E σ Z ω s e st){i:Nat}{cs:List U}(hi:s.h[i]? =some (.row cs)){k:Option Nat}{off:Nat}{u:U}(hl:lU i k cs off=some u):
  ∃ cs' v,st.row (σ i)=some cs'∧dW k cs' off=some v∧TR σ Z ω s.h.length u v:=by
 have hlt:i<s.h.length:=(bn.1 hi).1;obtain⟨cs',h1,h2,h3⟩:=h.obj i _ hi;unfold lU at hl;split at hl
 ·rename_i w xs hc;simp at hl;subst hl;have hoff:off<cs.length:=(bn.1 hc).1;have hv:=bL (l:=cs') (i:=off) (by omega);exact⟨cs',_,iG h1,hv,h3 off _ _ hc hv,fun i' off' he=>by cases he;exact hlt⟩
 ·obtain⟨v,a,b⟩:=WT h2 h3 hl;exact⟨cs',v,iG h1,a,TR.bB b⟩
theorem Qz(h:Ok E σ Z ω s e st){w:Nat}{xs:List (List U)}{v:V}(hv:UR σ Z n (.sl w xs) v):
  ∃ cs,bG st w v=some cs∧LU σ Z 0 xs.flatten cs∧tv v=some xs.length∧∀ r∈xs,r.length=w:=by
 cases hv with
 |slnil=>exact⟨[],rfl,.nil,rfl,fun r hr=>by cases hr⟩
 |yI=>exact⟨[],rfl,.nil,rfl,fun r hr=>by cases hr⟩
 |zd hn hz hl hcap hr hv=>
  subst hn;refine⟨_,nV ((h.qc _ _ hz)) hr,⟨?_,hv⟩,rfl,hl⟩;rw[dD hl];simp;omega
 |CN hn hl hr hv=>
  subst hn;refine⟨_,by simp only[bG,iY,ou hr,Bool.and_self,cond_true],⟨?_,hv⟩,rfl,hl⟩;rw[dD hl];simp;omega
theorem N3(h:Ok E σ Z ω s e st){g:Tg}{w:Nat}{xs:List (List U)}{v:V}(hv:OR σ Z ω g w xs v):
  ∃ cs,bG st w v=some cs∧LU σ Z 0 xs.flatten cs∧tv v=some xs.length∧∀ r∈xs,r.length=w:=by
 unfold OR at hv;split at hv
 ·obtain⟨rfl,rfl|rfl⟩:=hv
  ·exact⟨[],rfl,.nil,rfl,fun r hr=>by cases hr⟩
  ·exact⟨[],rfl,.nil,rfl,fun r hr=>by cases hr⟩
 ·rename_i I hg;obtain⟨rfl,h0,h1,h2,h3,h4⟩:=hv;have hle:xs.length*w≤I.cap*w:=me _ h1;exact⟨_,nV (iG (h.lF g I hg)) (by omega),h4,rfl,h3⟩
theorem Ba(h:Ok E σ Z ω s e st){w:Nat}{u:U}{xs:List (List U)}{v:V}(hx:rowsOf s w u=some xs)(hv:TR σ Z ω s.h.length u v):
  ∃ cs,bG st w v=some cs∧LU σ Z s.h.length xs.flatten cs∧tv v=some xs.length∧∀ r∈xs,r.length=w:=by
 have up:∀ {cs},LU σ Z 0 xs.flatten cs→LU σ Z s.h.length xs.flatten cs:=fun hh=>hh.mono (dS _) (fun _ _=>rfl) (fun _ _ h=>h);cases u<;>simp only[rowsOf,reduceCtorEq]at hx
 ·rename_i w' ys;cases hb:Nat.beq w' w with
  |false=>simp[hb]at hx
  |true=>
   simp[hb]at hx;subst hx;have:w' =w:=bR hb;subst this;obtain⟨cs,a,b,c,d⟩:=Qz h hv;exact⟨cs,a,up b,c,d⟩
 ·rename_i w';cases hb:Nat.beq w' w with
  |false=>simp[hb]at hx
  |true=>
   simp[hb]at hx;subst hx;have hv:UR σ Z s.h.length (.nl w') v:=hv;cases hv with
   |CJ=>exact⟨[],rfl,.nil,rfl,fun r hr=>by cases hr⟩
   |Dr=>exact⟨[],rfl,.nil,rfl,fun r hr=>by cases hr⟩
 ·rename_i g w' ys;cases hb:Nat.beq w' w with
  |false=>simp[hb]at hx
  |true=>
   simp[hb]at hx;subst hx;have:w' =w:=bR hb;subst this;obtain⟨cs,a,b,c,d⟩:=N3 h hv.1;exact⟨cs,a,up b,c,d⟩
 ·rename_i i off len w';split at hx<;>try (simp at hx;done)
  rename_i cs hi;cases hb:(Nat.beq w' w&&Nat.beq w 1&&Nat.ble (off+len) cs.length&&((cs.drop off).take len).all U.uw)with
  |false=>rw[hb]at hx;simp at hx
  |true=>
   rw[hb]at hx;simp only[cond_true,ai]at hx;subst hx;simp only[bC,jr]at hb;have e1:w' =w:=bR hb.1.1.1;have e2:w=1:=bR hb.1.1.2;subst e1;subst e2;have hle:=gb hb.1.2;obtain⟨hi',cap,hcap,rfl⟩:=hv;obtain⟨cs',h1,h2,h3⟩:=h.obj i _ hi;have hfl:(List.map (fun c=>[c]) (List.take len (List.drop off cs))).flatten=(cs.drop off).take len:=by
    generalize (cs.drop off).take len=l
    induction l with
    |nil=>rfl
    |cons a l ih=>simpa using ih
   refine⟨_,nV (iG h1) (by omega),?_,by simp only[tv,List.length_map,List.length_take,List.length_drop,ai];omega,fun r hr=>by simp only[eR]at hr;obtain⟨x,_,rfl⟩:=hr;rfl⟩;rw[hfl,Nat.mul_one];refine⟨by simp;omega,fun j u v hu hv=> ?_⟩;have hmem:u∈(cs.drop off).take len:=List.mem_of_getElem? hu;rw[jP]at hu hv;split at hu
   ·rw[if_pos ‹_›]at hv;rw[qd]at hu hv;exact Pc (hb.2 u hmem) (h3 _ u v hu hv)
   ·simp at hu
theorem CT:∀ {xs:List (List U)} {bs:List UInt8} {cs:List V},nX xs=some bs→LU σ Z n xs.flatten cs→bytesOf cs=some bs:=by
 intro xs
 induction xs with
 |nil=>intro bs cs h hl;simp[nX]at h;subst h;rw[hl.dV];rfl
 |cons r xs ih=>
  intro bs cs h hl;simp only[nX]at h;cases hr:DZ r with
  |none=>rw[hr]at h;simp at h
  |some b=>
   rw[hr]at h;simp only at h;cases hx:nX xs with
   |none=>rw[hx]at h;simp at h
   |some bs' =>
    rw[hx]at h;simp at h;subst h;unfold DZ at hr;split at hr<;>simp at hr;rename_i m;simp only[List.flatten_cons,List.singleton_append]at hl;obtain⟨v,vs,rfl,h1,h2⟩:=hl.bx;cases h1;simp only[bytesOf,ih hx h2,hr]
theorem uh{kk:gU}{k:U}{k' :V}(hk:TR σ Z ω n k k'):∀ {es:List (U×U×Nat)} {es' :List ME},es.length=es'.length→
  (∀ (j:Nat) x y,es[j]? =some x→es'[j]? =some y→UR σ Z n x.1 y.key∧UR σ Z n x.2.1 y.val∧y.born=x.2.2)→∀ {i:Nat} {r:Option (Nat×U)},nJ kk k es i=some r→
  ∃ r',mO kk k' es' i=some r'∧(match r,r' with|none,none=>True|some (j,u),some (j',v)=>j=j'∧UR σ Z n u v|_,_=>False):=by
 intro es
 induction es with
 |nil=>
  intro es' hl _ i r h;have:es' =[]:=jq hl.symm;subst this;simp[nJ]at h;subst h;exact⟨none,rfl,trivial⟩
 |cons x es ih=>
  intro es' hl hr i r h;cases es' with
  |nil=>simp at hl
  |cons y es' =>
   have h0:=hr 0 x y rfl rfl;simp only[nJ]at h;simp only[mO];cases hp:fI kk k x.1 with
   |none=>rw[hp]at h;simp at h
   |some b=>
    rw[hp]at h;have hpe:jN kk k' y.key=some b:=by
     unfold fI at hp;split at hp
     ·rename_i a c e1 e2;rw[qR e1 hk,qR e2 (TR.bB (ω:=ω) h0.1)];exact hp
     ·simp at hp
    rw[hpe];cases b with
    |true=>simp at h;subst h;exact⟨_,rfl,rfl,h0.2.1⟩
    |false=>exact ih (by simpa using hl) (fun j a c ha hc=>hr (j+1) a c (by simpa using ha) (by simpa using hc)) h
theorem lg{kk:gU}{k:U}{k' :V}(hk:TR σ Z ω n k k')(h:dB kk k=true):plainKey kk k' =true:=by
 unfold dB at h;split at h
 ·rename_i v e1;rw[qR e1 hk];exact h
 ·cases h
theorem yX(h:Ok E σ Z ω s e st){i:Nat}{es:List (U×U×Nat)}{c:Nat}(hi:s.h[i]? =some (.map es c)):
  ∃ es',st.get (σ i)=some (.map es' c)∧es.length=es'.length∧∀ (j:Nat) x y,es[j]? =some x→es'[j]? =some y→UR σ Z s.h.length x.1 y.key∧UR σ Z s.h.length x.2.1 y.val∧y.born=x.2.2:=h.obj i _ hi
theorem NU(h:Ok E σ Z ω s e st){kk:gU}{zero:U}{z' :V}{ok:Bool}{m k u:U}{m' k' :V}(hz:UR σ Z s.h.length zero z')(hm:TR σ Z ω s.h.length m m')(hk:TR σ Z ω s.h.length k k')
  (hl:fG s kk zero ok m k=some u):∃ v,pI st kk z' ok m' k' =some v∧UR σ Z s.h.length u v:=by
 have hzz:UR σ Z s.h.length (bif ok then .aX [zero,.bool false]else zero) (if ok then .aX [z',.bool false]else z'):=by
  cases ok with
  |true=>exact .aX rfl (LU.cons hz (LU.cons (.bool _) .nil)).2
  |false=>exact hz
 cases m with
 |bO=>
  obtain rfl:=TR.bO hm;simp only[fG]at hl;cases hp:dB kk k with
  |false=>rw[hp]at hl;simp at hl
  |true=>
   rw[hp]at hl;simp only[cond_true,ai]at hl;subst hl;simp only[pI,lg hk hp,cond_true];exact⟨_,rfl,hzz⟩
 |map i=>
  obtain⟨hi,rfl⟩:=TR.map hm;simp only[fG]at hl;cases hq:s.h[i]? with
  |none=>rw[hq]at hl;simp at hl
  |some o=>
   rw[hq]at hl;cases o with
   |map es c=>
    simp only at hl;cases hp:dB kk k with
    |false=>rw[hp]at hl;simp at hl
    |true=>
     rw[hp]at hl;simp only[cond_true]at hl;obtain⟨es',g1,g2,g3⟩:=yX h hq;simp only[pI,g1,lg hk hp,cond_true];cases hf:nJ kk k es 0 with
     |none=>rw[hf]at hl;simp at hl
     |some r=>
      rw[hf]at hl;obtain⟨r',f1,f2⟩:=uh hk g2 g3 hf;rw[f1];cases r with
      |none=>
       cases r' with
       |none=>simp only[ai]at hl;subst hl;exact⟨_,rfl,hzz⟩
       |some _=>exact f2.elim
      |some p=>
       cases r' with
       |none=>exact f2.elim
       |some q=>
        obtain⟨j,a⟩:=p;obtain⟨j',b⟩:=q;simp only[ai]at hl;subst hl;refine⟨_,rfl,?_⟩;cases ok with
        |true=>exact .aX rfl (LU.cons f2.2 (LU.cons (.bool _) .nil)).2
        |false=>exact f2.2
   |row _=>simp at hl
   |iter a b c d=>simp at hl
   |gone=>simp at hl
 |_=>simp[fG]at hl
theorem Hg{u:U}{v:V}(h:TR σ Z ω n u v){b:Bool}(hu:u.LI=some b):(b=false∧v=.bA)∨(b=true∧((∃ x y,v=.ptr x y)∨∃ x y,v=.eu x y)):=by
 cases u<;>simp[U.LI]at hu<;>subst hu
 ·cases h;exact .inl ⟨rfl,rfl⟩
 ·exact .inr ⟨rfl,.inl ⟨_,_,(TR.ptr h).2⟩⟩
 ·cases h
  ·exact .inr ⟨rfl,.inl ⟨_,_,rfl⟩⟩
  ·exact .inr ⟨rfl,.inr ⟨_,_,rfl⟩⟩
 ·obtain⟨⟨I,_,rfl⟩,_⟩:=h;exact .inr ⟨rfl,.inl ⟨_,_,rfl⟩⟩
theorem Hf{u:U}{v:V}(h:TR σ Z ω n u v){b:Bool}(hu:u.LG=some b):(b=false∧v=.bO)∨(b=true∧∃ x,v=.map x):=by
 cases u<;>simp[U.LG]at hu<;>subst hu
 ·exact .inl ⟨rfl,TR.bO h⟩
 ·exact .inr ⟨rfl,_,(TR.map h).2⟩
theorem LF{u:U}{v:V}(h:TR σ Z ω n u v){b:Bool}(hu:u.WN=some b):(b=false∧v=.dy)∨(b=true∧∃ x y z,v=.func x y z):=by
 cases u<;>simp[U.WN]at hu<;>subst hu
 ·cases h;exact .inl ⟨rfl,rfl⟩
 ·obtain⟨a,b,rfl,_⟩:=TR.func h;exact .inr ⟨rfl,_,_,_,rfl⟩
theorem LK{u:U}{v:V}(h:TR σ Z ω n u v){b:Bool}(hu:u.Eh=some b):(b=false∧v=.bu)∨(b=true∧((∃ a b c d e f,v=.slice a b c d e f)∨∃ a b c d,v=.ag a b c d)):=by
 cases u with
 |bu=>simp[U.Eh]at hu;subst hu;cases h;exact .inl ⟨rfl,rfl⟩
 |sl w xs=>
  cases xs with
  |nil=>simp[U.Eh]at hu
  |cons a r=>
   simp[U.Eh]at hu;subst hu;cases h
   ·exact .inr ⟨rfl,.inl ⟨_,_,_,_,_,_,rfl⟩⟩
   ·exact .inr ⟨rfl,.inr ⟨_,_,_,_,rfl⟩⟩
 |own g w xs=>
  cases xs with
  |nil=>simp[U.Eh]at hu
  |cons a r=>
   simp[U.Eh]at hu;subst hu;obtain⟨h,_⟩:=h;unfold OR at h;split at h
   ·cases h.1
   ·exact .inr ⟨rfl,.inl ⟨_,_,_,_,_,_,h.1⟩⟩
 |_=>simp[U.Eh]at hu
theorem pJ{a b:Option Bool}{r:Bool}(h:Dq a b=some r):∃ x y,a=some x∧b=some y∧(x=false∧r= !y∨x=true∧y=false∧r=false):=by
 unfold Dq at h;split at h<;>simp at h
 ·rename_i x;exact⟨false,x,rfl,rfl,.inl ⟨rfl,by subst h;simp⟩⟩
 ·exact⟨true,false,rfl,rfl,.inr ⟨rfl,rfl,by subst h;rfl⟩⟩
theorem JK{k:gU}{a b:U}{x y:V}{r:Bool}(h:fI k a b=some r)(ha:TR σ Z ω n a x)(hb:TR σ Z ω n b y):jN k x y=some r:=by
 unfold fI at h;split at h
 ·rename_i p q e1 e2;rw[qR e1 ha,qR e2 hb];exact h
 ·simp at h
theorem NJ:∀ {ks:List (Nat×gU)} {a b:List U} {x y:List V} {r:Bool},rO ks a b=some r→LU σ Z n a x→LU σ Z n b y→qB ks x y=some r:=by
 intro ks
 induction ks with
 |nil=>intro a b x y r h _ _;simpa[rO,qB]using h
 |cons k ks ih=>
  intro a b x y r h ha hb;obtain⟨o,k⟩:=k;simp only[rO]at h;split at h<;>try (simp at h;done)
  rename_i p q e1 e2;obtain⟨p',f1,f2⟩:=ha.get e1;obtain⟨q',g1,g2⟩:=hb.get e2;simp only[qB,f1,g1];cases hp:fI k p q with
  |none=>rw[hp]at h;simp at h
  |some c=>
   rw[hp]at h;rw[JK (ω:=fun _=>none) hp (TR.bB f2) (TR.bB g2)];cases c with
   |true=>exact ih h ha hb
   |false=>exact h
theorem qen{ek:gU}{a b:U}{x y:V}{r:Bool}(h:Ls ek a b=some r)(ha:TR σ Z ω n a x)(hb:TR σ Z ω n b y):Gw ek x y=some r:=by
 cases ek with
 |bool=>
  simp only[Ls]at h;split at h<;>simp at h;subst h;rw[TR.bool ha,TR.bool hb];rfl
 |bA=>
  obtain⟨p,q,h1,h2,h3⟩:=pJ (by simpa only[Ls]using h);rcases Hg ha h1 with⟨rfl,rfl⟩|⟨rfl,h4⟩<;>rcases Hg hb h2 with⟨rfl,rfl⟩|⟨rfl,h5⟩
  ·simp at h3;subst h3;rfl
  ·simp at h3;subst h3;rcases h5 with⟨_,_,rfl⟩|⟨_,_,rfl⟩<;>rfl
  ·simp at h3;subst h3;rcases h4 with⟨_,_,rfl⟩|⟨_,_,rfl⟩<;>rfl
  ·simp at h3
 |bu=>
  obtain⟨p,q,h1,h2,h3⟩:=pJ (by simpa only[Ls]using h);rcases LK ha h1 with⟨rfl,rfl⟩|⟨rfl,h4⟩<;>rcases LK hb h2 with⟨rfl,rfl⟩|⟨rfl,h5⟩
  ·simp at h3;subst h3;rfl
  ·simp at h3;subst h3;rcases h5 with⟨_,_,_,_,_,_,rfl⟩|⟨_,_,_,_,rfl⟩<;>rfl
  ·simp at h3;subst h3;rcases h4 with⟨_,_,_,_,_,_,rfl⟩|⟨_,_,_,_,rfl⟩<;>rfl
  ·simp at h3
 |bO=>
  obtain⟨p,q,h1,h2,h3⟩:=pJ (by simpa only[Ls]using h);rcases Hf ha h1 with⟨rfl,rfl⟩|⟨rfl,_,rfl⟩<;>rcases Hf hb h2 with⟨rfl,rfl⟩|⟨rfl,_,rfl⟩
  ·simp at h3;subst h3;rfl
  ·simp at h3;subst h3;rfl
  ·simp at h3;subst h3;rfl
  ·simp at h3
 |dy=>
  obtain⟨p,q,h1,h2,h3⟩:=pJ (by simpa only[Ls]using h);rcases LF ha h1 with⟨rfl,rfl⟩|⟨rfl,_,_,_,rfl⟩<;>rcases LF hb h2 with⟨rfl,rfl⟩|⟨rfl,_,_,_,rfl⟩
  ·simp at h3;subst h3;rfl
  ·simp at h3;subst h3;rfl
  ·simp at h3;subst h3;rfl
  ·simp at h3
 |iface g=>
  simp only[Ls]at h;split at h
  ·rw[TR.cU ha,TR.cU hb];cases g with
   |true=>simp at h
   |false=>simp at h;subst h;rfl
  ·simp at h;subst h;obtain⟨v',rfl,_⟩:=TR.iface hb;rw[TR.cU ha];cases g<;>rfl
  ·simp at h;subst h;obtain⟨v',rfl,_⟩:=TR.iface ha;rw[TR.cU hb];cases g<;>rfl
  ·simp at h
 |flat ks=>
  simp only[Ls]at h;split at h<;>try (simp at h;done)
  obtain⟨p,rfl,h1⟩:=TR.agg ha;obtain⟨q,rfl,h2⟩:=TR.agg hb;exact NJ h h1 h2
 |int=>simp[Ls]at h
 |str=>simp[Ls]at h
 |no=>simp[Ls]at h
end
end Go.RE
