/- A part of a proof. -/
import Derived.Test.YtmpopachilfinaaGreatPart9
import Derived.Lib.Bytealg
import Derived.Sort.Walk0
set_option linter.unusedVariables false
set_option linter.unusedSimpArgs false
set_option linter.unnecessarySimpa false
set_option linter.constructorNameAsVariable false
namespace Go.RE
section
variable{α:Type}[Inhabited α](less:α→α→Bool)
def lG(l:List α)(i j:Nat):List α:=(l.set i (l[j]?.getD default)).set j (l[i]?.getD default)
def xX(a:Nat):Nat→List α→List α
 |0,l=>l
 |j+1,l=>bif decide (a<j+1)&&less (l[j+1]?.getD default) (l[j]?.getD default)then xX a j (lG l (j+1) j)else l
def D8(a:Nat):Nat→Nat→List α→List α
 |0,_,l=>l
 |k+1,i,l=>D8 a k (i+1) (xX less a i l)
def jB(l:List α)(a b:Nat):List α:=D8 less a (b - (a+1)) (a+1) l
def pK(p:Nat→Bool):Nat→Nat→Nat→Nat
 |0,i,_=>i
 |f+1,i,j=>bif decide (i<j)then(bif p ((i+j) / 2)then pK p f ((i+j) / 2+1) j else pK p f i ((i+j) / 2))else i
def qG(l:List α)(a m b:Nat):List α:=l.take a++(l.drop m).take (b - m)++(l.drop a).take (m - a)++l.drop b
def mH:Nat→List α→Nat→Nat→Nat→List α
 |0,l,_,_,_=>l
 |f+1,l,a,m,b=>
  bif decide (m - a=1)then qG l a m (pK (fun h=>less (l[h]?.getD default) (l[a]?.getD default)) (b - m) m b)
  else bif decide (b - m=1)then qG l (pK (fun h=> !less (l[m]?.getD default) (l[h]?.getD default)) (m - a) a m) m b
  else
   let mid:=(a+b) / 2;let n:=mid+m;let s0:=bif decide (mid<m)then n - b else a
   let r0:=bif decide (mid<m)then mid else m
   let s:=pK (fun c=> !less (l[n - 1 - c]?.getD default) (l[c]?.getD default)) (r0 - s0) s0 r0;let e:=n - s;let l1:=bif decide (s<m)&&decide (m<e)then qG l s m e else l
   let l2:=bif decide (a<s)&&decide (s<mid)then mH f l1 a s mid else l1
   bif decide (mid<e)&&decide (e<b)then mH f l2 mid e b else l2
def rW(n:Nat):Nat→Nat→List α→List α
 |0,a,l=>jB less l a n
 |f+1,a,l=>bif decide (a+20≤n)then rW n f (a+20) (jB less l a (a+20))else jB less l a n
def uG(n bs:Nat):Nat→Nat→List α→List α
 |0,_,l=>l
 |f+1,a,l=>bif decide (a+2*bs≤n)then uG n bs f (a+2*bs) (mH less (2*bs) l a (a+bs) (a+2*bs))
   else bif decide (a+bs<n)then mH less n l a (a+bs) n else l
def qF(n:Nat):Nat→Nat→List α→List α
 |0,_,l=>l
 |f+1,bs,l=>bif decide (bs<n)then qF n f (bs*2) (uG less n bs n 0 l)else l
def AM(l:List α):List α:=qF less l.length l.length 20 (rW less l.length l.length 0 l)
end
end Go.RE
namespace Go.RE
abbrev lt(a b:By):Bool:=Op.bytesLess a b
def small:Nat:=1000000000
def jl(w:Nat)(xs:List (List U)):Bool:=xs.all fun r=>r.all U.aL&&U.bZ 0 r&&Nat.beq r.length w
abbrev Prm:=List U→List Uo→Nat→Option (U×List Uo×Nat)
def qq(w0:Nat):Prm:=fun us h fl=>match us with
 |[.sl w xs]=>bif Nat.beq w w0&&Nat.ble (xs.length*200) bl&&jl w xs then some (.own .r w xs,h,fl)else none
 |_=>none
def Qm(f:Nat):Nat:=bif f==61 then 7 else bif f==62 then 2 else bif f==97 then 6 else 1
def oZ(a b:By):Int:=bif lt a b then -1 else bif a==b then 0 else 1
def Zh:Prm:=fun us h fl=>match us with
 |[.str a,.str b]=>some (.int .i64 (oZ a b),h,fl)
 |_=>none
def wg(f:Nat):Bool:=f==58||f==61||f==62||f==97||f==135||f==194
def pT:Nat→Option Prm:=fun f=>bif wg f then some (qq (Qm f))else bif f==83 then some Zh else none
def mT:qn:=fun _ _=>none
def qH:List U→Option By
 | .str k::_=>some k
 |_=>none
def k9:List (List U)→Option (List By)
 |[]=>some []
 |x::r=>match qH x,k9 r with
  |some k,some l=>some (k::l)
  |_,_=>none
def N9(x y:List U):Bool:=match qH x,qH y with
 |some a,some b=>lt a b
 |_,_=>false
def I7(a:List U):List (List U)→List (List U)
 |[]=>[a]
 |b::l=>bif N9 b a then b::I7 a l else a::b::l
def JT(xs:List (List U)):List (List U):=xs.foldr I7 []
def k7(k:Nat):List U→Bool
 |[.str _,.sl _ _]=>Nat.beq k 2
 |[.str _,.bool _,.sl _ _]=>Nat.beq k 3
 |_=>false
def pz(k c:Nat)(xs:List (List U))(rest:List U):Option (List (List U)):=
 match rest with
 |[.func g [] []]=>bif Nat.beq g c&&Nat.blt xs.length 4611686018427387904&&xs.all (k7 k)then(match k9 xs with
  |some l=>if l.Nodup then some (JT xs)else none
  |none=>none)else none
 |_=>none
def QD(xs:List (List U))(rest:List U):Option (List (List U)):=
 match rest with
 |[.int .i64 n,.own (.t _) 1 [[.str k]]]=>bif decide (0≤n)&&Nat.ble n.toNat xs.length&&Nat.blt xs.length 1000000000&&(k9 xs).isSome&&jl 1 xs then some (xs.take n.toNat++[[.str k]]++xs.drop n.toNat)else none
 |_=>none
abbrev cU:=By×By
def aS(s:cU):List U:=[.str s.1,.str s.2]
def Am:List (List U)→Option (List cU)
 |[]=>some []
 |[.str a,.str b]::r=>match Am r with
  |some l=>some ((a,b)::l)
  |none=>none
 |_=>none
def bg(x y:cU):Bool:=lt x.1 y.1
def ru(l:List cU):List cU:=AM bg l
def tP(xs:List (List U))(rest:List U):Option (List (List U)):=
 match rest with
 |[.func 192 [] []]=>bif Nat.blt xs.length 1000000000 then(match Am xs with|some l=>some ((ru l).map aS)|none=>none)else none
 |_=>none
def ldF(f:Nat):Bool:=f==27||f==77
structure Rc where
 first:Nat
 last:Nat
 began:Nat
 out:Nat
 reads:List cU
 writes:List cU
deriving Inhabited,DecidableEq
def recC(r:Rc):List U:=[.int .u64 r.first,.int .u64 r.last,.int .u64 r.began,.int .u64 r.out,.sl 2 (r.reads.map aS),.sl 2 (r.writes.map aS)]
def fZ(r:Rc):Prop:=r.reads.length<small / 8∧r.writes.length<small / 8
theorem Gz:∀ {a b:List cU},a.map aS=b.map aS→a=b
 |[],[],_=>rfl
 |[],_::_,h=>by simp at h
 |_::_,[],h=>by simp at h
 |(x1,x2)::a,(y1,y2)::b,h=>by
  simp only[ct,List.cons.injEq,aS,U.str.injEq,and_true]at h;rw[Gz h.2,h.1.1,h.1.2]
theorem Jy:∀ {a b:List Rc},a.map recC=b.map recC→a=b
 |[],[],_=>rfl
 |[],_::_,h=>by simp at h
 |_::_,[],h=>by simp at h
 |⟨x1,x2,x3,x4,x5,x6⟩::a,⟨y1,y2,y3,y4,y5,y6⟩::b,h=>by
  simp only[ct,List.cons.injEq,recC,U.int.injEq,U.sl.injEq,and_true,true_and,Int.ofNat_inj]at h;obtain⟨⟨h1,h2,h3,h4,h5,h6⟩,h7⟩:=h;rw[Jy h7,Gz h5,Gz h6,h1,h2,h3,h4]
noncomputable def qx(xs:List (List U))(rest:List U):Option (Nat×List (List U)):=open Classical in
 if h:∃ p:List Rc×Nat,xs=p.1.map recC∧rest=[.int .u64 (p.2:Int)]∧p.1.length<100000000∧∀ r∈p.1,fZ r then
  some (6,(h.choose.1.filter fun r=>decide (h.choose.2<r.last)).map recC)else none
theorem BV(l:List Rc)(low:Nat)(hl:l.length<100000000)(hok:∀ r∈l,fZ r):qx (l.map recC) [.int .u64 (low:Int)]=some (6,(l.filter fun r=>decide (low<r.last)).map recC):=by
 have hex:∃ p:List Rc×Nat,l.map recC=p.1.map recC∧[U.int .u64 (low:Int)]=[.int .u64 (p.2:Int)]∧p.1.length<100000000∧∀ r∈p.1,fZ r:=⟨(l,low),rfl,rfl,hl,hok⟩;unfold qx;rw[dif_pos hex];obtain⟨a,b,_⟩:=hex.choose_spec;have e1:=Jy a;have e2:(low:Int)=(hex.choose.2:Int):=by simpa using b
 have e3:hex.choose=(l,low):=Prod.ext e1.symm (by show hex.choose.2=low;omega);rw[e3]
theorem FZ{xs:List (List U)}{rest:List U}{w:Nat}{ys:List (List U)}(h:qx xs rest=some (w,ys)):∃ (l:List Rc) (low:Nat),xs=l.map recC∧rest=[.int .u64 (low:Int)]∧l.length<100000000∧(∀ r∈l,fZ r)∧w=6∧ys=(l.filter fun r=>decide (low<r.last)).map recC:=by
 by_cases hex:∃ p:List Rc×Nat,xs=p.1.map recC∧rest=[.int .u64 (p.2:Int)]∧p.1.length<100000000∧∀ r∈p.1,fZ r
 ·obtain⟨⟨l,low⟩,h1,h2,hl,hok⟩:=hex;dsimp only at h1 h2 hl hok;subst h1;subst h2;rw[BV l low hl hok]at h;simp only[ag,ay]at h;exact⟨l,low,rfl,rfl,hl,hok,h.1.symm,h.2.symm⟩
 ·unfold qx at h;rw[dif_neg hex]at h;cases h
def uU(w0 w:Nat)(xs:List (List U))(rest:List U):Option (Nat×List (List U)):=
 match rest with
 |[]=>bif Nat.beq w w0&&Nat.ble (xs.length*200) bl&&jl w0 xs then some (w0,xs)else none
 |_=>none
noncomputable def Iu:Nat→Option (Nat→List (List U)→List U→Option (Nat×List (List U))):=fun f=>bif f==66 then some fun _=>qx else bif f==61 then some (uU 7)else none
noncomputable def qT:nu:=⟨fun f=>bif f==81 then some (pz 2 82)else bif f==115 then some (pz 3 116)else bif f==191 then some tP else none,fun f=>bif f==145 then some QD else none,ldF,Iu⟩
theorem pZ(l:List cU):Am (l.map aS)=some l:=by
 induction l with
 |nil=>rfl
 |cons a l ih=>show(match Am (l.map aS)with|some l=>some ((a.1,a.2)::l)|none=>none)=_;rw[ih]
theorem L6(l:List cU)(hl:l.length<small):tP (l.map aS) [.func 192 [] []]=some ((ru l).map aS):=by
 unfold small at hl;simp[tP,pZ,hl]
@[simp] theorem qia(f:Nat):qT.q f=bif f==81 then some (pz 2 82)else bif f==115 then some (pz 3 116)else bif f==191 then some tP else none:=rfl
@[simp] theorem Te(f:Nat):qT.app f=bif f==145 then some QD else none:=rfl
@[simp] theorem qep(f:Nat):qT.KT f=Iu f:=rfl
@[simp] theorem ql4(f:Nat):qT.ld f=ldF f:=rfl
attribute [simp] ldF Iu
noncomputable abbrev G:=gF bu mT qT pT
theorem bK{fn:aC}{f:Nat}{us:List U}{h:List Uo}{fl:Nat}{R:U×List Uo×Nat}(hp:pT f=none)(hf:bu f=some fn)(ha:Nat.ble us.length fn.ntmps=true)(hR:gC bu mT qT pT fn fn.body ⟨mK us 0,h,fl⟩ (kE h.length fn R)):G f us h fl=some R:=IX hp hf ha hR
theorem iw{f:Nat}(hf:wg f=true){w:Nat}{xs:List (List U)}(h:List Uo)(fl:Nat)(hl:xs.length<small)(hx:jl w xs=true)(hw:Nat.beq w (Qm f)=true:=by rfl):G f [.sl w xs] h fl=some (.own .r w xs,h,fl):=by
 have hp:pT f=some (qq (Qm f)):=by unfold pT;rw[hf];rfl
 show gF bu mT qT pT f _ _ _=_;rw[Au hp];have:Nat.ble (xs.length*200) bl=true:=jA (by unfold small at hl;unfold bl;omega);simp only[qq,this,hx,hw,jh,cond_true]
@[simp] theorem qdq(a b:By):decide (oZ a b<0)=lt a b:=by
 unfold oZ;cases lt a b with
 |true=>rfl
 |false=>cases a==b<;>rfl
structure jb where
 At:Nat
 rE:Bool
 Data:By
deriving Inhabited,DecidableEq
def b8(v:jb):List U:=[.int .u64 v.At,.bool v.rE,.sl 1 (bM v.Data)]
@[simp] theorem qev(w:Nat):jl w []=true:=rfl
theorem oc{α:Type}{w:Nat}{f:α→List U}(hf:∀ a,((f a).all U.aL&&U.bZ 0 (f a)&&Nat.beq (f a).length w)=true)(l:List α):jl w (l.map f)=true:=by
 simp only[jl,PV,fF];intro x _;exact hf x
@[simp] theorem qae(b:By):jl 1 (bM b)=true:=oc (fun v=>by simp[Es]) b
@[simp] theorem lC(l:List cU):jl 2 (l.map aS)=true:=oc (fun v=>by simp[aS]) l
theorem kS(b:By):(bM b).length=b.length:=by simp[bM]
def half(n:Nat):Nat:=n / 2
@[simp] theorem qfE(n:Nat):j8 .quo .no (.int .i64 (n:Int)) (.int .i64 2)=some (.int .i64 (aK .i64 (half n:Nat))):=by
 have:(n:Int).tdiv 2=((n / 2:Nat):Int):=by rw[Int.tdiv_eq_ediv_of_nonneg (by omega)];omega
 simp only[j8,kj,this,half];rfl
def msV(d:Nat)(s:Vs)(w bytes:Nat)(zero:List V):Option U→Option U→Option (U×Vs)
 |some l,some c=>(match ga c bl with
   |some c=>(match ga l c with
    |some l=>bif Nat.ble (c*bytes) bl&&Nat.beq zero.length w&&U.bZ 0 (V.dF zero)&&(V.dF zero).all U.aL then some (.own (.t d) w (iY (V.dF zero) l),s.kill (.t d))else none
    |none=>none)
   |none=>none)
 |_,_=>none
@[simp] theorem YR(d:Nat)(s:Vs)(w bytes:Nat)(zero:List V)(len cap:bO):zO d s (.makeSlice w bytes zero len cap)=msV d s w bytes zero (cA s.e len) (cA s.e cap):=by
 simp only[zO];cases cA s.e len with
 |none=>rfl
 |some l=>cases cA s.e cap<;>rfl
theorem LI{d:Nat}{s:Vs}{w bytes:Nat}{zero:List V}{z:Int}(h0:0≤z)(hb:z.toNat*bytes≤bl∧z.toNat≤bl)(hz:(Nat.beq zero.length w&&U.bZ 0 (V.dF zero)&&(V.dF zero).all U.aL)=true):
  msV d s w bytes zero (some (.int .i64 0)) (some (.int .i64 z))=some (.own (.t d) w [],s.kill (.t d)):=by
 obtain⟨n,rfl⟩:∃ n:Nat,z=n:=⟨z.toNat,by omega⟩;simp only[s7]at hb;have h1:ga (.int .i64 (n:Int)) bl=some n:=by
  show asNat (.int .i64 (n:Int)) bl=some n;simp only[asNat];rw[if_pos ⟨uQ n,Int.ofNat_le.2 hb.2⟩];rfl
 have h2:ga (.int .i64 0) n=some 0:=by
  show asNat (.int .i64 0) n=some 0;simp only[asNat];rw[if_pos ⟨by decide,uQ n⟩];rfl
 simp only[aI]at hz;simp only[msV,h1,h2,jA hb.1,hz.1.1,hz.1.2,hz.2,jh,cond_true];rfl
def slM(d w:Nat)(xs:List (List U))(s:Vs)(h l:Nat):Option Nat→Option (U×Vs)
 |some m=>bif Nat.beq m h then(bif Nat.beq m 0 then some (.own (.t d) w [],s.kill (.t d))else some (.sl w ((xs.take h).drop l),s))else none
 |none=>none
@[simp] theorem qit(d w:Nat)(xs:List (List U))(s:Vs)(h l m:Nat):slM d w xs s h l (some m)=bif Nat.beq m h then(bif Nat.beq m 0 then some (.own (.t d) w [],s.kill (.t d))else some (.sl w ((xs.take h).drop l),s))else none:=rfl
def slL(d w:Nat)(mx:Option bO)(xs:List (List U))(s:Vs)(h:Nat):Option Nat→Option (U×Vs)
 |some l=>(match mx with
  |none=>some (.sl w ((xs.take h).drop l),s)
  |some m=>slM d w xs s h l (bC s.e (some m) xs.length xs.length))
 |none=>none
@[simp] theorem qir(d w:Nat)(xs:List (List U))(s:Vs)(h l:Nat):slL d w none xs s h (some l)=some (.sl w ((xs.take h).drop l),s):=rfl
@[simp] theorem qis(d w:Nat)(m:bO)(xs:List (List U))(s:Vs)(h l:Nat):slL d w (some m) xs s h (some l)=slM d w xs s h l (bC s.e (some m) xs.length xs.length):=rfl
def slH(d w:Nat)(lo mx:Option bO)(xs:List (List U))(s:Vs):Option Nat→Option (U×Vs)
 |some h=>slL d w mx xs s h (bC s.e lo 0 h)
 |none=>none
@[simp] theorem qiq(d w:Nat)(lo mx:Option bO)(xs:List (List U))(s:Vs)(h:Nat):slH d w lo mx xs s (some h)=slL d w mx xs s h (bC s.e lo 0 h):=rfl
@[simp] theorem qgD(d w:Nat)(lo hi mx:Option bO)(xs:List (List U))(s:Vs):iT d w lo hi mx (.sl w xs) s=slH d w lo mx xs s (bC s.e hi xs.length xs.length):=by
 simp only[iT,fq,cond_true];cases bC s.e hi xs.length xs.length with
 |none=>rfl
 |some h=>
  simp only[slH];cases bC s.e lo 0 h with
  |none=>rfl
  |some l=>
   cases mx with
   |none=>rfl
   |some m=>
    simp only[slL];cases bC s.e (some m) xs.length xs.length<;>rfl
def soL(d w:Nat)(g:Tg)(xs:List (List U))(s:Vs)(h:Nat):Option Nat→Option (U×Vs)
 |some l=>bif g.Jg then some (.view g l (h - l) w,s)else some (.own (.t d) w ((xs.take h).drop l),(s.kill g).kill (.t d))
 |none=>none
@[simp] theorem qix(d w:Nat)(g:Tg)(xs:List (List U))(s:Vs)(h l:Nat):soL d w g xs s h (some l)=bif g.Jg then some (.view g l (h - l) w,s)else some (.own (.t d) w ((xs.take h).drop l),(s.kill g).kill (.t d)):=rfl
def soH(d w:Nat)(g:Tg)(lo:Option bO)(xs:List (List U))(s:Vs):Option Nat→Option (U×Vs)
 |some h=>soL d w g xs s h (bC s.e lo 0 h)
 |none=>none
@[simp] theorem qiw(d w:Nat)(g:Tg)(lo:Option bO)(xs:List (List U))(s:Vs)(h:Nat):soH d w g lo xs s (some h)=soL d w g xs s h (bC s.e lo 0 h):=rfl
@[simp] theorem qeC(d w:Nat)(g:Tg)(lo hi:Option bO)(xs:List (List U))(s:Vs):iT d w lo hi none (.own g w xs) s=soH d w g lo xs s (bC s.e hi xs.length xs.length):=by
 simp only[iT,fq,cond_true];cases bC s.e hi xs.length xs.length with
 |none=>rfl
 |some h=>
  simp only[soH];cases bC s.e lo 0 h<;>rfl
attribute [simp] Tg.Jg
def stW(n i f:Nat)(g:Tg)(v:U)(s:Vs):Nat×List (List U)→Option (U×Vs)
 |(w,xs)=>(xs[i]?).bind fun r=>bif Nat.beq v.cells.length n&&Nat.ble (f+n) r.length&&v.cells.all U.aL&&v.low 0 then some (.aZ [],s.fK g w (xs.set i (gK r f v.cells)))else none
@[simp] theorem qkX(n i f:Nat)(g:Tg)(v:U)(s:Vs)(w:Nat)(xs:List (List U)):stW n i f g v s (w,xs)=(xs[i]?).bind fun r=>bif Nat.beq v.cells.length n&&Nat.ble (f+n) r.length&&v.cells.all U.aL&&v.low 0 then some (.aZ [],s.fK g w (xs.set i (gK r f v.cells)))else none:=rfl
def stQ(n i f:Nat)(g:Tg):U×Vs→Option (U×Vs)
 |(v,s)=>(s.cw g).bind (stW n i f g v s)
@[simp] theorem qkV(n i f:Nat)(g:Tg)(v:U)(s:Vs):stQ n i f g (v,s)=(s.cw g).bind (stW n i f g v s):=rfl
@[simp] theorem qiA(d:Nat)(s:Vs)(n i f:Nat)(g:Tg)(v:U):stO d s n (.bI g i f) v=(esc v s).bind (stQ n i f g):=by
 simp only[stO];cases esc v s with
 |none=>rfl
 |some p=>
  obtain⟨v,s⟩:=p;simp only[Option.bind,stQ];cases s.cw g with
  |none=>rfl
  |some q=>
   obtain⟨w,xs⟩:=q;simp only[stW,Option.bind];cases xs[i]? <;>rfl
theorem fL{n:Nat}(h:n≤9223372036854775807):aK .i64 (n:Int)=(n:Int):=DM h
end Go.RE
namespace Go.RE
theorem t222(v:jb)(i at_:Nat)(h:List Uo)(fl:Nat)(hf:fl≤h.length)(hi:h[i]? =some (.row [.int .u64 at_])):G 222 [.agg (b8 v),.ptr i 0] h fl=some (.bool (decide (v.At≤at_)),h,fl):=by
 refine bK (fn:=v222) rfl rfl rfl ?_;simp[zo,WD,WE,b8,aX hi,gJ hf]
def upto(l:List jb)(t:Nat):Nat:=pK (fun j=>decide ((l[j]?.getD default).At≤t)) (l.length+1) 0 l.length
theorem qe3(l:List jb)(i at_:Nat)(h:List Uo)(fl:Nat)(hf:fl≤h.length)(hi:h[i]? =some (.row [.int .u64 at_]))(hl:l.length<small):∀ (f lo hi' :Nat),hi'≤l.length→lo≤hi'→hi' - lo<f→
  gL bu mT qT pT C8 0 Ht h.length ⟨[(0,.sl 3 (l.map b8)),(1,.func 222 [] [.ptr i 0]),(5,.int .i64 lo),(6,.int .i64 hi')],h,fl⟩
   (gV bu mT qT pT C8 (.seq (.region MU) .ret) (kE h.length C8 (.int .i64 (pK (fun j=>decide ((l[j]?.getD default).At≤at_)) f lo hi' :Nat),h,fl))):=by
 intro f
 induction f with
 |zero=>intro lo hi' _ _ hh;omega
 |succ f ih=>
  intro lo hi' h1 h2 h3;rw[ai Ht.eq_1];by_cases hlt:lo<hi'
  ·have c1:(lo:Int)<(hi' :Int):=by omega
   obtain⟨m,hm⟩:∃ m,m=(lo+hi') / 2:=⟨_,rfl⟩;have hmid:m<l.length:=by omega
   have e1:aK .i64 ((hi' :Int) - (lo:Int))=((hi' - lo:Nat):Int):=by
    rw[show(hi' :Int) - (lo:Int)=((hi' - lo:Nat):Int) by omega];exact fL (by unfold small at hl;omega)
   have e2:aK .i64 (half (hi' - lo):Nat)=(half (hi' - lo):Nat):=fL (by unfold half;unfold small at hl;omega);have e3:aK .i64 ((lo:Int)+(half (hi' - lo):Nat))=((m:Nat):Int):=by
    rw[show(lo:Int)+(half (hi' - lo):Nat)=((m:Nat):Int) by unfold half;omega];exact fL (by unfold small at hl;omega)
   have e4:aK .i64 (((m:Nat):Int)+1)=((m+1:Nat):Int):=fC (by unfold small at hl;omega);have g1:(l.map b8)[m]? =some (b8 l[m]):=by simp[hmid]
   have g2:(l[m]?.getD default)=l[m]:=by simp[hmid]
   have hx:=t222 l[m] i at_ h fl hf hi;have hil:i<h.length:=(aH.1 hi).1;simp only[b8]at hx g1;simp only[pK,decide_eq_true hlt,cond_true,←hm,g2];cases hp:decide (l[m].At≤at_)with
   |true=>
    rw[hp]at hx;have ih' :=ih (m+1) hi' h1 (by omega) (by omega);simp[Hs,MS,MT,WB,c1,e1,e2,e3,e4,bq g1,hx,hil,aR hf];exact ih'
   |false=>
    rw[hp]at hx;have ih' :=ih lo (m) (by omega) (by omega) (by omega);simp[Hs,MS,MT,WC,c1,e1,e2,e3,e4,bq g1,hx,hil,aR hf];exact ih'
  ·have c1:¬(lo:Int)<(hi' :Int):=by omega
   simp only[pK,decide_eq_false hlt,cond_false];simp[Hs,MU,c1,aR hf]
theorem t187(l:List jb)(at_:Nat)(hl:l.length<small):G 187 [.sl 3 (l.map b8),.int .u64 at_] [] 0=some (.int .i64 (upto l at_:Nat),[],0):=by
 refine bK (fn:=VO) rfl rfl rfl ?_;have h221:G 221 [.sl 3 (l.map b8),.func 222 [] [.ptr 0 0]] [.row [.int .u64 at_]] 0=some (.int .i64 (upto l at_:Nat),[.row [.int .u64 at_]],0):=by
  refine bK (fn:=C8) rfl rfl rfl ?_;have:=qe3 l 0 at_ [.row [.int .u64 at_]] 0 (by simp) rfl hl (l.length+1) 0 l.length (ak _) (bU _) (by omega);simp[zn,Wy,Wz];exact this
 simp[y9,VP,VQ,h221]
theorem ry{α:Type}{l:List α}{i j:Nat}(hij:i+(j+1)=l.length)(hl:l.length<small):((i:Int)<(l.length:Int))∧aK .i64 ((i:Int)+1)=((i+1:Nat):Int)∧∃ x,l.drop i=x::l.drop (i+1)∧∀ {β:Type} (f:α→β),(l.map f)[i]? =some (f x):=by
 have h:i<l.length:=by omega
 exact⟨by omega,fC (by unfold small at hl;omega),l[i],Pz h,fun f=>by simp[h]⟩
theorem oq{α:Type}{l:List α}{i:Nat}(hij:i+0=l.length):¬((i:Int)<(l.length:Int))∧l.drop i=[]:=⟨by omega,xN (by omega)⟩
def dg:Nat→List jb→Bool
 |_,[]=>true
 |last,v::l=> !(decide (v.At≤last)||(v.rE&&decide (0<v.Data.length)))&&dg v.At l
theorem qe1(l:List jb)(hl:l.length<small):∀ (j i last:Nat),i+j=l.length→
  gL bu mT qT pT v193 0 Bb 0 ⟨[(8,.int .i64 (i:Int)),(3,.int .u64 last),(6,.sl 3 (l.map b8)),(7,.int .i64 (l.length:Int))],[],0⟩ (gV bu mT qT pT v193 (.seq (.region Hl) .ret) (kE 0 v193 (.bool (dg last (l.drop i)),[],0))):=by
 intro j
 induction j with
 |zero=>
  intro i last hij;obtain⟨h1,h2⟩:=oq hij;rw[ai Bb.eq_1,h2];simp[zf,h1,Hl,dg]
 |succ j ih=>
  intro i last hij;obtain⟨h1,e3,v,d1,g1⟩:=ry hij hl;have e1:=g1 b8;have ih' :=ih (i+1) v.At (by omega);rw[ai Bb.eq_1,d1,dg];simp only[b8]at e1;by_cases c1:v.At≤last
  ·simp[zf,C3,C4,ML,h1,bq e1,c1,b8]
  ·cases c2:v.rE with
   |false=>
    simp[zf,C3,C4,MM,MN,h1,bq e1,c1,c2,b8,e3];simpa[b8]using ih'
   |true=>
    cases c3:v.Data with
    |nil=>
     simp[zf,C3,C4,MM,MN,h1,bq e1,c1,c2,c3,b8,e3,bM];simpa[b8]using ih'
    |cons x r=>simp[zf,C3,C4,ML,h1,bq e1,c1,c2,c3,b8,bM]
theorem t193(l:List jb)(hl:l.length<small):G 193 [.sl 3 (l.map b8)] [] 0=some (.bool (dg 0 l),[],0):=by
 refine bK (fn:=v193) rfl rfl rfl ?_;simp[zg,Wb,Wc,Wd];have:=qe1 l hl l.length 0 0 (by omega);simpa using this
theorem qeZ(l:List jb)(hl:l.length<small):∀ (j i:Nat) (out:List jb),i+j=l.length→out.length≤i→(∀ v∈l,v.Data.length<small)→
  gL bu mT qT pT CZ 0 A9 0 ⟨[(12,.int .i64 (i:Int)),(3,.own (.t 3) 3 (out.map b8)),(10,.sl 3 (l.map b8)),(11,.int .i64 (l.length:Int))],[],0⟩ (gV bu mT qT pT CZ (.seq (.region MD) .ret) (kE 0 CZ (.own .r 3 ((out++l.drop i).map b8),[],0))):=by
 intro j
 induction j with
 |zero=>
  intro i out hij ho hd;obtain⟨h1,h2⟩:=oq hij;rw[ai A9.eq_1,h2];simp[MC,h1,MD]
 |succ j ih=>
  intro i out hij ho hd;obtain⟨h1,e3,v,d1,g1⟩:=ry hij hl;have e1:=g1 b8;have hv:v∈l:=iF (by rw[d1];exact cB:v∈l.drop i);have ih' :=ih (i+1) (out++[v]) (by omega) (by simp;omega) hd;have hc:=iw (f:=194) rfl (w:=1) (xs:=bM v.Data) [] 0 (by rw[kS];exact hd v hv) (by simp);have b1:(out.length+1)*40≤bl∧out.length+1≤bl:=by unfold small at hl;unfold bl;omega
  rw[ai A9.eq_1,d1];simp only[b8]at e1;simp[MC,VU,VV,VX,VY,h1,bq e1,e3,b8,hc,b1];simpa[b8]using ih'
def oC(l:List jb):Prop:=l.length<small∧∀ v∈l,v.Data.length<small
theorem t188(l:List jb)(hl:oC l):G 188 [.sl 3 (l.map b8)] [] 0=some (.own .r 3 (l.map b8),[],0):=by
 refine bK (fn:=CZ) rfl rfl rfl ?_;have h1:=hl.1;have e1:aK .i64 ((l.length:Int)+1)=((l.length+1:Nat):Int):=fC (by unfold small at h1;omega);have b1:(l.length+1)*40≤bl∧l.length+1≤bl:=by unfold small at h1;unfold bl;omega
 have:=qeZ l hl.1 l.length 0 [] (by omega) (by simp) hl.2;simp only[s8,jZ,jY]at this;simp[zb,VR,VS,VT,e1,LI (w:=3) (bytes:=40) (zero:=[.int .u64 0,.bool false,.ah [] 0 0 1]) (z:=(l.length:Int)+1) (by omega) ⟨by omega,by omega⟩ rfl];exact this
def gG(l:List jb):Nat:=(l.getLast?.getD ⟨0,false,[]⟩).At
theorem t189(l:List jb)(hl:l.length<small):G 189 [.sl 3 (l.map b8)] [] 0=some (.int .u64 (gG l),[],0):=by
 refine bK (fn:=VZ) rfl rfl rfl ?_;rcases Yp l with rfl|⟨l',v,hlv⟩
 ·simp[tZ,MF,MG,V0,gG]
 ·rw[Yq]at hlv;subst hlv;have hlen:((l'++[v]).map b8).length=l'.length+1:=by simp
  have e2:((l'++[v]).map b8)[l'.length]? =some (b8 v):=by simp
  have hv:gG (l'++[v])=v.At:=by simp[gG]
  have e1:aK .i64 ((l'.length:Int)+1 - 1)=(l'.length:Int):=by
   rw[show(l'.length:Int)+1 - 1=(l'.length:Int) by omega];exact fL (by simp at hl;unfold small at hl;omega)
  have e3:¬((l'.length:Int)+1=0):=by omega
  rw[hv];generalize (l'++[v]).map b8=xs at*;simp only[b8]at e2;simp at e1;simp[tZ,MF,MG,V1,hlen,e1,e3,bq e2]
def BR(l:List jb)(t:Nat):Option jb:=match upto l t with
 |0=>none
 |n+1=>l[n]?
def jI(l:List jb)(t:Nat):Option By:=match BR l t with
 |some v=>bif v.rE then none else some v.Data
 |none=>none
def cT(l:List jb)(t:Nat):List jb:=match upto l t with
 |0=>l
 |n+1=>bif(l[n]?.getD default).rE then l.drop (n+1)else l.drop n
def cR(l:List jb):Nat:=(l.map fun v=>v.Data.length).sum
theorem mX(l:List jb)(t:Nat):upto l t≤l.length:=by
 have:∀ (p:Nat→Bool) (f i j:Nat),i≤j→pK p f i j≤j:=by
  intro p f
  induction f with
  |zero=>intro i j h;exact h
  |succ f ih=>
   intro i j h;simp only[pK];by_cases hlt:i<j
   ·simp only[decide_eq_true hlt,cond_true];cases p ((i+j) / 2)with
    |true=>exact ih _ _ (by omega)
    |false=>exact j0 (ih _ _ (by omega)) (by omega)
   ·simp only[decide_eq_false hlt,cond_false];exact h
 exact this _ _ _ _ (bU _)
def IN(o:Option jb):U:=.aZ [.agg (b8 (o.getD ⟨0,false,[]⟩)),.bool o.isSome]
theorem t164(l:List jb)(t:Nat)(hl:oC l):G 164 [.sl 3 (l.map b8),.int .u64 t] [] 0=some (IN (BR l t),[],0):=by
 refine bK (fn:=v164) rfl rfl rfl ?_;have h187:=t187 l t hl.1;have hle:=mX l t;unfold BR;cases hn:upto l t with
 |zero=>
  rw[hn]at h187;simp[tY,My,Mz,MA,Vy,h187,IN,b8,bM]
 |succ n=>
  rw[hn]at h187;have hlt:n<l.length:=by omega
  have e1:aK .i64 ((n:Int)+1 - 1)=(n:Int):=by
   rw[show(n:Int)+1 - 1=(n:Int) by omega];exact fL (by have:=hl.1;unfold small at this;omega)
  have e3:¬((n:Int)+1=0):=by omega
  have e2:(l.map b8)[n]? =some (b8 l[n]):=by simp[hlt]
  have hc:=iw (f:=194) rfl (w:=1) (xs:=bM l[n].Data) [] 0 (by rw[kS];exact hl.2 _ (xP hlt)) (by simp);simp only[aQ hlt];simp only[b8]at e2;simp at e1;simp[tY,My,Mz,MA,Vz,VA,VB,h187,IN,b8,e1,e3,bq e2,hc]
def uA(o:Option By):U:=.aZ [.sl 1 (bM (o.getD [])),.bool o.isSome]
theorem t113(l:List jb)(t:Nat)(hl:oC l):G 113 [.sl 3 (l.map b8),.int .u64 t] [] 0=some (uA (jI l t),[],0):=by
 refine bK (fn:=Uj) rfl rfl rfl ?_;have h164:=t164 l t hl;unfold jI;cases hf:BR l t with
 |none=>
  rw[hf]at h164;simp[IN,b8]at h164;simp[qa,GY,GZ,G1,Mn,h164,uA,bM]
 |some v=>
  rw[hf]at h164;simp[IN,b8]at h164;cases hg:v.rE with
  |true=>
   rw[hg]at h164;simp[qa,GY,GZ,G1,Mn,h164,uA,bM,hg]
  |false=>
   rw[hg]at h164;simp[qa,GY,GZ,G1,Uk,h164,uA,bM,hg]
theorem t136(l:List jb)(t:Nat)(hl:oC l):G 136 [.sl 3 (l.map b8),.int .u64 t] [] 0=some (.own .r 3 ((cT l t).map b8),[],0):=by
 refine bK (fn:=UA) rfl rfl rfl ?_;have h187:=t187 l t hl.1;have hle:=mX l t;have sm:=hl.1;have dr:∀ n,G 188 [.sl 3 ((l.drop n).map b8)] [] 0=some (.own .r 3 ((l.drop n).map b8),[],0):=fun n=>t188 _ ⟨by simp;omega,fun v hv=>hl.2 v (iF hv)⟩;by_cases h0:l=[]
 ·subst h0;have hu:upto [] t=0:=by have:=mX [] t;simpa using this
  rw[hu]at h187;have d0:=dr 0;simp at d0 h187;simp[nk,CK,CL,CM,CN,h187,d0,cT,hu,ga,asNat]
 have hne:¬l.length=0:=fun h=>h0 (fT h);have nl:=qp (k:=.i64) (n:=l.length) (m:=l.length) (ak _);have tk:List.take l.length (l.map b8)=l.map b8:=gu (by simp);unfold cT;cases hn:upto l t with
 |zero=>
  rw[hn]at h187;have d0:=dr 0;have n0:=qp (k:=.i64) (n:=0) (m:=l.length) (bU _);simp at n0;simp only[s8]at d0;simp[nk,CK,CL,CM,CN,h187,d0,nl,n0,hne,tk]
 |succ n=>
  rw[hn]at h187;have hlt:n<l.length:=by omega
  have e1:aK .i64 ((n:Int)+1 - 1)=(n:Int):=by
   rw[show(n:Int)+1 - 1=(n:Int) by omega];exact fL (by unfold small at sm;omega)
  have e2:(l.map b8)[n]? =some (b8 l[n]):=by simp[hlt]
  have hg:(l[n]?.getD default)=l[n]:=by simp[hlt]
  simp only[b8]at e2;simp at e1;simp only[hg];cases hgn:l[n].rE with
  |true=>
   have d0:=dr (n+1);have n0:=qp (k:=.i64) (n:=n+1) (m:=l.length) hlt;simp at n0;rw[KA]at d0;simp only[cond_true,KA];simp[nk,CK,CL,CM,CN,h187,d0,e1,bq e2,hgn,nl,n0,hne,tk]
  |false=>
   have d0:=dr n;have n0:=qp (k:=.i64) (n:=n) (m:=l.length) (by omega);rw[KA]at d0;simp only[cond_false,KA];simp[nk,CK,CL,CM,UB,CN,h187,d0,e1,bq e2,hgn,nl,n0,hne,tk]
theorem qeV(l:List jb)(hl:oC l)(hs:cR l<small):∀ (j i:Nat),i+j=l.length→
  gL bu mT qT pT CO 0 A5 0 ⟨[(8,.int .i64 (i:Int)),(3,.int .i64 (cR (l.take i):Nat)),(6,.sl 3 (l.map b8)),(7,.int .i64 (l.length:Int))],[],0⟩ (gV bu mT qT pT CO (.seq (.region Mr) .ret) (kE 0 CO (.int .i64 (cR l:Nat),[],0))):=by
 intro j
 induction j with
 |zero=>
  intro i hij;obtain⟨h1,h2⟩:=oq hij;have h3:l.take i=l:=gu (by omega);rw[ai A5.eq_1,h3];simp[Mq,h1,Mr]
 |succ j ih=>
  intro i hij;obtain⟨h1,e3,v,d1,g1⟩:=ry hij hl.1;have e1:=g1 b8;have hv:l[i]? =some v:=by have:=g1 (fun x=>x);simpa using this
  have h4:cR (l.take (i+1))=cR (l.take i)+v.Data.length:=by rw[Yj,hv];simp[cR]
  have h5:cR (l.take (i+1))≤cR l:=by
   have:cR l=cR (l.take (i+1))+cR (l.drop (i+1)):=by
    unfold cR;rw[←List.sum_append,←mR,s9]
   omega
  have e4:aK .i64 ((cR (l.take i):Int)+(v.Data.length:Int))=(cR (l.take (i+1)):Nat):=by
   rw[h4,←Af];exact fL (by unfold small at hs;omega)
  have ih' :=ih (i+1) (by omega);rw[ai A5.eq_1];simp only[b8]at e1;simp[Mq,UF,UG,UH,h1,bq e1,e3,kS,e4];exact ih'
theorem t137(l:List jb)(hl:oC l)(hs:cR l<small):G 137 [.sl 3 (l.map b8)] [] 0=some (.int .i64 (cR l:Nat),[],0):=by
 refine bK (fn:=CO) rfl rfl rfl ?_;have:=qeV l hl hs l.length 0 (by omega);have h0:cR (l.take 0)=0:=rfl;rw[h0]at this;simp[yM,UC,UD,UE];exact this
def Z7(l:List jb)(v:jb):Option (List jb)×Nat:=
 bif !(dg 0 l&&dg 0 [v])then(none,1)else bif decide (v.At≤gG l)then(none,70)else(some (l++[v]),0)
def QV(r:Option (List jb)×Nat):U:=.aZ [.sl 3 ((r.1.getD []).map b8),.int .i64 r.2]
theorem t144(l:List jb)(v:jb)(hl:oC l)(hv:v.Data.length<small):G 144 [.sl 3 (l.map b8),.agg (b8 v)] [] 0=some (QV (Z7 l v),[],0):=by
 refine bK (fn:=U8) rfl rfl rfl ?_;have c1:=t193 l hl.1;have c2:=t193 [v] (by simp[small]);have c3:=t189 l hl.1;have c4:=t188 l hl;have c5:=iw (f:=194) rfl (w:=1) (xs:=bM v.Data) [] 0 (by rw[kS];exact hv) (by simp);have sm:=hl.1;have b1:(l.length+1)*40≤bl∧l.length+1≤bl:=by unfold small at sm;unfold bl;omega
 simp only[ct,jY,b8]at c2;unfold Z7;cases r1:dg 0 l with
 |false=>
  rw[r1]at c1;simp[nq,CT,CU,Mu,b8,c1,QV]
 |true=>
  rw[r1]at c1;cases r2:dg 0 [v]with
  |false=>
   rw[r2]at c2;simp[nq,CT,CU,Mu,b8,c1,c2,QV]
  |true=>
   rw[r2]at c2;by_cases c:v.At≤gG l
   ·simp[nq,CT,CU,Va,b8,c1,c2,QV,az OF,A8,c3,c]
   ·simp[nq,CT,CU,Vb,b8,c1,c2,QV,az OF,A8,az qau,OG,c3,c4,c5,c,b1,bF]
end Go.RE
namespace Go.RE
def dX(s:cU):Bool:=s.2==[]||lt s.1 s.2
def Sx(s:cU)(k:By):Bool:= !lt k s.1&&(s.2==[]||lt k s.2)
def xV(s:cU)(k:By):Bool:=s.2 !=[]&& !lt k s.2
def vh(a b:cU):Bool:=dX a&&dX b&& !xV a b.1&& !xV b a.1
theorem t78(s:cU):G 78 [.agg (aS s)] [] 0=some (.bool (dX s),[],0):=by
 refine bK (fn:=v78) rfl rfl rfl ?_;cases hh:s.2==[]<;>simp[DF,qcM,qcN,hh,dX,aS]
theorem t80(s:cU)(k:By):G 80 [.agg (aS s),.str k] [] 0=some (.bool (Sx s k),[],0):=by
 refine bK (fn:=v80) rfl rfl rfl ?_;cases h1:lt k s.1<;>cases h2:s.2==[]<;>simp[DH,qcT,qcU,h1,h2,Sx,aS]
theorem t199(s:cU)(k:By):G 199 [.agg (aS s),.str k] [] 0=some (.bool (xV s k),[],0):=by
 refine bK (fn:=Wo) rfl rfl rfl ?_;cases h2:s.2==[]<;>simp[zj,Wp,Wq,h2,xV,aS,bne]
theorem t76(k:By)(hk:k.length<small):G 76 [.str k] [] 0=some (.agg (aS (k,k++[0])),[],0):=by
 refine bK (fn:=v76) rfl rfl rfl ?_;have hb:k.length+1≤bl:=by unfold small at hk;unfold bl;omega
 simp[DD,qcI,qcJ,hb,aS]
theorem t152(a b:cU):G 152 [.agg (aS a),.agg (aS b)] [] 0=some (.bool (vh a b),[],0):=by
 refine bK (fn:=v152) rfl rfl rfl ?_;have c1:=t78 a;have c2:=t78 b;have c3:=t199 a b.1;have c4:=t199 b a.1;unfold vh;simp only[aS]at c1 c2 c3 c4;cases h1:dX a<;>cases h2:dX b<;>cases h3:xV a b.1<;>cases h4:xV b a.1<;>rw[h1]at c1<;>rw[h2]at c2<;>rw[h3]at c3<;>rw[h4]at c4<;>
  simp[y7,Vw,Vx,c1,c2,c3,c4,aS]
theorem t151(a b:cU)(i:Nat)(h:List Uo)(fl:Nat)(hf:fl≤h.length)(hi:h[i]? =some (.row (aS a))):G 151 [.agg (aS b),.ptr i 0] h fl=some (.bool (vh a b),h,fl):=by
 refine bK (fn:=Vt) rfl rfl rfl ?_;have c1:=t152 a b;simp only[aS]at c1 hi;simp[yZ,Vu,Vv,aS,aX hi,c1,gJ hf]
theorem qe2(f i:Nat)(p:cU→Bool)(h:List Uo)(fl:Nat)(hf:fl≤h.length)(hil:i<h.length)(hp:∀ s,G f [.agg (aS s),.ptr i 0] h fl=some (.bool (p s),h,fl))(hq:qT.q f=none)(ha:qT.app f=none)(hld:ldF f=false)(hbo:Iu f=none)(l:List cU)(hl:l.length<small):∀ (j q:Nat),q+j=l.length→
  ∃ z:Int,decide (z≥0)=(l.drop q).any p∧gL bu mT qT pT v198 0 w9 h.length ⟨[(8,.int .i64 (q:Int)),(0,.sl 2 (l.map aS)),(1,.func f [] [.ptr i 0]),(7,.int .i64 (l.length:Int))],h,fl⟩
   (gV bu mT qT pT v198 (.seq (.region MQ) .ret) (kE h.length v198 (.int .i64 z,h,fl))):=by
 intro j
 induction j with
 |zero=>
  intro q hij;obtain⟨h1,h2⟩:=oq hij;refine⟨-1,by rw[h2];rfl,?_⟩;rw[ai w9.eq_1];simp[Ho,h1,MQ,aR hf]
 |succ j ih=>
  intro q hij;obtain⟨h1,e3,s,d1,g1⟩:=ry hij hl;have e1:=g1 aS;obtain⟨z,z1,z2⟩:=ih (q+1) (by omega);have hps:=hp s;simp only[qia,Te]at hq ha;simp only[aS]at e1 hps;rw[d1];cases c:p s with
  |true=>
   rw[c]at hps;refine⟨q,by simp[c],?_⟩;rw[ai w9.eq_1];simp only[ldF]at hld;simp only[Iu]at hbo;simp[Ho,MO,MP,Wm,h1,bq e1,hq,ha,hld,hbo,hps,hil,aR hf,bne]
  |false=>
   rw[c]at hps;refine⟨z,by simp[c,z1],?_⟩;rw[ai w9.eq_1];simp only[ldF]at hld;simp only[Iu]at hbo;simp[Ho,MO,MP,Wn,h1,bq e1,hq,ha,hld,hbo,hps,hil,aR hf,e3];exact z2
theorem t149(f i:Nat)(p:cU→Bool)(h:List Uo)(fl:Nat)(hf:fl≤h.length)(hil:i<h.length)(hp:∀ s,G f [.agg (aS s),.ptr i 0] h fl=some (.bool (p s),h,fl))(hq:qT.q f=none)(ha:qT.app f=none)(hld:ldF f=false)(hbo:Iu f=none)(l:List cU)(hl:l.length<small):
  G 149 [.sl 2 (l.map aS),.func f [] [.ptr i 0]] h fl=some (.bool (l.any p),h,fl):=by
 obtain⟨z,z1,z2⟩:=qe2 f i p h fl hf hil hp hq ha hld hbo l hl l.length 0 (by omega);have c:G 198 [.sl 2 (l.map aS),.func f [] [.ptr i 0]] h fl=some (.int .i64 z,h,fl):=by
  refine bK (fn:=v198) rfl rfl rfl ?_;simp[zi,Wk,Wl,hil,aR hf];exact z2
 refine bK (fn:=Vl) rfl rfl rfl ?_;rw[s8]at z1;rw[←z1];simp[yX,Vm,Vn,c,hil,aR hf]
def ER(a b:List cU):Bool:=a.any fun x=>b.any fun y=>vh x y
theorem t150(b:List cU)(a:cU)(i:Nat)(h:List Uo)(fl:Nat)(hf:fl≤h.length)(hb:b.length<small)(hi:h[i]? =some (.row [.sl 2 (b.map aS)])):G 150 [.agg (aS a),.ptr i 0] h fl=some (.bool (b.any fun y=>vh a y),h,fl):=by
 refine bK (fn:=Vp) rfl rfl rfl ?_;have c:=t149 151 h.length (fun y=>vh a y) (h++[.row (aS a)]) fl (by simp;omega) (by simp) (fun s=>t151 a s h.length (h++[.row (aS a)]) fl (by simp;omega) (by simp)) rfl rfl rfl rfl b hb;simp only[aS]at c;simp[yY,Vq,Vr,aS,aX hi,c,gJ hf]
theorem t108(a b:List cU)(ha:a.length<small)(hb:b.length<small):G 108 [.sl 2 (a.map aS),.sl 2 (b.map aS)] [] 0=some (.bool (ER a b),[],0):=by
 refine bK (fn:=Ud) rfl rfl rfl ?_;have c:=t149 150 0 (fun x=>b.any fun y=>vh x y) [.row [.sl 2 (b.map aS)]] 0 (by simp) (by simp) (fun s=>t150 b s 0 _ 0 (by simp) hb rfl) rfl rfl rfl rfl a ha;simp[yJ,Ue,Uf,c,ER]
def mU(out:List cU)(s:cU):List cU:=match out.getLast? with
 |none=>[s]
 |some x=>bif x.2 !=[]&&lt x.2 s.1 then out++[s]else bif x.2 !=[]&&(s.2==[]||lt x.2 s.2)then out.dropLast++[(x.1,s.2)]else out
def nL(a b:List cU):List cU:=(ru (a.filter dX++b.filter dX)).foldl mU []
theorem qe0(l:List cU)(hl:l.length<small):∀ (j i:Nat) (out:List cU),i+j=l.length→out.length<small+i→
  gL bu mT qT pT En 0 Ba 1 ⟨[(7,.int .i64 (i:Int)),(1,.ptr 0 0),(5,.sl 2 (l.map aS)),(6,.int .i64 (l.length:Int))],[.row [.bJ 2 (out.map aS)]],0⟩
   (kE 1 En (.aZ [],[.row [.bJ 2 ((out++(l.drop i).filter dX).map aS)]],0)):=by
 intro j
 induction j with
 |zero=>
  intro i out hij ho;obtain⟨h1,h2⟩:=oq hij;rw[ai Ba.eq_1,h2];simp[Hj,h1]
 |succ j ih=>
  intro i out hij ho;obtain⟨h1,e3,s,d1,g1⟩:=ry hij hl;have e1:=g1 aS;have c:=t78 s;rw[ai Ba.eq_1,d1];simp only[aS]at e1 c;cases hr:dX s with
  |false=>
   rw[hr]at c;have ih' :=ih (i+1) out (by omega) (by omega);simp[Hj,MI,MJ,MK,h1,bq e1,e3,aS,c,hr];simpa[aS]using ih'
  |true=>
   rw[hr]at c;have ih' :=ih (i+1) (out++[s]) (by omega) (by simp;omega);have b1:(out.length+1)*32≤bl∧out.length+1≤bl:=by unfold small at ho hl;unfold bl;omega
   simp[Hj,MI,MJ,V5,MK,h1,bq e1,e3,aS,c,hr,b1];simpa[aS]using ih'
theorem t190(l out:List cU)(hl:l.length<small)(ho:out.length<small):G 190 [.sl 2 (l.map aS),.ptr 0 0] [.row [.bJ 2 (out.map aS)]] 0=some (.aZ [],[.row [.bJ 2 ((out++l.filter dX).map aS)]],0):=by
 refine bK (fn:=En) rfl rfl rfl ?_;have:=qe0 l hl l.length 0 out (by omega) (by omega);simp[zc,V4];simpa using this
theorem qeW(L:List cU)(hl:L.length<small):∀ (j i:Nat) (out:List cU),i+j=L.length→out.length≤i→
  gL bu mT qT pT v139 0 wV 1 ⟨[(29,.int .i64 (i:Int)),(7,.own (.t 7) 2 (out.map aS)),(27,.own (.c 0 0) 2 (L.map aS)),(28,.int .i64 (L.length:Int))],[.row [.bJ 2 (L.map aS)]],0⟩
   (gV bu mT qT pT v139 (.seq (.region G4) .ret) (kE 0 v139 (.own .r 2 (((L.drop i).foldl mU out).map aS),[],0))):=by
 intro j
 induction j with
 |zero=>
  intro i out hij ho;obtain⟨h1,h2⟩:=oq hij;rw[ai wV.eq_1,h2];simp[sJ,h1,G4]
 |succ j ih=>
  intro i out hij ho;obtain⟨h1,e3,s,d1,g1⟩:=ry hij hl;have e1:=g1 aS;have hi:i<L.length:=by omega
  have ia:∀ s',rF s' 2 (some (.own (.c 0 0) 2 (L.map aS))) (some (.int .i64 (i:Int)))=some (.bI (.c 0 0) i 0,s'):=fun s' =>c9 (by simpa using hi);have b1:(out.length+1)*32≤bl∧out.length+1≤bl:=by unfold small at hl;unfold bl;omega
  rw[ai wV.eq_1,d1,mz];rcases Yp out with rfl|⟨out',x,hox⟩
  ·have ih' :=ih (i+1) [s] (by omega) (by simp);simp only[aS]at e1;have b0:32≤bl∧1≤bl:=by unfold bl;omega
   simp[sJ,vJ,qP,az qb,mh,G2,qQ,h1,ia,e1,e3,aS,mU,b0];simpa[aS]using ih'
  ·rw[Yq]at hox;subst hox;have hlen:((out'++[x]).map aS).length=out'.length+1:=by simp
   have e2:((out'++[x]).map aS)[out'.length]? =some (aS x):=by simp
   have e5:aK .i64 ((out'.length:Int)+1 - 1)=(out'.length:Int):=by
    rw[show(out'.length:Int)+1 - 1=(out'.length:Int) by omega];exact fL (by simp at ho;unfold small at hl;omega)
   have e6:((out'.length:Int)+1==0)=false:=by rw[beq_eq_false_iff_ne];omega
   have ib:∀ s',rF s' 2 (some (.own (.t 7) 2 ((out'++[x]).map aS))) (some (.int .i64 (out'.length:Int)))=some (.bI (.t 7) out'.length 0,s'):=fun s' =>c9 (by simp);have hm:mU (out'++[x]) s=bif x.2 !=[]&&lt x.2 s.1 then out'++[x]++[s]else bif x.2 !=[]&&(s.2==[]||lt x.2 s.2)then out'++[(x.1,s.2)]else out'++[x]:=by simp[mU]
   have hset:((out'++[x]).map aS).set out'.length [.str x.1,.str s.2]=(out'++[(x.1,s.2)]).map aS:=by simp[aS]
   have happ:((out'++[x]).map aS)++[[.str s.1,.str s.2]]=(out'++[x]++[s]).map aS:=by simp[aS]
   have ihA:=ih (i+1) (out'++[x]++[s]) (by omega) (by simp at ho⊢;omega);have ihB:=ih (i+1) (out'++[(x.1,s.2)]) (by omega) (by simp at ho⊢;omega);have ihC:=ih (i+1) (out'++[x]) (by omega) (by simp at ho⊢;omega);have hlen2:(out'++[x]).length=out'.length+1:=by simp
   rw[hlen2]at b1;rw[hm];rw[←happ]at ihA;rw[←hset]at ihB;generalize (out'++[x]).map aS=xs at*;simp only[aS]at e1 e2;have e7:∀ hh:out'.length<xs.length,xs[out'.length]=[.str x.1,.str x.2]:=fun hh=>by rw[aQ hh]at e2;exact qh e2
   simp at e5;have b2:=b1.1;have b3:=b1.2;cases c1:(x.2==[])with
   |true=>
    simp[sJ,vJ,qP,az qb,mh,wT,az wU,qc,qQ,h1,ia,ib,e1,e2,e7,e3,e5,e6,hlen,bne,c1];simpa[bne,c1]using ihC
   |false=>
    cases c2:lt x.2 s.1 with
    |true=>
     simp[sJ,vJ,qP,az qb,mh,G2,qQ,h1,ia,ib,e1,e2,e7,e3,e5,e6,hlen,bne,c1,c2,b2,b3];simpa[bne,c1,c2]using ihA
    |false=>
     cases c3:(s.2==[])with
     |true=>
      simp[sJ,vJ,qP,az qb,mh,wT,az wU,qc,G3,qQ,h1,ia,ib,e1,e2,e7,e3,e5,e6,hlen,bne,c1,c2,c3];simpa[bne,c1,c2,c3]using ihB
     |false=>
      cases c4:lt x.2 s.2 with
      |true=>
       simp[sJ,vJ,qP,az qb,mh,wT,az wU,qc,G3,qQ,h1,ia,ib,e1,e2,e7,e3,e5,e6,hlen,bne,c1,c2,c3,c4];simpa[bne,c1,c2,c3,c4]using ihB
      |false=>
       simp[sJ,vJ,qP,az qb,mh,wT,az wU,qc,qQ,h1,ia,ib,e1,e2,e7,e3,e5,e6,hlen,bne,c1,c2,c3,c4];simpa[bne,c1,c2,c3,c4]using ihC
end Go.RE
namespace Go.RE
set_option linter.unusedSectionVars false
section
variable{α:Type}[Inhabited α](less:α→α→Bool)
theorem Q8(l:List α)(i j:Nat)(hi:i<l.length)(hj:j<l.length):(lG l i j).Perm l:=by
 have e:lG l i j=(l.set i l[j]).set j l[i]:=by
  simp only[lG,aQ hi,aQ hj,rB]
 rw[e];exact List.set_set_perm hi hj
theorem Er(a:Nat):∀ (j:Nat) (l:List α),(j<l.length∨j=0)→(xX less a j l).Perm l
 |0,l,_=> .refl _
 |j+1,l,h=>by
  unfold xX;cases decide (a<j+1)&&less (l[j+1]?.getD default) (l[j]?.getD default)with
  |true=>
   rw[cond_true];have h1:=Q8 l (j+1) j (by omega) (by omega);exact(Er a j _ (by rw[h1.length_eq];omega)).trans h1
  |false=>exact .refl _
theorem EM(a:Nat):∀ (k i:Nat) (l:List α),i+k≤l.length→(D8 less a k i l).Perm l
 |0,_,l,_=> .refl _
 |k+1,i,l,h=>by
  unfold D8;have h1:=Er less a i l (by omega);exact(EM a k (i+1) _ (by rw[h1.length_eq];omega)).trans h1
theorem qA(l:List α)(a b:Nat)(h:b≤l.length):(jB less l a b).Perm l:=by
 unfold jB;by_cases hab:a+1≤b
 ·exact EM less a _ _ l (by omega)
 ·rw[show b - (a+1)=0 by omega];exact .refl _
theorem u5(n:Nat):∀ (f a:Nat) (l:List α),n≤l.length→(rW less n f a l).Perm l
 |0,a,l,h=>qA less l a n h
 |f+1,a,l,h=>by
  unfold rW;cases hd:decide (a+20≤n)with
  |true=>
   rw[cond_true];have h1:=qA less l a (a+20) (by have:=of_decide_eq_true hd;omega);exact(u5 n f (a+20) _ (by rw[h1.length_eq];exact h)).trans h1
  |false=>exact qA less l a n h
theorem fM(p:Nat→Bool):∀ (f i j:Nat),i≤j→i≤pK p f i j∧pK p f i j≤j
 |0,i,j,h=>⟨ak _,h⟩
 |f+1,i,j,h=>by
  unfold pK;cases hd:decide (i<j)with
  |false=>exact⟨ak _,h⟩
  |true=>
   have:=of_decide_eq_true hd;rw[cond_true];cases p ((i+j) / 2)with
   |true=>rw[cond_true];have:=fM p f ((i+j) / 2+1) j (by omega);omega
   |false=>rw[cond_false];have:=fM p f i ((i+j) / 2) (by omega);omega
theorem n9(l:List α)(a m b:Nat)(h1:a≤m)(h2:m≤b):l=l.take a++(l.drop a).take (m - a)++(l.drop m).take (b - m)++l.drop b:=by
 have e1:l.drop b=(l.drop m).drop (b - m):=by rw[Ad,show m+(b - m)=b by omega]
 have e2:l.drop m=(l.drop a).drop (m - a):=by rw[Ad,show a+(m - a)=m by omega]
 rw[gD,e1,s9,gD,e2,s9,s9]
theorem tM(l:List α)(a m b:Nat)(h1:a≤m)(h2:m≤b):(qG l a m b).Perm l:=by
 have e:=n9 l a m b h1 h2;generalize l.take a=A at e;have:(qG l a m b).Perm (l.take a++(l.drop a).take (m - a)++(l.drop m).take (b - m)++l.drop b):=by
  unfold qG;refine List.Perm.append_right _ ?_;rw[gD,gD];exact List.Perm.append_left _ List.perm_append_comm
 rw[←n9 l a m b h1 h2]at this;exact this
theorem pY:∀ (f:Nat) (l:List α) (a m b:Nat),a≤m→m≤b→b≤l.length→(mH less f l a m b).Perm l
 |0,l,_,_,_,_,_,_=> .refl _
 |f+1,l,a,m,b,h1,h2,h3=>by
  unfold mH;cases hd:decide (m - a=1)with
  |true=>
   rw[cond_true];have:=fM (fun h=>less (l[h]?.getD default) (l[a]?.getD default)) (b - m) m b h2;exact tM l _ _ _ h1 this.1
  |false=>
   rw[cond_false];cases hd2:decide (b - m=1)with
   |true=>
    rw[cond_true];have:=fM (fun h=> !less (l[m]?.getD default) (l[h]?.getD default)) (m - a) a m h1;exact tM l _ _ _ this.2 h2
   |false=>
    rw[cond_false];have hs:∃ s0 r0,s0≤r0∧a≤s0∧r0≤m∧r0≤(a+b) / 2∧(a+b) / 2+m - s0≤b∧m≤(a+b) / 2+m - r0∧(bif decide ((a+b) / 2<m)then(a+b) / 2+m - b else a)=s0∧(bif decide ((a+b) / 2<m)then(a+b) / 2 else m)=r0:=by
     cases hm:decide ((a+b) / 2<m)with
     |true=>have:=of_decide_eq_true hm;exact⟨(a+b) / 2+m - b,(a+b) / 2,by omega,by omega,by omega,by omega,by omega,by omega,rfl,rfl⟩
     |false=>have:=of_decide_eq_false hm;exact⟨a,m,by omega,by omega,by omega,by omega,by omega,by omega,rfl,rfl⟩
    obtain⟨s0,r0,a1,a2,a3,a4,a5,a6,e1,e2⟩:=hs;dsimp only;rw[e1,e2];obtain⟨b1,b2⟩:=fM (fun c=> !less (l[(a+b) / 2+m - 1 - c]?.getD default) (l[c]?.getD default)) (r0 - s0) s0 r0 a1;generalize pK (fun c=> !less (l[(a+b) / 2+m - 1 - c]?.getD default) (l[c]?.getD default)) (r0 - s0) s0 r0=s at b1 b2⊢;have p1:(bif decide (s<m)&&decide (m<(a+b) / 2+m - s)then qG l s m ((a+b) / 2+m - s)else l).Perm l:=by
     cases decide (s<m)&&decide (m<(a+b) / 2+m - s)with
     |true=>exact tM l _ _ _ (by omega) (by omega)
     |false=>exact .refl _
    generalize (bif decide (s<m)&&decide (m<(a+b) / 2+m - s)then qG l s m ((a+b) / 2+m - s)else l)=l1 at p1⊢;have p2:(bif decide (a<s)&&decide (s<(a+b) / 2)then mH less f l1 a s ((a+b) / 2)else l1).Perm l1:=by
     cases decide (a<s)&&decide (s<(a+b) / 2)with
     |true=>exact pY f l1 _ _ _ (by omega) (by omega) (by rw[p1.length_eq];omega)
     |false=>exact .refl _
    generalize (bif decide (a<s)&&decide (s<(a+b) / 2)then mH less f l1 a s ((a+b) / 2)else l1)=l2 at p2⊢;have p3:(bif decide ((a+b) / 2<(a+b) / 2+m - s)&&decide ((a+b) / 2+m - s<b)then mH less f l2 ((a+b) / 2) ((a+b) / 2+m - s) b else l2).Perm l2:=by
     cases decide ((a+b) / 2<(a+b) / 2+m - s)&&decide ((a+b) / 2+m - s<b)with
     |true=>exact pY f l2 _ _ _ (by omega) (by omega) (by rw[p2.length_eq,p1.length_eq];omega)
     |false=>exact .refl _
    exact p3.trans (p2.trans p1)
theorem vq(n bs:Nat):∀ (f a:Nat) (l:List α),n≤l.length→(uG less n bs f a l).Perm l
 |0,_,l,_=> .refl _
 |f+1,a,l,h=>by
  unfold uG;cases hd:decide (a+2*bs≤n)with
  |true=>
   rw[cond_true];have:=of_decide_eq_true hd;have h1:=pY less (2*bs) l a (a+bs) (a+2*bs) (by omega) (by omega) (by omega);exact(vq n bs f _ _ (by rw[h1.length_eq];exact h)).trans h1
  |false=>
   rw[cond_false];cases hd2:decide (a+bs<n)with
   |true=>have:=of_decide_eq_true hd2;exact pY less n l a (a+bs) n (by omega) (by omega) h
   |false=>exact .refl _
theorem wA(n:Nat):∀ (f bs:Nat) (l:List α),n≤l.length→(qF less n f bs l).Perm l
 |0,_,l,_=> .refl _
 |f+1,bs,l,h=>by
  unfold qF;cases decide (bs<n)with
  |true=>
   rw[cond_true];have h1:=vq less n bs n 0 l h;exact(wA n f (bs*2) _ (by rw[h1.length_eq];exact h)).trans h1
  |false=>exact .refl _
theorem qJ(l:List α):(AM less l).Perm l:=by
 unfold AM;have h1:=u5 less l.length l.length 0 l (ak _);exact(wA less l.length l.length 20 _ (by rw[h1.length_eq];exact ak _)).trans h1
end
def qW(s:Vs)(g:Tg)(w:Nat):Option (List (List U))→Option (U×Vs)
 |some ys=>bif(s.cw g).isSome then some (.aZ [],s.fK g w ys)else none
 |none=>none
@[simp] theorem qj1(s:Vs)(g:Tg)(w:Nat)(ys:List (List U)):qW s g w (some ys)=bif(s.cw g).isSome then some (.aZ [],s.fK g w ys)else none:=rfl
@[simp] theorem qfK(Q:nu)(F:FU)(s:Vs)(d f:Nat)(g:Tg)(w:Nat)(xs:List (List U))(rest:List U)(q:List (List U)→List U→Option (List (List U))):
  Ey Q F s d f (.own g w xs::rest) (some q)=qW s g w (q xs rest):=by
 simp only[Ey];cases q xs rest<;>rfl
def aW(s:Vs)(d:Nat)(g:Tg)(w:Nat)(rest:List U):Option (List (List U))→Option (U×Vs)
 |some ys=>bif !(decide (g=.a))&&mM w ys&&wm g rest then some (.own (.t d) w ys,(s.kill g).kill (.t d))else none
 |none=>none
@[simp] theorem qjy(s:Vs)(d:Nat)(g:Tg)(w:Nat)(rest:List U)(ys:List (List U)):aW s d g w rest (some ys)=bif !(decide (g=.a))&&mM w ys&&wm g rest then some (.own (.t d) w ys,(s.kill g).kill (.t d))else none:=rfl
@[simp] theorem qfJ(Q:nu)(F:FU)(s:Vs)(d f:Nat)(g:Tg)(w:Nat)(xs:List (List U))(rest:List U)(q:List (List U)→List U→Option (List (List U))):
  zB Q F s d f (.own g w xs::rest) (some q)=aW s d g w rest (q xs rest):=by
 simp only[zB];cases q xs rest<;>rfl
theorem ni(l:List cU):(ru l).length=l.length:=(qJ bg l).length_eq
theorem t139(a b:List cU)(ha:a.length<small / 4)(hb:b.length<small / 4):G 139 [.sl 2 (a.map aS),.sl 2 (b.map aS)] [] 0=some (.own .r 2 ((nL a b).map aS),[],0):=by
 refine bK (fn:=v139) rfl rfl rfl ?_;have fa:(a.filter dX).length≤a.length:=rC _ _;have fb:(b.filter dX).length≤b.length:=rC _ _;have hs:(ru (a.filter dX++b.filter dX)).length<small:=by rw[ni];simp;unfold small at*;omega
 have e1:aK .i64 ((a.length:Int)+(b.length:Int))=((a.length+b.length:Nat):Int):=by
  rw[show(a.length:Int)+(b.length:Int)=((a.length+b.length:Nat):Int) by omega];exact fL (by unfold small at*;omega)
 have e2:∀ d s,msV d s 2 32 [.str [],.str []] (some (.int .i64 0)) (some (.int .i64 ((a.length:Int)+(b.length:Int))))=some (.own (.t d) 2 [],s.kill (.t d)):=fun d s=>LI (by omega) (by unfold small at*;unfold bl;omega) rfl;have c1:=t190 a [] (by unfold small at*;omega) (by decide);have c2:=t190 b (a.filter dX) (by unfold small at*;omega) (by unfold small at*;omega);have c3:=L6 (a.filter dX++b.filter dX) (by simp;unfold small at*;omega);have c4:=qeW _ hs (ru (a.filter dX++b.filter dX)).length 0 [] (by omega) (by simp);simp[ni]at c1 c2 c3 c4;simp at e1;simp[yO,UK,UL,UM,UN,UO,UP,UQ,US,e1,e2,c1,c2,c3,ni];exact c4
@[simp] theorem kZ(l:List cU):U.kY (l.map aS)=true:=by
 induction l with
 |nil=>rfl
 |cons a l ih=>rw[ct,U.kY,ih];rfl
def FI(l:List cU)(s:cU):List cU:=nL l [s]
theorem t112(l:List cU)(s:cU)(hl:l.length<small / 4):G 112 [.sl 2 (l.map aS),.agg (aS s)] [] 0=some (.own .r 2 ((FI l s).map aS),[],0):=by
 refine bK (fn:=Ug) rfl rfl rfl ?_;have c:=t139 l [s] hl (by show 1<small / 4;decide);simp only[aS,ct,jY]at c;simp[yK,Uh,Ui,aS,c,FI]
theorem Jo(out:List cU)(s:cU):(mU out s).length≤out.length+1:=by
 unfold mU;cases h:out.getLast? with
 |none=>simp
 |some x=>
  dsimp only;cases x.2 !=[]&&lt x.2 s.1 with
  |true=>simp
  |false=>
   cases x.2 !=[]&&(s.2==[]||lt x.2 s.2)with
   |true=>simp
   |false=>simp
theorem N5:∀ (l out:List cU),(l.foldl mU out).length≤out.length+l.length
 |[],out=>by simp
 |s::l,out=>by
  have:=N5 l (mU out s);have:=Jo out s;simp only[mz,fV];omega
theorem jT(a b:List cU):(nL a b).length≤a.length+b.length:=by
 have:=N5 (ru (a.filter dX++b.filter dX)) [];rw[ni]at this;have fa:(a.filter dX).length≤a.length:=rC _ _;have fb:(b.filter dX).length≤b.length:=rC _ _;unfold nL;simp at this⊢;omega
theorem dG{z:Int}(h0: -4000000000000000000≤z)(h1:z≤4000000000000000000):aK .i64 z=z:=by
 cases z with
 |ofNat m=>exact DM (by have:(Int.ofNat m)=(m:Int):=rfl;omega)
 |negSucc m=>
  have:m≤B5 .i64:=by show m≤9223372036854775807;omega
  simp only[aK,jA this,Bool.and_true];rfl
def pF(n:Nat):Nat:=max n 1
theorem SY(n:Nat):n≤pF n∧1≤pF n:=by unfold pF;omega
def mx(a b:Nat):Nat:=max a b
def mn(a b:Nat):Nat:=min a b
@[simp] theorem qjR(k:IntKind)(n:Nat):mG zN (.int k (n:Int)) (.int k 1)=some (.int k (pF n:Nat)):=by
 have e:(if(1:Int)>(n:Int)then(1:Int)else(n:Int))=(pF n:Nat):=by
  unfold pF;split<;>omega
 show Ol (if k=k then some (V.int k (if(1:Int)>(n:Int)then(1:Int)else(n:Int)))else none)=_;rw[if_pos rfl,e];rfl
@[simp] theorem qjS(k:IntKind)(n m:Nat):mG zN (.int k (n:Int)) (.int k (m:Int))=some (.int k (mx n m:Nat)):=by
 have e:(if(m:Int)>(n:Int)then(m:Int)else(n:Int))=(mx n m:Nat):=by
  unfold mx;split<;>omega
 show Ol (if k=k then some (V.int k (if(m:Int)>(n:Int)then(m:Int)else(n:Int)))else none)=_;rw[if_pos rfl,e];rfl
@[simp] theorem qjT(k:IntKind)(n m:Nat):mG Ch (.int k (n:Int)) (.int k (m:Int))=some (.int k (mn n m:Nat)):=by
 have e:(if(m:Int)<(n:Int)then(m:Int)else(n:Int))=(mn n m:Nat):=by
  unfold mn;split<;>omega
 show Ol (if k=k then some (V.int k (if(m:Int)<(n:Int)then(m:Int)else(n:Int)))else none)=_;rw[if_pos rfl,e];rfl
def Sl(l:List cU)(n:Nat):List cU:=
 bif decide (pF n<l.length)then(l.set (l.length - pF n) ((l[0]?.getD default).1,(l[l.length - pF n]?.getD default).2)).drop (l.length - pF n)else l
def uY(l:List cU)(n:Nat):List cU:=Sl (nL l []) n
theorem Sm(l:List cU)(n:Nat):(Sl l n).length≤pF n∧(Sl l n).length≤l.length:=by
 unfold Sl;cases h:decide (pF n<l.length)with
 |true=>simp;omega
 |false=>have:=of_decide_eq_false h;simp;omega
theorem rT(l:List cU)(n:Nat):(uY l n).length≤pF n∧(uY l n).length≤l.length:=by
 have h1:=Sm (nL l []) n;have h2:=jT l [];unfold uY;simp at h2;omega
theorem t101(l:List cU)(n:Nat)(hl:l.length<small / 4)(hn:n<small):G 101 [.sl 2 (l.map aS),.int .i64 (n:Int)] [] 0=some (.own .r 2 ((uY l n).map aS),[],0):=by
 refine bK (fn:=TL) rfl rfl rfl ?_;have c:=t139 l [] hl (by decide);have hj:=jT l [];have hm:=SY n;have hm2:pF n<small:=by unfold pF;unfold small at*;omega
 unfold uY;generalize nL l []=L at*;simp only[jY]at c;simp at hj;have hL:L.length<small:=by unfold small at*;omega
 have e1:aK .i64 ((L.length:Int) - (pF n:Int))=(L.length:Int) - (pF n:Int):=by
  unfold small at hL hm2;exact dG (by omega) (by omega)
 have e2:decide (0<(L.length:Int) - (pF n:Int))=decide (pF n<L.length):=by
  rw[decide_eq_decide];omega
 unfold Sl;cases h:decide (pF n<L.length)with
 |true=>
  have hlt:=of_decide_eq_true h;obtain⟨k,hk⟩:∃ k,L.length=k+pF n:=⟨L.length - pF n,by omega⟩;have e3:L.length - pF n=k:=by omega
  have e4:(L.length:Int) - (pF n:Int)=(k:Int):=by omega
  have hk1:k<L.length:=by omega
  have h0:0<L.length:=by omega
  have hlen:(L.map aS).length=L.length:=by simp
  have ia0:∀ s',rF s' 2 (some (.own (.t 8) 2 (L.map aS))) (some (.int .i64 0))=some (.bI (.t 8) 0 0,s'):=fun s' =>c9 (n:=0) (by simpa using h0);have iak:∀ s',rF s' 2 (some (.own (.t 8) 2 (L.map aS))) (some (.int .i64 (k:Int)))=some (.bI (.t 8) k 0,s'):=fun s' =>c9 (by simpa using hk1);have r0:(L.map aS)[0]? =some [.str (L[0]?.getD default).1,.str (L[0]?.getD default).2]:=by simp[aS,h0]
  have rk:(L.map aS)[k]? =some [.str (L[k]?.getD default).1,.str (L[k]?.getD default).2]:=by simp[aS,hk1]
  have ek:ga (.int .i64 (k:Int)) L.length=some k:=by
   show asNat (.int .i64 (k:Int)) _=some k;simp only[asNat];rw[if_pos ⟨uQ k,by omega⟩];rfl
  rw[e3];generalize (L[0]?.getD default).1=A at*;generalize (L[0]?.getD default).2=A' at*;generalize (L[k]?.getD default).1=B at*;generalize (L[k]?.getD default).2=B' at*;have hc:=iw (f:=62) rfl (w:=2) (xs:=((L.set k (A,B')).drop k).map aS) [] 0 (by simp;omega) (lC _);have hset:(L.map aS).set k [.str A,.str B']=(L.set k (A,B')).map aS:=by simp[aS]
  have hmd:((L.set k (A,B')).map aS).drop k=((L.set k (A,B')).drop k).map aS:=by rw[KA]
  have hmt:((L.set k (A,B')).map aS).take L.length=(L.set k (A,B')).map aS:=gu (by simp);have hml:((L.set k (A,B')).map aS).length=L.length:=by simp
  rw[cond_true];generalize (L.set k (A,B'))=L' at*;generalize hX:L.map aS=X at*;have hl2:X.length=L.length:=by rw[←hX];simp
  rw[←hmd]at hc;have hfl:U.kY ((L'.map aS).drop k)=true:=by rw[hmd];exact kZ _
  have rk2:∀ hh:k<X.length,X[k]=[.str B,.str B']:=fun hh=>by rw[aQ hh]at rk;exact qh rk
  have e5:aK .i64 (k:Int)=(k:Int):=fL (by unfold small at hL;omega);have e6:0<k:=by omega
  have e7:aK .i64 ((L.length:Int) - (pF n:Int))=(k:Int):=by rw[e1,e4]
  have e8:bC [] none X.length X.length=some X.length:=rfl;have ek2:ga (.int .i64 (k:Int)) X.length=some k:=by rw[hl2];exact ek
  simp[tT,Me,Mf,Mg,Mh,TM,TN,Mi,aS,c,e7,e6,ia0,iak,r0,rk,rk2,hset,hl2,hk1,ek,hml,hmt,hc,hfl]
 |false=>
  simp[tT,Me,Mf,Mg,Mh,Mi,aS,c,e1,e2,h]
end Go.RE
namespace Go.RE
@[simp] theorem LZ(l:List Rc):jl 6 (l.map recC)=true:=oc (fun v=>by simp[recC]) l
theorem t107(r:Rc)(hr:fZ r):G 107 [.agg (recC r)] [] 0=some (.agg (recC r),[],0):=by
 refine bK (fn:=v107) rfl rfl rfl ?_;have c1:=iw (f:=62) rfl (w:=2) (xs:=r.reads.map aS) [] 0 (by simp;unfold fZ small at*;omega) (lC _);have c2:=iw (f:=62) rfl (w:=2) (xs:=r.writes.map aS) [] 0 (by simp;unfold fZ small at*;omega) (lC _);simp[tV,Ml,az Oy,GX,Mm,recC,c1,c2,bF]
def Jd(r:Rc):Nat:=bif r.writes.isEmpty then r.began else r.last
theorem t141(r:Rc):G 141 [.agg (recC r)] [] 0=some (.int .u64 (Jd r),[],0):=by
 refine bK (fn:=v141) rfl rfl rfl ?_;cases h:r.writes with
 |nil=>simp[tW,Ms,Mt,UY,recC,Jd,h]
 |cons a l=>
  have e:((l.length:Int)+1==0)=false:=by rw[beq_eq_false_iff_ne];omega
  simp[tW,Ms,Mt,UZ,recC,Jd,h,e]
def ES(t r:Rc):Bool:=decide (t.began<r.last)
theorem t140(r t:Rc)(i:Nat)(h:List Uo)(fl:Nat)(hf:fl≤h.length)(hi:h[i]? =some (.row (recC t))):G 140 [.agg (recC r),.ptr i 0] h fl=some (.bool (ES t r),h,fl):=by
 refine bK (fn:=UU) rfl rfl rfl ?_;simp only[recC]at hi;simp[yP,UW,UX,recC,aX hi,ES,gJ hf]
def LA(a b:Nat):Nat:=bif a==0 then b else bif b==0||decide (a<b)then a else b
theorem t197(a b:Nat):G 197 [.int .u64 (a:Int),.int .u64 (b:Int)] [] 0=some (.int .u64 (LA a b),[],0):=by
 refine bK (fn:=Rg) rfl rfl rfl ?_;have e1:∀ n:Nat,((n:Int)==0)=(n==0):=fun n=>by cases n<;>simp;omega
 cases h1:a==0<;>cases h2:b==0<;>cases h3:decide (a<b)<;>simp[zh,We,Wf,Wg,Wh,Wi,Wj,LA,h1,h2,h3,e1]
def bP(l:List Rc)(low:Nat):List Rc:=l.filter fun r=>decide (low<r.last)
theorem qiO(l:List Rc)(low:Nat)(hl:l.length<small)(hok:∀ r∈l,fZ r):∀ (j i:Nat) (out:List Rc),i+j=l.length→out.length≤i→
  gL bu mT qT pT v66 0 mI 0 ⟨[(10,.int .i64 (i:Int)),(5,.own (.t 5) 6 (out.map recC)),(1,.int .u64 (low:Int)),(8,.sl 6 (l.map recC)),(9,.int .i64 (l.length:Int))],[],0⟩
   (gV bu mT qT pT v66 (.seq (.region xK) .ret) (kE 0 v66 (.own .r 6 ((out++bP (l.drop i) low).map recC),[],0))):=by
 intro j
 induction j with
 |zero=>
  intro i out hij ho;obtain⟨h1,h2⟩:=oq hij;rw[ai mI.eq_1,h2];simp[rA,xK,h1,bP]
 |succ j ih=>
  intro i out hij ho;obtain⟨h1,e3,r,d1,g1⟩:=ry hij hl;have e1:=g1 recC;have hr:fZ r:=hok r (iF (i:=i) (by rw[d1];exact cB));have c:=t107 r hr;rw[ai mI.eq_1,d1];simp only[recC]at e1 c;cases hn:decide (low<r.last)with
  |false=>
   have ih' :=ih (i+1) out (by omega) (by omega);simp[rA,Dz,DA,DB,h1,bq e1,e3,recC,hn,bP];simpa[recC,bP]using ih'
  |true=>
   have ih' :=ih (i+1) (out++[r]) (by omega) (by simp;omega);have b1:(out.length+1)*80≤bl∧out.length+1≤bl:=by unfold small at hl;unfold bl;omega
   simp[rA,Dz,DA,Pr,DB,h1,bq e1,e3,recC,c,hn,b1,bP];simpa[recC,bP]using ih'
theorem t66(l:List Rc)(low:Nat)(hl:l.length<small)(hok:∀ r∈l,fZ r):G 66 [.sl 6 (l.map recC),.int .u64 (low:Int)] [] 0=some (.own .r 6 ((bP l low).map recC),[],0):=by
 refine bK (fn:=v66) rfl rfl rfl ?_;have:=qiO l low hl hok l.length 0 [] (by omega) (by simp);simp[ow,Fq,Fs,Ft];simpa using this
def wh(a b:Rc)(n:Nat):Rc:=⟨mn a.first b.first,mx a.last b.last,mx a.began b.began,LA a.out b.out,uY (nL a.reads b.reads) n,uY (nL a.writes b.writes) n⟩
theorem t146(a b:Rc)(n:Nat)(ha:fZ a)(hb:fZ b)(hn:n<small):G 146 [.agg (recC a),.agg (recC b),.int .i64 (n:Int)] [] 0=some (.agg (recC (wh a b n)),[],0):=by
 refine bK (fn:=v146) rfl rfl rfl ?_;have c0:=t197 a.out b.out;have c1:=t139 a.reads b.reads (by unfold fZ small at*;omega) (by unfold fZ small at*;omega);have c2:=t139 a.writes b.writes (by unfold fZ small at*;omega) (by unfold fZ small at*;omega);have l1:=jT a.reads b.reads;have l2:=jT a.writes b.writes;have c3:=t101 (nL a.reads b.reads) n (by unfold fZ small at*;omega) hn;have c4:=t101 (nL a.writes b.writes) n (by unfold fZ small at*;omega) hn;simp[yU,Vd,az qav,OH,recC,c0,c1,c2,c3,c4,wh,bF]
def Ye(r:Rc):Nat:=r.reads.length+r.writes.length
def uB:List Rc→Nat
 |[]=>0
 |r::l=>Ye r+uB l
theorem qaD{l:List Rc}{r:Rc}(h:r∈l):Ye r≤uB l:=by
 induction l with
 |nil=>cases h
 |cons a l ih=>
  rcases bT.1 h with rfl|h
  ·simp only[uB];omega
  ·have:=ih h;simp only[uB];omega
theorem DO{l:List Rc}(h:uB l<small / 8){r:Rc}(hr:r∈l):fZ r:=by
 have:=qaD hr;unfold Ye at this;exact⟨by omega,by omega⟩
theorem Py(a b:Rc)(n:Nat):Ye (wh a b n)≤Ye a+Ye b:=by
 have l1:=jT a.reads b.reads;have l2:=jT a.writes b.writes;have l3:=rT (nL a.reads b.reads) n;have l4:=rT (nL a.writes b.writes) n;unfold Ye;show(uY (nL a.reads b.reads) n).length+(uY (nL a.writes b.writes) n).length≤_;omega
def qhs(n m:Nat):Nat→List Rc→List Rc
 |f+1,a::b::r=>bif decide (n<r.length+2)then qhs n m f (wh a b m::r)else a::b::r
 |_,l=>l
def pN(n m:Nat)(l:List Rc):List Rc:=qhs n m l.length l
theorem yf(n m:Nat)(a b:Rc)(r:List Rc):pN n m (a::b::r)=bif decide (n<r.length+2)then pN n m (wh a b m::r)else a::b::r:=rfl
theorem rS(n m:Nat):pN n m []=[]:=rfl
theorem vX(n m:Nat)(a:Rc):pN n m [a]=[a]:=rfl
theorem qeU(n m:Nat)(hn1:1≤n)(hn:n<small)(hm:m<small):∀ (j:Nat) (l:List Rc),l.length=j→l.length<small→uB l<small / 8→
  gL bu mT qT pT sI 2 p8 0 ⟨[(7,.own (.t 7) 6 (l.map recC)),(2,.int .i64 (m:Int)),(1,.int .i64 (n:Int))],[],0⟩
   (gV bu mT qT pT sI (.seq (.region wQ) .ret) (kE 0 sI (.own .r 6 ((pN n m l).map recC),[],0))):=by
 intro j
 induction j with
 |zero=>
  intro l hj hl hw;have:l=[]:=PU.1 hj;subst this;have c:=iw (f:=97) rfl (w:=6) (xs:=[]) [] 0 (by decide) rfl;have h0:¬((n:Int)<0):=by omega
  rw[ai p8.eq_1];simp[GU,wQ,rS,c,h0]
 |succ j ih=>
  intro l hj hl hw;have c:=iw (f:=97) rfl (w:=6) (xs:=l.map recC) [] 0 (by simpa using hl) (LZ _);cases hd:decide (n<l.length)with
  |false=>
   have e:pN n m l=l:=by
    match l,hd with
    |[],_=>simp[rS,vX]
    |[a],_=>simp[rS,vX]
    |a::b::r,hd=>rw[yf];simp only[fV]at hd;rw[hd,cond_false]
   rw[ai p8.eq_1,e];cases hfl:U.kY (l.map recC)<;>simp[GU,wQ,c,hd,hfl]
  |true=>
   match l,hd,hj with
   |a::b::r,hd,hj=>
   have hlt:=of_decide_eq_true hd;have c1:=t146 a b m (DO hw (by simp)) (DO hw (by simp)) hm;have hw2:uB (wh a b m::r)<small / 8:=by have:=Py a b m;simp only[uB]at hw⊢;omega
   have ih' :=ih (wh a b m::r) (by simpa using hj) (by simp at hl⊢;omega) hw2;have e:pN n m (a::b::r)=pN n m (wh a b m::r):=by
    rw[yf];simp only[fV]at hd;rw[hd,cond_true]
   rw[ai p8.eq_1,e];simp only[recC]at c1;simp only[fV]at hd;have h1:(n:Int)<(r.length:Int)+1+1:=by simp at hlt;omega
   have h2:0<(r.length:Int)+1+1:=by omega
   have h3:1<(r.length:Int)+1+1:=by omega
   have h4:ga (.int .i64 1) (r.length+1+1)=some 1:=by
    show asNat (.int .i64 1) _=some 1;simp only[asNat];rw[if_pos ⟨by decide,by omega⟩];rfl
   simp[GU,az T0,CJ,Ox,c1,recC,h1,h2,h3,h4,bF];have h5:(r.map recC).take r.length=r.map recC:=gu (by simp);rw[h5];exact ih'
   |[a],hd,hj=>have:=of_decide_eq_true hd;simp at this;omega
   |[],hd,hj=>have:=of_decide_eq_true hd;simp at this
theorem qeT(l:List Rc)(n m:Nat)(hl:l.length<small)(hw:uB l<small / 8)(K:Ex→Vs→Prop)(hK:K .normal ⟨[(7,.own (.t 7) 6 (l.map recC)),(2,.int .i64 (m:Int)),(1,.int .i64 (n:Int))],[],0⟩):∀ (j i:Nat),i+j=l.length→
  gL bu mT qT pT sI 0 A4 0 ⟨[(17,.int .i64 (i:Int)),(7,.own (.t 7) 6 ((l.take i).map recC)),(15,.sl 6 (l.map recC)),(2,.int .i64 (m:Int)),(1,.int .i64 (n:Int)),(16,.int .i64 (l.length:Int))],[],0⟩ K:=by
 intro j
 induction j with
 |zero=>
  intro i hij;obtain⟨h1,h2⟩:=oq hij;have h3:l.take i=l:=gu (by omega);rw[ai A4.eq_1,h3];simp[Mj,h1];exact hK
 |succ j ih=>
  intro i hij;obtain⟨h1,e3,r,d1,g1⟩:=ry hij hl;have e1:=g1 recC;have hr:fZ r:=DO hw (iF (i:=i) (by rw[d1];exact cB));have c:=t107 r hr;have hi:i<l.length:=by omega
  have hlt:l.take (i+1)=l.take i++[r]:=by
   rw[Yj];have:l[i]? =some r:=by rw[←List.head?_drop,d1];rfl
   rw[this];rfl
  have ih' :=ih (i+1) (by omega);rw[hlt]at ih';rw[ai A4.eq_1];have b1:(min i l.length+1)*80≤bl∧min i l.length+1≤bl:=by unfold small at hl;unfold bl;omega
  simp only[recC]at e1 c;simp[Mj,T6,T7,T8,h1,bq e1,e3,recC,c,b1];simpa[recC]using ih'
theorem t104(l:List Rc)(n m:Nat)(hl:l.length<small)(hw:uB l<small / 8)(hn:n<small)(hm:m<small):G 104 [.sl 6 (l.map recC),.int .i64 (n:Int),.int .i64 (m:Int)] [] 0=some (.own .r 6 ((pN (pF n) m l).map recC),[],0):=by
 refine bK (fn:=sI) rfl rfl rfl ?_;have hb:=qeU (pF n) m (SY n).2 (by unfold pF;unfold small at*;omega) hm l.length l rfl hl hw;have:=qeT l (pF n) m hl hw _ (show gV bu mT qT pT sI (.seq (.block 2 (.loop p8)) (.seq (.region wQ) .ret)) (kE 0 sI (.own .r 6 ((pN (pF n) m l).map recC),[],0)) .normal _ by simpa using hb) l.length 0 (by omega);have e2:∀ d s,msV d s 6 80 [.int .u64 0,.int .u64 0,.int .u64 0,.int .u64 0,.ah [] 0 0 2,.ah [] 0 0 2] (some (.int .i64 0)) (some (.int .i64 (l.length:Int)))=some (.own (.t d) 6 [],s.kill (.t d)):=fun d s=>LI (by omega) (by simp;unfold small at*;unfold bl;omega) rfl;simp[yH,TY,TZ,T3,T4,e2];simpa using this
def KJ(t:Rc)(s:Nat×Bool)(r:Rc):Nat×Bool:=bif ES t r&&ER r.reads t.writes then(mx s.1 (Jd r),true)else s
def Ee(t:Rc)(most:Nat)(inn:Bool):Nat×Bool→List Rc→Option (Nat×Bool)
 |s,[]=>some s
 |s,r::l=>bif !ES t r|| !ER t.reads r.writes then Ee t most inn s l
  else bif(!(r.out==0)&&decide (0<t.writes.length))||(!(r.out==0)&&decide (r.out≤t.began))||(inn&&decide (r.first≤most))then none
  else Ee t most inn (bif !s.2||decide (r.first<s.1)then(r.first,true)else s) l
def o9(l:List Rc)(t:Rc):Option Nat:=
 let a:=l.foldl (KJ t) (0,false)
 (Ee t a.1 a.2 (0,false) l).map (·.1)
theorem qeQ(l:List Rc)(t:Rc)(hl:l.length<small)(hok:∀ r∈l,fZ r)(ht:fZ t)(K:Ex→Vs→Prop)
  (hK:K .normal ⟨[(7,.int .u64 ((l.foldl (KJ t) (0,false)).1:Nat)),(8,.bool (l.foldl (KJ t) (0,false)).2),(3,.ptr 0 0),(6,.func 140 [] [.ptr 0 0]),(0,.sl 6 (l.map recC))],[.row (recC t)],0⟩):∀ (j i:Nat) (s:Nat×Bool),i+j=l.length→(l.drop i).foldl (KJ t) s=l.foldl (KJ t) (0,false)→
  gL bu mT qT pT mY 0 AT 1 ⟨[(19,.int .i64 (i:Int)),(7,.int .u64 (s.1:Nat)),(3,.ptr 0 0),(6,.func 140 [] [.ptr 0 0]),(17,.sl 6 (l.map recC)),(8,.bool s.2),(0,.sl 6 (l.map recC)),(18,.int .i64 (l.length:Int))],[.row (recC t)],0⟩ K:=by
 intro j
 induction j with
 |zero=>
  intro i s hij hs;obtain⟨h1,h2⟩:=oq hij;rw[h2]at hs;simp only[KB]at hs;rw[←hs]at hK;rw[ai AT.eq_1];simp[CF,h1,recC]at hK⊢;exact hK
 |succ j ih=>
  intro i s hij hs;obtain⟨h1,e3,r,d1,g1⟩:=ry hij hl;have e1:=g1 recC;have hr:fZ r:=hok r (iF (i:=i) (by rw[d1];exact cB));rw[d1,mz]at hs;have ih' :=ih (i+1) (KJ t s r) (by omega) hs;have c0:=t140 r t 0 [.row (recC t),.row (recC r)] 0 (bU _) rfl;have c1:=t108 r.reads t.writes (by unfold fZ small at*;omega) (by unfold fZ small at*;omega);have c2:=t141 r;rw[ai AT.eq_1];simp only[recC]at e1 c0 c2;cases hn:ES t r with
  |false=>
   rw[hn]at c0;have e:KJ t s r=s:=by simp[KJ,hn]
   rw[e]at ih';simp[CF,GM,GN,GO,h1,bq e1,e3,recC,c0,hn];simpa[recC]using ih'
  |true=>
   rw[hn]at c0;cases hm:ER r.reads t.writes with
   |false=>
    rw[hm]at c1;have e:KJ t s r=s:=by simp[KJ,hm]
    rw[e]at ih';simp[CF,GM,GN,GO,h1,bq e1,e3,recC,c0,c1,hn];simpa[recC]using ih'
   |true=>
    rw[hm]at c1;have e:KJ t s r=(mx s.1 (Jd r),true):=by simp[KJ,hn,hm]
    rw[e]at ih';simp[CF,GM,GN,TT,GO,h1,bq e1,e3,recC,c0,c1,c2,hn];simpa[recC]using ih'
def yj:Option Nat→U
 |some n=> .aZ [.int .u64 (n:Int),.int .i64 0]
 |none=> .aZ [.int .u64 0,.int .i64 101]
abbrev qdR(R:U):Ex→Vs→Prop:=gV bu mT qT pT mY (.seq (.seq (.region oQ)
 (.cond (.t 96) (.seq (.region qN)
 .ret) .skip))
 (.seq (.region AS)
 .ret)) (gV bu mT qT pT mY .skip (kE 0 mY (R,[],0)))
theorem qeR(l:List Rc)(t:Rc)(hl:l.length<small)(hok:∀ r∈l,fZ r)(ht:fZ t)(most:Nat)(inn:Bool):∀ (j i:Nat) (s:Nat×Bool),i+j=l.length→
  gL bu mT qT pT mY 2 p7 1 ⟨[(40,.int .i64 (i:Int)),(11,.int .u64 (s.1:Nat)),(12,.bool s.2),(7,.int .u64 (most:Int)),(8,.bool inn),(3,.ptr 0 0),(6,.func 140 [] [.ptr 0 0]),(38,.sl 6 (l.map recC)),(13,.bool false),(39,.int .i64 (l.length:Int))],[.row (recC t)],0⟩
   (qdR (yj ((Ee t most inn s (l.drop i)).map (·.1)))):=by
 intro j
 induction j with
 |zero=>
  intro i s hij;obtain⟨h1,h2⟩:=oq hij;rw[ai p7.eq_1,h2];simp[wM,h1,recC,Ee,yj,oQ,AS]
 |succ j ih=>
  intro i s hij;obtain⟨h1,e3,r,d1,g1⟩:=ry hij hl;have e1:=g1 recC;have hr:fZ r:=hok r (iF (i:=i) (by rw[d1];exact cB));have c0:=t140 r t 0 [.row (recC t),.row (recC r)] 0 (bU _) rfl;have c1:=t108 t.reads r.writes (by unfold fZ small at*;omega) (by unfold fZ small at*;omega);have ih' :=ih (i+1) s (by omega);have ihB:=ih (i+1) (r.first,true) (by omega);rw[ai p7.eq_1,d1];simp only[recC]at e1 c0;cases hn:ES t r with
  |false=>
   rw[hn]at c0;simp[wM,AP,AQ,gP,h1,bq e1,e3,recC,c0,hn,Ee];simpa[recC]using ih'
  |true=>
   rw[hn]at c0;cases hm:ER t.reads r.writes with
   |false=>
    rw[hm]at c1;simp[wM,AP,AQ,gP,h1,bq e1,e3,recC,c0,c1,hn,hm,Ee];simpa[recC]using ih'
   |true=>
    rw[hm]at c1;have z1:((r.out:Int)==0)=(r.out==0):=by cases r.out<;>simp;omega
    have z2:decide (0<(t.writes.length:Int))=decide (0<t.writes.length):=by rw[decide_eq_decide];omega
    simp[wM,AP,AQ,h1,bq e1,recC,c0,c1,hn,hm,Ee,qdR];have fin:gL bu mT qT pT mY 2 p7 1 ⟨[(40,.int .i64 ((i+1:Nat):Int)),(11,.int .u64 ((bif !s.2||decide (r.first<s.1)then(r.first,true)else s).1:Nat)),(12,.bool (bif !s.2||decide (r.first<s.1)then(r.first,true)else s).2),(7,.int .u64 (most:Int)),(8,.bool inn),(3,.ptr 0 0),(6,.func 140 [] [.ptr 0 0]),(38,.sl 6 (l.map recC)),(13,.bool false),(39,.int .i64 (l.length:Int))],[.row (recC t)],0⟩
      (qdR (yj ((Ee t most inn (bif !s.2||decide (r.first<s.1)then(r.first,true)else s) (l.drop (i+1))).map (·.1)))):=ih (i+1) _ (by omega)
    cases q1:r.out==0 with
    |true=>
     have z0:r.out=0:=by simpa using q1
     rw[z0]at*;simp[wN,AR];cases inn with
     |false=>
      cases q5:s.2 with
      |false=>
       rw[q5]at fin;simp at fin;simp[gN,ja,mZ,gP,e3,q5];simpa[recC]using fin
      |true=>
       rw[q5]at fin;cases q6:decide (r.first<s.1)with
       |false=>
        rw[q6]at fin;simp[q5]at fin;simp[gN,ja,gP,e3,q5,q6];simpa[recC]using fin
       |true=>
        rw[q6]at fin;simp at fin;simp[gN,ja,mZ,gP,e3,q5,q6];simpa[recC]using fin
     |true=>
      cases q4:decide (r.first≤most)with
      |true=>simp[gN,wO,oQ,qN,q4,yj]
      |false=>
       cases q5:s.2 with
       |false=>
        rw[q5]at fin;simp at fin;simp[gN,ja,mZ,gP,e3,q4,q5];simpa[recC]using fin
       |true=>
        rw[q5]at fin;cases q6:decide (r.first<s.1)with
        |false=>
         rw[q6]at fin;simp[q5]at fin;simp[gN,ja,gP,e3,q4,q5,q6];simpa[recC]using fin
        |true=>
         rw[q6]at fin;simp at fin;simp[gN,ja,mZ,gP,e3,q4,q5,q6];simpa[recC]using fin
    |false=>
     have z0:¬r.out=0:=by simpa using q1
     rw[q1]at z1;have z4:((r.out:Int) !=0)=true:=by rw[bne,z1];rfl
     cases q2:decide (0<t.writes.length)with
     |true=>
      rw[q2]at z2;simp[wN,wO,oQ,qN,z0,z4,z2,q2,yj]
     |false=>
      rw[q2]at z2;cases q3:decide (r.out≤t.began)with
      |true=>
       simp[wN,AR,wO,oQ,qN,z0,z4,z2,q2,q3,yj]
      |false=>
       simp[wN,AR,z0,z4,z2,q2,q3];cases inn with
       |false=>
        cases q5:s.2 with
        |false=>
         rw[q5]at fin;simp at fin;simp[gN,ja,mZ,gP,e3,q5];simpa[recC]using fin
        |true=>
         rw[q5]at fin;cases q6:decide (r.first<s.1)with
         |false=>
          rw[q6]at fin;simp[q5]at fin;simp[gN,ja,gP,e3,q5,q6];simpa[recC]using fin
         |true=>
          rw[q6]at fin;simp at fin;simp[gN,ja,mZ,gP,e3,q5,q6];simpa[recC]using fin
       |true=>
        cases q4:decide (r.first≤most)with
        |true=>simp[gN,wO,oQ,qN,q4,yj]
        |false=>
         cases q5:s.2 with
         |false=>
          rw[q5]at fin;simp at fin;simp[gN,ja,mZ,gP,e3,q4,q5];simpa[recC]using fin
         |true=>
          rw[q5]at fin;cases q6:decide (r.first<s.1)with
          |false=>
           rw[q6]at fin;simp[q5]at fin;simp[gN,ja,gP,e3,q4,q5,q6];simpa[recC]using fin
          |true=>
           rw[q6]at fin;simp at fin;simp[gN,ja,mZ,gP,e3,q4,q5,q6];simpa[recC]using fin
theorem t102(l:List Rc)(t:Rc)(hl:l.length<small)(hok:∀ r∈l,fZ r)(ht:fZ t):G 102 [.sl 6 (l.map recC),.agg (recC t)] [] 0=some (yj (o9 l t),[],0):=by
 refine bK (fn:=mY) rfl rfl rfl ?_;have hb:=qeR l t hl hok ht (l.foldl (KJ t) (0,false)).1 (l.foldl (KJ t) (0,false)).2 l.length 0 (0,false) (by omega);have hR:yj ((Ee t (l.foldl (KJ t) (0,false)).1 (l.foldl (KJ t) (0,false)).2 (0,false) (l.drop 0)).map (·.1))=yj (o9 l t):=rfl;rw[hR]at hb;have a:=qeQ l t hl hok ht (gV bu mT qT pT mY (.seq (.region GK)
 (.seq .skip
 (.seq (.seq (.region GL)
 (.block 2 (.loop p7)))
 (.seq (.seq (.region oQ)
 (.cond (.t 96) (.seq (.region qN)
 .ret) .skip))
 (.seq (.region AS)
 .ret))))) (gV bu mT qT pT mY .skip (kE 0 mY (yj (o9 l t),[],0)))) (by simp[GK,GL];simpa[recC]using hb) l.length 0 (0,false) (by omega) rfl
 simp[yF,TO,TP,TQ,TS,recC];simpa[recC]using a
end Go.RE
namespace Go.RE
def Qd(w bytes:Nat)(zero:List V):List aG:=[⟨(some 5),.m (.buildSlice w 0 zero []),none,0⟩,⟨(some 6),.s (.bn (.t 0)),none,0⟩,⟨(some 7),.h (.append w bytes false (.t 5) (.t 6)),none,3⟩,⟨(some 2),.s (.bn (.t 7)),none,7⟩]
def qhb(w bytes:Nat)(zero:List V):aq:=(.seq (.region [⟨(some 2),.s (.bn (.c (.ah [] 1 0 w))),none,0⟩])
 (.seq (.seq (.region [⟨(some 3),.s (.bn (.t 0)),none,0⟩,⟨(some 4),.s (.bin .eql .bB (.t 3) (.c .bB)),none,1⟩])
 (.cond (.t 4) (.seq (.region [⟨(some 2),.s (.bn (.c (.ah [] 1 0 w))),none,0⟩])
 .ret) .skip))
 (.seq (.region (Qd w bytes zero))
 .ret)))
def mB(w bytes:Nat)(zero:List V):aC:=⟨8,[.t 2],true,qhb w bytes zero,fun _=>[],fun _=>[]⟩
theorem qie{M:qn}{w bytes:Nat}{zero:List V}(hz:(V.dF zero).all U.aL=true)(hw:0<w)(hb:0<bytes∧bytes≤200)(xs:List (List U))(h:List Uo)(fl:Nat)(hx1:xs.length*200≤bl)(hx:jl w xs=true):
  gC (fun _=>none) M ⟨fun _=>none,fun _=>none,fun _=>false,fun _=>none⟩ (fun _=>none) (mB w bytes zero) (.seq (.region (Qd w bytes zero)) .ret) ⟨[(0,.sl w xs)],h,fl⟩ (kE h.length (mB w bytes zero) (.own .r w xs,h,fl)):=by
 have h3:cut h.length fl h=h:=by unfold cut;exact gu (jW _ _)
 have h1:decide (xs.length*bytes≤bl)=true:=decide_eq_true (j0 (Nat.mul_le_mul_left _ hb.2) hx1);have h2:decide (xs.length≤bl)=true:=decide_eq_true (by omega);have h4:(xs.all fun r=>r.all U.aL&&U.bZ 0 r&&decide (r.length=w))=true:=by
  unfold jl at hx;rw[fF]at hx⊢;intro r hr;have:=hx r hr;simp only[aI,decide_eq_true_eq]at this⊢;exact⟨this.1,aU this.2⟩
 simp[mB,Qd,h1,h2,h3,h4,hz,Zg]
theorem nA{C:Nat→Option cq}{M:qn}{f w bytes:Nat}{zero:List V}(hz:(V.dF zero).all U.aL=true)(hw:0<w)(hb:0<bytes∧bytes≤200)
  (hC:C f=some ⟨(mB w bytes zero).ntmps,(mB w bytes zero).results,(mB w bytes zero).body.er⟩):YX (dz C M) f (qq w):=by
 intro us h fl r h' fl' hp σ Z ω st vs hk hfl ht hlu;unfold qq at hp;split at hp
 case h_2=>cases hp
 rename_i w' xs;obtain⟨hb2,hp3⟩:=aO hp;clear hp;simp only[aI]at hb2;have hw2:w' =w:=aU hb2.1.1;subst hw2;simp only[ag,ay]at hp3;obtain⟨rfl,rfl,rfl⟩:=hp3;obtain⟨v,vs',rfl,hv,hvs⟩:=hlu.bD;obtain rfl:=hvs.eF;have T:lQ C M (fun _=>none) ⟨fun _=>none,fun _=>none,fun _=>false,fun _=>none⟩ (fun _=>none):=⟨fun f fn h=>by simp at h,⟨fun f q h=>by simp at h,fun f q h=>by simp at h,fun f q h=>by simp at h⟩,fun f p h=>by simp at h⟩;obtain⟨n,hn⟩:=qie (M:=M) hz hw hb xs h fl (dY hb2.1.2) hb2.2;have hok:∀ e:PT V,e.get 0=some v→DY ⟨h.length,σ,gd σ ω h.length,Z,st,fun i=>h[i]? =some .gone,none,jJ h⟩ ⟨[(0,.sl w' xs)],h,fl⟩ e st:=fun e he=>by
  refine⟨hfl.env _,σ,Z,ω,hk.setEnv fun t u hu=> ?_⟩;simp only[look]at hu;cases hb0:Nat.beq 0 t with
  |true=>
   rw[hb0]at hu;have:=aU hb0;subst this;simp at hu;subst hu;exact⟨v,he,TR.bE hv⟩
  |false=>rw[hb0]at hu;simp at hu
 have key:∀ e:PT V,e.get 0=some v→∃ N,gz C M N (aq.seq (.region (Qd w' bytes zero)) .ret).er e st (SG ⟨(mB w' bytes zero).ntmps,(mB w' bytes zero).results,(mB w' bytes zero).body.er⟩ fun v st' =>Fl ⟨[],h,fl⟩∧∃ σ' Z' ω',Ok ⟨h.length,σ,gd σ ω h.length,Z,st,fun i=>h[i]? =some .gone,none,jJ h⟩ σ' Z' ω' ⟨[],h,fl⟩ .e st'∧(∀ d,d≠0→ω' (.t d)=none)∧RR σ' Z' ω' h.length (.own .r w' xs) v):=fun e he=>by
  obtain⟨N,hN⟩:=(sound T n).2.1 hn (hok e he);refine⟨N,cu (ak _) ?_ hN⟩;rintro ex' e' st' ⟨s',hK,hf',σ',Z',ω',hk'⟩;cases ex' with
  |exit i=>exact hK.elim
  |normal=>
   obtain⟨v,r1,r2,r3⟩:=tq hk' hf' rfl (ak _) hK;rw[k8];simp only[r1];exact⟨r2,r3⟩
  |ret=>
   obtain⟨v,r1,r2,r3⟩:=tq hk' hf' rfl (ak _) hK;rw[oH];simp only[r1];exact⟨r2,r3⟩
 have start:∀ (b:Bool),Ip .bB v .bB=some b→(b=true→v=.bB)→∃ N,bY C M N f [v] st fun v st' =>Fl ⟨[],h,fl⟩∧∃ σ' Z' ω',Ok ⟨h.length,σ,gd σ ω h.length,Z,st,fun i=>h[i]? =some .gone,none,jJ h⟩ σ' Z' ω' ⟨[],h,fl⟩ .e st'∧(∀ d,d≠0→ω' (.t d)=none)∧RR σ' Z' ω' h.length (.own .r w' xs) v:=by
  intro b hbv hnil;have hinit:(cK [v] 0 .e).get 0=some v:=by rw[fO];rfl
  obtain⟨N,hN⟩:=key ((((cK [v] 0 .e).set 2 .bB).set 3 v).set 4 (.bool b)) (by simp[PT.iX,hinit]);refine⟨N+6,?_⟩;rw[rN hC (by show[v].length≤8;simp)];have hbody:(mB w' bytes zero).body.er=.seq (.region [⟨some 2,.s (.bn (.c .bB)),none,0⟩]) (.seq (.seq (.region [⟨some 3,.s (.bn (.t 0)),none,0⟩,⟨some 4,.s (.bin .eql .bB (.t 3) (.c .bB)),none,1⟩]) (.cond (.t 4) (.seq (.region [⟨some 2,.s (.bn (.c .bB)),none,0⟩]) .ret) .skip)) (aq.seq (.region (Qd w' bytes zero)) .ret).er):=rfl;simp only[hbody];rw[qv,jH];simp only[fm,bW,dN,cZ,bO.ev,fI,oI];rw[qv,qv,jH];have h2:((cK [v] 0 .e).set 2 .bB).get 0=some v:=by simp[PT.iX,hinit]
  have h3:((((cK [v] 0 .e).set 2 .bB)).set 3 v).get 3=some v:=by simp[PT.iX]
  simp only[fm,bW,dN,cZ,bO.ev,fI,oI,h2,h3];have h4:j8 .eql .bB v .bB=some (.bool b):=by
   cases v<;>simp_all [j8,Ip]
  simp only[h4];rw[BM (t:=b) (by simp[bO.ev,PT.iX])];cases b with
  |true=>
   obtain rfl:=hnil rfl;rw[if_pos rfl,qv,jH];simp only[fm,bW,dN,cZ,bO.ev,fI,oI];rw[FT,SH,oH];have hr:cI (((((cK [.bB] 0 .e).set 2 .bB).set 3 .bB).set 4 (.bool true)).set 2 .bB) st [.t 2]=some .bB:=by simp[cI,vw,Eg,PT.iX]
   have hres:(mB w' bytes zero).results=[.t 2]:=rfl;simp only[hres,hr];refine⟨hfl,σ,Z,ω,hk,fun d _=>ht d,?_⟩;show OR σ Z ω (.t 0) w' xs .bB;unfold OR;rw[ht 0];cases hv;exact⟨rfl,.inl rfl⟩
  |false=>
   rw[if_neg (by simp),BO,oI];exact cu (by omega) (fun _ _ _ h=>h) hN
 cases hv with
 |slnil=>exact start true rfl (fun _=>rfl)
 |Ak=>exact start false rfl (fun h=>by cases h)
 |AL=>exact start false rfl (fun h=>by cases h)
 |Eh=>exact start false rfl (fun h=>by cases h)
end Go.RE
namespace Go.RE
section
variable{C:Nat→Option cq}{M:qn}
theorem KW{f n:Nat}{p:List V→St→Option (V×St)}(hC:C f=some (rm n p)){args:List V}(ha:args.length=n){st st' :St}{v:V}(hp:p args st=some (v,st')){k:V→St→Prop}(hk:k v st'):bY C M 1 f args st k:=by
 rw[rN hC (by rw[ha];exact ak n)];simp only[rm,gz];have hf:∃ vs,firsts (cK args 0 .e) n []=some vs:=by
  subst ha;have key:∀ (m:Nat) (acc:List V),m≤args.length→∃ vs,firsts (cK args 0 .e) m acc=some vs:=by
   intro m
   induction m with
   |zero=>intro acc _;exact⟨acc,rfl⟩
   |succ m ih=>
    intro acc hm;simp only[firsts];have:(cK args 0 .e).get m=args[m]? :=by
     rw[fO,if_pos ⟨bU _,by omega⟩];rfl
    rw[this,aQ (by omega)];exact ih _ (by omega)
  exact key _ [] (ak _)
 obtain⟨vs,hvs⟩:=hf;obtain⟨h1,h2⟩:=zI hvs;have h3:vs=args:=by rw[h2,←ha,List.take_length,DU]
 subst h3;rw[hvs];simp only[hp];rw[oH];have hr:cI ((cK vs 0 .e).set 0 v) st' [.t 0]=some v:=by
  simp[cI,vw,Eg,PT.iX]
 simp only[hr];exact hk
theorem kT{f n:Nat}{p:List V→St→Option (V×St)}(hC:C f=some (rm n p)){args:List V}(ha:args.length=n){st st' :St}{v:V}(hp:p args st=some (v,st')){k:V→St→Prop}(hk:k v st'):dz C M f args st k:=
 ⟨1,KW hC ha hp hk⟩
end
theorem tf:∀ a b:By,Lib.compareBytes a b=oZ a b
 |[],[]=>rfl
 |[],_::_=>rfl
 |_::_,[]=>rfl
 |a::xs,b::ys=>by
  have ih:=tf xs ys;have hl:lt (a::xs) (b::ys)=(decide (a<b)||(!decide (b<a)&&lt xs ys)):=by
   show Op.bytesLess _ _=_;rw[Go.Proofs.bytesLess_eq];show _=(decide (a<b)||(!decide (b<a)&&Op.bytesLess xs ys));rw[Go.Proofs.bytesLess_eq];rw[DP];simp only[decide_eq_true_eq,uN,aI,Ae,decide_eq_false_iff_not];rw[List.cons_lt_cons_iff];constructor
   ·rintro(h|⟨h,h2⟩)
    ·exact .inl h
    ·subst h;exact .inr ⟨UInt8.lt_irrefl a,h2⟩
   ·rintro(h|⟨h,h2⟩)
    ·exact .inl h
    ·by_cases hab:a<b
     ·exact .inl hab
     ·exact .inr ⟨UInt8.le_antisymm (PW.1 h) (PW.1 hab),h2⟩
  unfold Lib.compareBytes oZ;rw[hl];by_cases h1:a<b
  ·simp[h1]
  ·by_cases h2:b<a
   ·have:¬a=b:=fun e=>by subst e;exact h1 h2
    have hb:(a==b)=false:=by simpa using this
    simp[h1,h2,hb]
   ·have:a=b:=UInt8.le_antisymm (PW.1 h2) (PW.1 h1);subst this;rw[if_neg h1,if_neg h1,ih];unfold oZ;simp[h1]
def Ta:List V→St→Option (V×St):=fun vs s=>match vs with
 |[.str a,.str b]=>some (.int .i64 (oZ a b),s)
 |_=>none
theorem LP{P:Program}{f:Nat}(hfn:∃ fn b,P.funcs[f]? =some fn∧fn.body=some b∧(fn.name== "runtime.NumGoroutine")=false)
  (hS:∀ (a b:ByteArray) (w:World),Calls P f #[.string a,.string b] w fun e w' =>e=.returned (.int .i64 (Lib.compareBytes a.data.toList b.data.toList))∧w' =w) (w0:World):FH P w0 f 2 Ta:=by
 refine⟨hfn,?_⟩;intro args s v s' ρ w args' hl hp hR hA;unfold Ta at hp;split at hp
 case h_2=>cases hp
 rename_i a b;simp only[ag,ay]at hp;obtain⟨rfl,rfl⟩:=hp;obtain⟨x,xs,rfl,hx,hxs⟩:=hA.bD;obtain⟨y,ys,rfl,hy,hys⟩:=hxs.bD;obtain rfl:=hys.eF;cases hx with
 |str hx=>
  cases hy with
  |str hy=>
   rename_i sa sb;refine(hS sa sb w).mono ?_;rintro e w' ⟨rfl,rfl⟩;refine⟨ρ,_,rfl,hR,kH.refl _ _ _,?_⟩;have e:oZ a b=Lib.compareBytes sa.data.toList sb.data.toList:=by rw[tf];simp[hx,hy]
   rw[e];exact .int _ _
theorem qdr{C:Nat→Option cq}{M:qn}{f:Nat}(hC:C f=some (rm 2 Ta)):YX (dz C M) f Zh:=by
 intro us h fl r h' fl' hp σ Z ω st vs hk hfl ht hlu;unfold Zh at hp;split at hp
 case h_2=>cases hp
 rename_i a b;simp only[ag,ay]at hp;obtain⟨rfl,rfl,rfl⟩:=hp;obtain⟨x,xs,rfl,hx,hxs⟩:=hlu.bD;obtain⟨y,ys,rfl,hy,hys⟩:=hxs.bD;obtain rfl:=hys.eF;cases hx;cases hy;exact kT hC rfl (v:=.int .i64 (oZ a b)) (st' :=st) rfl ⟨hfl,σ,Z,ω,hk,fun d _=>ht d,.int _ _⟩
end Go.RE
namespace Go.RE
section
variable{C:Nat→Option cq}{M:qn}{VF:Nat→Option aC}{Q:nu}{Pm:Pms}{F:FU}
theorem Ok.sg{E:q9}{σ σ2:Sg}{Z:Zs}{ω:Om}{s:Vs}{e:PT V}{st:St}(h:Ok E σ2 Z ω s e st)(hs:∀ i,i<s.h.length→σ2 i=σ i):Ok E σ Z ω s e st:=
 ⟨fun t u hu=>let⟨v,a,b⟩:=h.env t u hu;⟨v,a,TR.mono (ak _) (fun i hi=>(hs i hi).symm) (fun _ _ h=>h) (fun _ _=>rfl) b⟩,fun i o ho=>by
   have hi:=(aH.1 ho).1;rw[←hs i hi];exact OB.mono (ak _) (fun i hi=>(hs i hi).symm) (fun _ _ h=>h) (fun _=>rfl) (h.obj i o ho),h.qZ,h.mq,h.fresh,fun i j hi hj he=>h.inj i j hi hj (by rw[hs i hi,hs j hj,he]),h.ic,fun i g I hi hg=>by rw[←hs i hi];exact h.sw i g I hi hg,fun i hi=>by rw[←hs i hi];exact h.sz i hi,h.wz,fun i hi=>by rw[←hs i hi];exact h.sb i hi,h.Bn,h.wc,h.n0,fun i hi=>by rw[←hs i (iC hi h.n0)];exact h.sig i hi,h.zz,h.nx,fun b hb hI=>let⟨o1,o2,o3,o4⟩:=h.out b hb hI;⟨o1,fun i hi=>by rw[←hs i hi];exact o2 i hi,o3,o4⟩,fun i hi=>let⟨g1,g2,g3⟩:=h.yg.1 i hi;⟨g1,g2,by rw[←hs i (iC g1 h.n0)];exact g3⟩,fun i off cs h1 h2=>by
   rw[←hs i (aH.1 h1).1];exact h.yg.2 i off cs h1 h2⟩
theorem Qb{f:Nat}{vs:List V}{st:St}{k k' :V→St→Prop}(h:dz C M f vs st k)(h' :dz C M f vs st k'):dz C M f vs st fun v s=>k v s∧k' v s:=by
 obtain⟨n,h⟩:=h;obtain⟨m,h'⟩:=h';exact⟨n+m,Ew _ _ _ _ _ (iN (Nat.le_add_right n m) (fun _ _ h=>h) h) (iN (Nat.le_add_left m n) (fun _ _ h=>h) h')⟩
theorem RV(T:lQ C M VF Q Pm)(hF:Yu (dz C M) F){f:Nat}{fn:aC}(hC:C f=some ⟨fn.ntmps,fn.results,fn.body.er⟩){t:Nat}(hres:fn.results=[.t t]){q:Nat→List (List U)→List U→Option (Nat×List (List U))}
  (hq:∀ xs rest w' ys w,q w xs rest=some (w',ys)→(∀ r∈xs,r.length=w)→(∀ u∈rest,u.aL=true∧u.low 0=true)∧rest.length+1≤fn.ntmps∧
   (∃ r hh ff,F f (.sl w xs::rest) [] 0=some (r,hh,ff))∧
   gC VF M Q Pm fn fn.body ⟨(0,.own .a w xs)::mK rest 1,[],0⟩ fun ex s=>(∀ i,ex≠.exit i)∧∃ g2,look s.e t=some (.own g2 w' ys)∧g2≠.a):Rr (dz C M) f q:=by
 intro w xs rest w' ys hh E σ Z ω s e st g v vs d hk hor hlen hr;have hw:∀ r∈xs,r.length=w:=by
  have:=hor;unfold OR at this;split at this
  ·rw[this.1];intro r hr;cases hr
  ·exact this.2.2.2.2.1
 obtain⟨h1,h2,⟨R,hh2,ff,hfz⟩,n,hn⟩:=hq xs rest w' ys w hh hw;have hcell:∀ (j:Nat) u x,rest[j]? =some u→vs[j]? =some x→UR σ Z 0 u x:=fun j u x a b=>by
  have hm:=h1 u (oT a);exact(Oi (hr j u x a b) hm.1).low hm.2
 -- frozen:the slice's block stays as it is
 have hlz:∀ b r,mF ω Z b=some r→st.row b=some r:=fun b r hb=>by
  rcases u9 hb with h|⟨g',I,a1,a2,a3⟩
  ·exact hk.qZ b r h
  ·rw[←a2,a3];exact iZ (hk.mq g' I a1)
 have hZl:∀ b r,Z b=some r→mF ω Z b=some r:=fun b r hb=>SK hk hb;have hvz:UR σ (mF ω Z) 0 (.sl w xs) v:=by
  have:=hor;unfold OR at this;split at this
  ·obtain⟨rfl,hv⟩:=this;rcases hv with rfl|rfl
   ·exact .slnil
   ·exact .Ak
  ·rename_i I hI;obtain⟨rfl,_,p3,p4,p5,p6⟩:=this;refine .AL rfl (B8 hk hI) p5 p3 ?_ fun j u x a b=>((p6.2 j u x a b).mono (ak 0) (fun i hi=>by omega) hZl);have:xs.length*w≤I.cap*w:=iB _ p3;omega
 have hlu:LU σ (mF ω Z) 0 (.sl w xs::rest) (v::vs):=LU.cons hvz ⟨hlen,fun j u x a b=>(hcell j u x a b).mono (ak 0) (fun i hi=>by omega) hZl⟩;have fz:=hF f _ [] 0 _ _ _ hfz σ (mF ω Z) (fun _=>none) st (v::vs) (hk.iso hlz 0) ⟨ak _,fun i o ho=>by simp at ho⟩ (fun _=>rfl) hlu
 -- dB to be written:the result
 have hnone:∀ x I,(fun x:Tg=>if x=.a then ω g else none) x=some I→x=.a∧ω g=some I:=fun x I hI=>by
  simp only at hI;split at hI
  ·exact⟨‹_›,hI⟩
  ·cases hI
 have hok:Ok ⟨0,σ,fun b=>∃ I,ω g=some I∧I.b=b,Z,st,fun _=>False,(ω g).map oW.desc,fun _ _=>False⟩ σ Z (fun x=>if x=.a then ω g else none) ⟨(0,.own .a w xs)::mK rest 1,[],0⟩ (cK (v::vs) 0 .e) st:=by
  refine⟨fun t u hu=> ?_,fun i o ho=>by simp at ho,hk.qZ,fun x I hI=>hk.mq g I (hnone x I hI).2,hk.fresh,fun i j hi=>by simp at hi,fun x y I J hI hJ _=>by rw[(hnone x I hI).1,(hnone y J hJ).1],fun i x I hi=>by simp at hi,fun i hi=>by simp at hi,fun x I hI=>hk.wz g I (hnone x I hI).2,fun i hi=>by simp at hi,⟨rfl,rfl⟩,fun i off I hI=>(by cases(hnone _ I hI).1),ak _,fun i hi=>by simp at hi,fun b r hb=>hb,ak _,fun b hb hbI=>⟨rfl,fun i hi=>by simp at hi,fun x I hI hbb=>hbI ⟨I,(hnone x I hI).2,hbb⟩,fun r hr=>hr⟩,fun i hi=>False.elim hi,fun i off cs h1=>by simp at h1⟩;simp only[look]at hu;cases hb:Nat.beq 0 t with
  |true=>
   rw[hb]at hu;simp only[cond_true,ag]at hu;have:=aU hb;subst this;subst hu;refine⟨v,by rw[fO,if_pos ⟨bU _,by simp⟩];rfl,OR.to hor (fun _ _ h=>h) rfl,fun i off hh=>by cases hh⟩
  |false=>
   rw[hb]at hu;simp only[cond_false]at hu;obtain⟨ht1,hu2⟩:=yh hu;obtain⟨ht2,_⟩:=aH.1 hu2;have hv:=aQ (l:=vs) (i:=t - 1) (by omega);refine⟨vs[t - 1],?_,TR.bE (hcell (t - 1) u _ hu2 hv)⟩;rw[fO,if_pos ⟨bU _,by simp;omega⟩];rw[show t - 0=(t - 1)+1 by omega];simp only[DQ];exact hv
 obtain⟨N,hN⟩:=(sound T n).2.1 hn ⟨⟨ak _,fun i o ho=>by simp at ho⟩,σ,Z,_,hok⟩;have own:dz C M f (v::vs) st fun r st' =>∃ σ' Z' ω' s' e' g2,Ok ⟨0,σ,fun b=>∃ I,ω g=some I∧I.b=b,Z,st,fun _=>False,(ω g).map oW.desc,fun _ _=>False⟩ σ' Z' ω' s' e' st'∧g2≠Tg.a∧OR σ' Z' ω' g2 w' ys r:=by
  refine⟨N,?_⟩;rw[rN hC (by simp;omega)];refine cu (ak _) ?_ hN;rintro ex e' st' ⟨s',⟨hne,g2,hlk,hg2⟩,hf',σ',Z',ω',hk'⟩;obtain⟨x,hx,hx2⟩:=hk'.env t _ hlk;have hall:cI e' st' fn.results=some x:=by rw[hres];simp[cI,vw,Eg,hx]
  have goal:∃ σ' Z' ω' s' e' g2,Ok ⟨0,σ,fun b=>∃ I,ω g=some I∧I.b=b,Z,st,fun _=>False,(ω g).map oW.desc,fun _ _=>False⟩ σ' Z' ω' s' e' st'∧g2≠Tg.a∧OR σ' Z' ω' g2 w' ys x:=⟨σ',Z',ω',s',e',g2,hk',hg2,hx2.1⟩;cases ex with
  |exit i=>exact absurd rfl (hne i)
  |normal=>rw[k8];simp only[hall];exact goal
  |ret=>rw[oH];simp only[hall];exact goal
 refine nw ?_ (Qb own fz);rintro r st' ⟨⟨σ',Z',ω',s',e',g2,hk',hg2,hor'⟩,_,σf,Zf,ωf,hkf,_,_⟩;have wa:(ω' .a).map oW.desc=(ω g).map oW.desc:=hk'.Bn.2;have hJ:∀ I,ω g=some I→∃ J,ω' .a=some J∧J.b=I.b:=fun I hI=>by
  rw[hI]at wa;cases hJ:ω' .a with
  |none=>rw[hJ]at wa;cases wa
  |some J=>
   rw[hJ]at wa;simp only[kP,ag,oW.desc,ay]at wa;exact⟨J,rfl,wa.1⟩
 have hb:Ok ⟨0,σ,gd σ (fun _=>none) 0,Z,st,fun i=>([]:List Uo)[i]? =some .gone,none,jJ ([]:List Uo)⟩ σ' Z' (fun x=>if x=.t 0 then ω' g2 else none) ⟨[],[],0⟩ .e st' :=by
  have hn2:∀ x I,(fun x:Tg=>if x=.t 0 then ω' g2 else none) x=some I→x=.t 0∧ω' g2=some I:=fun x I hI=>by
   simp only at hI;split at hI
   ·exact⟨‹_›,hI⟩
   ·cases hI
  refine⟨fun t u hu=>by simp[look]at hu,fun i o ho=>by simp at ho,hk'.qZ,fun x I hI=>hk'.mq g2 I (hn2 x I hI).2,hk'.fresh,fun i j hi=>by simp at hi,fun x y I J hI hJ _=>by rw[(hn2 x I hI).1,(hn2 y J hJ).1],fun i x I hi=>by simp at hi,fun i hi=>by simp at hi,fun x I hI=>hk'.wz g2 I (hn2 x I hI).2,fun i hi=>by simp at hi,⟨rfl,rfl⟩,fun i off I hI=>(by cases(hn2 _ I hI).1),ak _,fun i hi=>by simp at hi,hk'.zz,hk'.nx,fun b hb _=> ?_,fun i hi=>by simp at hi,fun i off cs h1=>by simp at h1⟩;by_cases hbI:∃ I,ω g=some I∧I.b=b
  ·obtain⟨I,hI,rfl⟩:=hbI;obtain⟨J,hJ1,hJ2⟩:=hJ I hI;refine⟨?_,fun i hi=>by simp at hi,fun x K hK hKb=> ?_,fun r hr=> ?_⟩
   ·exact(hkf.out I.b (hk.lt_next (hk.mq g I hI)) (by simp[gd])).1
   ·exact hg2 (hk'.ic _ _ _ _ (hn2 x K hK).2 hJ1 (by rw[hKb,hJ2]))
   ·have:=hk'.wz .a J hJ1;rw[hJ2,hr]at this;cases this
  ·obtain⟨o1,_,o3,o4⟩:=hk'.out b hb hbI;exact⟨o1,fun i hi=>by simp at hi,fun x K hK=>o3 g2 K (hn2 x K hK).2,o4⟩
 have hrr:RR σ' Z' (fun x=>if x=.t 0 then ω' g2 else none) ([]:List Uo).length (.own .r w' ys) r:=by
  show OR σ' Z' (fun x=>if x=.t 0 then ω' g2 else none) (.t 0) w' ys r;exact OR.to hor' (fun _ _ h=>h) (by simp)
 obtain⟨σ2,ω2,k1,k2,k3,k4,k5⟩:=hk.FK (hc:=[]) (fc:=0) (fl2:=s.fl) (d:=d) (r:=.own .r w' ys) (v:=r) hb (fun d hd=>if_neg (by simpa using hd)) hrr;have e1:dR d ((U.own .r w' ys).shift s.h.length) {s with h:=s.h++([]:List Uo).map (eV s.h.length),fl:=s.fl}=(.own (.t d) w' ys,s.kill (.t d)):=by
  simp[dR,U.shift];rfl
 rw[e1]at k1 k2;have hln:(s.kill (.t d)).h.length=s.h.length:=rfl;have k6:=k1.sg (σ:=σ) (fun i hi=>k4 i hi);exact⟨Z',ω2,k6,OR.to k2.1 (fun _ _ h=>h) rfl,k5⟩
end
end Go.RE
namespace Go.RE
def Q0:nu:=⟨fun _=>none,fun _=>none,fun _=>false,fun _=>none⟩
@[simp] theorem qmO(f:Nat):Q0.q f=none:=rfl
@[simp] theorem qkg(f:Nat):Q0.app f=none:=rfl
@[simp] theorem qlT(f:Nat):Q0.ld f=false:=rfl
@[simp] theorem qkh(f:Nat):Q0.KT f=none:=rfl
noncomputable abbrev G0:=gF bu mT Q0 pT
theorem Sp{fn:aC}{f:Nat}{us:List U}{h:List Uo}{fl:Nat}{R:U×List Uo×Nat}(hp:pT f=none)(hf:bu f=some fn)(ha:Nat.ble us.length fn.ntmps=true)(hR:gC bu mT Q0 pT fn fn.body ⟨mK us 0,h,fl⟩ (kE h.length fn R)):G0 f us h fl=some R:=IX hp hf ha hR
theorem IV{f:Nat}(hf:wg f=true){w:Nat}{xs:List (List U)}(h:List Uo)(fl:Nat)(hl:xs.length<small)(hx:jl w xs=true)(hw:Nat.beq w (Qm f)=true:=by rfl):G0 f [.sl w xs] h fl=some (.own .r w xs,h,fl):=by
 have hp:pT f=some (qq (Qm f)):=by unfold pT;rw[hf];rfl
 show gF bu mT Q0 pT f _ _ _=_;rw[Au hp];have:Nat.ble (xs.length*200) bl=true:=jA (by unfold small at hl;unfold bl;omega);simp only[qq,this,hx,hw,jh,cond_true]
theorem TD(r:Rc)(hr:fZ r):G0 107 [.agg (recC r)] [] 0=some (.agg (recC r),[],0):=by
 refine Sp (fn:=v107) rfl rfl rfl ?_;have c1:=IV (f:=62) rfl (w:=2) (xs:=r.reads.map aS) [] 0 (by simp;unfold fZ small at*;omega) (lC _);have c2:=IV (f:=62) rfl (w:=2) (xs:=r.writes.map aS) [] 0 (by simp;unfold fZ small at*;omega) (lC _);simp[tV,Ml,az Oy,GX,Mm,recC,c1,c2,bF]
theorem qfi(l:List Rc)(low:Nat)(hl:l.length<small)(hok:∀ r∈l,fZ r):∀ (j i:Nat) (out:List Rc),i+j=l.length→out.length≤i→
  gL bu mT Q0 pT v66 0 mI 0 ⟨[(10,.int .i64 (i:Int)),(5,.own (.t 5) 6 (out.map recC)),(1,.int .u64 (low:Int)),(8,.sl 6 (l.map recC)),(9,.int .i64 (l.length:Int))],[],0⟩
   (gV bu mT Q0 pT v66 (.seq (.region xK) .ret) (kE 0 v66 (.own .r 6 ((out++bP (l.drop i) low).map recC),[],0))):=by
 intro j
 induction j with
 |zero=>
  intro i out hij ho;obtain⟨h1,h2⟩:=oq hij;rw[ai mI.eq_1,h2];simp[rA,xK,h1,bP]
 |succ j ih=>
  intro i out hij ho;obtain⟨h1,e3,r,d1,g1⟩:=ry hij hl;have e1:=g1 recC;have hr:fZ r:=hok r (iF (i:=i) (by rw[d1];exact cB));have c:=TD r hr;rw[ai mI.eq_1,d1];simp only[recC]at e1 c;cases hn:decide (low<r.last)with
  |false=>
   have ih' :=ih (i+1) out (by omega) (by omega);simp[rA,Dz,DA,DB,h1,bq e1,e3,recC,hn,bP];simpa[recC,bP]using ih'
  |true=>
   have ih' :=ih (i+1) (out++[r]) (by omega) (by simp;omega);have b1:(out.length+1)*80≤bl∧out.length+1≤bl:=by unfold small at hl;unfold bl;omega
   simp[rA,Dz,DA,Pr,DB,h1,bq e1,e3,recC,c,hn,b1,bP];simpa[recC,bP]using ih'
theorem qiN(l:List Rc)(low:Nat)(hl:l.length<small)(hok:∀ r∈l,fZ r):G0 66 [.sl 6 (l.map recC),.int .u64 (low:Int)] [] 0=some (.own .r 6 ((bP l low).map recC),[],0):=by
 refine Sp (fn:=v66) rfl rfl rfl ?_;have:=qfi l low hl hok l.length 0 [] (by omega) (by simp);simp[ow,Fq,Fs,Ft];simpa using this
def kBo(ys:List (List U)):Ex→Vs→Prop:=fun ex s=>(∀ i,ex≠.exit i)∧∃ g2,look s.e 4=some (.own g2 6 ys)∧g2≠.a
theorem jj(e:Env)(h:List Uo)(fl:Nat):Vs.cw Tg.a ⟨e,h,fl⟩=Env.cw Tg.a e e:=rfl
theorem qfj(l:List Rc)(low:Nat)(hl:l.length<small)(hok:∀ r∈l,fZ r):∀ (j i:Nat) (out:List Rc),i+j=l.length→out.length≤i→
  gL bu mT Q0 pT v66 0 mI 0 ⟨[(10,.int .i64 (i:Int)),(5,.own (.t 5) 6 (out.map recC)),(1,.int .u64 (low:Int)),(8,.own .a 6 (l.map recC)),(9,.int .i64 (l.length:Int))],[],0⟩
   (gV bu mT Q0 pT v66 (.seq (.region xK) .ret) (kBo ((out++bP (l.drop i) low).map recC))):=by
 intro j
 induction j with
 |zero=>
  intro i out hij ho;obtain⟨h1,h2⟩:=oq hij;rw[ai mI.eq_1,h2];simp[rA,xK,h1,bP,kBo]
 |succ j ih=>
  intro i out hij ho;obtain⟨h1,e3,r,d1,g1⟩:=ry hij hl;have e1:=g1 recC;have hr:fZ r:=hok r (iF (i:=i) (by rw[d1];exact cB));have c:=TD r hr;have hg:(l.map recC)[i]? =some (recC r):=by
   rw[gE,(by have:=congrArg (fun x:List Rc=>x[0]?) d1;simpa using this:l[i]? =some r)];rfl
  have hil:i<(l.map recC).length:=by simp;omega
  have ia:∀ s',rF s' 6 (some (.own .a 6 (l.map recC))) (some (.int .i64 (i:Int)))=some (.bI .a i 0,s'):=fun s' =>c9 (by simpa using hil);rw[ai mI.eq_1,d1];simp only[recC]at e1 c hg;cases hn:decide (low<r.last)with
  |false=>
   have ih' :=ih (i+1) out (by omega) (by omega);simp[rA,Dz,DA,DB,h1,ia,hg,jj,Env.cw,e3,recC,hn,bP];simpa[recC,bP]using ih'
  |true=>
   have ih' :=ih (i+1) (out++[r]) (by omega) (by simp;omega);have b1:(out.length+1)*80≤bl∧out.length+1≤bl:=by unfold small at hl;unfold bl;omega
   simp[rA,Dz,DA,Pr,DB,h1,ia,hg,jj,Env.cw,e3,recC,c,hn,b1,bP];simpa[recC,bP]using ih'
theorem qiP(l:List Rc)(low:Nat)(hl:l.length<small)(hok:∀ r∈l,fZ r):gC bu mT Q0 pT v66 v66.body ⟨[(0,.own .a 6 (l.map recC)),(1,.int .u64 (low:Int))],[],0⟩ (kBo ((bP l low).map recC)):=by
 have:=qfj l low hl hok l.length 0 [] (by omega) (by simp);simp[ow,Fq,Fs,Ft];simpa using this
theorem qfk(w:Nat)(low:Int):gC bu mT Q0 pT v66 v66.body ⟨[(0,.own .a w []),(1,.int .u64 low)],[],0⟩ (kBo []):=by
 simp[ow,Fq,Fs,Ft];rw[ai mI.eq_1];simp[rA,xK,kBo]
theorem qiQ(w:Nat)(low:Int):G0 66 [.sl w [],.int .u64 low] [] 0=some (.own .r 6 [],[],0):=by
 refine Sp (fn:=v66) rfl rfl rfl ?_;simp[ow,Fq,Fs,Ft];rw[ai mI.eq_1];simp[rA,xK]
theorem qg1{C:Nat→Option cq}(T:lQ C mT bu Q0 pT):Rr (dz C mT) 66 fun _=>qx:=by
 refine RV T (Sr T) (fn:=v66) (T.code 66 v66 rfl) (t:=4) rfl ?_;intro xs rest w' ys w hh hw;obtain⟨l,low,rfl,rfl,hl,hok,rfl,rfl⟩:=FZ hh;refine⟨fun u hu=> ?_,(by show 1+1≤25;omega),?_⟩
 ·have:=List.mem_singleton.1 hu;subst this;exact⟨rfl,rfl⟩
 ·cases l with
  |nil=>exact⟨⟨_,_,_,qiQ w low⟩,qfk w low⟩
  |cons r l=>
   have h6:w=6:=(hw (recC r) (by simp)).symm;subst h6;exact⟨⟨_,_,_,qiN (r::l) low (by unfold small;omega) hok⟩,qiP (r::l) low (by unfold small;omega) hok⟩
end Go.RE
namespace Go.RE
def qL(a b:Nat):Nat→Nat→List cU→List cU
 |0,_,l=>l
 |k+1,i,l=>qL a b k (i+1) (lG l (a+i) (b+i))
def D9(w:Nat)(ys:List (List U)):Ex→Vs→Prop:=fun ex s=>(∀ i,ex≠.exit i)∧s.cw .a=some (w,ys)
theorem vD(w:Nat)(ys:List (List U))(e:Env)(h:List Uo)(fl:Nat):Vs.fK Tg.a w ys ⟨e,h,fl⟩=⟨Env.fK Tg.a ys e,h,fl⟩:=rfl
theorem qff(a b n:Nat)(L:Nat)(hL:L<small)(ha:a+n≤L)(hb:b+n≤L)(R:List cU):∀ (k i:Nat) (xs:List cU),i+k=n→xs.length=L→qL a b k i xs=R→
  gL bu mT Q0 pT Dg 0 xA 0 ⟨[(10,.int .i64 (i:Int)),(0,.own .a 2 (xs.map aS)),(1,.int .i64 (a:Int)),(2,.int .i64 (b:Int)),(3,.int .i64 (n:Int))],[],0⟩ (D9 2 (R.map aS)):=by
 intro k
 induction k with
 |zero=>
  intro i xs hik hx hR;have h1:¬((i:Int)<(n:Int)):=by omega
  simp only[qL]at hR;subst hR;rw[ai xA.eq_1];simp[HT,h1,D9,jj,Env.cw]
 |succ k ih=>
  intro i xs hik hx hR;have h1:(i:Int)<(n:Int):=by omega
  simp only[qL]at hR;have ih' :=ih (i+1) (lG xs (a+i) (b+i)) (by omega) (by simp[lG,hx]) hR;obtain⟨p,hp⟩:∃ p,p=a+i:=⟨_,rfl⟩;obtain⟨q,hq⟩:∃ q,q=b+i:=⟨_,rfl⟩;have ea:aK .i64 ((a:Int)+(i:Int))=(p:Int):=by rw[dG (by omega) (by unfold small at hL;omega)];omega
  have eb:aK .i64 ((b:Int)+(i:Int))=(q:Int):=by rw[dG (by omega) (by unfold small at hL;omega)];omega
  have ei:aK .i64 ((i:Int)+1)=((i+1:Nat):Int):=by rw[dG (by omega) (by unfold small at hL;omega)];omega
  have hai:p<xs.length:=by omega
  have hbi:q<xs.length:=by omega
  have ia:∀ (ys:List cU) s',ys.length=xs.length→rF s' 2 (some (.own .a 2 (ys.map aS))) (some (.int .i64 (p:Int)))=some (.bI .a p 0,s'):=fun ys s' h=>c9 (by simp[h];exact hai);have ib:∀ (ys:List cU) s',ys.length=xs.length→rF s' 2 (some (.own .a 2 (ys.map aS))) (some (.int .i64 (q:Int)))=some (.bI .a q 0,s'):=fun ys s' h=>c9 (by simp[h];exact hbi);have ia1:=fun s' =>ia xs s' rfl;have ib1:=fun s' =>ib xs s' rfl;have ib2:∀ (r:List U) s',rF s' 2 (some (.own .a 2 ((xs.map aS).set p r))) (some (.int .i64 (q:Int)))=some (.bI .a q 0,s'):=fun r s' =>c9 (by simp;exact hbi);rw[←hp,←hq]at ih';obtain⟨⟨s1,s2⟩,gp⟩:∃ r,xs[p]? =some r:=⟨_,aQ hai⟩;obtain⟨⟨u1,u2⟩,gq⟩:∃ r,xs[q]? =some r:=⟨_,aQ hbi⟩;have gp' :(xs.map aS)[p]? =some [.str s1,.str s2]:=by rw[gE,gp];rfl
  have gq' :(xs.map aS)[q]? =some [.str u1,.str u2]:=by rw[gE,gq];rfl
  simp only[lG,gp,gq,rB,PY]at ih';have g3:((xs.map aS).set p [.str u1,.str u2])[q]? =some [.str u1,.str u2]:=by
   rw[b9];by_cases hpq:p=q
   ·rw[if_pos hpq,if_pos (by simp;omega)]
   ·rw[if_neg hpq,gq']
  simp only[aS]at ih';generalize xs.map aS=X at*;rw[ai xA.eq_1];simp[HT,W5,az qay,HU,h1,ea,eb,ei,ia1,ib1,gp',gq',jj,Env.cw,vD,Env.fK,U.fK,ib2,g3,bF];simpa using ih'
theorem ou:∀ {xs:List (List U)} {l:List cU},Am xs=some l→xs=l.map aS
 |[],l,h=>by simp[Am]at h;subst h;rfl
 |x::xs,l,h=>by
  unfold Am at h;split at h
  ·rename_i heq;cases heq
  ·rename_i heq;cases heq;split at h
   ·rename_i l' hl;simp only[ag]at h;subst h;rw[ou hl];rfl
   ·cases h
  ·cases h
def Fa(xs:List (List U))(rest:List U):Option (List (List U)):=
 match rest with
 |[.int .i64 a,.int .i64 b,.int .i64 n,.func _ [] []]=>match Am xs with
  |some l=>bif decide (0≤a)&&decide (0≤b)&&decide (0≤n)&&decide (a+n≤l.length)&&decide (b+n≤l.length)&&decide (l.length<small)then some ((qL a.toNat b.toNat n.toNat 0 l).map aS)else none
  |none=>none
 |_=>none
theorem me(a b:Nat):∀ (k i:Nat) (l:List cU),(qL a b k i l).length=l.length
 |0,_,_=>rfl
 |k+1,i,l=>by rw[qL,me a b k];simp[lG]
theorem t238(c:Nat)(a b n:Nat)(l:List cU)(hL:l.length<small)(ha:a+n≤l.length)(hb:b+n≤l.length)(w:Nat)(hw:∀ r∈l.map aS,r.length=w):
  gC bu mT Q0 pT Dg Dg.body ⟨[(0,.own .a w (l.map aS)),(1,.int .i64 (a:Int)),(2,.int .i64 (b:Int)),(3,.int .i64 (n:Int)),(4,.func c [] [])],[],0⟩ (D9 w ((qL a b n 0 l).map aS)):=by
 cases l with
 |nil=>
  have hn:n=0:=by simp at ha;omega
  subst hn;simp[uh,M3];rw[ai xA.eq_1];simp[HT,D9,jj,Env.cw,qL]
 |cons s l=>
  have h2:w=2:=(hw (aS s) (by simp)).symm;subst h2;have:=qff a b n (s::l).length hL ha hb _ n 0 (s::l) (by omega) rfl rfl;generalize s::l=l at*;simp[uh,M3];simpa using this
theorem qkQ{C:Nat→Option cq}(T:lQ C mT bu Q0 pT):xU (dz C mT) 238 Fa:=by
 refine yp T (T.code 238 Dg rfl) rfl ?_;intro xs rest ys w hh hw;unfold Fa at hh;split at hh
 case h_2=>cases hh
 rename_i a b n c;split at hh
 case h_2=>cases hh
 rename_i l hl;obtain⟨hb2,hh3⟩:=aO hh;clear hh;have hx:=ou hl;subst hx;simp only[aI,decide_eq_true_eq]at hb2;obtain⟨⟨⟨⟨⟨h1,h2⟩,h3⟩,h4⟩,h5⟩,h6⟩:=hb2;simp only[ag]at hh3;subst hh3;obtain⟨a,rfl⟩:=qm h1;obtain⟨b,rfl⟩:=qm h2;obtain⟨n,rfl⟩:=qm h3;have ht:=t238 c a b n l h6 (by omega) (by omega) w hw;refine⟨fun u hu=> ?_,(by show 4+1≤38;omega),by simp[me],fun r hr=> ?_,?_,?_⟩
 ·simp at hu;rcases hu with rfl|rfl|rfl|rfl<;>exact⟨rfl,rfl⟩
 ·obtain⟨s,hs,rfl⟩:=cD.1 hr;cases l with
  |nil=>have:=me (Int.toNat a) (Int.toNat b) (Int.toNat n) 0 [];have h0:=fT this;rw[h0]at hs;cases hs
  |cons s l=>exact hw (aS s) (by simp)
 ·exact kZ _
 ·exact ht
def Q1:nu:=⟨fun f=>bif f==238 then some Fa else none,fun _=>none,fun _=>false,fun _=>none⟩
@[simp] theorem qkk(f:Nat):Q1.q f=bif f==238 then some Fa else none:=rfl
@[simp] theorem qki(f:Nat):Q1.app f=none:=rfl
@[simp] theorem qlU(f:Nat):Q1.ld f=false:=rfl
@[simp] theorem qkj(f:Nat):Q1.KT f=none:=rfl
theorem qiT{C:Nat→Option cq}(T:lQ C mT bu Q0 pT):lQ C mT bu Q1 pT:=
 ⟨T.code,⟨fun f q h=>(by
  rw[qkk]at h;cases hf:f==238 with
  |true=>
   rw[hf]at h;simp only[cond_true,ag]at h;subst h;have:f=238:=by simpa using hf
   subst this;exact qkQ T
  |false=>rw[hf]at h;cases h),fun f q h=>(by cases h),fun f q h=>(by cases h)⟩,T.Jx⟩
theorem Cz(c:Nat)(a b n:Nat)(l:List cU)(hL:l.length<small)(ha:a+n≤l.length)(hb:b+n≤l.length):Fa (l.map aS) [.int .i64 (a:Int),.int .i64 (b:Int),.int .i64 (n:Int),.func c [] []]=some ((qL a b n 0 l).map aS):=by
 have h1:decide ((0:Int)≤(a:Int))=true:=decide_eq_true (by omega);have h2:decide ((0:Int)≤(b:Int))=true:=decide_eq_true (by omega);have h3:decide ((0:Int)≤(n:Int))=true:=decide_eq_true (by omega);have h4:decide ((a:Int)+(n:Int)≤(l.length:Int))=true:=decide_eq_true (by omega);have h5:decide ((b:Int)+(n:Int)≤(l.length:Int))=true:=decide_eq_true (by omega);have h6:decide (l.length<small)=true:=decide_eq_true hL;simp only[Fa,pZ,h1,h2,h3,h4,h5,h6,jh,cond_true];rfl
end Go.RE
namespace Go.RE
theorem CA(a b:Nat):∀ (k i:Nat) (l:List cU),qL a b k (i+1) l=qL (a+1) (b+1) k i l
 |0,_,_=>rfl
 |k+1,i,l=>by
  rw[qL,qL,CA a b k (i+1)];rw[show a+(i+1)=a+1+i by omega,show b+(i+1)=b+1+i by omega]
theorem Od{α:Type}(P Q:List α)(z z' :α)(n:Nat)(hn:n=P.length):(P++z::Q).set n z' =P++z' ::Q:=by
 subst hn;simp
theorem NJ{α:Type}(P Q:List α)(z:α)(n:Nat)(hn:n=P.length):(P++z::Q)[n]? =some z:=by
 subst hn;simp
theorem L8(A M Q:List cU)(x y:cU)(i j:Nat)(hi:i=A.length)(hj:j=A.length+1+M.length):lG (A++x::(M++y::Q)) i j=A++y::(M++x::Q):=by
 have g1:=NJ A (M++y::Q) x i hi;have e:A++x::(M++y::Q)=(A++x::M)++y::Q:=by simp
 have g2:(A++x::(M++y::Q))[j]? =some y:=by rw[e];exact NJ _ _ _ _ (by simp;omega)
 unfold lG;rw[g1,g2,rB,rB,Od A _ x y i hi];have e2:A++y::(M++y::Q)=(A++y::M)++y::Q:=by simp
 rw[e2,Od _ _ y x j (by simp;omega)];simp
theorem qM:∀ (n:Nat) (A X B Y C:List cU) (a b:Nat),X.length=n→Y.length=n→a=A.length→b=A.length+X.length+B.length→
  qL a b n 0 (A++X++B++Y++C)=A++Y++B++X++C
 |0,A,X,B,Y,C,a,b,hx,hy,_,_=>by
  have h1:=fT hx;have h2:=fT hy;subst h1;subst h2;rfl
 |n+1,A,[],B,Y,C,a,b,hx,hy,_,_=>by simp at hx
 |n+1,A,x::X,B,[],C,a,b,hx,hy,_,_=>by simp at hy
 |n+1,A,x::X,B,y::Y,C,a,b,hx,hy,ha,hb=>by
  have e:A++x::X++B++y::Y++C=A++x::((X++B)++y::(Y++C)):=by simp
  rw[qL,e,L8 A (X++B) (Y++C) x y (a+0) (b+0) (by omega) (by simp at hb⊢;omega),CA];have ih:=qM n (A++[y]) X (B++[x]) Y C (a+1) (b+1) (by simpa using hx) (by simpa using hy) (by simp;omega) (by simp at hb⊢;omega);have e2:A++y::(X++B++x::(Y++C))=A++[y]++X++(B++[x])++Y++C:=by simp
  rw[e2,ih];simp
def Cm:Nat→Nat→Nat→Nat→List cU→List cU
 |0,_,_,_,l=>l
 |f+1,m,i,j,l=>if i=j then qL (m - i) m i 0 l else if j<i then Cm f m (i - j) j (qL (m - i) m j 0 l)else Cm f m i (j - i) (qL (m - i) (m+j - i) i 0 l)
theorem Gu:∀ (f m i j:Nat) (A X Y C:List cU),0<i→0<j→i+j≤f→X.length=i→Y.length=j→A.length+i=m→Cm f m i j (A++X++Y++C)=A++Y++X++C
 |0,m,i,j,A,X,Y,C,hi,hj,hf,hx,hy,hm=>by omega
 |f+1,m,i,j,A,X,Y,C,hi,hj,hf,hx,hy,hm=>by
  unfold Cm;by_cases h1:i=j
  ·rw[if_pos h1];have:=qM i A X [] Y C (m - i) m hx (by omega) (by omega) (by simp;omega);simpa using this
  ·rw[if_neg h1];by_cases h2:j<i
   ·rw[if_pos h2];have e:X=X.take j++X.drop j:=(s9 j X).symm;have l1:(X.take j).length=j:=by simp;omega
    have l2:(X.drop j).length=i - j:=by simp;omega
    generalize X.take j=X1 at*;generalize X.drop j=X2 at*;subst e;have s1:=qM j A X1 X2 Y C (m - i) m l1 hy (by omega) (by omega);have e1:A++(X1++X2)++Y++C=A++X1++X2++Y++C:=by simp
    rw[e1,s1];have ih:=Gu f m (i - j) j (A++Y) X2 X1 C (by omega) hj (by omega) l2 l1 (by simp;omega);rw[ih];simp
   ·rw[if_neg h2];have e:Y=Y.take (j - i)++Y.drop (j - i):=(s9 (j - i) Y).symm;have l1:(Y.take (j - i)).length=j - i:=by simp;omega
    have l2:(Y.drop (j - i)).length=i:=by simp;omega
    generalize Y.take (j - i)=Y1 at*;generalize Y.drop (j - i)=Y2 at*;subst e;have s1:=qM i A X Y1 Y2 C (m - i) (m+j - i) hx l2 (by omega) (by omega);have e1:A++X++(Y1++Y2)++C=A++X++Y1++Y2++C:=by simp
    rw[e1,s1];have e2:A++Y2++Y1++X++C=A++Y2++Y1++(X++C):=by simp
    rw[e2];have ih:=Gu f m i (j - i) A Y2 Y1 (X++C) hi (by omega) (by omega) l2 l1 hm;rw[ih];simp
end Go.RE
namespace Go.RE
theorem qfe(c m L:Nat)(hL:L<small)(R:List cU):∀ (f i j:Nat) (l:List cU),l.length=L→0<i→0<j→i+j≤f→i≤m→m+j≤L→Cm f m i j l=R→
  gL bu mT Q1 pT Ao 0 HS 0 ⟨[(11,.int .i64 (j:Int)),(10,.int .i64 (i:Int)),(4,.func c [] []),(2,.int .i64 (m:Int)),(0,.own .a 2 (l.map aS))],[],0⟩ (gV bu mT Q1 pT Ao (.region M1) (D9 2 (R.map aS))):=by
 intro f
 induction f with
 |zero=>intro i j l hl hi hj hf;omega
 |succ f ih=>
  intro i j l hl hi hj hf him hmj hR;unfold Cm at hR;have e1:aK .i64 ((m:Int) - (i:Int))=((m - i:Nat):Int):=by rw[dG (by omega) (by unfold small at hL;omega)];omega
  rw[ai HS.eq_1];by_cases h1:i=j
  ·subst h1;rw[if_pos rfl]at hR;have c1:=Cz c (m - i) m i l (by omega) (by omega) (by omega);simp[HR,M1,e1,c1,jj,vD,Env.cw,Env.fK,U.fK,D9,hR]
  ·rw[if_neg h1]at hR;have h1' :¬((i:Int)=(j:Int)):=by omega
   by_cases h2:j<i
   ·rw[if_pos h2]at hR;have h2' :(j:Int)<(i:Int):=by omega
    have c1:=Cz c (m - i) m j l (by omega) (by omega) (by omega);have e2:aK .i64 ((i:Int) - (j:Int))=((i - j:Nat):Int):=by rw[dG (by omega) (by unfold small at hL;omega)];omega
    have ih' :=ih (i - j) j _ (by rw[me];exact hl) (by omega) hj (by omega) (by omega) hmj hR;simp[HR,M0,W0,W1,e1,e2,c1,h1',h2',jj,vD,Env.cw,Env.fK,U.fK];simpa using ih'
   ·rw[if_neg h2]at hR;have h2' :¬((j:Int)<(i:Int)):=by omega
    have c1:=Cz c (m - i) (m+j - i) i l (by omega) (by omega) (by omega);have e2:aK .i64 ((j:Int) - (i:Int))=((j - i:Nat):Int):=by rw[dG (by omega) (by unfold small at hL;omega)];omega
    have e3:aK .i64 ((m:Int)+(j:Int))=((m+j:Nat):Int):=by rw[dG (by omega) (by unfold small at hL;omega)];omega
    have e4:aK .i64 (((m:Int)+(j:Int)) - (i:Int))=((m+j - i:Nat):Int):=by rw[dG (by omega) (by unfold small at hL;omega)];omega
    have ih' :=ih i (j - i) _ (by rw[me];exact hl) hi (by omega) (by omega) him (by omega) hR;simp[HR,M0,W2,W3,e1,e2,e3,e4,c1,h1',h2',jj,vD,Env.cw,Env.fK,U.fK];simpa using ih'
theorem t237(c a m b:Nat)(l:List cU)(hL:l.length<small)(ham:a<m)(hmb:m<b)(hb:b≤l.length):
  gC bu mT Q1 pT Ao Ao.body ⟨[(0,.own .a 2 (l.map aS)),(1,.int .i64 (a:Int)),(2,.int .i64 (m:Int)),(3,.int .i64 (b:Int)),(4,.func c [] [])],[],0⟩ (D9 2 ((Cm (b - a) m (m - a) (b - m) l).map aS)):=by
 have e1:aK .i64 ((m:Int) - (a:Int))=((m - a:Nat):Int):=by rw[dG (by omega) (by unfold small at hL;omega)];omega
 have e2:aK .i64 ((b:Int) - (m:Int))=((b - m:Nat):Int):=by rw[dG (by omega) (by unfold small at hL;omega)];omega
 have:=qfe c m l.length hL _ (b - a) (m - a) (b - m) l rfl (by omega) (by omega) (by omega) (by omega) (by omega) rfl;simp[zp,WY,WZ,e1,e2];simpa using this
theorem Cn:∀ (f m i j:Nat) (l:List cU),(Cm f m i j l).length=l.length
 |0,_,_,_,_=>rfl
 |f+1,m,i,j,l=>by
  unfold Cm;by_cases h1:i=j
  ·rw[if_pos h1,me]
  ·rw[if_neg h1];by_cases h2:j<i
   ·rw[if_pos h2,Cn f,me]
   ·rw[if_neg h2,Cn f,me]
def LX(xs:List (List U))(rest:List U):Option (List (List U)):=
 match rest with
 |[.int .i64 a,.int .i64 m,.int .i64 b,.func _ [] []]=>match Am xs with
  |some l=>bif decide (0≤a)&&decide (a<m)&&decide (m<b)&&decide (b≤l.length)&&decide (l.length<small)then some ((Cm (b.toNat - a.toNat) m.toNat (m.toNat - a.toNat) (b.toNat - m.toNat) l).map aS)else none
  |none=>none
 |_=>none
theorem qkP{C:Nat→Option cq}(T:lQ C mT bu Q0 pT):xU (dz C mT) 237 LX:=by
 refine yp (qiT T) (T.code 237 Ao rfl) rfl ?_;intro xs rest ys w hh hw;unfold LX at hh;split at hh
 case h_2=>cases hh
 rename_i a m b c;split at hh
 case h_2=>cases hh
 rename_i l hl;obtain⟨hb2,hh3⟩:=aO hh;clear hh;have hx:=ou hl;subst hx;simp only[aI,decide_eq_true_eq]at hb2;obtain⟨⟨⟨⟨h1,h2⟩,h3⟩,h4⟩,h5⟩:=hb2;simp only[ag]at hh3;subst hh3;obtain⟨a,rfl⟩:=qm h1;obtain⟨m,rfl⟩:=qm (show 0≤m by omega);obtain⟨b,rfl⟩:=qm (show 0≤b by omega);have hw2:w=2:=by
  cases l with
  |nil=>simp at h4;omega
  |cons s l=>exact(hw (aS s) (by simp)).symm
 subst hw2;have ht:=t237 c a m b l h5 (by omega) (by omega) (by omega);refine⟨fun u hu=> ?_,(by show 4+1≤58;omega),by simp[Cn],fun r hr=> ?_,?_,?_⟩
 ·simp at hu;rcases hu with rfl|rfl|rfl|rfl<;>exact⟨rfl,rfl⟩
 ·obtain⟨s,hs,rfl⟩:=cD.1 hr;rfl
 ·exact kZ _
 ·exact ht
end Go.RE
namespace Go.RE
theorem t192{Q:nu}(h1:Q.q 83=none)(h2:Q.app 83=none)(h3:Q.KT 83=none)(h4:Q.ld 83=false)(x y:cU):gF bu mT Q pT 192 [.agg [.str x.1,.str x.2],.agg [.str y.1,.str y.2]] [] 0=some (.int .i64 (oZ x.1 y.1),[],0):=by
 have c:gF bu mT Q pT 83 [.str x.1,.str y.1] [] 0=some (.int .i64 (oZ x.1 y.1),[],0):=Au (p:=Zh) rfl;refine IX (fn:=V8) rfl rfl rfl ?_;simp[ze,V9,Wa,c,h1,h2,h3,h4]
theorem Iv(a j:Nat)(l:List cU)(h:(decide (a<j+1)&&bg (l[j+1]?.getD default) (l[j]?.getD default))=false):xX bg a (j+1) l=l:=by
 rw[xX,h,cond_false]
theorem qdj(a j:Nat)(l:List cU)(h:(decide (a<j+1)&&bg (l[j+1]?.getD default) (l[j]?.getD default))=true):xX bg a (j+1) l=xX bg a j (lG l (j+1) j):=by
 rw[xX,h,cond_true]
theorem qe7(a b i L:Nat)(hL:L<small)(K:Ex→Vs→Prop)(R:List cU)
  (hK:K .normal ⟨[(0,.own .a 2 (R.map aS)),(1,.int .i64 (a:Int)),(3,.func 192 [] []),(2,.int .i64 (b:Int)),(8,.int .i64 (i:Int))],[],0⟩):∀ (j:Nat) (l:List cU),l.length=L→j<L→xX bg a j l=R→
  gL bu mT Q0 pT v233 2 Be 0 ⟨[(9,.int .i64 (j:Int)),(0,.own .a 2 (l.map aS)),(1,.int .i64 (a:Int)),(3,.func 192 [] []),(2,.int .i64 (b:Int)),(8,.int .i64 (i:Int))],[],0⟩ K:=by
 intro j
 induction j with
 |zero=>
  intro l hl hj hR;rw[xX]at hR;subst hR;have h1:¬((a:Int)<0):=by omega
  rw[ai Be.eq_1];simp[az Bd,uf,h1]at hK⊢;simpa using hK
 |succ j ih=>
  intro l hl hj hR;obtain⟨p,hp⟩:∃ p,p=j+1:=⟨_,rfl⟩;have e1:aK .i64 ((p:Int) - 1)=(j:Int):=by rw[dG (by omega) (by unfold small at hL;omega)];omega
  have hpl:p<l.length:=by omega
  have hjl:j<l.length:=by omega
  obtain⟨⟨s1,s2⟩,gp⟩:∃ r,l[p]? =some r:=⟨_,aQ hpl⟩;obtain⟨⟨u1,u2⟩,gq⟩:∃ r,l[j]? =some r:=⟨_,aQ hjl⟩;have gp' :(l.map aS)[p]? =some [.str s1,.str s2]:=by rw[gE,gp];rfl
  have gq' :(l.map aS)[j]? =some [.str u1,.str u2]:=by rw[gE,gq];rfl
  have ip:∀ s',rF s' 2 (some (.own .a 2 (l.map aS))) (some (.int .i64 (p:Int)))=some (.bI .a p 0,s'):=fun s' =>c9 (by simpa using hpl);have ij:∀ s',rF s' 2 (some (.own .a 2 (l.map aS))) (some (.int .i64 (j:Int)))=some (.bI .a j 0,s'):=fun s' =>c9 (by simpa using hjl);have ij2:∀ (r:List U) s',rF s' 2 (some (.own .a 2 ((l.map aS).set p r))) (some (.int .i64 (j:Int)))=some (.bI .a j 0,s'):=fun r s' =>c9 (by simp;exact hjl);have c:=t192 (Q:=Q0) rfl rfl rfl rfl (s1,s2) (u1,u2);rw[ai Be.eq_1,←hp];cases ha:decide (a<p)with
  |false=>
   rw[Iv a j l (by rw[←hp,ha];rfl)]at hR;subst hR;simp[az Bd,uf,ha]at hK⊢;simpa using hK
  |true=>
   cases hlt:lt s1 u1 with
   |false=>
    rw[Iv a j l (by rw[←hp,ha,gp,gq];exact hlt)]at hR;subst hR;generalize l.map aS=X at*;simp[az Bd,uf,ha,ip,ij,gp',gq',e1,c,hlt,jj,Env.cw,bF]at hK⊢;simpa using hK
   |true=>
    rw[qdj a j l (by rw[←hp,ha,gp,gq];exact hlt),←hp]at hR;have ih' :=ih (lG l p j) (by simp[lG,hl]) (by omega) hR;have g3:((l.map aS).set p [.str u1,.str u2])[j]? =some [.str u1,.str u2]:=by
     rw[b9,if_neg (by omega),gq']
    simp only[lG,gp,gq,rB,PY,aS]at ih';generalize l.map aS=X at*;simp[az Bd,uf,WN,az qax,HA,ha,ip,ij,ij2,gp',gq',g3,e1,c,hlt,jj,Env.cw,vD,Env.fK,U.fK,bF];simpa using ih'
theorem Bw(a:Nat):∀ (j:Nat) (l:List cU),(xX bg a j l).length=l.length
 |0,_=>rfl
 |j+1,l=>by
  unfold xX;cases decide (a<j+1)&&bg (l[j+1]?.getD default) (l[j]?.getD default)with
  |true=>rw[cond_true,Bw a j];simp[lG]
  |false=>rfl
theorem I4(a:Nat):∀ (k i:Nat) (l:List cU),(D8 bg a k i l).length=l.length
 |0,_,_=>rfl
 |k+1,i,l=>by unfold D8;rw[I4 a k,Bw]
theorem qe8(a b L:Nat)(hL:L<small)(hb:b≤L)(R:List cU):∀ (k i:Nat) (l:List cU),l.length=L→b - i=k→i≤L+1→D8 bg a k i l=R→
  gL bu mT Q0 pT v233 0 xg 0 ⟨[(0,.own .a 2 (l.map aS)),(8,.int .i64 (i:Int)),(1,.int .i64 (a:Int)),(3,.func 192 [] []),(2,.int .i64 (b:Int))],[],0⟩ (D9 2 (R.map aS)):=by
 intro k
 induction k with
 |zero=>
  intro i l hl hik hi hR;have h1:¬((i:Int)<(b:Int)):=by omega
  rw[D8]at hR;subst hR;rw[ai xg.eq_1];simp[Hz,h1,D9,jj,Env.cw]
 |succ k ih=>
  intro i l hl hik hi hR;have h1:(i:Int)<(b:Int):=by omega
  rw[D8]at hR;have e1:aK .i64 ((i:Int)+1)=((i+1:Nat):Int):=by rw[dG (by omega) (by unfold small at hL;omega)];omega
  have ih' :=ih (i+1) _ (by rw[Bw];exact hl) (by omega) (by omega) hR;rw[ai xg.eq_1];simp[Hz,WK,h1];refine qe7 a b i L hL _ _ ?_ i l hl (by omega) rfl;simp[WO,e1];simpa using ih'
theorem rX(l:List cU)(a b:Nat):(jB bg l a b).length=l.length:=I4 _ _ _ _
theorem t233(a b:Nat)(l:List cU)(hL:l.length<small)(hab:a≤b)(hb:b≤l.length)(w:Nat)(hw:∀ r∈l.map aS,r.length=w):
  gC bu mT Q0 pT v233 v233.body ⟨[(0,.own .a w (l.map aS)),(1,.int .i64 (a:Int)),(2,.int .i64 (b:Int)),(3,.func 192 [] [])],[],0⟩ (D9 w ((jB bg l a b).map aS)):=by
 have e1:aK .i64 ((a:Int)+1)=((a+1:Nat):Int):=by rw[dG (by omega) (by unfold small at hL;omega)];omega
 cases l with
 |nil=>
  have hn:b=0:=by simpa using hb
  have ha:a=0:=by omega
  subst hn;subst ha;have e1:aK .i64 1=1:=rfl;simp[ug,MY,e1];rw[ai xg.eq_1];simp[Hz,D9,jj,Env.cw,jB,D8]
 |cons s l=>
  have h2:w=2:=(hw (aS s) (by simp)).symm;subst h2;have:=qe8 a b (s::l).length hL hb _ (b - (a+1)) (a+1) (s::l) rfl rfl (by omega) rfl;unfold jB;generalize s::l=l at*;simp[ug,MY,e1];simpa using this
def tE(xs:List (List U))(rest:List U):Option (List (List U)):=
 match rest with
 |[.int .i64 a,.int .i64 b,.func 192 [] []]=>match Am xs with
  |some l=>bif decide (0≤a)&&decide (a≤b)&&decide (b≤l.length)&&decide (l.length<small)then some ((jB bg l a.toNat b.toNat).map aS)else none
  |none=>none
 |_=>none
theorem u6(a b:Nat)(l:List cU)(hL:l.length<small)(hab:a≤b)(hb:b≤l.length):tE (l.map aS) [.int .i64 (a:Int),.int .i64 (b:Int),.func 192 [] []]=some ((jB bg l a b).map aS):=by
 have h1:decide ((0:Int)≤(a:Int))=true:=decide_eq_true (by omega);have h2:decide ((a:Int)≤(b:Int))=true:=decide_eq_true (by omega);have h3:decide ((b:Int)≤(l.length:Int))=true:=decide_eq_true (by omega);have h6:decide (l.length<small)=true:=decide_eq_true hL;simp only[tE,pZ,h1,h2,h3,h6,jh,cond_true];rfl
theorem qkN{C:Nat→Option cq}(T:lQ C mT bu Q0 pT):xU (dz C mT) 233 tE:=by
 refine yp T (T.code 233 v233 rfl) rfl ?_;intro xs rest ys w hh hw;unfold tE at hh;split at hh
 case h_2=>cases hh
 rename_i a b;split at hh
 case h_2=>cases hh
 rename_i l hl;obtain⟨hb2,hh3⟩:=aO hh;clear hh;have hx:=ou hl;subst hx;simp only[aI,decide_eq_true_eq]at hb2;obtain⟨⟨⟨h1,h2⟩,h3⟩,h4⟩:=hb2;simp only[ag]at hh3;subst hh3;obtain⟨a,rfl⟩:=qm h1;obtain⟨b,rfl⟩:=qm (show 0≤b by omega);have ht:=t233 a b l h4 (by omega) (by omega) w hw;refine⟨fun u hu=> ?_,(by show 3+1≤53;omega),by simp[rX],fun r hr=> ?_,?_,?_⟩
 ·simp at hu;rcases hu with rfl|rfl|rfl<;>exact⟨rfl,rfl⟩
 ·obtain⟨s,hs,rfl⟩:=cD.1 hr;cases l with
  |nil=>have:=rX [] a b;have h0:=fT this;simp only[s7]at hs;rw[h0]at hs;cases hs
  |cons s l=>exact hw (aS s) (by simp)
 ·exact kZ _
 ·exact ht
end Go.RE
