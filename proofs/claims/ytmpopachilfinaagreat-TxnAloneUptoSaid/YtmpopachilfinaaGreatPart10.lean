/- A part of a proof. -/
import Derived.Test.YtmpopachilfinaaGreatPart9
import Derived.Lib.Bytealg
import Derived.Sort.Walk0
set_option linter.unusedVariables false
set_option linter.unusedSimpArgs false
set_option linter.unnecessarySimpa false
set_option linter.constructorNameAsVariable false
namespace Go.RE
section
variable{α:Type}[Inhabited α](less:α→α→Bool)
def kL(l:List α)(i j:Nat):List α:=(l.set i (l[j]?.getD default)).set j (l[i]?.getD default)
def wg(a:Nat):Nat→List α→List α
 |0,l=>l
 |j+1,l=>bif decide (a<j+1)&&less (l[j+1]?.getD default) (l[j]?.getD default)then wg a j (kL l (j+1) j)else l
def CG(a:Nat):Nat→Nat→List α→List α
 |0,_,l=>l
 |k+1,i,l=>CG a k (i+1) (wg less a i l)
def iZ(l:List α)(a b:Nat):List α:=CG less a (b - (a+1)) (a+1) l
def sU(p:Nat→Bool):Nat→Nat→Nat→Nat
 |0,i,_=>i
 |f+1,i,j=>bif decide (i<j)then(bif p ((i+j) / 2)then sU p f ((i+j) / 2+1) j else sU p f i ((i+j) / 2))else i
def pN(l:List α)(a m b:Nat):List α:=l.take a++(l.drop m).take (b - m)++(l.drop a).take (m - a)++l.drop b
def lP:Nat→List α→Nat→Nat→Nat→List α
 |0,l,_,_,_=>l
 |f+1,l,a,m,b=>
  bif decide (m - a=1)then pN l a m (sU (fun h=>less (l[h]?.getD default) (l[a]?.getD default)) (b - m) m b)
  else bif decide (b - m=1)then pN l (sU (fun h=> !less (l[m]?.getD default) (l[h]?.getD default)) (m - a) a m) m b
  else
   let mid:=(a+b) / 2;let n:=mid+m;let s0:=bif decide (mid<m)then n - b else a
   let r0:=bif decide (mid<m)then mid else m
   let s:=sU (fun c=> !less (l[n - 1 - c]?.getD default) (l[c]?.getD default)) (r0 - s0) s0 r0;let e:=n - s;let l1:=bif decide (s<m)&&decide (m<e)then pN l s m e else l
   let l2:=bif decide (a<s)&&decide (s<mid)then lP f l1 a s mid else l1
   bif decide (mid<e)&&decide (e<b)then lP f l2 mid e b else l2
def qD(n:Nat):Nat→Nat→List α→List α
 |0,a,l=>iZ less l a n
 |f+1,a,l=>bif decide (a+20≤n)then qD n f (a+20) (iZ less l a (a+20))else iZ less l a n
def s6(n bs:Nat):Nat→Nat→List α→List α
 |0,_,l=>l
 |f+1,a,l=>bif decide (a+2*bs≤n)then s6 n bs f (a+2*bs) (lP less (2*bs) l a (a+bs) (a+2*bs))
   else bif decide (a+bs<n)then lP less n l a (a+bs) n else l
def pM(n:Nat):Nat→Nat→List α→List α
 |0,_,l=>l
 |f+1,bs,l=>bif decide (bs<n)then pM n f (bs*2) (s6 less n bs n 0 l)else l
def ze(l:List α):List α:=pM less l.length l.length 20 (qD less l.length l.length 0 l)
end
end Go.RE
namespace Go.RE
abbrev lt(a b:By):Bool:=Op.bytesLess a b
def small:Nat:=1000000000
def iP(w:Nat)(xs:List (List U)):Bool:=xs.all fun r=>r.all U.aJ&&U.bW 0 r&&Nat.beq r.length w
abbrev Prm:=List U→List Uo→Nat→Option (U×List Uo×Nat)
def o7(w0:Nat):Prm:=fun us h fl=>match us with
 |[.sl w xs]=>bif Nat.beq w w0&&Nat.ble (xs.length*200) aZ&&iP w xs then some (.own .r w xs,h,fl)else none
 |_=>none
def Ny(f:Nat):Nat:=bif f==61 then 7 else bif f==62 then 2 else bif f==97 then 6 else 1
def oc(a b:By):Int:=bif lt a b then -1 else bif a==b then 0 else 1
def Wk:Prm:=fun us h fl=>match us with
 |[.str a,.str b]=>some (.int .i64 (oc a b),h,fl)
 |_=>none
def ur(f:Nat):Bool:=f==58||f==61||f==62||f==97||f==135||f==194
def pT:Nat→Option Prm:=fun f=>bif ur f then some (o7 (Ny f))else bif f==83 then some Wk else none
def mT:oV:=fun _ _=>none
def pP:List U→Option By
 | .str k::_=>some k
 |_=>none
def kj:List (List U)→Option (List By)
 |[]=>some []
 |x::r=>match pP x,kj r with
  |some k,some l=>some (k::l)
  |_,_=>none
def L2(x y:List U):Bool:=match pP x,pP y with
 |some a,some b=>lt a b
 |_,_=>false
def He(a:List U):List (List U)→List (List U)
 |[]=>[a]
 |b::l=>bif L2 b a then b::He a l else a::b::l
def H8(xs:List (List U)):List (List U):=xs.foldr He []
def kg(k:Nat):List U→Bool
 |[.str _,.sl _ _]=>Nat.beq k 2
 |[.str _,.bool _,.sl _ _]=>Nat.beq k 3
 |_=>false
def oq(k c:Nat)(xs:List (List U))(rest:List U):Option (List (List U)):=
 match rest with
 |[.func g [] []]=>bif Nat.beq g c&&Nat.blt xs.length 4611686018427387904&&xs.all (kg k)then(match kj xs with
  |some l=>if l.Nodup then some (H8 xs)else none
  |none=>none)else none
 |_=>none
def NO(xs:List (List U))(rest:List U):Option (List (List U)):=
 match rest with
 |[.int .i64 n,.own (.t _) 1 [[.str k]]]=>bif decide (0≤n)&&Nat.ble n.toNat xs.length&&Nat.blt xs.length 1000000000&&(kj xs).isSome&&iP 1 xs then some (xs.take n.toNat++[[.str k]]++xs.drop n.toNat)else none
 |_=>none
abbrev cD:=By×By
def aP(s:cD):List U:=[.str s.1,.str s.2]
def yK:List (List U)→Option (List cD)
 |[]=>some []
 |[.str a,.str b]::r=>match yK r with
  |some l=>some ((a,b)::l)
  |none=>none
 |_=>none
def aY(x y:cD):Bool:=lt x.1 y.1
def qk(l:List cD):List cD:=ze aY l
def r9(xs:List (List U))(rest:List U):Option (List (List U)):=
 match rest with
 |[.func 192 [] []]=>bif Nat.blt xs.length 1000000000 then(match yK xs with|some l=>some ((qk l).map aP)|none=>none)else none
 |_=>none
def ldF(f:Nat):Bool:=f==27||f==77
structure Rc where
 first:Nat
 last:Nat
 began:Nat
 out:Nat
 reads:List cD
 writes:List cD
deriving Inhabited,DecidableEq
def recC(r:Rc):List U:=[.int .u64 r.first,.int .u64 r.last,.int .u64 r.began,.int .u64 r.out,.sl 2 (r.reads.map aP),.sl 2 (r.writes.map aP)]
def fJ(r:Rc):Prop:=r.reads.length<small / 8∧r.writes.length<small / 8
theorem EF:∀ {a b:List cD},a.map aP=b.map aP→a=b
 |[],[],_=>rfl
 |[],_::_,h=>by simp at h
 |_::_,[],h=>by simp at h
 |(x1,x2)::a,(y1,y2)::b,h=>by
  simp only[List.map_cons,List.cons.injEq,aP,U.str.injEq,and_true]at h;rw[EF h.2,h.1.1,h.1.2]
theorem HI:∀ {a b:List Rc},a.map recC=b.map recC→a=b
 |[],[],_=>rfl
 |[],_::_,h=>by simp at h
 |_::_,[],h=>by simp at h
 |⟨x1,x2,x3,x4,x5,x6⟩::a,⟨y1,y2,y3,y4,y5,y6⟩::b,h=>by
  simp only[List.map_cons,List.cons.injEq,recC,U.int.injEq,U.sl.injEq,and_true,true_and,Int.ofNat_inj]at h;obtain⟨⟨h1,h2,h3,h4,h5,h6⟩,h7⟩:=h;rw[HI h7,EF h5,EF h6,h1,h2,h3,h4]
noncomputable def pz(xs:List (List U))(rest:List U):Option (Nat×List (List U)):=open Classical in
 if h:∃ p:List Rc×Nat,xs=p.1.map recC∧rest=[.int .u64 (p.2:Int)]∧p.1.length<100000000∧∀ r∈p.1,fJ r then
  some (6,(h.choose.1.filter fun r=>decide (h.choose.2<r.last)).map recC)else none
theorem AF(l:List Rc)(low:Nat)(hl:l.length<100000000)(hok:∀ r∈l,fJ r):pz (l.map recC) [.int .u64 (low:Int)]=some (6,(l.filter fun r=>decide (low<r.last)).map recC):=by
 have hex:∃ p:List Rc×Nat,l.map recC=p.1.map recC∧[U.int .u64 (low:Int)]=[.int .u64 (p.2:Int)]∧p.1.length<100000000∧∀ r∈p.1,fJ r:=⟨(l,low),rfl,rfl,hl,hok⟩;unfold pz;rw[dif_pos hex];obtain⟨a,b,_⟩:=hex.choose_spec;have e1:=HI a;have e2:(low:Int)=(hex.choose.2:Int):=by simpa using b
 have e3:hex.choose=(l,low):=Prod.ext e1.symm (by show hex.choose.2=low;omega);rw[e3]
theorem Ec{xs:List (List U)}{rest:List U}{w:Nat}{ys:List (List U)}(h:pz xs rest=some (w,ys)):∃ (l:List Rc) (low:Nat),xs=l.map recC∧rest=[.int .u64 (low:Int)]∧l.length<100000000∧(∀ r∈l,fJ r)∧w=6∧ys=(l.filter fun r=>decide (low<r.last)).map recC:=by
 by_cases hex:∃ p:List Rc×Nat,xs=p.1.map recC∧rest=[.int .u64 (p.2:Int)]∧p.1.length<100000000∧∀ r∈p.1,fJ r
 ·obtain⟨⟨l,low⟩,h1,h2,hl,hok⟩:=hex;dsimp only at h1 h2 hl hok;subst h1;subst h2;rw[AF l low hl hok]at h;simp only[ai,aL]at h;exact⟨l,low,rfl,rfl,hl,hok,h.1.symm,h.2.symm⟩
 ·unfold pz at h;rw[dif_neg hex]at h;cases h
def tf(w0 w:Nat)(xs:List (List U))(rest:List U):Option (Nat×List (List U)):=
 match rest with
 |[]=>bif Nat.beq w w0&&Nat.ble (xs.length*200) aZ&&iP w0 xs then some (w0,xs)else none
 |_=>none
noncomputable def GC:Nat→Option (Nat→List (List U)→List U→Option (Nat×List (List U))):=fun f=>bif f==66 then some fun _=>pz else bif f==61 then some (tf 7)else none
noncomputable def qT:mE:=⟨fun f=>bif f==81 then some (oq 2 82)else bif f==115 then some (oq 3 116)else bif f==191 then some r9 else none,fun f=>bif f==145 then some NO else none,ldF,GC⟩
theorem oL(l:List cD):yK (l.map aP)=some l:=by
 induction l with
 |nil=>rfl
 |cons a l ih=>show(match yK (l.map aP)with|some l=>some ((a.1,a.2)::l)|none=>none)=_;rw[ih]
theorem JW(l:List cD)(hl:l.length<small):r9 (l.map aP) [.func 192 [] []]=some ((qk l).map aP):=by
 unfold small at hl;simp[r9,oL,hl]
@[simp] theorem qfc(f:Nat):qT.q f=bif f==81 then some (oq 2 82)else bif f==115 then some (oq 3 116)else bif f==191 then some r9 else none:=rfl
@[simp] theorem Qi(f:Nat):qT.app f=bif f==145 then some NO else none:=rfl
@[simp] theorem qbs(f:Nat):qT.IN f=GC f:=rfl
@[simp] theorem qiT(f:Nat):qT.ld f=ldF f:=rfl
attribute [simp] ldF GC
noncomputable abbrev G:=gF bq mT qT pT
theorem bJ{fn:az}{f:Nat}{us:List U}{h:List Uo}{fl:Nat}{R:U×List Uo×Nat}(hp:pT f=none)(hf:bq f=some fn)(ha:Nat.ble us.length fn.ntmps=true)(hR:gC bq mT qT pT fn fn.body ⟨lT us 0,h,fl⟩ (kE h.length fn R)):G f us h fl=some R:=G3 hp hf ha hR
theorem gQ{f:Nat}(hf:ur f=true){w:Nat}{xs:List (List U)}(h:List Uo)(fl:Nat)(hl:xs.length<small)(hx:iP w xs=true)(hw:Nat.beq w (Ny f)=true:=by rfl):G f [.sl w xs] h fl=some (.own .r w xs,h,fl):=by
 have hp:pT f=some (o7 (Ny f)):=by unfold pT;rw[hf];rfl
 show gF bq mT qT pT f _ _ _=_;rw[yQ hp];have:Nat.ble (xs.length*200) aZ=true:=ou (by unfold small at hl;unfold aZ;omega);simp only[o7,this,hx,hw,Bool.and_self,cond_true]
@[simp] theorem qaw(a b:By):decide (oc a b<0)=lt a b:=by
 unfold oc;cases lt a b with
 |true=>rfl
 |false=>cases a==b<;>rfl
structure jB where
 At:Nat
 qp:Bool
 Data:By
deriving Inhabited,DecidableEq
def bX(v:jB):List U:=[.int .u64 v.At,.bool v.qp,.sl 1 (bQ v.Data)]
@[simp] theorem qbz(w:Nat):iP w []=true:=rfl
theorem nv{α:Type}{w:Nat}{f:α→List U}(hf:∀ a,((f a).all U.aJ&&U.bW 0 (f a)&&Nat.beq (f a).length w)=true)(l:List α):iP w (l.map f)=true:=by
 simp only[iP,List.all_map,jr];intro x _;exact hf x
@[simp] theorem Xg(b:By):iP 1 (bQ b)=true:=nv (fun v=>by simp[Lp]) b
@[simp] theorem kH(l:List cD):iP 2 (l.map aP)=true:=nv (fun v=>by simp[aP]) l
theorem j0(b:By):(bQ b).length=b.length:=by simp[bQ]
def half(n:Nat):Nat:=n / 2
@[simp] theorem qcJ(n:Nat):jG .quo .no (.int .i64 (n:Int)) (.int .i64 2)=some (.int .i64 (aI .i64 (half n:Nat))):=by
 have:(n:Int).tdiv 2=((n / 2:Nat):Int):=by rw[Int.tdiv_eq_ediv_of_nonneg (by omega)];omega
 simp only[jG,jL,this,half];rfl
def msV(d:Nat)(s:Vs)(w bytes:Nat)(zero:List V):Option U→Option U→Option (U×Vs)
 |some l,some c=>(match fK c aZ with
   |some c=>(match fK l c with
    |some l=>bif Nat.ble (c*bytes) aZ&&Nat.beq zero.length w&&U.bW 0 (V.dg zero)&&(V.dg zero).all U.aJ then some (.own (.t d) w (iF (V.dg zero) l),s.kill (.t d))else none
    |none=>none)
   |none=>none)
 |_,_=>none
@[simp] theorem VZ(d:Nat)(s:Vs)(w bytes:Nat)(zero:List V)(len cap:bH):yl d s (.makeSlice w bytes zero len cap)=msV d s w bytes zero (cq s.e len) (cq s.e cap):=by
 simp only[yl];cases cq s.e len with
 |none=>rfl
 |some l=>cases cq s.e cap<;>rfl
theorem JB{d:Nat}{s:Vs}{w bytes:Nat}{zero:List V}{z:Int}(h0:0≤z)(hb:z.toNat*bytes≤aZ∧z.toNat≤aZ)(hz:(Nat.beq zero.length w&&U.bW 0 (V.dg zero)&&(V.dg zero).all U.aJ)=true):
  msV d s w bytes zero (some (.int .i64 0)) (some (.int .i64 z))=some (.own (.t d) w [],s.kill (.t d)):=by
 obtain⟨n,rfl⟩:∃ n:Nat,z=n:=⟨z.toNat,by omega⟩;simp only[Int.toNat_natCast]at hb;have h1:fK (.int .i64 (n:Int)) aZ=some n:=by
  show asNat (.int .i64 (n:Int)) aZ=some n;simp only[asNat];rw[if_pos ⟨Int.natCast_nonneg n,Int.ofNat_le.2 hb.2⟩];rfl
 have h2:fK (.int .i64 0) n=some 0:=by
  show asNat (.int .i64 0) n=some 0;simp only[asNat];rw[if_pos ⟨by decide,Int.natCast_nonneg n⟩];rfl
 simp only[bC]at hz;simp only[msV,h1,h2,ou hb.1,hz.1.1,hz.1.2,hz.2,Bool.and_self,cond_true];rfl
def slM(d w:Nat)(xs:List (List U))(s:Vs)(h l:Nat):Option Nat→Option (U×Vs)
 |some m=>bif Nat.beq m h then(bif Nat.beq m 0 then some (.own (.t d) w [],s.kill (.t d))else some (.sl w ((xs.take h).drop l),s))else none
 |none=>none
@[simp] theorem qfv(d w:Nat)(xs:List (List U))(s:Vs)(h l m:Nat):slM d w xs s h l (some m)=bif Nat.beq m h then(bif Nat.beq m 0 then some (.own (.t d) w [],s.kill (.t d))else some (.sl w ((xs.take h).drop l),s))else none:=rfl
def slL(d w:Nat)(mx:Option bH)(xs:List (List U))(s:Vs)(h:Nat):Option Nat→Option (U×Vs)
 |some l=>(match mx with
  |none=>some (.sl w ((xs.take h).drop l),s)
  |some m=>slM d w xs s h l (bw s.e (some m) xs.length xs.length))
 |none=>none
@[simp] theorem qft(d w:Nat)(xs:List (List U))(s:Vs)(h l:Nat):slL d w none xs s h (some l)=some (.sl w ((xs.take h).drop l),s):=rfl
@[simp] theorem qfu(d w:Nat)(m:bH)(xs:List (List U))(s:Vs)(h l:Nat):slL d w (some m) xs s h (some l)=slM d w xs s h l (bw s.e (some m) xs.length xs.length):=rfl
def slH(d w:Nat)(lo mx:Option bH)(xs:List (List U))(s:Vs):Option Nat→Option (U×Vs)
 |some h=>slL d w mx xs s h (bw s.e lo 0 h)
 |none=>none
@[simp] theorem qfs(d w:Nat)(lo mx:Option bH)(xs:List (List U))(s:Vs)(h:Nat):slH d w lo mx xs s (some h)=slL d w mx xs s h (bw s.e lo 0 h):=rfl
@[simp] theorem qdI(d w:Nat)(lo hi mx:Option bH)(xs:List (List U))(s:Vs):iz d w lo hi mx (.sl w xs) s=slH d w lo mx xs s (bw s.e hi xs.length xs.length):=by
 simp only[iz,iY,cond_true];cases bw s.e hi xs.length xs.length with
 |none=>rfl
 |some h=>
  simp only[slH];cases bw s.e lo 0 h with
  |none=>rfl
  |some l=>
   cases mx with
   |none=>rfl
   |some m=>
    simp only[slL];cases bw s.e (some m) xs.length xs.length<;>rfl
def soL(d w:Nat)(g:Tg)(xs:List (List U))(s:Vs)(h:Nat):Option Nat→Option (U×Vs)
 |some l=>bif g.Hq then some (.view g l (h - l) w,s)else some (.own (.t d) w ((xs.take h).drop l),(s.kill g).kill (.t d))
 |none=>none
@[simp] theorem qfz(d w:Nat)(g:Tg)(xs:List (List U))(s:Vs)(h l:Nat):soL d w g xs s h (some l)=bif g.Hq then some (.view g l (h - l) w,s)else some (.own (.t d) w ((xs.take h).drop l),(s.kill g).kill (.t d)):=rfl
def soH(d w:Nat)(g:Tg)(lo:Option bH)(xs:List (List U))(s:Vs):Option Nat→Option (U×Vs)
 |some h=>soL d w g xs s h (bw s.e lo 0 h)
 |none=>none
@[simp] theorem qfy(d w:Nat)(g:Tg)(lo:Option bH)(xs:List (List U))(s:Vs)(h:Nat):soH d w g lo xs s (some h)=soL d w g xs s h (bw s.e lo 0 h):=rfl
@[simp] theorem qbF(d w:Nat)(g:Tg)(lo hi:Option bH)(xs:List (List U))(s:Vs):iz d w lo hi none (.own g w xs) s=soH d w g lo xs s (bw s.e hi xs.length xs.length):=by
 simp only[iz,iY,cond_true];cases bw s.e hi xs.length xs.length with
 |none=>rfl
 |some h=>
  simp only[soH];cases bw s.e lo 0 h<;>rfl
attribute [simp] Tg.Hq
def stW(n i f:Nat)(g:Tg)(v:U)(s:Vs):Nat×List (List U)→Option (U×Vs)
 |(w,xs)=>(xs[i]?).bind fun r=>bif Nat.beq v.cells.length n&&Nat.ble (f+n) r.length&&v.cells.all U.aJ&&v.low 0 then some (.aX [],s.fB g w (xs.set i (gi r f v.cells)))else none
@[simp] theorem qhU(n i f:Nat)(g:Tg)(v:U)(s:Vs)(w:Nat)(xs:List (List U)):stW n i f g v s (w,xs)=(xs[i]?).bind fun r=>bif Nat.beq v.cells.length n&&Nat.ble (f+n) r.length&&v.cells.all U.aJ&&v.low 0 then some (.aX [],s.fB g w (xs.set i (gi r f v.cells)))else none:=rfl
def stQ(n i f:Nat)(g:Tg):U×Vs→Option (U×Vs)
 |(v,s)=>(s.cg g).bind (stW n i f g v s)
@[simp] theorem qhS(n i f:Nat)(g:Tg)(v:U)(s:Vs):stQ n i f g (v,s)=(s.cg g).bind (stW n i f g v s):=rfl
@[simp] theorem qfC(d:Nat)(s:Vs)(n i f:Nat)(g:Tg)(v:U):stO d s n (.bD g i f) v=(esc v s).bind (stQ n i f g):=by
 simp only[stO];cases esc v s with
 |none=>rfl
 |some p=>
  obtain⟨v,s⟩:=p;simp only[Option.bind,stQ];cases s.cg g with
  |none=>rfl
  |some q=>
   obtain⟨w,xs⟩:=q;simp only[stW,Option.bind];cases xs[i]? <;>rfl
theorem eT{n:Nat}(h:n≤9223372036854775807):aI .i64 (n:Int)=(n:Int):=Cu h
end Go.RE
namespace Go.RE
theorem t222(v:jB)(i at_:Nat)(h:List Uo)(fl:Nat)(hf:fl≤h.length)(hi:h[i]? =some (.row [.int .u64 at_])):G 222 [.agg (bX v),.ptr i 0] h fl=some (.bool (decide (v.At≤at_)),h,fl):=by
 refine bJ (fn:=v222) rfl rfl rfl ?_;simp[xS,TX,TY,bX,aT hi,gh hf]
def upto(l:List jB)(t:Nat):Nat:=sU (fun j=>decide ((l[j]?.getD default).At≤t)) (l.length+1) 0 l.length
theorem qb6(l:List jB)(i at_:Nat)(h:List Uo)(fl:Nat)(hf:fl≤h.length)(hi:h[i]? =some (.row [.int .u64 at_]))(hl:l.length<small):∀ (f lo hi' :Nat),hi'≤l.length→lo≤hi'→hi' - lo<f→
  gL bq mT qT pT BR 0 Fv h.length ⟨[(0,.sl 3 (l.map bX)),(1,.func 222 [] [.ptr i 0]),(5,.int .i64 lo),(6,.int .i64 hi')],h,fl⟩
   (gy bq mT qT pT BR (.seq (.region KL) .ret) (kE h.length BR (.int .i64 (sU (fun j=>decide ((l[j]?.getD default).At≤at_)) f lo hi' :Nat),h,fl))):=by
 intro f
 induction f with
 |zero=>intro lo hi' _ _ hh;omega
 |succ f ih=>
  intro lo hi' h1 h2 h3;rw[ak Fv.eq_1];by_cases hlt:lo<hi'
  ·have c1:(lo:Int)<(hi' :Int):=by omega
   obtain⟨m,hm⟩:∃ m,m=(lo+hi') / 2:=⟨_,rfl⟩;have hmid:m<l.length:=by omega
   have e1:aI .i64 ((hi' :Int) - (lo:Int))=((hi' - lo:Nat):Int):=by
    rw[show(hi' :Int) - (lo:Int)=((hi' - lo:Nat):Int) by omega];exact eT (by unfold small at hl;omega)
   have e2:aI .i64 (half (hi' - lo):Nat)=(half (hi' - lo):Nat):=eT (by unfold half;unfold small at hl;omega);have e3:aI .i64 ((lo:Int)+(half (hi' - lo):Nat))=((m:Nat):Int):=by
    rw[show(lo:Int)+(half (hi' - lo):Nat)=((m:Nat):Int) by unfold half;omega];exact eT (by unfold small at hl;omega)
   have e4:aI .i64 (((m:Nat):Int)+1)=((m+1:Nat):Int):=eY (by unfold small at hl;omega);have g1:(l.map bX)[m]? =some (bX l[m]):=by simp[hmid]
   have g2:(l[m]?.getD default)=l[m]:=by simp[hmid]
   have hx:=t222 l[m] i at_ h fl hf hi;have hil:i<h.length:=(bn.1 hi).1;simp only[bX]at hx g1;simp only[sU,decide_eq_true hlt,cond_true,←hm,g2];cases hp:decide (l[m].At≤at_)with
   |true=>
    rw[hp]at hx;have ih' :=ih (m+1) hi' h1 (by omega) (by omega);simp[Fu,KJ,KK,TV,c1,e1,e2,e3,e4,aS g1,hx,hil,aR hf];exact ih'
   |false=>
    rw[hp]at hx;have ih' :=ih lo (m) (by omega) (by omega) (by omega);simp[Fu,KJ,KK,TW,c1,e1,e2,e3,e4,aS g1,hx,hil,aR hf];exact ih'
  ·have c1:¬(lo:Int)<(hi' :Int):=by omega
   simp only[sU,decide_eq_false hlt,cond_false];simp[Fu,KL,c1,aR hf]
theorem t187(l:List jB)(at_:Nat)(hl:l.length<small):G 187 [.sl 3 (l.map bX),.int .u64 at_] [] 0=some (.int .i64 (upto l at_:Nat),[],0):=by
 refine bJ (fn:=S4) rfl rfl rfl ?_;have h221:G 221 [.sl 3 (l.map bX),.func 222 [] [.ptr 0 0]] [.row [.int .u64 at_]] 0=some (.int .i64 (upto l at_:Nat),[.row [.int .u64 at_]],0):=by
  refine bJ (fn:=BR) rfl rfl rfl ?_;have:=qb6 l 0 at_ [.row [.int .u64 at_]] 0 (by simp) rfl hl (l.length+1) 0 l.length (aq _) (dS _) (by omega);simp[xR,TT,TU];exact this
 simp[xE,S5,S6,h221]
theorem ql{α:Type}{l:List α}{i j:Nat}(hij:i+(j+1)=l.length)(hl:l.length<small):((i:Int)<(l.length:Int))∧aI .i64 ((i:Int)+1)=((i+1:Nat):Int)∧∃ x,l.drop i=x::l.drop (i+1)∧∀ {β:Type} (f:α→β),(l.map f)[i]? =some (f x):=by
 have h:i<l.length:=by omega
 exact⟨by omega,eY (by unfold small at hl;omega),l[i],XF h,fun f=>by simp[h]⟩
theorem nB{α:Type}{l:List α}{i:Nat}(hij:i+0=l.length):¬((i:Int)<(l.length:Int))∧l.drop i=[]:=⟨by omega,Gt (by omega)⟩
def eG:Nat→List jB→Bool
 |_,[]=>true
 |last,v::l=> !(decide (v.At≤last)||(v.qp&&decide (0<v.Data.length)))&&eG v.At l
theorem qb4(l:List jB)(hl:l.length<small):∀ (j i last:Nat),i+j=l.length→
  gL bq mT qT pT v193 0 zJ 0 ⟨[(8,.int .i64 (i:Int)),(3,.int .u64 last),(6,.sl 3 (l.map bX)),(7,.int .i64 (l.length:Int))],[],0⟩ (gy bq mT qT pT v193 (.seq (.region Fm) .ret) (kE 0 v193 (.bool (eG last (l.drop i)),[],0))):=by
 intro j
 induction j with
 |zero=>
  intro i last hij;obtain⟨h1,h2⟩:=nB hij;rw[ak zJ.eq_1,h2];simp[xJ,h1,Fm,eG]
 |succ j ih=>
  intro i last hij;obtain⟨h1,e3,v,d1,g1⟩:=ql hij hl;have e1:=g1 bX;have ih' :=ih (i+1) v.At (by omega);rw[ak zJ.eq_1,d1,eG];simp only[bX]at e1;by_cases c1:v.At≤last
  ·simp[xJ,BL,BM,KC,h1,aS e1,c1,bX]
  ·cases c2:v.qp with
   |false=>
    simp[xJ,BL,BM,KD,KE,h1,aS e1,c1,c2,bX,e3];simpa[bX]using ih'
   |true=>
    cases c3:v.Data with
    |nil=>
     simp[xJ,BL,BM,KD,KE,h1,aS e1,c1,c2,c3,bX,e3,bQ];simpa[bX]using ih'
    |cons x r=>simp[xJ,BL,BM,KC,h1,aS e1,c1,c2,c3,bX,bQ]
theorem t193(l:List jB)(hl:l.length<small):G 193 [.sl 3 (l.map bX)] [] 0=some (.bool (eG 0 l),[],0):=by
 refine bJ (fn:=v193) rfl rfl rfl ?_;simp[xK,Tr,Ts,Tt];have:=qb4 l hl l.length 0 0 (by omega);simpa using this
theorem qb2(l:List jB)(hl:l.length<small):∀ (j i:Nat) (out:List jB),i+j=l.length→out.length≤i→(∀ v∈l,v.Data.length<small)→
  gL bq mT qT pT BK 0 zH 0 ⟨[(12,.int .i64 (i:Int)),(3,.own (.t 3) 3 (out.map bX)),(10,.sl 3 (l.map bX)),(11,.int .i64 (l.length:Int))],[],0⟩ (gy bq mT qT pT BK (.seq (.region Kv) .ret) (kE 0 BK (.own .r 3 ((out++l.drop i).map bX),[],0))):=by
 intro j
 induction j with
 |zero=>
  intro i out hij ho hd;obtain⟨h1,h2⟩:=nB hij;rw[ak zH.eq_1,h2];simp[Ku,h1,Kv]
 |succ j ih=>
  intro i out hij ho hd;obtain⟨h1,e3,v,d1,g1⟩:=ql hij hl;have e1:=g1 bX;have hv:v∈l:=List.mem_of_mem_drop (by rw[d1];exact eU:v∈l.drop i);have ih' :=ih (i+1) (out++[v]) (by omega) (by simp;omega) hd;have hc:=gQ (f:=194) rfl (w:=1) (xs:=bQ v.Data) [] 0 (by rw[j0];exact hd v hv) (by simp);have b1:(out.length+1)*40≤aZ∧out.length+1≤aZ:=by unfold small at hl;unfold aZ;omega
  rw[ak zH.eq_1,d1];simp only[bX]at e1;simp[Ku,Ta,Tb,Tc,Td,h1,aS e1,e3,bX,hc,b1];simpa[bX]using ih'
def nI(l:List jB):Prop:=l.length<small∧∀ v∈l,v.Data.length<small
theorem t188(l:List jB)(hl:nI l):G 188 [.sl 3 (l.map bX)] [] 0=some (.own .r 3 (l.map bX),[],0):=by
 refine bJ (fn:=BK) rfl rfl rfl ?_;have h1:=hl.1;have e1:aI .i64 ((l.length:Int)+1)=((l.length+1:Nat):Int):=eY (by unfold small at h1;omega);have b1:(l.length+1)*40≤aZ∧l.length+1≤aZ:=by unfold small at h1;unfold aZ;omega
 have:=qb2 l hl.1 l.length 0 [] (by omega) (by simp) hl.2;simp only[List.drop_zero,List.nil_append,List.map_nil]at this;simp[xF,S7,S8,S9,e1,JB (w:=3) (bytes:=40) (zero:=[.int .u64 0,.bool false,.ag [] 0 0 1]) (z:=(l.length:Int)+1) (by omega) ⟨by omega,by omega⟩ rfl];exact this
def fW(l:List jB):Nat:=(l.getLast?.getD ⟨0,false,[]⟩).At
theorem t189(l:List jB)(hl:l.length<small):G 189 [.sl 3 (l.map bX)] [] 0=some (.int .u64 (fW l),[],0):=by
 refine bJ (fn:=Te) rfl rfl rfl ?_;rcases List.eq_nil_or_concat l with rfl|⟨l',v,hlv⟩
 ·simp[sC,Kw,Kx,Tf,fW]
 ·rw[List.concat_eq_append]at hlv;subst hlv;have hlen:((l'++[v]).map bX).length=l'.length+1:=by simp
  have e2:((l'++[v]).map bX)[l'.length]? =some (bX v):=by simp
  have hv:fW (l'++[v])=v.At:=by simp[fW]
  have e1:aI .i64 ((l'.length:Int)+1 - 1)=(l'.length:Int):=by
   rw[show(l'.length:Int)+1 - 1=(l'.length:Int) by omega];exact eT (by simp at hl;unfold small at hl;omega)
  have e3:¬((l'.length:Int)+1=0):=by omega
  rw[hv];generalize (l'++[v]).map bX=xs at*;simp only[bX]at e2;simp at e1;simp[sC,Kw,Kx,Th,hlen,e1,e3,aS e2]
def Lt(l:List jB)(t:Nat):Option jB:=match upto l t with
 |0=>none
 |n+1=>l[n]?
def pF(l:List jB)(t:Nat):Option By:=match Lt l t with
 |some v=>bif v.qp then none else some v.Data
 |none=>none
def dm(l:List jB)(t:Nat):List jB:=match upto l t with
 |0=>l
 |n+1=>bif(l[n]?.getD default).qp then l.drop (n+1)else l.drop n
def cB(l:List jB):Nat:=(l.map fun v=>v.Data.length).sum
theorem EN(l:List jB)(t:Nat):upto l t≤l.length:=by
 have:∀ (p:Nat→Bool) (f i j:Nat),i≤j→sU p f i j≤j:=by
  intro p f
  induction f with
  |zero=>intro i j h;exact h
  |succ f ih=>
   intro i j h;simp only[sU];by_cases hlt:i<j
   ·simp only[decide_eq_true hlt,cond_true];cases p ((i+j) / 2)with
    |true=>exact ih _ _ (by omega)
    |false=>exact Nat.le_trans (ih _ _ (by omega)) (by omega)
   ·simp only[decide_eq_false hlt,cond_false];exact h
 exact this _ _ _ _ (dS _)
def GV(o:Option jB):U:=.aX [.agg (bX (o.getD ⟨0,false,[]⟩)),.bool o.isSome]
theorem t164(l:List jB)(t:Nat)(hl:nI l):G 164 [.sl 3 (l.map bX),.int .u64 t] [] 0=some (GV (Lt l t),[],0):=by
 refine bJ (fn:=v164) rfl rfl rfl ?_;have h187:=t187 l t hl.1;have hle:=EN l t;unfold Lt;cases hn:upto l t with
 |zero=>
  rw[hn]at h187;simp[sB,Kq,Kr,Ks,SN,h187,GV,bX,bQ]
 |succ n=>
  rw[hn]at h187;have hlt:n<l.length:=by omega
  have e1:aI .i64 ((n:Int)+1 - 1)=(n:Int):=by
   rw[show(n:Int)+1 - 1=(n:Int) by omega];exact eT (by have:=hl.1;unfold small at this;omega)
  have e3:¬((n:Int)+1=0):=by omega
  have e2:(l.map bX)[n]? =some (bX l[n]):=by simp[hlt]
  have hc:=gQ (f:=194) rfl (w:=1) (xs:=bQ l[n].Data) [] 0 (by rw[j0];exact hl.2 _ (List.getElem_mem hlt)) (by simp);simp only[bL hlt];simp only[bX]at e2;simp at e1;simp[sB,Kq,Kr,Ks,SO,SP,SQ,h187,GV,bX,e1,e3,aS e2,hc]
def sP(o:Option By):U:=.aX [.sl 1 (bQ (o.getD [])),.bool o.isSome]
theorem t113(l:List jB)(t:Nat)(hl:nI l):G 113 [.sl 3 (l.map bX),.int .u64 t] [] 0=some (sP (pF l t),[],0):=by
 refine bJ (fn:=Rr) rfl rfl rfl ?_;have h164:=t164 l t hl;unfold pF;cases hf:Lt l t with
 |none=>
  rw[hf]at h164;simp[GV,bX]at h164;simp[oO,E3,E4,E5,Kf,h164,sP,bQ]
 |some v=>
  rw[hf]at h164;simp[GV,bX]at h164;cases hg:v.qp with
  |true=>
   rw[hg]at h164;simp[oO,E3,E4,E5,Kf,h164,sP,bQ,hg]
  |false=>
   rw[hg]at h164;simp[oO,E3,E4,E5,Rs,h164,sP,bQ,hg]
theorem t136(l:List jB)(t:Nat)(hl:nI l):G 136 [.sl 3 (l.map bX),.int .u64 t] [] 0=some (.own .r 3 ((dm l t).map bX),[],0):=by
 refine bJ (fn:=RI) rfl rfl rfl ?_;have h187:=t187 l t hl.1;have hle:=EN l t;have sm:=hl.1;have dr:∀ n,G 188 [.sl 3 ((l.drop n).map bX)] [] 0=some (.own .r 3 ((l.drop n).map bX),[],0):=fun n=>t188 _ ⟨by simp;omega,fun v hv=>hl.2 v (List.mem_of_mem_drop hv)⟩;by_cases h0:l=[]
 ·subst h0;have hu:upto [] t=0:=by have:=EN [] t;simpa using this
  rw[hu]at h187;have d0:=dr 0;simp at d0 h187;simp[mz,Bt,Bu,Bv,Bw,h187,d0,dm,hu,fK,asNat]
 have hne:¬l.length=0:=fun h=>h0 (jq h);have nl:=oZ (k:=.i64) (n:=l.length) (m:=l.length) (aq _);have tk:List.take l.length (l.map bX)=l.map bX:=jU (by simp);unfold dm;cases hn:upto l t with
 |zero=>
  rw[hn]at h187;have d0:=dr 0;have n0:=oZ (k:=.i64) (n:=0) (m:=l.length) (dS _);simp at n0;simp only[List.drop_zero]at d0;simp[mz,Bt,Bu,Bv,Bw,h187,d0,nl,n0,hne,tk]
 |succ n=>
  rw[hn]at h187;have hlt:n<l.length:=by omega
  have e1:aI .i64 ((n:Int)+1 - 1)=(n:Int):=by
   rw[show(n:Int)+1 - 1=(n:Int) by omega];exact eT (by unfold small at sm;omega)
  have e2:(l.map bX)[n]? =some (bX l[n]):=by simp[hlt]
  have hg:(l[n]?.getD default)=l[n]:=by simp[hlt]
  simp only[bX]at e2;simp at e1;simp only[hg];cases hgn:l[n].qp with
  |true=>
   have d0:=dr (n+1);have n0:=oZ (k:=.i64) (n:=n+1) (m:=l.length) hlt;simp at n0;rw[List.map_drop]at d0;simp only[cond_true,List.map_drop];simp[mz,Bt,Bu,Bv,Bw,h187,d0,e1,aS e2,hgn,nl,n0,hne,tk]
  |false=>
   have d0:=dr n;have n0:=oZ (k:=.i64) (n:=n) (m:=l.length) (by omega);rw[List.map_drop]at d0;simp only[cond_false,List.map_drop];simp[mz,Bt,Bu,Bv,RM,Bw,h187,d0,e1,aS e2,hgn,nl,n0,hne,tk]
theorem qbY(l:List jB)(hl:nI l)(hs:cB l<small):∀ (j i:Nat),i+j=l.length→
  gL bq mT qT pT Bx 0 zC 0 ⟨[(8,.int .i64 (i:Int)),(3,.int .i64 (cB (l.take i):Nat)),(6,.sl 3 (l.map bX)),(7,.int .i64 (l.length:Int))],[],0⟩ (gy bq mT qT pT Bx (.seq (.region Kj) .ret) (kE 0 Bx (.int .i64 (cB l:Nat),[],0))):=by
 intro j
 induction j with
 |zero=>
  intro i hij;obtain⟨h1,h2⟩:=nB hij;have h3:l.take i=l:=jU (by omega);rw[ak zC.eq_1,h3];simp[Ki,h1,Kj]
 |succ j ih=>
  intro i hij;obtain⟨h1,e3,v,d1,g1⟩:=ql hij hl.1;have e1:=g1 bX;have hv:l[i]? =some v:=by have:=g1 (fun x=>x);simpa using this
  have h4:cB (l.take (i+1))=cB (l.take i)+v.Data.length:=by rw[List.take_add_one,hv];simp[cB]
  have h5:cB (l.take (i+1))≤cB l:=by
   have:cB l=cB (l.take (i+1))+cB (l.drop (i+1)):=by
    unfold cB;rw[←List.sum_append,←List.map_append,List.take_append_drop]
   omega
  have e4:aI .i64 ((cB (l.take i):Int)+(v.Data.length:Int))=(cB (l.take (i+1)):Nat):=by
   rw[h4,←Int.natCast_add];exact eT (by unfold small at hs;omega)
  have ih' :=ih (i+1) (by omega);rw[ak zC.eq_1];simp only[bX]at e1;simp[Ki,RS,RT,RU,h1,aS e1,e3,j0,e4];exact ih'
theorem t137(l:List jB)(hl:nI l)(hs:cB l<small):G 137 [.sl 3 (l.map bX)] [] 0=some (.int .i64 (cB l:Nat),[],0):=by
 refine bJ (fn:=Bx) rfl rfl rfl ?_;have:=qbY l hl hs l.length 0 (by omega);have h0:cB (l.take 0)=0:=rfl;rw[h0]at this;simp[xb,RN,RO,RQ];exact this
def W9(l:List jB)(v:jB):Option (List jB)×Nat:=
 bif !(eG 0 l&&eG 0 [v])then(none,1)else bif decide (v.At≤fW l)then(none,70)else(some (l++[v]),0)
def N5(r:Option (List jB)×Nat):U:=.aX [.sl 3 ((r.1.getD []).map bX),.int .i64 r.2]
theorem t144(l:List jB)(v:jB)(hl:nI l)(hv:v.Data.length<small):G 144 [.sl 3 (l.map bX),.agg (bX v)] [] 0=some (N5 (W9 l v),[],0):=by
 refine bJ (fn:=Sl) rfl rfl rfl ?_;have c1:=t193 l hl.1;have c2:=t193 [v] (by simp[small]);have c3:=t189 l hl.1;have c4:=t188 l hl;have c5:=gQ (f:=194) rfl (w:=1) (xs:=bQ v.Data) [] 0 (by rw[j0];exact hv) (by simp);have sm:=hl.1;have b1:(l.length+1)*40≤aZ∧l.length+1≤aZ:=by unfold small at sm;unfold aZ;omega
 simp only[List.map_cons,List.map_nil,bX]at c2;unfold W9;cases r1:eG 0 l with
 |false=>
  rw[r1]at c1;simp[mA,BC,BD,Km,bX,c1,N5]
 |true=>
  rw[r1]at c1;cases r2:eG 0 [v]with
  |false=>
   rw[r2]at c2;simp[mA,BC,BD,Km,bX,c1,c2,N5]
  |true=>
   rw[r2]at c2;by_cases c:v.At≤fW l
   ·simp[mA,BC,BD,Sn,bX,c1,c2,N5,au Mt,zG,c3,c]
   ·simp[mA,BC,BD,Sp,bX,c1,c2,N5,au Mt,zG,au Xu,Mu,c3,c4,c5,c,b1,cT]
end Go.RE
namespace Go.RE
def dG(s:cD):Bool:=s.2==[]||lt s.1 s.2
def Pz(s:cD)(k:By):Bool:= !lt k s.1&&(s.2==[]||lt k s.2)
def we(s:cD)(k:By):Bool:=s.2 !=[]&& !lt k s.2
def tE(a b:cD):Bool:=dG a&&dG b&& !we a b.1&& !we b a.1
theorem t78(s:cD):G 78 [.agg (aP s)] [] 0=some (.bool (dG s),[],0):=by
 refine bJ (fn:=v78) rfl rfl rfl ?_;cases hh:s.2==[]<;>simp[Cl,ZU,ZV,hh,dG,aP]
theorem t80(s:cD)(k:By):G 80 [.agg (aP s),.str k] [] 0=some (.bool (Pz s k),[],0):=by
 refine bJ (fn:=v80) rfl rfl rfl ?_;cases h1:lt k s.1<;>cases h2:s.2==[]<;>simp[Cn,Z4,Z5,h1,h2,Pz,aP]
theorem t199(s:cD)(k:By):G 199 [.agg (aP s),.str k] [] 0=some (.bool (we s k),[],0):=by
 refine bJ (fn:=TF) rfl rfl rfl ?_;cases h2:s.2==[]<;>simp[xN,TG,TH,h2,we,aP,bne]
theorem t76(k:By)(hk:k.length<small):G 76 [.str k] [] 0=some (.agg (aP (k,k++[0])),[],0):=by
 refine bJ (fn:=v76) rfl rfl rfl ?_;have hb:k.length+1≤aZ:=by unfold small at hk;unfold aZ;omega
 simp[Cj,ZQ,ZR,hb,aP]
theorem t152(a b:cD):G 152 [.agg (aP a),.agg (aP b)] [] 0=some (.bool (tE a b),[],0):=by
 refine bJ (fn:=v152) rfl rfl rfl ?_;have c1:=t78 a;have c2:=t78 b;have c3:=t199 a b.1;have c4:=t199 b a.1;unfold tE;simp only[aP]at c1 c2 c3 c4;cases h1:dG a<;>cases h2:dG b<;>cases h3:we a b.1<;>cases h4:we b a.1<;>rw[h1]at c1<;>rw[h2]at c2<;>rw[h3]at c3<;>rw[h4]at c4<;>
  simp[xC,SL,SM,c1,c2,c3,c4,aP]
theorem t151(a b:cD)(i:Nat)(h:List Uo)(fl:Nat)(hf:fl≤h.length)(hi:h[i]? =some (.row (aP a))):G 151 [.agg (aP b),.ptr i 0] h fl=some (.bool (tE a b),h,fl):=by
 refine bJ (fn:=SI) rfl rfl rfl ?_;have c1:=t152 a b;simp only[aP]at c1 hi;simp[xB,SJ,SK,aP,aT hi,c1,gh hf]
theorem qb5(f i:Nat)(p:cD→Bool)(h:List Uo)(fl:Nat)(hf:fl≤h.length)(hil:i<h.length)(hp:∀ s,G f [.agg (aP s),.ptr i 0] h fl=some (.bool (p s),h,fl))(hq:qT.q f=none)(ha:qT.app f=none)(hld:ldF f=false)(hbo:GC f=none)(l:List cD)(hl:l.length<small):∀ (j q:Nat),q+j=l.length→
  ∃ z:Int,decide (z≥0)=(l.drop q).any p∧gL bq mT qT pT v198 0 u7 h.length ⟨[(8,.int .i64 (q:Int)),(0,.sl 2 (l.map aP)),(1,.func f [] [.ptr i 0]),(7,.int .i64 (l.length:Int))],h,fl⟩
   (gy bq mT qT pT v198 (.seq (.region KH) .ret) (kE h.length v198 (.int .i64 z,h,fl))):=by
 intro j
 induction j with
 |zero=>
  intro q hij;obtain⟨h1,h2⟩:=nB hij;refine⟨-1,by rw[h2];rfl,?_⟩;rw[ak u7.eq_1];simp[Fo,h1,KH,aR hf]
 |succ j ih=>
  intro q hij;obtain⟨h1,e3,s,d1,g1⟩:=ql hij hl;have e1:=g1 aP;obtain⟨z,z1,z2⟩:=ih (q+1) (by omega);have hps:=hp s;simp only[qfc,Qi]at hq ha;simp only[aP]at e1 hps;rw[d1];cases c:p s with
  |true=>
   rw[c]at hps;refine⟨q,by simp[c],?_⟩;rw[ak u7.eq_1];simp only[ldF]at hld;simp only[GC]at hbo;simp[Fo,KF,KG,TD,h1,aS e1,hq,ha,hld,hbo,hps,hil,aR hf,bne]
  |false=>
   rw[c]at hps;refine⟨z,by simp[c,z1],?_⟩;rw[ak u7.eq_1];simp only[ldF]at hld;simp only[GC]at hbo;simp[Fo,KF,KG,TE,h1,aS e1,hq,ha,hld,hbo,hps,hil,aR hf,e3];exact z2
theorem t149(f i:Nat)(p:cD→Bool)(h:List Uo)(fl:Nat)(hf:fl≤h.length)(hil:i<h.length)(hp:∀ s,G f [.agg (aP s),.ptr i 0] h fl=some (.bool (p s),h,fl))(hq:qT.q f=none)(ha:qT.app f=none)(hld:ldF f=false)(hbo:GC f=none)(l:List cD)(hl:l.length<small):
  G 149 [.sl 2 (l.map aP),.func f [] [.ptr i 0]] h fl=some (.bool (l.any p),h,fl):=by
 obtain⟨z,z1,z2⟩:=qb5 f i p h fl hf hil hp hq ha hld hbo l hl l.length 0 (by omega);have c:G 198 [.sl 2 (l.map aP),.func f [] [.ptr i 0]] h fl=some (.int .i64 z,h,fl):=by
  refine bJ (fn:=v198) rfl rfl rfl ?_;simp[xM,TB,TC,hil,aR hf];exact z2
 refine bJ (fn:=SC) rfl rfl rfl ?_;rw[List.drop_zero]at z1;rw[←z1];simp[xz,SD,SE,c,hil,aR hf]
def sY(a b:List cD):Bool:=a.any fun x=>b.any fun y=>tE x y
theorem t150(b:List cD)(a:cD)(i:Nat)(h:List Uo)(fl:Nat)(hf:fl≤h.length)(hb:b.length<small)(hi:h[i]? =some (.row [.sl 2 (b.map aP)])):G 150 [.agg (aP a),.ptr i 0] h fl=some (.bool (b.any fun y=>tE a y),h,fl):=by
 refine bJ (fn:=SF) rfl rfl rfl ?_;have c:=t149 151 h.length (fun y=>tE a y) (h++[.row (aP a)]) fl (by simp;omega) (by simp) (fun s=>t151 a s h.length (h++[.row (aP a)]) fl (by simp;omega) (by simp)) rfl rfl rfl rfl b hb;simp only[aP]at c;simp[xA,SG,SH,aP,aT hi,c,gh hf]
theorem t108(a b:List cD)(ha:a.length<small)(hb:b.length<small):G 108 [.sl 2 (a.map aP),.sl 2 (b.map aP)] [] 0=some (.bool (sY a b),[],0):=by
 refine bJ (fn:=Rj) rfl rfl rfl ?_;have c:=t149 150 0 (fun x=>b.any fun y=>tE x y) [.row [.sl 2 (b.map aP)]] 0 (by simp) (by simp) (fun s=>t150 b s 0 _ 0 (by simp) hb rfl) rfl rfl rfl rfl a ha;simp[w6,Rm,Rn,c,sY]
def lZ(out:List cD)(s:cD):List cD:=match out.getLast? with
 |none=>[s]
 |some x=>bif x.2 !=[]&&lt x.2 s.1 then out++[s]else bif x.2 !=[]&&(s.2==[]||lt x.2 s.2)then out.dropLast++[(x.1,s.2)]else out
def kY(a b:List cD):List cD:=(qk (a.filter dG++b.filter dG)).foldl lZ []
theorem qb3(l:List cD)(hl:l.length<small):∀ (j i:Nat) (out:List cD),i+j=l.length→out.length<small+i→
  gL bq mT qT pT CU 0 zI 1 ⟨[(7,.int .i64 (i:Int)),(1,.ptr 0 0),(5,.sl 2 (l.map aP)),(6,.int .i64 (l.length:Int))],[.row [.bE 2 (out.map aP)]],0⟩
   (kE 1 CU (.aX [],[.row [.bE 2 ((out++(l.drop i).filter dG).map aP)]],0)):=by
 intro j
 induction j with
 |zero=>
  intro i out hij ho;obtain⟨h1,h2⟩:=nB hij;rw[ak zI.eq_1,h2];simp[Fk,h1]
 |succ j ih=>
  intro i out hij ho;obtain⟨h1,e3,s,d1,g1⟩:=ql hij hl;have e1:=g1 aP;have c:=t78 s;rw[ak zI.eq_1,d1];simp only[aP]at e1 c;cases hr:dG s with
  |false=>
   rw[hr]at c;have ih' :=ih (i+1) out (by omega) (by omega);simp[Fk,Kz,KA,KB,h1,aS e1,e3,aP,c,hr];simpa[aP]using ih'
  |true=>
   rw[hr]at c;have ih' :=ih (i+1) (out++[s]) (by omega) (by simp;omega);have b1:(out.length+1)*32≤aZ∧out.length+1≤aZ:=by unfold small at ho hl;unfold aZ;omega
   simp[Fk,Kz,KA,Tl,KB,h1,aS e1,e3,aP,c,hr,b1];simpa[aP]using ih'
theorem t190(l out:List cD)(hl:l.length<small)(ho:out.length<small):G 190 [.sl 2 (l.map aP),.ptr 0 0] [.row [.bE 2 (out.map aP)]] 0=some (.aX [],[.row [.bE 2 ((out++l.filter dG).map aP)]],0):=by
 refine bJ (fn:=CU) rfl rfl rfl ?_;have:=qb3 l hl l.length 0 out (by omega) (by omega);simp[xG,Tk];simpa using this
theorem qbZ(L:List cD)(hl:L.length<small):∀ (j i:Nat) (out:List cD),i+j=L.length→out.length≤i→
  gL bq mT qT pT v139 0 uV 1 ⟨[(29,.int .i64 (i:Int)),(7,.own (.t 7) 2 (out.map aP)),(27,.own (.c 0 0) 2 (L.map aP)),(28,.int .i64 (L.length:Int))],[.row [.bE 2 (L.map aP)]],0⟩
   (gy bq mT qT pT v139 (.seq (.region E8) .ret) (kE 0 v139 (.own .r 2 (((L.drop i).foldl lZ out).map aP),[],0))):=by
 intro j
 induction j with
 |zero=>
  intro i out hij ho;obtain⟨h1,h2⟩:=nB hij;rw[ak uV.eq_1,h2];simp[qY,h1,E8]
 |succ j ih=>
  intro i out hij ho;obtain⟨h1,e3,s,d1,g1⟩:=ql hij hl;have e1:=g1 aP;have hi:i<L.length:=by omega
  have ia:∀ s',qf s' 2 (some (.own (.c 0 0) 2 (L.map aP))) (some (.int .i64 (i:Int)))=some (.bD (.c 0 0) i 0,s'):=fun s' =>cz (by simpa using hi);have b1:(out.length+1)*32≤aZ∧out.length+1≤aZ:=by unfold small at hl;unfold aZ;omega
  rw[ak uV.eq_1,d1,List.foldl_cons];rcases List.eq_nil_or_concat out with rfl|⟨out',x,hox⟩
  ·have ih' :=ih (i+1) [s] (by omega) (by simp);simp only[aP]at e1;have b0:32≤aZ∧1≤aZ:=by unfold aZ;omega
   simp[qY,tU,pX,au oP,lD,E6,pY,h1,ia,e1,e3,aP,lZ,b0];simpa[aP]using ih'
  ·rw[List.concat_eq_append]at hox;subst hox;have hlen:((out'++[x]).map aP).length=out'.length+1:=by simp
   have e2:((out'++[x]).map aP)[out'.length]? =some (aP x):=by simp
   have e5:aI .i64 ((out'.length:Int)+1 - 1)=(out'.length:Int):=by
    rw[show(out'.length:Int)+1 - 1=(out'.length:Int) by omega];exact eT (by simp at ho;unfold small at hl;omega)
   have e6:((out'.length:Int)+1==0)=false:=by rw[beq_eq_false_iff_ne];omega
   have ib:∀ s',qf s' 2 (some (.own (.t 7) 2 ((out'++[x]).map aP))) (some (.int .i64 (out'.length:Int)))=some (.bD (.t 7) out'.length 0,s'):=fun s' =>cz (by simp);have hm:lZ (out'++[x]) s=bif x.2 !=[]&&lt x.2 s.1 then out'++[x]++[s]else bif x.2 !=[]&&(s.2==[]||lt x.2 s.2)then out'++[(x.1,s.2)]else out'++[x]:=by simp[lZ]
   have hset:((out'++[x]).map aP).set out'.length [.str x.1,.str s.2]=(out'++[(x.1,s.2)]).map aP:=by simp[aP]
   have happ:((out'++[x]).map aP)++[[.str s.1,.str s.2]]=(out'++[x]++[s]).map aP:=by simp[aP]
   have ihA:=ih (i+1) (out'++[x]++[s]) (by omega) (by simp at ho⊢;omega);have ihB:=ih (i+1) (out'++[(x.1,s.2)]) (by omega) (by simp at ho⊢;omega);have ihC:=ih (i+1) (out'++[x]) (by omega) (by simp at ho⊢;omega);have hlen2:(out'++[x]).length=out'.length+1:=by simp
   rw[hlen2]at b1;rw[hm];rw[←happ]at ihA;rw[←hset]at ihB;generalize (out'++[x]).map aP=xs at*;simp only[aP]at e1 e2;have e7:∀ hh:out'.length<xs.length,xs[out'.length]=[.str x.1,.str x.2]:=fun hh=>by rw[bL hh]at e2;exact Option.some.inj e2
   simp at e5;have b2:=b1.1;have b3:=b1.2;cases c1:(x.2==[])with
   |true=>
    simp[qY,tU,pX,au oP,lD,uT,au uU,oQ,pY,h1,ia,ib,e1,e2,e7,e3,e5,e6,hlen,bne,c1];simpa[bne,c1]using ihC
   |false=>
    cases c2:lt x.2 s.1 with
    |true=>
     simp[qY,tU,pX,au oP,lD,E6,pY,h1,ia,ib,e1,e2,e7,e3,e5,e6,hlen,bne,c1,c2,b2,b3];simpa[bne,c1,c2]using ihA
    |false=>
     cases c3:(s.2==[])with
     |true=>
      simp[qY,tU,pX,au oP,lD,uT,au uU,oQ,E7,pY,h1,ia,ib,e1,e2,e7,e3,e5,e6,hlen,bne,c1,c2,c3];simpa[bne,c1,c2,c3]using ihB
     |false=>
      cases c4:lt x.2 s.2 with
      |true=>
       simp[qY,tU,pX,au oP,lD,uT,au uU,oQ,E7,pY,h1,ia,ib,e1,e2,e7,e3,e5,e6,hlen,bne,c1,c2,c3,c4];simpa[bne,c1,c2,c3,c4]using ihB
      |false=>
       simp[qY,tU,pX,au oP,lD,uT,au uU,oQ,pY,h1,ia,ib,e1,e2,e7,e3,e5,e6,hlen,bne,c1,c2,c3,c4];simpa[bne,c1,c2,c3,c4]using ihC
end Go.RE
namespace Go.RE
set_option linter.unusedSectionVars false
section
variable{α:Type}[Inhabited α](less:α→α→Bool)
theorem Og(l:List α)(i j:Nat)(hi:i<l.length)(hj:j<l.length):(kL l i j).Perm l:=by
 have e:kL l i j=(l.set i l[j]).set j l[i]:=by
  simp only[kL,bL hi,bL hj,Option.getD_some]
 rw[e];exact List.set_set_perm hi hj
theorem CZ(a:Nat):∀ (j:Nat) (l:List α),(j<l.length∨j=0)→(wg less a j l).Perm l
 |0,l,_=> .refl _
 |j+1,l,h=>by
  unfold wg;cases decide (a<j+1)&&less (l[j+1]?.getD default) (l[j]?.getD default)with
  |true=>
   rw[cond_true];have h1:=Og l (j+1) j (by omega) (by omega);exact(CZ a j _ (by rw[h1.length_eq];omega)).trans h1
  |false=>exact .refl _
theorem Dl(a:Nat):∀ (k i:Nat) (l:List α),i+k≤l.length→(CG less a k i l).Perm l
 |0,_,l,_=> .refl _
 |k+1,i,l,h=>by
  unfold CG;have h1:=CZ less a i l (by omega);exact(Dl a k (i+1) _ (by rw[h1.length_eq];omega)).trans h1
theorem pH(l:List α)(a b:Nat)(h:b≤l.length):(iZ less l a b).Perm l:=by
 unfold iZ;by_cases hab:a+1≤b
 ·exact Dl less a _ _ l (by omega)
 ·rw[show b - (a+1)=0 by omega];exact .refl _
theorem tr(n:Nat):∀ (f a:Nat) (l:List α),n≤l.length→(qD less n f a l).Perm l
 |0,a,l,h=>pH less l a n h
 |f+1,a,l,h=>by
  unfold qD;cases hd:decide (a+20≤n)with
  |true=>
   rw[cond_true];have h1:=pH less l a (a+20) (by have:=of_decide_eq_true hd;omega);exact(tr n f (a+20) _ (by rw[h1.length_eq];exact h)).trans h1
  |false=>exact pH less l a n h
theorem gD(p:Nat→Bool):∀ (f i j:Nat),i≤j→i≤sU p f i j∧sU p f i j≤j
 |0,i,j,h=>⟨aq _,h⟩
 |f+1,i,j,h=>by
  unfold sU;cases hd:decide (i<j)with
  |false=>exact⟨aq _,h⟩
  |true=>
   have:=of_decide_eq_true hd;rw[cond_true];cases p ((i+j) / 2)with
   |true=>rw[cond_true];have:=gD p f ((i+j) / 2+1) j (by omega);omega
   |false=>rw[cond_false];have:=gD p f i ((i+j) / 2) (by omega);omega
theorem nt(l:List α)(a m b:Nat)(h1:a≤m)(h2:m≤b):l=l.take a++(l.drop a).take (m - a)++(l.drop m).take (b - m)++l.drop b:=by
 have e1:l.drop b=(l.drop m).drop (b - m):=by rw[List.drop_drop,show m+(b - m)=b by omega]
 have e2:l.drop m=(l.drop a).drop (m - a):=by rw[List.drop_drop,show a+(m - a)=m by omega]
 rw[kN,e1,List.take_append_drop,kN,e2,List.take_append_drop,List.take_append_drop]
theorem r8(l:List α)(a m b:Nat)(h1:a≤m)(h2:m≤b):(pN l a m b).Perm l:=by
 have e:=nt l a m b h1 h2;generalize l.take a=A at e;have:(pN l a m b).Perm (l.take a++(l.drop a).take (m - a)++(l.drop m).take (b - m)++l.drop b):=by
  unfold pN;refine List.Perm.append_right _ ?_;rw[kN,kN];exact List.Perm.append_left _ List.perm_append_comm
 rw[←nt l a m b h1 h2]at this;exact this
theorem oK:∀ (f:Nat) (l:List α) (a m b:Nat),a≤m→m≤b→b≤l.length→(lP less f l a m b).Perm l
 |0,l,_,_,_,_,_,_=> .refl _
 |f+1,l,a,m,b,h1,h2,h3=>by
  unfold lP;cases hd:decide (m - a=1)with
  |true=>
   rw[cond_true];have:=gD (fun h=>less (l[h]?.getD default) (l[a]?.getD default)) (b - m) m b h2;exact r8 l _ _ _ h1 this.1
  |false=>
   rw[cond_false];cases hd2:decide (b - m=1)with
   |true=>
    rw[cond_true];have:=gD (fun h=> !less (l[m]?.getD default) (l[h]?.getD default)) (m - a) a m h1;exact r8 l _ _ _ this.2 h2
   |false=>
    rw[cond_false];have hs:∃ s0 r0,s0≤r0∧a≤s0∧r0≤m∧r0≤(a+b) / 2∧(a+b) / 2+m - s0≤b∧m≤(a+b) / 2+m - r0∧(bif decide ((a+b) / 2<m)then(a+b) / 2+m - b else a)=s0∧(bif decide ((a+b) / 2<m)then(a+b) / 2 else m)=r0:=by
     cases hm:decide ((a+b) / 2<m)with
     |true=>have:=of_decide_eq_true hm;exact⟨(a+b) / 2+m - b,(a+b) / 2,by omega,by omega,by omega,by omega,by omega,by omega,rfl,rfl⟩
     |false=>have:=of_decide_eq_false hm;exact⟨a,m,by omega,by omega,by omega,by omega,by omega,by omega,rfl,rfl⟩
    obtain⟨s0,r0,a1,a2,a3,a4,a5,a6,e1,e2⟩:=hs;dsimp only;rw[e1,e2];obtain⟨b1,b2⟩:=gD (fun c=> !less (l[(a+b) / 2+m - 1 - c]?.getD default) (l[c]?.getD default)) (r0 - s0) s0 r0 a1;generalize sU (fun c=> !less (l[(a+b) / 2+m - 1 - c]?.getD default) (l[c]?.getD default)) (r0 - s0) s0 r0=s at b1 b2⊢;have p1:(bif decide (s<m)&&decide (m<(a+b) / 2+m - s)then pN l s m ((a+b) / 2+m - s)else l).Perm l:=by
     cases decide (s<m)&&decide (m<(a+b) / 2+m - s)with
     |true=>exact r8 l _ _ _ (by omega) (by omega)
     |false=>exact .refl _
    generalize (bif decide (s<m)&&decide (m<(a+b) / 2+m - s)then pN l s m ((a+b) / 2+m - s)else l)=l1 at p1⊢;have p2:(bif decide (a<s)&&decide (s<(a+b) / 2)then lP less f l1 a s ((a+b) / 2)else l1).Perm l1:=by
     cases decide (a<s)&&decide (s<(a+b) / 2)with
     |true=>exact oK f l1 _ _ _ (by omega) (by omega) (by rw[p1.length_eq];omega)
     |false=>exact .refl _
    generalize (bif decide (a<s)&&decide (s<(a+b) / 2)then lP less f l1 a s ((a+b) / 2)else l1)=l2 at p2⊢;have p3:(bif decide ((a+b) / 2<(a+b) / 2+m - s)&&decide ((a+b) / 2+m - s<b)then lP less f l2 ((a+b) / 2) ((a+b) / 2+m - s) b else l2).Perm l2:=by
     cases decide ((a+b) / 2<(a+b) / 2+m - s)&&decide ((a+b) / 2+m - s<b)with
     |true=>exact oK f l2 _ _ _ (by omega) (by omega) (by rw[p2.length_eq,p1.length_eq];omega)
     |false=>exact .refl _
    exact p3.trans (p2.trans p1)
theorem tG(n bs:Nat):∀ (f a:Nat) (l:List α),n≤l.length→(s6 less n bs f a l).Perm l
 |0,_,l,_=> .refl _
 |f+1,a,l,h=>by
  unfold s6;cases hd:decide (a+2*bs≤n)with
  |true=>
   rw[cond_true];have:=of_decide_eq_true hd;have h1:=oK less (2*bs) l a (a+bs) (a+2*bs) (by omega) (by omega) (by omega);exact(tG n bs f _ _ (by rw[h1.length_eq];exact h)).trans h1
  |false=>
   rw[cond_false];cases hd2:decide (a+bs<n)with
   |true=>have:=of_decide_eq_true hd2;exact oK less n l a (a+bs) n (by omega) (by omega) h
   |false=>exact .refl _
theorem uA(n:Nat):∀ (f bs:Nat) (l:List α),n≤l.length→(pM less n f bs l).Perm l
 |0,_,l,_=> .refl _
 |f+1,bs,l,h=>by
  unfold pM;cases decide (bs<n)with
  |true=>
   rw[cond_true];have h1:=tG less n bs n 0 l h;exact(uA n f (bs*2) _ (by rw[h1.length_eq];exact h)).trans h1
  |false=>exact .refl _
theorem pQ(l:List α):(ze less l).Perm l:=by
 unfold ze;have h1:=tr less l.length l.length 0 l (aq _);exact(uA less l.length l.length 20 _ (by rw[h1.length_eq];exact aq _)).trans h1
end
def qW(s:Vs)(g:Tg)(w:Nat):Option (List (List U))→Option (U×Vs)
 |some ys=>bif(s.cg g).isSome then some (.aX [],s.fB g w ys)else none
 |none=>none
@[simp] theorem qgX(s:Vs)(g:Tg)(w:Nat)(ys:List (List U)):qW s g w (some ys)=bif(s.cg g).isSome then some (.aX [],s.fB g w ys)else none:=rfl
@[simp] theorem qcP(Q:mE)(F:FU)(s:Vs)(d f:Nat)(g:Tg)(w:Nat)(xs:List (List U))(rest:List U)(q:List (List U)→List U→Option (List (List U))):
  C6 Q F s d f (.own g w xs::rest) (some q)=qW s g w (q xs rest):=by
 simp only[C6];cases q xs rest<;>rfl
def aW(s:Vs)(d:Nat)(g:Tg)(w:Nat)(rest:List U):Option (List (List U))→Option (U×Vs)
 |some ys=>bif !(decide (g=.a))&&lW w ys&&uv g rest then some (.own (.t d) w ys,(s.kill g).kill (.t d))else none
 |none=>none
@[simp] theorem qgu(s:Vs)(d:Nat)(g:Tg)(w:Nat)(rest:List U)(ys:List (List U)):aW s d g w rest (some ys)=bif !(decide (g=.a))&&lW w ys&&uv g rest then some (.own (.t d) w ys,(s.kill g).kill (.t d))else none:=rfl
@[simp] theorem qcO(Q:mE)(F:FU)(s:Vs)(d f:Nat)(g:Tg)(w:Nat)(xs:List (List U))(rest:List U)(q:List (List U)→List U→Option (List (List U))):
  xZ Q F s d f (.own g w xs::rest) (some q)=aW s d g w rest (q xs rest):=by
 simp only[xZ];cases q xs rest<;>rfl
theorem mu(l:List cD):(qk l).length=l.length:=(pQ aY l).length_eq
theorem t139(a b:List cD)(ha:a.length<small / 4)(hb:b.length<small / 4):G 139 [.sl 2 (a.map aP),.sl 2 (b.map aP)] [] 0=some (.own .r 2 ((kY a b).map aP),[],0):=by
 refine bJ (fn:=v139) rfl rfl rfl ?_;have fa:(a.filter dG).length≤a.length:=List.length_filter_le _ _;have fb:(b.filter dG).length≤b.length:=List.length_filter_le _ _;have hs:(qk (a.filter dG++b.filter dG)).length<small:=by rw[mu];simp;unfold small at*;omega
 have e1:aI .i64 ((a.length:Int)+(b.length:Int))=((a.length+b.length:Nat):Int):=by
  rw[show(a.length:Int)+(b.length:Int)=((a.length+b.length:Nat):Int) by omega];exact eT (by unfold small at*;omega)
 have e2:∀ d s,msV d s 2 32 [.str [],.str []] (some (.int .i64 0)) (some (.int .i64 ((a.length:Int)+(b.length:Int))))=some (.own (.t d) 2 [],s.kill (.t d)):=fun d s=>JB (by omega) (by unfold small at*;unfold aZ;omega) rfl;have c1:=t190 a [] (by unfold small at*;omega) (by decide);have c2:=t190 b (a.filter dG) (by unfold small at*;omega) (by unfold small at*;omega);have c3:=JW (a.filter dG++b.filter dG) (by simp;unfold small at*;omega);have c4:=qbZ _ hs (qk (a.filter dG++b.filter dG)).length 0 [] (by omega) (by simp);simp[mu]at c1 c2 c3 c4;simp at e1;simp[xe,RX,RY,RZ,R1,R2,R3,R4,R5,e1,e2,c1,c2,c3,mu];exact c4
@[simp] theorem j9(l:List cD):U.j8 (l.map aP)=true:=by
 induction l with
 |nil=>rfl
 |cons a l ih=>rw[List.map_cons,U.j8,ih];rfl
def DW(l:List cD)(s:cD):List cD:=kY l [s]
theorem t112(l:List cD)(s:cD)(hl:l.length<small / 4):G 112 [.sl 2 (l.map aP),.agg (aP s)] [] 0=some (.own .r 2 ((DW l s).map aP),[],0):=by
 refine bJ (fn:=Ro) rfl rfl rfl ?_;have c:=t139 l [s] hl (by show 1<small / 4;decide);simp only[aP,List.map_cons,List.map_nil]at c;simp[w8,Rp,Rq,aP,c,DW]
theorem Hz(out:List cD)(s:cD):(lZ out s).length≤out.length+1:=by
 unfold lZ;cases h:out.getLast? with
 |none=>simp
 |some x=>
  dsimp only;cases x.2 !=[]&&lt x.2 s.1 with
  |true=>simp
  |false=>
   cases x.2 !=[]&&(s.2==[]||lt x.2 s.2)with
   |true=>simp
   |false=>simp
theorem LY:∀ (l out:List cD),(l.foldl lZ out).length≤out.length+l.length
 |[],out=>by simp
 |s::l,out=>by
  have:=LY l (lZ out s);have:=Hz out s;simp only[List.foldl_cons,List.length_cons];omega
theorem iD(a b:List cD):(kY a b).length≤a.length+b.length:=by
 have:=LY (qk (a.filter dG++b.filter dG)) [];rw[mu]at this;have fa:(a.filter dG).length≤a.length:=List.length_filter_le _ _;have fb:(b.filter dG).length≤b.length:=List.length_filter_le _ _;unfold kY;simp at this⊢;omega
theorem dh{z:Int}(h0: -4000000000000000000≤z)(h1:z≤4000000000000000000):aI .i64 z=z:=by
 cases z with
 |ofNat m=>exact Cu (by have:(Int.ofNat m)=(m:Int):=rfl;omega)
 |negSucc m=>
  have:m≤AN .i64:=by show m≤9223372036854775807;omega
  simp only[aI,ou this,Bool.and_true];rfl
def lV(n:Nat):Nat:=max n 1
theorem P3(n:Nat):n≤lV n∧1≤lV n:=by unfold lV;omega
def mx(a b:Nat):Nat:=max a b
def mn(a b:Nat):Nat:=min a b
@[simp] theorem qgN(k:IntKind)(n:Nat):lN yj (.int k (n:Int)) (.int k 1)=some (.int k (lV n:Nat)):=by
 have e:(if(1:Int)>(n:Int)then(1:Int)else(n:Int))=(lV n:Nat):=by
  unfold lV;split<;>omega
 show Md (if k=k then some (V.int k (if(1:Int)>(n:Int)then(1:Int)else(n:Int)))else none)=_;rw[if_pos rfl,e];rfl
@[simp] theorem qgO(k:IntKind)(n m:Nat):lN yj (.int k (n:Int)) (.int k (m:Int))=some (.int k (mx n m:Nat)):=by
 have e:(if(m:Int)>(n:Int)then(m:Int)else(n:Int))=(mx n m:Nat):=by
  unfold mx;split<;>omega
 show Md (if k=k then some (V.int k (if(m:Int)>(n:Int)then(m:Int)else(n:Int)))else none)=_;rw[if_pos rfl,e];rfl
@[simp] theorem qgP(k:IntKind)(n m:Nat):lN A0 (.int k (n:Int)) (.int k (m:Int))=some (.int k (mn n m:Nat)):=by
 have e:(if(m:Int)<(n:Int)then(m:Int)else(n:Int))=(mn n m:Nat):=by
  unfold mn;split<;>omega
 show Md (if k=k then some (V.int k (if(m:Int)<(n:Int)then(m:Int)else(n:Int)))else none)=_;rw[if_pos rfl,e];rfl
def Po(l:List cD)(n:Nat):List cD:=
 bif decide (lV n<l.length)then(l.set (l.length - lV n) ((l[0]?.getD default).1,(l[l.length - lV n]?.getD default).2)).drop (l.length - lV n)else l
def qo(l:List cD)(n:Nat):List cD:=Po (kY l []) n
theorem Pq(l:List cD)(n:Nat):(Po l n).length≤lV n∧(Po l n).length≤l.length:=by
 unfold Po;cases h:decide (lV n<l.length)with
 |true=>simp;omega
 |false=>have:=of_decide_eq_false h;simp;omega
theorem oA(l:List cD)(n:Nat):(qo l n).length≤lV n∧(qo l n).length≤l.length:=by
 have h1:=Pq (kY l []) n;have h2:=iD l [];unfold qo;simp at h2;omega
theorem t101(l:List cD)(n:Nat)(hl:l.length<small / 4)(hn:n<small):G 101 [.sl 2 (l.map aP),.int .i64 (n:Int)] [] 0=some (.own .r 2 ((qo l n).map aP),[],0):=by
 refine bJ (fn:=QO) rfl rfl rfl ?_;have c:=t139 l [] hl (by decide);have hj:=iD l [];have hm:=P3 n;have hm2:lV n<small:=by unfold lV;unfold small at*;omega
 unfold qo;generalize kY l []=L at*;simp only[List.map_nil]at c;simp at hj;have hL:L.length<small:=by unfold small at*;omega
 have e1:aI .i64 ((L.length:Int) - (lV n:Int))=(L.length:Int) - (lV n:Int):=by
  unfold small at hL hm2;exact dh (by omega) (by omega)
 have e2:decide (0<(L.length:Int) - (lV n:Int))=decide (lV n<L.length):=by
  rw[decide_eq_decide];omega
 unfold Po;cases h:decide (lV n<L.length)with
 |true=>
  have hlt:=of_decide_eq_true h;obtain⟨k,hk⟩:∃ k,L.length=k+lV n:=⟨L.length - lV n,by omega⟩;have e3:L.length - lV n=k:=by omega
  have e4:(L.length:Int) - (lV n:Int)=(k:Int):=by omega
  have hk1:k<L.length:=by omega
  have h0:0<L.length:=by omega
  have hlen:(L.map aP).length=L.length:=by simp
  have ia0:∀ s',qf s' 2 (some (.own (.t 8) 2 (L.map aP))) (some (.int .i64 0))=some (.bD (.t 8) 0 0,s'):=fun s' =>cz (n:=0) (by simpa using h0);have iak:∀ s',qf s' 2 (some (.own (.t 8) 2 (L.map aP))) (some (.int .i64 (k:Int)))=some (.bD (.t 8) k 0,s'):=fun s' =>cz (by simpa using hk1);have r0:(L.map aP)[0]? =some [.str (L[0]?.getD default).1,.str (L[0]?.getD default).2]:=by simp[aP,h0]
  have rk:(L.map aP)[k]? =some [.str (L[k]?.getD default).1,.str (L[k]?.getD default).2]:=by simp[aP,hk1]
  have ek:fK (.int .i64 (k:Int)) L.length=some k:=by
   show asNat (.int .i64 (k:Int)) _=some k;simp only[asNat];rw[if_pos ⟨Int.natCast_nonneg k,by omega⟩];rfl
  rw[e3];generalize (L[0]?.getD default).1=A at*;generalize (L[0]?.getD default).2=A' at*;generalize (L[k]?.getD default).1=B at*;generalize (L[k]?.getD default).2=B' at*;have hc:=gQ (f:=62) rfl (w:=2) (xs:=((L.set k (A,B')).drop k).map aP) [] 0 (by simp;omega) (kH _);have hset:(L.map aP).set k [.str A,.str B']=(L.set k (A,B')).map aP:=by simp[aP]
  have hmd:((L.set k (A,B')).map aP).drop k=((L.set k (A,B')).drop k).map aP:=by rw[List.map_drop]
  have hmt:((L.set k (A,B')).map aP).take L.length=(L.set k (A,B')).map aP:=jU (by simp);have hml:((L.set k (A,B')).map aP).length=L.length:=by simp
  rw[cond_true];generalize (L.set k (A,B'))=L' at*;generalize hX:L.map aP=X at*;have hl2:X.length=L.length:=by rw[←hX];simp
  rw[←hmd]at hc;have hfl:U.j8 ((L'.map aP).drop k)=true:=by rw[hmd];exact j9 _
  have rk2:∀ hh:k<X.length,X[k]=[.str B,.str B']:=fun hh=>by rw[bL hh]at rk;exact Option.some.inj rk
  have e5:aI .i64 (k:Int)=(k:Int):=eT (by unfold small at hL;omega);have e6:0<k:=by omega
  have e7:aI .i64 ((L.length:Int) - (lV n:Int))=(k:Int):=by rw[e1,e4]
  have e8:bw [] none X.length X.length=some X.length:=rfl;have ek2:fK (.int .i64 (k:Int)) X.length=some k:=by rw[hl2];exact ek
  simp[sj,J7,J8,J9,Ka,QS,QT,Kb,aP,c,e7,e6,ia0,iak,r0,rk,rk2,hset,hl2,hk1,ek,hml,hmt,hc,hfl]
 |false=>
  simp[sj,J7,J8,J9,Ka,Kb,aP,c,e1,e2,h]
end Go.RE
namespace Go.RE
@[simp] theorem JP(l:List Rc):iP 6 (l.map recC)=true:=nv (fun v=>by simp[recC]) l
theorem t107(r:Rc)(hr:fJ r):G 107 [.agg (recC r)] [] 0=some (.agg (recC r),[],0):=by
 refine bJ (fn:=v107) rfl rfl rfl ?_;have c1:=gQ (f:=62) rfl (w:=2) (xs:=r.reads.map aP) [] 0 (by simp;unfold fJ small at*;omega) (kH _);have c2:=gQ (f:=62) rfl (w:=2) (xs:=r.writes.map aP) [] 0 (by simp;unfold fJ small at*;omega) (kH _);simp[sr,Kd,au Mn,E2,Ke,recC,c1,c2,cT]
def Hl(r:Rc):Nat:=bif r.writes.isEmpty then r.began else r.last
theorem t141(r:Rc):G 141 [.agg (recC r)] [] 0=some (.int .u64 (Hl r),[],0):=by
 refine bJ (fn:=v141) rfl rfl rfl ?_;cases h:r.writes with
 |nil=>simp[su,Kk,Kl,Sa,recC,Hl,h]
 |cons a l=>
  have e:((l.length:Int)+1==0)=false:=by rw[beq_eq_false_iff_ne];omega
  simp[su,Kk,Kl,Sb,recC,Hl,h,e]
def sZ(t r:Rc):Bool:=decide (t.began<r.last)
theorem t140(r t:Rc)(i:Nat)(h:List Uo)(fl:Nat)(hf:fl≤h.length)(hi:h[i]? =some (.row (recC t))):G 140 [.agg (recC r),.ptr i 0] h fl=some (.bool (sZ t r),h,fl):=by
 refine bJ (fn:=R7) rfl rfl rfl ?_;simp only[recC]at hi;simp[xg,R8,R9,recC,aT hi,sZ,gh hf]
def Ju(a b:Nat):Nat:=bif a==0 then b else bif b==0||decide (a<b)then a else b
theorem t197(a b:Nat):G 197 [.int .u64 (a:Int),.int .u64 (b:Int)] [] 0=some (.int .u64 (Ju a b),[],0):=by
 refine bJ (fn:=On) rfl rfl rfl ?_;have e1:∀ n:Nat,((n:Int)==0)=(n==0):=fun n=>by cases n<;>simp;omega
 cases h1:a==0<;>cases h2:b==0<;>cases h3:decide (a<b)<;>simp[xL,Tu,Tv,Tw,Ty,Tz,TA,Ju,h1,h2,h3,e1]
def bI(l:List Rc)(low:Nat):List Rc:=l.filter fun r=>decide (low<r.last)
theorem qfQ(l:List Rc)(low:Nat)(hl:l.length<small)(hok:∀ r∈l,fJ r):∀ (j i:Nat) (out:List Rc),i+j=l.length→out.length≤i→
  gL bq mT qT pT v66 0 lQ 0 ⟨[(10,.int .i64 (i:Int)),(5,.own (.t 5) 6 (out.map recC)),(1,.int .u64 (low:Int)),(8,.sl 6 (l.map recC)),(9,.int .i64 (l.length:Int))],[],0⟩
   (gy bq mT qT pT v66 (.seq (.region vU) .ret) (kE 0 v66 (.own .r 6 ((out++bI (l.drop i) low).map recC),[],0))):=by
 intro j
 induction j with
 |zero=>
  intro i out hij ho;obtain⟨h1,h2⟩:=nB hij;rw[ak lQ.eq_1,h2];simp[qn,vU,h1,bI]
 |succ j ih=>
  intro i out hij ho;obtain⟨h1,e3,r,d1,g1⟩:=ql hij hl;have e1:=g1 recC;have hr:fJ r:=hok r (List.mem_of_mem_drop (i:=i) (by rw[d1];exact eU));have c:=t107 r hr;rw[ak lQ.eq_1,d1];simp only[recC]at e1 c;cases hn:decide (low<r.last)with
  |false=>
   have ih' :=ih (i+1) out (by omega) (by omega);simp[qn,Cf,Cg,Ch,h1,aS e1,e3,recC,hn,bI];simpa[recC,bI]using ih'
  |true=>
   have ih' :=ih (i+1) (out++[r]) (by omega) (by simp;omega);have b1:(out.length+1)*80≤aZ∧out.length+1≤aZ:=by unfold small at hl;unfold aZ;omega
   simp[qn,Cf,Cg,M8,Ch,h1,aS e1,e3,recC,c,hn,b1,bI];simpa[recC,bI]using ih'
theorem t66(l:List Rc)(low:Nat)(hl:l.length<small)(hok:∀ r∈l,fJ r):G 66 [.sl 6 (l.map recC),.int .u64 (low:Int)] [] 0=some (.own .r 6 ((bI l low).map recC),[],0):=by
 refine bJ (fn:=v66) rfl rfl rfl ?_;have:=qfQ l low hl hok l.length 0 [] (by omega) (by simp);simp[nF,DQ,DR,DS];simpa using this
def qg(a b:Rc)(n:Nat):Rc:=⟨mn a.first b.first,mx a.last b.last,mx a.began b.began,Ju a.out b.out,qo (kY a.reads b.reads) n,qo (kY a.writes b.writes) n⟩
theorem t146(a b:Rc)(n:Nat)(ha:fJ a)(hb:fJ b)(hn:n<small):G 146 [.agg (recC a),.agg (recC b),.int .i64 (n:Int)] [] 0=some (.agg (recC (qg a b n)),[],0):=by
 refine bJ (fn:=v146) rfl rfl rfl ?_;have c0:=t197 a.out b.out;have c1:=t139 a.reads b.reads (by unfold fJ small at*;omega) (by unfold fJ small at*;omega);have c2:=t139 a.writes b.writes (by unfold fJ small at*;omega) (by unfold fJ small at*;omega);have l1:=iD a.reads b.reads;have l2:=iD a.writes b.writes;have c3:=t101 (kY a.reads b.reads) n (by unfold fJ small at*;omega) hn;have c4:=t101 (kY a.writes b.writes) n (by unfold fJ small at*;omega) hn;simp[xu,Sr,au Xv,Mv,recC,c0,c1,c2,c3,c4,qg,cT]
def Vw(r:Rc):Nat:=r.reads.length+r.writes.length
def sQ:List Rc→Nat
 |[]=>0
 |r::l=>Vw r+sQ l
theorem XD{l:List Rc}{r:Rc}(h:r∈l):Vw r≤sQ l:=by
 induction l with
 |nil=>cases h
 |cons a l ih=>
  rcases dM.1 h with rfl|h
  ·simp only[sQ];omega
  ·have:=ih h;simp only[sQ];omega
theorem Cw{l:List Rc}(h:sQ l<small / 8){r:Rc}(hr:r∈l):fJ r:=by
 have:=XD hr;unfold Vw at this;exact⟨by omega,by omega⟩
theorem Nd(a b:Rc)(n:Nat):Vw (qg a b n)≤Vw a+Vw b:=by
 have l1:=iD a.reads b.reads;have l2:=iD a.writes b.writes;have l3:=oA (kY a.reads b.reads) n;have l4:=oA (kY a.writes b.writes) n;unfold Vw;show(qo (kY a.reads b.reads) n).length+(qo (kY a.writes b.writes) n).length≤_;omega
def qew(n m:Nat):Nat→List Rc→List Rc
 |f+1,a::b::r=>bif decide (n<r.length+2)then qew n m f (qg a b m::r)else a::b::r
 |_,l=>l
def oe(n m:Nat)(l:List Rc):List Rc:=qew n m l.length l
theorem rN(n m:Nat)(a b:Rc)(r:List Rc):oe n m (a::b::r)=bif decide (n<r.length+2)then oe n m (qg a b m::r)else a::b::r:=rfl
theorem oz(n m:Nat):oe n m []=[]:=rfl
theorem qA(n m:Nat)(a:Rc):oe n m [a]=[a]:=rfl
theorem qbX(n m:Nat)(hn1:1≤n)(hn:n<small)(hm:m<small):∀ (j:Nat) (l:List Rc),l.length=j→l.length<small→sQ l<small / 8→
  gL bq mT qT pT qX 2 oN 0 ⟨[(7,.own (.t 7) 6 (l.map recC)),(2,.int .i64 (m:Int)),(1,.int .i64 (n:Int))],[],0⟩
   (gy bq mT qT pT qX (.seq (.region uR) .ret) (kE 0 qX (.own .r 6 ((oe n m l).map recC),[],0))):=by
 intro j
 induction j with
 |zero=>
  intro l hj hl hw;have:l=[]:=List.length_eq_zero_iff.1 hj;subst this;have c:=gQ (f:=97) rfl (w:=6) (xs:=[]) [] 0 (by decide) rfl;have h0:¬((n:Int)<0):=by omega
  rw[ak oN.eq_1];simp[E1,uR,oz,c,h0]
 |succ j ih=>
  intro l hj hl hw;have c:=gQ (f:=97) rfl (w:=6) (xs:=l.map recC) [] 0 (by simpa using hl) (JP _);cases hd:decide (n<l.length)with
  |false=>
   have e:oe n m l=l:=by
    match l,hd with
    |[],_=>simp[oz,qA]
    |[a],_=>simp[oz,qA]
    |a::b::r,hd=>rw[rN];simp only[List.length_cons]at hd;rw[hd,cond_false]
   rw[ak oN.eq_1,e];cases hfl:U.j8 (l.map recC)<;>simp[E1,uR,c,hd,hfl]
  |true=>
   match l,hd,hj with
   |a::b::r,hd,hj=>
   have hlt:=of_decide_eq_true hd;have c1:=t146 a b m (Cw hw (by simp)) (Cw hw (by simp)) hm;have hw2:sQ (qg a b m::r)<small / 8:=by have:=Nd a b m;simp only[sQ]at hw⊢;omega
   have ih' :=ih (qg a b m::r) (by simpa using hj) (by simp at hl⊢;omega) hw2;have e:oe n m (a::b::r)=oe n m (qg a b m::r):=by
    rw[rN];simp only[List.length_cons]at hd;rw[hd,cond_true]
   rw[ak oN.eq_1,e];simp only[recC]at c1;simp only[List.length_cons]at hd;have h1:(n:Int)<(r.length:Int)+1+1:=by simp at hlt;omega
   have h2:0<(r.length:Int)+1+1:=by omega
   have h3:1<(r.length:Int)+1+1:=by omega
   have h4:fK (.int .i64 1) (r.length+1+1)=some 1:=by
    show asNat (.int .i64 1) _=some 1;simp only[asNat];rw[if_pos ⟨by decide,by omega⟩];rfl
   simp[E1,au Q7,Br,Mm,c1,recC,h1,h2,h3,h4,cT];have h5:(r.map recC).take r.length=r.map recC:=jU (by simp);rw[h5];exact ih'
   |[a],hd,hj=>have:=of_decide_eq_true hd;simp at this;omega
   |[],hd,hj=>have:=of_decide_eq_true hd;simp at this
theorem qbW(l:List Rc)(n m:Nat)(hl:l.length<small)(hw:sQ l<small / 8)(K:Ex→Vs→Prop)(hK:K .normal ⟨[(7,.own (.t 7) 6 (l.map recC)),(2,.int .i64 (m:Int)),(1,.int .i64 (n:Int))],[],0⟩):∀ (j i:Nat),i+j=l.length→
  gL bq mT qT pT qX 0 zB 0 ⟨[(17,.int .i64 (i:Int)),(7,.own (.t 7) 6 ((l.take i).map recC)),(15,.sl 6 (l.map recC)),(2,.int .i64 (m:Int)),(1,.int .i64 (n:Int)),(16,.int .i64 (l.length:Int))],[],0⟩ K:=by
 intro j
 induction j with
 |zero=>
  intro i hij;obtain⟨h1,h2⟩:=nB hij;have h3:l.take i=l:=jU (by omega);rw[ak zB.eq_1,h3];simp[Kc,h1];exact hK
 |succ j ih=>
  intro i hij;obtain⟨h1,e3,r,d1,g1⟩:=ql hij hl;have e1:=g1 recC;have hr:fJ r:=Cw hw (List.mem_of_mem_drop (i:=i) (by rw[d1];exact eU));have c:=t107 r hr;have hi:i<l.length:=by omega
  have hlt:l.take (i+1)=l.take i++[r]:=by
   rw[List.take_add_one];have:l[i]? =some r:=by rw[←List.head?_drop,d1];rfl
   rw[this];rfl
  have ih' :=ih (i+1) (by omega);rw[hlt]at ih';rw[ak zB.eq_1];have b1:(min i l.length+1)*80≤aZ∧min i l.length+1≤aZ:=by unfold small at hl;unfold aZ;omega
  simp only[recC]at e1 c;simp[Kc,Ra,Rb,Re,h1,aS e1,e3,recC,c,b1];simpa[recC]using ih'
theorem t104(l:List Rc)(n m:Nat)(hl:l.length<small)(hw:sQ l<small / 8)(hn:n<small)(hm:m<small):G 104 [.sl 6 (l.map recC),.int .i64 (n:Int),.int .i64 (m:Int)] [] 0=some (.own .r 6 ((oe (lV n) m l).map recC),[],0):=by
 refine bJ (fn:=qX) rfl rfl rfl ?_;have hb:=qbX (lV n) m (P3 n).2 (by unfold lV;unfold small at*;omega) hm l.length l rfl hl hw;have:=qbW l (lV n) m hl hw _ (show gy bq mT qT pT qX (.seq (.block 2 (.loop oN)) (.seq (.region uR) .ret)) (kE 0 qX (.own .r 6 ((oe (lV n) m l).map recC),[],0)) .normal _ by simpa using hb) l.length 0 (by omega);have e2:∀ d s,msV d s 6 80 [.int .u64 0,.int .u64 0,.int .u64 0,.int .u64 0,.ag [] 0 0 2,.ag [] 0 0 2] (some (.int .i64 0)) (some (.int .i64 (l.length:Int)))=some (.own (.t d) 6 [],s.kill (.t d)):=fun d s=>JB (by omega) (by simp;unfold small at*;unfold aZ;omega) rfl;simp[wY,Q5,Q6,Q8,Q9,e2];simpa using this
def IC(t:Rc)(s:Nat×Bool)(r:Rc):Nat×Bool:=bif sZ t r&&sY r.reads t.writes then(mx s.1 (Hl r),true)else s
def yF(t:Rc)(most:Nat)(inn:Bool):Nat×Bool→List Rc→Option (Nat×Bool)
 |s,[]=>some s
 |s,r::l=>bif !sZ t r|| !sY t.reads r.writes then yF t most inn s l
  else bif(!(r.out==0)&&decide (0<t.writes.length))||(!(r.out==0)&&decide (r.out≤t.began))||(inn&&decide (r.first≤most))then none
  else yF t most inn (bif !s.2||decide (r.first<s.1)then(r.first,true)else s) l
def jM(l:List Rc)(t:Rc):Option Nat:=
 let a:=l.foldl (IC t) (0,false)
 (yF t a.1 a.2 (0,false) l).map (·.1)
theorem qbT(l:List Rc)(t:Rc)(hl:l.length<small)(hok:∀ r∈l,fJ r)(ht:fJ t)(K:Ex→Vs→Prop)
  (hK:K .normal ⟨[(7,.int .u64 ((l.foldl (IC t) (0,false)).1:Nat)),(8,.bool (l.foldl (IC t) (0,false)).2),(3,.ptr 0 0),(6,.func 140 [] [.ptr 0 0]),(0,.sl 6 (l.map recC))],[.row (recC t)],0⟩):∀ (j i:Nat) (s:Nat×Bool),i+j=l.length→(l.drop i).foldl (IC t) s=l.foldl (IC t) (0,false)→
  gL bq mT qT pT mb 0 zl 1 ⟨[(19,.int .i64 (i:Int)),(7,.int .u64 (s.1:Nat)),(3,.ptr 0 0),(6,.func 140 [] [.ptr 0 0]),(17,.sl 6 (l.map recC)),(8,.bool s.2),(0,.sl 6 (l.map recC)),(18,.int .i64 (l.length:Int))],[.row (recC t)],0⟩ K:=by
 intro j
 induction j with
 |zero=>
  intro i s hij hs;obtain⟨h1,h2⟩:=nB hij;rw[h2]at hs;simp only[List.foldl_nil]at hs;rw[←hs]at hK;rw[ak zl.eq_1];simp[Bn,h1,recC]at hK⊢;exact hK
 |succ j ih=>
  intro i s hij hs;obtain⟨h1,e3,r,d1,g1⟩:=ql hij hl;have e1:=g1 recC;have hr:fJ r:=hok r (List.mem_of_mem_drop (i:=i) (by rw[d1];exact eU));rw[d1,List.foldl_cons]at hs;have ih' :=ih (i+1) (IC t s r) (by omega) hs;have c0:=t140 r t 0 [.row (recC t),.row (recC r)] 0 (dS _) rfl;have c1:=t108 r.reads t.writes (by unfold fJ small at*;omega) (by unfold fJ small at*;omega);have c2:=t141 r;rw[ak zl.eq_1];simp only[recC]at e1 c0 c2;cases hn:sZ t r with
  |false=>
   rw[hn]at c0;have e:IC t s r=s:=by simp[IC,hn]
   rw[e]at ih';simp[Bn,ET,EU,EV,h1,aS e1,e3,recC,c0,hn];simpa[recC]using ih'
  |true=>
   rw[hn]at c0;cases hm:sY r.reads t.writes with
   |false=>
    rw[hm]at c1;have e:IC t s r=s:=by simp[IC,hm]
    rw[e]at ih';simp[Bn,ET,EU,EV,h1,aS e1,e3,recC,c0,c1,hn];simpa[recC]using ih'
   |true=>
    rw[hm]at c1;have e:IC t s r=(mx s.1 (Hl r),true):=by simp[IC,hn,hm]
    rw[e]at ih';simp[Bn,ET,EU,QY,EV,h1,aS e1,e3,recC,c0,c1,c2,hn];simpa[recC]using ih'
def wG:Option Nat→U
 |some n=> .aX [.int .u64 (n:Int),.int .i64 0]
 |none=> .aX [.int .u64 0,.int .i64 101]
abbrev qaW(R:U):Ex→Vs→Prop:=gy bq mT qT pT mb (.seq (.seq (.region nY)
 (.cond (.t 96) (.seq (.region pV)
 .ret) .skip))
 (.seq (.region zk)
 .ret)) (gy bq mT qT pT mb .skip (kE 0 mb (R,[],0)))
theorem qbU(l:List Rc)(t:Rc)(hl:l.length<small)(hok:∀ r∈l,fJ r)(ht:fJ t)(most:Nat)(inn:Bool):∀ (j i:Nat) (s:Nat×Bool),i+j=l.length→
  gL bq mT qT pT mb 2 oM 1 ⟨[(40,.int .i64 (i:Int)),(11,.int .u64 (s.1:Nat)),(12,.bool s.2),(7,.int .u64 (most:Int)),(8,.bool inn),(3,.ptr 0 0),(6,.func 140 [] [.ptr 0 0]),(38,.sl 6 (l.map recC)),(13,.bool false),(39,.int .i64 (l.length:Int))],[.row (recC t)],0⟩
   (qaW (wG ((yF t most inn s (l.drop i)).map (·.1)))):=by
 intro j
 induction j with
 |zero=>
  intro i s hij;obtain⟨h1,h2⟩:=nB hij;rw[ak oM.eq_1,h2];simp[uN,h1,recC,yF,wG,nY,zk]
 |succ j ih=>
  intro i s hij;obtain⟨h1,e3,r,d1,g1⟩:=ql hij hl;have e1:=g1 recC;have hr:fJ r:=hok r (List.mem_of_mem_drop (i:=i) (by rw[d1];exact eU));have c0:=t140 r t 0 [.row (recC t),.row (recC r)] 0 (dS _) rfl;have c1:=t108 t.reads r.writes (by unfold fJ small at*;omega) (by unfold fJ small at*;omega);have ih' :=ih (i+1) s (by omega);have ihB:=ih (i+1) (r.first,true) (by omega);rw[ak oM.eq_1,d1];simp only[recC]at e1 c0;cases hn:sZ t r with
  |false=>
   rw[hn]at c0;simp[uN,zh,zi,gu,h1,aS e1,e3,recC,c0,hn,yF];simpa[recC]using ih'
  |true=>
   rw[hn]at c0;cases hm:sY t.reads r.writes with
   |false=>
    rw[hm]at c1;simp[uN,zh,zi,gu,h1,aS e1,e3,recC,c0,c1,hn,hm,yF];simpa[recC]using ih'
   |true=>
    rw[hm]at c1;have z1:((r.out:Int)==0)=(r.out==0):=by cases r.out<;>simp;omega
    have z2:decide (0<(t.writes.length:Int))=decide (0<t.writes.length):=by rw[decide_eq_decide];omega
    simp[uN,zh,zi,h1,aS e1,recC,c0,c1,hn,hm,yF,qaW];have fin:gL bq mT qT pT mb 2 oM 1 ⟨[(40,.int .i64 ((i+1:Nat):Int)),(11,.int .u64 ((bif !s.2||decide (r.first<s.1)then(r.first,true)else s).1:Nat)),(12,.bool (bif !s.2||decide (r.first<s.1)then(r.first,true)else s).2),(7,.int .u64 (most:Int)),(8,.bool inn),(3,.ptr 0 0),(6,.func 140 [] [.ptr 0 0]),(38,.sl 6 (l.map recC)),(13,.bool false),(39,.int .i64 (l.length:Int))],[.row (recC t)],0⟩
      (qaW (wG ((yF t most inn (bif !s.2||decide (r.first<s.1)then(r.first,true)else s) (l.drop (i+1))).map (·.1)))):=ih (i+1) _ (by omega)
    cases q1:r.out==0 with
    |true=>
     have z0:r.out=0:=by simpa using q1
     rw[z0]at*;simp[uO,zj];cases inn with
     |false=>
      cases q5:s.2 with
      |false=>
       rw[q5]at fin;simp at fin;simp[gm,iH,mc,gu,e3,q5];simpa[recC]using fin
      |true=>
       rw[q5]at fin;cases q6:decide (r.first<s.1)with
       |false=>
        rw[q6]at fin;simp[q5]at fin;simp[gm,iH,gu,e3,q5,q6];simpa[recC]using fin
       |true=>
        rw[q6]at fin;simp at fin;simp[gm,iH,mc,gu,e3,q5,q6];simpa[recC]using fin
     |true=>
      cases q4:decide (r.first≤most)with
      |true=>simp[gm,uP,nY,pV,q4,wG]
      |false=>
       cases q5:s.2 with
       |false=>
        rw[q5]at fin;simp at fin;simp[gm,iH,mc,gu,e3,q4,q5];simpa[recC]using fin
       |true=>
        rw[q5]at fin;cases q6:decide (r.first<s.1)with
        |false=>
         rw[q6]at fin;simp[q5]at fin;simp[gm,iH,gu,e3,q4,q5,q6];simpa[recC]using fin
        |true=>
         rw[q6]at fin;simp at fin;simp[gm,iH,mc,gu,e3,q4,q5,q6];simpa[recC]using fin
    |false=>
     have z0:¬r.out=0:=by simpa using q1
     rw[q1]at z1;have z4:((r.out:Int) !=0)=true:=by rw[bne,z1];rfl
     cases q2:decide (0<t.writes.length)with
     |true=>
      rw[q2]at z2;simp[uO,uP,nY,pV,z0,z4,z2,q2,wG]
     |false=>
      rw[q2]at z2;cases q3:decide (r.out≤t.began)with
      |true=>
       simp[uO,zj,uP,nY,pV,z0,z4,z2,q2,q3,wG]
      |false=>
       simp[uO,zj,z0,z4,z2,q2,q3];cases inn with
       |false=>
        cases q5:s.2 with
        |false=>
         rw[q5]at fin;simp at fin;simp[gm,iH,mc,gu,e3,q5];simpa[recC]using fin
        |true=>
         rw[q5]at fin;cases q6:decide (r.first<s.1)with
         |false=>
          rw[q6]at fin;simp[q5]at fin;simp[gm,iH,gu,e3,q5,q6];simpa[recC]using fin
         |true=>
          rw[q6]at fin;simp at fin;simp[gm,iH,mc,gu,e3,q5,q6];simpa[recC]using fin
       |true=>
        cases q4:decide (r.first≤most)with
        |true=>simp[gm,uP,nY,pV,q4,wG]
        |false=>
         cases q5:s.2 with
         |false=>
          rw[q5]at fin;simp at fin;simp[gm,iH,mc,gu,e3,q4,q5];simpa[recC]using fin
         |true=>
          rw[q5]at fin;cases q6:decide (r.first<s.1)with
          |false=>
           rw[q6]at fin;simp[q5]at fin;simp[gm,iH,gu,e3,q4,q5,q6];simpa[recC]using fin
          |true=>
           rw[q6]at fin;simp at fin;simp[gm,iH,mc,gu,e3,q4,q5,q6];simpa[recC]using fin
theorem t102(l:List Rc)(t:Rc)(hl:l.length<small)(hok:∀ r∈l,fJ r)(ht:fJ t):G 102 [.sl 6 (l.map recC),.agg (recC t)] [] 0=some (wG (jM l t),[],0):=by
 refine bJ (fn:=mb) rfl rfl rfl ?_;have hb:=qbU l t hl hok ht (l.foldl (IC t) (0,false)).1 (l.foldl (IC t) (0,false)).2 l.length 0 (0,false) (by omega);have hR:wG ((yF t (l.foldl (IC t) (0,false)).1 (l.foldl (IC t) (0,false)).2 (0,false) (l.drop 0)).map (·.1))=wG (jM l t):=rfl;rw[hR]at hb;have a:=qbT l t hl hok ht (gy bq mT qT pT mb (.seq (.region ER)
 (.seq .skip
 (.seq (.seq (.region ES)
 (.block 2 (.loop oM)))
 (.seq (.seq (.region nY)
 (.cond (.t 96) (.seq (.region pV)
 .ret) .skip))
 (.seq (.region zk)
 .ret))))) (gy bq mT qT pT mb .skip (kE 0 mb (wG (jM l t),[],0)))) (by simp[ER,ES];simpa[recC]using hb) l.length 0 (0,false) (by omega) rfl
 simp[wW,QU,QV,QW,QX,recC];simpa[recC]using a
end Go.RE
namespace Go.RE
def Nq(w bytes:Nat)(zero:List V):List aF:=[⟨(some 5),.m (.buildSlice w 0 zero []),none,0⟩,⟨(some 6),.s (.br (.t 0)),none,0⟩,⟨(some 7),.h (.append w bytes false (.t 5) (.t 6)),none,3⟩,⟨(some 2),.s (.br (.t 7)),none,7⟩]
def qef(w bytes:Nat)(zero:List V):aj:=(.seq (.region [⟨(some 2),.s (.br (.c (.ag [] 1 0 w))),none,0⟩])
 (.seq (.seq (.region [⟨(some 3),.s (.br (.t 0)),none,0⟩,⟨(some 4),.s (.bin .eql .bu (.t 3) (.c .bu)),none,1⟩])
 (.cond (.t 4) (.seq (.region [⟨(some 2),.s (.br (.c (.ag [] 1 0 w))),none,0⟩])
 .ret) .skip))
 (.seq (.region (Nq w bytes zero))
 .ret)))
def lI(w bytes:Nat)(zero:List V):az:=⟨8,[.t 2],true,qef w bytes zero,fun _=>[],fun _=>[]⟩
theorem qfg{M:oV}{w bytes:Nat}{zero:List V}(hz:(V.dg zero).all U.aJ=true)(hw:0<w)(hb:0<bytes∧bytes≤200)(xs:List (List U))(h:List Uo)(fl:Nat)(hx1:xs.length*200≤aZ)(hx:iP w xs=true):
  gC (fun _=>none) M ⟨fun _=>none,fun _=>none,fun _=>false,fun _=>none⟩ (fun _=>none) (lI w bytes zero) (.seq (.region (Nq w bytes zero)) .ret) ⟨[(0,.sl w xs)],h,fl⟩ (kE h.length (lI w bytes zero) (.own .r w xs,h,fl)):=by
 have h3:cut h.length fl h=h:=by unfold cut;exact jU (oT _ _)
 have h1:decide (xs.length*bytes≤aZ)=true:=decide_eq_true (Nat.le_trans (Nat.mul_le_mul_left _ hb.2) hx1);have h2:decide (xs.length≤aZ)=true:=decide_eq_true (by omega);have h4:(xs.all fun r=>r.all U.aJ&&U.bW 0 r&&decide (r.length=w))=true:=by
  unfold iP at hx;rw[jr]at hx⊢;intro r hr;have:=hx r hr;simp only[bC,decide_eq_true_eq]at this⊢;exact⟨this.1,bR this.2⟩
 simp[lI,Nq,h1,h2,h3,h4,hz,Wj]
theorem mI{C:Nat→Option b8}{M:oV}{f w bytes:Nat}{zero:List V}(hz:(V.dg zero).all U.aJ=true)(hw:0<w)(hb:0<bytes∧bytes≤200)
  (hC:C f=some ⟨(lI w bytes zero).ntmps,(lI w bytes zero).results,(lI w bytes zero).body.er⟩):V4 (cZ C M) f (o7 w):=by
 intro us h fl r h' fl' hp σ Z ω st vs hk hfl ht hlu;unfold o7 at hp;split at hp
 case h_2=>cases hp
 rename_i w' xs;obtain⟨hb2,hp3⟩:=aM hp;clear hp;simp only[bC]at hb2;have hw2:w' =w:=bR hb2.1.1;subst hw2;simp only[ai,aL]at hp3;obtain⟨rfl,rfl,rfl⟩:=hp3;obtain⟨v,vs',rfl,hv,hvs⟩:=hlu.bx;obtain rfl:=hvs.dV;have T:kS C M (fun _=>none) ⟨fun _=>none,fun _=>none,fun _=>false,fun _=>none⟩ (fun _=>none):=⟨fun f fn h=>by simp at h,⟨fun f q h=>by simp at h,fun f q h=>by simp at h,fun f q h=>by simp at h⟩,fun f p h=>by simp at h⟩;obtain⟨n,hn⟩:=qfg (M:=M) hz hw hb xs h fl (gb hb2.1.2) hb2.2;have hok:∀ e:PT V,e.get 0=some v→CA ⟨h.length,σ,fN σ ω h.length,Z,st,fun i=>h[i]? =some .gone,none,jh h⟩ ⟨[(0,.sl w' xs)],h,fl⟩ e st:=fun e he=>by
  refine⟨hfl.env _,σ,Z,ω,hk.setEnv fun t u hu=> ?_⟩;simp only[look]at hu;cases hb0:Nat.beq 0 t with
  |true=>
   rw[hb0]at hu;have:=bR hb0;subst this;simp at hu;subst hu;exact⟨v,he,TR.bB hv⟩
  |false=>rw[hb0]at hu;simp at hu
 have key:∀ e:PT V,e.get 0=some v→∃ N,fV C M N (aj.seq (.region (Nq w' bytes zero)) .ret).er e st (PI ⟨(lI w' bytes zero).ntmps,(lI w' bytes zero).results,(lI w' bytes zero).body.er⟩ fun v st' =>Fl ⟨[],h,fl⟩∧∃ σ' Z' ω',Ok ⟨h.length,σ,fN σ ω h.length,Z,st,fun i=>h[i]? =some .gone,none,jh h⟩ σ' Z' ω' ⟨[],h,fl⟩ .e st'∧(∀ d,d≠0→ω' (.t d)=none)∧RR σ' Z' ω' h.length (.own .r w' xs) v):=fun e he=>by
  obtain⟨N,hN⟩:=(sound T n).2.1 hn (hok e he);refine⟨N,cc (aq _) ?_ hN⟩;rintro ex' e' st' ⟨s',hK,hf',σ',Z',ω',hk'⟩;cases ex' with
  |exit i=>exact hK.elim
  |normal=>
   obtain⟨v,r1,r2,r3⟩:=rM hk' hf' rfl (aq _) hK;rw[ki];simp only[r1];exact⟨r2,r3⟩
  |ret=>
   obtain⟨v,r1,r2,r3⟩:=rM hk' hf' rfl (aq _) hK;rw[nM];simp only[r1];exact⟨r2,r3⟩
 have start:∀ (b:Bool),Gw .bu v .bu=some b→(b=true→v=.bu)→∃ N,bV C M N f [v] st fun v st' =>Fl ⟨[],h,fl⟩∧∃ σ' Z' ω',Ok ⟨h.length,σ,fN σ ω h.length,Z,st,fun i=>h[i]? =some .gone,none,jh h⟩ σ' Z' ω' ⟨[],h,fl⟩ .e st'∧(∀ d,d≠0→ω' (.t d)=none)∧RR σ' Z' ω' h.length (.own .r w' xs) v:=by
  intro b hbv hnil;have hinit:(cA [v] 0 .e).get 0=some v:=by rw[fD];rfl
  obtain⟨N,hN⟩:=key ((((cA [v] 0 .e).set 2 .bu).set 3 v).set 4 (.bool b)) (by simp[PT.iC,hinit]);refine⟨N+6,?_⟩;rw[qv hC (by show[v].length≤8;simp)];have hbody:(lI w' bytes zero).body.er=.seq (.region [⟨some 2,.s (.br (.c .bu)),none,0⟩]) (.seq (.seq (.region [⟨some 3,.s (.br (.t 0)),none,0⟩,⟨some 4,.s (.bin .eql .bu (.t 3) (.c .bu)),none,1⟩]) (.cond (.t 4) (.seq (.region [⟨some 2,.s (.br (.c .bu)),none,0⟩]) .ret) .skip)) (aj.seq (.region (Nq w' bytes zero)) .ret).er):=rfl;simp only[hbody];rw[pg,jg];simp only[eV,bT,dF,cK,bH.ev,fu,nN];rw[pg,pg,jg];have h2:((cA [v] 0 .e).set 2 .bu).get 0=some v:=by simp[PT.iC,hinit]
  have h3:((((cA [v] 0 .e).set 2 .bu)).set 3 v).get 3=some v:=by simp[PT.iC]
  simp only[eV,bT,dF,cK,bH.ev,fu,nN,h2,h3];have h4:jG .eql .bu v .bu=some (.bool b):=by
   cases v<;>simp_all [jG,Gw]
  simp only[h4];rw[Aw (t:=b) (by simp[bH.ev,PT.iC])];cases b with
  |true=>
   obtain rfl:=hnil rfl;rw[if_pos rfl,pg,jg];simp only[eV,bT,dF,cK,bH.ev,fu,nN];rw[D7,PJ,nM];have hr:cu (((((cA [.bu] 0 .e).set 2 .bu).set 3 .bu).set 4 (.bool true)).set 2 .bu) st [.t 2]=some .bu:=by simp[cu,tH,CM,PT.iC]
   have hres:(lI w' bytes zero).results=[.t 2]:=rfl;simp only[hres,hr];refine⟨hfl,σ,Z,ω,hk,fun d _=>ht d,?_⟩;show OR σ Z ω (.t 0) w' xs .bu;unfold OR;rw[ht 0];cases hv;exact⟨rfl,.inl rfl⟩
  |false=>
   rw[if_neg (by simp),Ay,nN];exact cc (by omega) (fun _ _ _ h=>h) hN
 cases hv with
 |slnil=>exact start true rfl (fun _=>rfl)
 |yI=>exact start false rfl (fun h=>by cases h)
 |zd=>exact start false rfl (fun h=>by cases h)
 |CN=>exact start false rfl (fun h=>by cases h)
end Go.RE
namespace Go.RE
section
variable{C:Nat→Option b8}{M:oV}
theorem IS{f n:Nat}{p:List V→St→Option (V×St)}(hC:C f=some (qi n p)){args:List V}(ha:args.length=n){st st' :St}{v:V}(hp:p args st=some (v,st')){k:V→St→Prop}(hk:k v st'):bV C M 1 f args st k:=by
 rw[qv hC (by rw[ha];exact aq n)];simp only[qi,fV];have hf:∃ vs,firsts (cA args 0 .e) n []=some vs:=by
  subst ha;have key:∀ (m:Nat) (acc:List V),m≤args.length→∃ vs,firsts (cA args 0 .e) m acc=some vs:=by
   intro m
   induction m with
   |zero=>intro acc _;exact⟨acc,rfl⟩
   |succ m ih=>
    intro acc hm;simp only[firsts];have:(cA args 0 .e).get m=args[m]? :=by
     rw[fD,if_pos ⟨dS _,by omega⟩];rfl
    rw[this,bL (by omega)];exact ih _ (by omega)
  exact key _ [] (aq _)
 obtain⟨vs,hvs⟩:=hf;obtain⟨h1,h2⟩:=yd hvs;have h3:vs=args:=by rw[h2,←ha,List.take_length,List.append_nil]
 subst h3;rw[hvs];simp only[hp];rw[nM];have hr:cu ((cA vs 0 .e).set 0 v) st' [.t 0]=some v:=by
  simp[cu,tH,CM,PT.iC]
 simp only[hr];exact hk
theorem j4{f n:Nat}{p:List V→St→Option (V×St)}(hC:C f=some (qi n p)){args:List V}(ha:args.length=n){st st' :St}{v:V}(hp:p args st=some (v,st')){k:V→St→Prop}(hk:k v st'):cZ C M f args st k:=
 ⟨1,IS hC ha hp hk⟩
end
theorem rI:∀ a b:By,Lib.compareBytes a b=oc a b
 |[],[]=>rfl
 |[],_::_=>rfl
 |_::_,[]=>rfl
 |a::xs,b::ys=>by
  have ih:=rI xs ys;have hl:lt (a::xs) (b::ys)=(decide (a<b)||(!decide (b<a)&&lt xs ys)):=by
   show Op.bytesLess _ _=_;rw[Go.Proofs.bytesLess_eq];show _=(decide (a<b)||(!decide (b<a)&&Op.bytesLess xs ys));rw[Go.Proofs.bytesLess_eq];rw[Bool.eq_iff_iff];simp only[decide_eq_true_eq,Bool.or_eq_true,bC,Bool.not_eq_true',decide_eq_false_iff_not];rw[List.cons_lt_cons_iff];constructor
   ·rintro(h|⟨h,h2⟩)
    ·exact .inl h
    ·subst h;exact .inr ⟨UInt8.lt_irrefl a,h2⟩
   ·rintro(h|⟨h,h2⟩)
    ·exact .inl h
    ·by_cases hab:a<b
     ·exact .inl hab
     ·exact .inr ⟨UInt8.le_antisymm (UInt8.not_lt.1 h) (UInt8.not_lt.1 hab),h2⟩
  unfold Lib.compareBytes oc;rw[hl];by_cases h1:a<b
  ·simp[h1]
  ·by_cases h2:b<a
   ·have:¬a=b:=fun e=>by subst e;exact h1 h2
    have hb:(a==b)=false:=by simpa using this
    simp[h1,h2,hb]
   ·have:a=b:=UInt8.le_antisymm (UInt8.not_lt.1 h2) (UInt8.not_lt.1 h1);subst this;rw[if_neg h1,if_neg h1,ih];unfold oc;simp[h1]
def Qe:List V→St→Option (V×St):=fun vs s=>match vs with
 |[.str a,.str b]=>some (.int .i64 (oc a b),s)
 |_=>none
theorem JH{P:Program}{f:Nat}(hfn:∃ fn b,P.funcs[f]? =some fn∧fn.body=some b∧(fn.name== "runtime.NumGoroutine")=false)
  (hS:∀ (a b:ByteArray) (w:World),Calls P f #[.string a,.string b] w fun e w' =>e=.returned (.int .i64 (Lib.compareBytes a.data.toList b.data.toList))∧w' =w) (w0:World):DV P w0 f 2 Qe:=by
 refine⟨hfn,?_⟩;intro args s v s' ρ w args' hl hp hR hA;unfold Qe at hp;split at hp
 case h_2=>cases hp
 rename_i a b;simp only[ai,aL]at hp;obtain⟨rfl,rfl⟩:=hp;obtain⟨x,xs,rfl,hx,hxs⟩:=hA.bx;obtain⟨y,ys,rfl,hy,hys⟩:=hxs.bx;obtain rfl:=hys.dV;cases hx with
 |str hx=>
  cases hy with
  |str hy=>
   rename_i sa sb;refine(hS sa sb w).mono ?_;rintro e w' ⟨rfl,rfl⟩;refine⟨ρ,_,rfl,hR,jQ.refl _ _ _,?_⟩;have e:oc a b=Lib.compareBytes sa.data.toList sb.data.toList:=by rw[rI];simp[hx,hy]
   rw[e];exact .int _ _
theorem qax{C:Nat→Option b8}{M:oV}{f:Nat}(hC:C f=some (qi 2 Qe)):V4 (cZ C M) f Wk:=by
 intro us h fl r h' fl' hp σ Z ω st vs hk hfl ht hlu;unfold Wk at hp;split at hp
 case h_2=>cases hp
 rename_i a b;simp only[ai,aL]at hp;obtain⟨rfl,rfl,rfl⟩:=hp;obtain⟨x,xs,rfl,hx,hxs⟩:=hlu.bx;obtain⟨y,ys,rfl,hy,hys⟩:=hxs.bx;obtain rfl:=hys.dV;cases hx;cases hy;exact j4 hC rfl (v:=.int .i64 (oc a b)) (st' :=st) rfl ⟨hfl,σ,Z,ω,hk,fun d _=>ht d,.int _ _⟩
end Go.RE
namespace Go.RE
section
variable{C:Nat→Option b8}{M:oV}{VF:Nat→Option az}{Q:mE}{Pm:XH}{F:FU}
theorem Ok.sg{E:qe}{σ σ2:Sg}{Z:Zs}{ω:Om}{s:Vs}{e:PT V}{st:St}(h:Ok E σ2 Z ω s e st)(hs:∀ i,i<s.h.length→σ2 i=σ i):Ok E σ Z ω s e st:=
 ⟨fun t u hu=>let⟨v,a,b⟩:=h.env t u hu;⟨v,a,TR.mono (aq _) (fun i hi=>(hs i hi).symm) (fun _ _ h=>h) (fun _ _=>rfl) b⟩,fun i o ho=>by
   have hi:=(bn.1 ho).1;rw[←hs i hi];exact OB.mono (aq _) (fun i hi=>(hs i hi).symm) (fun _ _ h=>h) (fun _=>rfl) (h.obj i o ho),h.qc,h.lF,h.fresh,fun i j hi hj he=>h.inj i j hi hj (by rw[hs i hi,hs j hj,he]),h.gJ,fun i g I hi hg=>by rw[←hs i hi];exact h.sw i g I hi hg,fun i hi=>by rw[←hs i hi];exact h.sz i hi,h.wz,fun i hi=>by rw[←hs i hi];exact h.sb i hi,h.zW,h.wc,h.n0,fun i hi=>by rw[←hs i (mg hi h.n0)];exact h.sig i hi,h.zz,h.nx,fun b hb hI=>let⟨o1,o2,o3,o4⟩:=h.out b hb hI;⟨o1,fun i hi=>by rw[←hs i hi];exact o2 i hi,o3,o4⟩,fun i hi=>let⟨g1,g2,g3⟩:=h.wE.1 i hi;⟨g1,g2,by rw[←hs i (mg g1 h.n0)];exact g3⟩,fun i off cs h1 h2=>by
   rw[←hs i (bn.1 h1).1];exact h.wE.2 i off cs h1 h2⟩
theorem No{f:Nat}{vs:List V}{st:St}{k k' :V→St→Prop}(h:cZ C M f vs st k)(h' :cZ C M f vs st k'):cZ C M f vs st fun v s=>k v s∧k' v s:=by
 obtain⟨n,h⟩:=h;obtain⟨m,h'⟩:=h';exact⟨n+m,C5 _ _ _ _ _ (ig (Nat.le_add_right n m) (fun _ _ h=>h) h) (ig (Nat.le_add_left m n) (fun _ _ h=>h) h')⟩
theorem OZ(T:kS C M VF Q Pm)(hF:Vz (cZ C M) F){f:Nat}{fn:az}(hC:C f=some ⟨fn.ntmps,fn.results,fn.body.er⟩){t:Nat}(hres:fn.results=[.t t]){q:Nat→List (List U)→List U→Option (Nat×List (List U))}
  (hq:∀ xs rest w' ys w,q w xs rest=some (w',ys)→(∀ r∈xs,r.length=w)→(∀ u∈rest,u.aJ=true∧u.low 0=true)∧rest.length+1≤fn.ntmps∧
   (∃ r hh ff,F f (.sl w xs::rest) [] 0=some (r,hh,ff))∧
   gC VF M Q Pm fn fn.body ⟨(0,.own .a w xs)::lT rest 1,[],0⟩ fun ex s=>(∀ i,ex≠.exit i)∧∃ g2,look s.e t=some (.own g2 w' ys)∧g2≠.a):Oz (cZ C M) f q:=by
 intro w xs rest w' ys hh E σ Z ω s e st g v vs d hk hor hlen hr;have hw:∀ r∈xs,r.length=w:=by
  have:=hor;unfold OR at this;split at this
  ·rw[this.1];intro r hr;cases hr
  ·exact this.2.2.2.2.1
 obtain⟨h1,h2,⟨R,hh2,ff,hfz⟩,n,hn⟩:=hq xs rest w' ys w hh hw;have hcell:∀ (j:Nat) u x,rest[j]? =some u→vs[j]? =some x→UR σ Z 0 u x:=fun j u x a b=>by
  have hm:=h1 u (List.mem_of_getElem? a);exact(Ma (hr j u x a b) hm.1).low hm.2
 -- frozen:the slice's block stays as it is
 have hlz:∀ b r,lM ω Z b=some r→st.row b=some r:=fun b r hb=>by
  rcases tw hb with h|⟨g',I,a1,a2,a3⟩
  ·exact hk.qc b r h
  ·rw[←a2,a3];exact iG (hk.lF g' I a1)
 have hZl:∀ b r,Z b=some r→lM ω Z b=some r:=fun b r hb=>PM hk hb;have hvz:UR σ (lM ω Z) 0 (.sl w xs) v:=by
  have:=hor;unfold OR at this;split at this
  ·obtain⟨rfl,hv⟩:=this;rcases hv with rfl|rfl
   ·exact .slnil
   ·exact .yI
  ·rename_i I hI;obtain⟨rfl,_,p3,p4,p5,p6⟩:=this;refine .zd rfl (AQ hk hI) p5 p3 ?_ fun j u x a b=>((p6.2 j u x a b).mono (aq 0) (fun i hi=>by omega) hZl);have:xs.length*w≤I.cap*w:=me _ p3;omega
 have hlu:LU σ (lM ω Z) 0 (.sl w xs::rest) (v::vs):=LU.cons hvz ⟨hlen,fun j u x a b=>(hcell j u x a b).mono (aq 0) (fun i hi=>by omega) hZl⟩;have fz:=hF f _ [] 0 _ _ _ hfz σ (lM ω Z) (fun _=>none) st (v::vs) (hk.iso hlz 0) ⟨aq _,fun i o ho=>by simp at ho⟩ (fun _=>rfl) hlu
 -- de to be written:the result
 have hnone:∀ x I,(fun x:Tg=>if x=.a then ω g else none) x=some I→x=.a∧ω g=some I:=fun x I hI=>by
  simp only at hI;split at hI
  ·exact⟨‹_›,hI⟩
  ·cases hI
 have hok:Ok ⟨0,σ,fun b=>∃ I,ω g=some I∧I.b=b,Z,st,fun _=>False,(ω g).map oa.desc,fun _ _=>False⟩ σ Z (fun x=>if x=.a then ω g else none) ⟨(0,.own .a w xs)::lT rest 1,[],0⟩ (cA (v::vs) 0 .e) st:=by
  refine⟨fun t u hu=> ?_,fun i o ho=>by simp at ho,hk.qc,fun x I hI=>hk.lF g I (hnone x I hI).2,hk.fresh,fun i j hi=>by simp at hi,fun x y I J hI hJ _=>by rw[(hnone x I hI).1,(hnone y J hJ).1],fun i x I hi=>by simp at hi,fun i hi=>by simp at hi,fun x I hI=>hk.wz g I (hnone x I hI).2,fun i hi=>by simp at hi,⟨rfl,rfl⟩,fun i off I hI=>(by cases(hnone _ I hI).1),aq _,fun i hi=>by simp at hi,fun b r hb=>hb,aq _,fun b hb hbI=>⟨rfl,fun i hi=>by simp at hi,fun x I hI hbb=>hbI ⟨I,(hnone x I hI).2,hbb⟩,fun r hr=>hr⟩,fun i hi=>False.elim hi,fun i off cs h1=>by simp at h1⟩;simp only[look]at hu;cases hb:Nat.beq 0 t with
  |true=>
   rw[hb]at hu;simp only[cond_true,ai]at hu;have:=bR hb;subst this;subst hu;refine⟨v,by rw[fD,if_pos ⟨dS _,by simp⟩];rfl,OR.to hor (fun _ _ h=>h) rfl,fun i off hh=>by cases hh⟩
  |false=>
   rw[hb]at hu;simp only[cond_false]at hu;obtain⟨ht1,hu2⟩:=wF hu;obtain⟨ht2,_⟩:=bn.1 hu2;have hv:=bL (l:=vs) (i:=t - 1) (by omega);refine⟨vs[t - 1],?_,TR.bB (hcell (t - 1) u _ hu2 hv)⟩;rw[fD,if_pos ⟨dS _,by simp;omega⟩];rw[show t - 0=(t - 1)+1 by omega];simp only[List.getElem?_cons_succ];exact hv
 obtain⟨N,hN⟩:=(sound T n).2.1 hn ⟨⟨aq _,fun i o ho=>by simp at ho⟩,σ,Z,_,hok⟩;have own:cZ C M f (v::vs) st fun r st' =>∃ σ' Z' ω' s' e' g2,Ok ⟨0,σ,fun b=>∃ I,ω g=some I∧I.b=b,Z,st,fun _=>False,(ω g).map oa.desc,fun _ _=>False⟩ σ' Z' ω' s' e' st'∧g2≠Tg.a∧OR σ' Z' ω' g2 w' ys r:=by
  refine⟨N,?_⟩;rw[qv hC (by simp;omega)];refine cc (aq _) ?_ hN;rintro ex e' st' ⟨s',⟨hne,g2,hlk,hg2⟩,hf',σ',Z',ω',hk'⟩;obtain⟨x,hx,hx2⟩:=hk'.env t _ hlk;have hall:cu e' st' fn.results=some x:=by rw[hres];simp[cu,tH,CM,hx]
  have goal:∃ σ' Z' ω' s' e' g2,Ok ⟨0,σ,fun b=>∃ I,ω g=some I∧I.b=b,Z,st,fun _=>False,(ω g).map oa.desc,fun _ _=>False⟩ σ' Z' ω' s' e' st'∧g2≠Tg.a∧OR σ' Z' ω' g2 w' ys x:=⟨σ',Z',ω',s',e',g2,hk',hg2,hx2.1⟩;cases ex with
  |exit i=>exact absurd rfl (hne i)
  |normal=>rw[ki];simp only[hall];exact goal
  |ret=>rw[nM];simp only[hall];exact goal
 refine mG ?_ (No own fz);rintro r st' ⟨⟨σ',Z',ω',s',e',g2,hk',hg2,hor'⟩,_,σf,Zf,ωf,hkf,_,_⟩;have wa:(ω' .a).map oa.desc=(ω g).map oa.desc:=hk'.zW.2;have hJ:∀ I,ω g=some I→∃ J,ω' .a=some J∧J.b=I.b:=fun I hI=>by
  rw[hI]at wa;cases hJ:ω' .a with
  |none=>rw[hJ]at wa;cases wa
  |some J=>
   rw[hJ]at wa;simp only[Option.map_some,ai,oa.desc,aL]at wa;exact⟨J,rfl,wa.1⟩
 have hb:Ok ⟨0,σ,fN σ (fun _=>none) 0,Z,st,fun i=>([]:List Uo)[i]? =some .gone,none,jh ([]:List Uo)⟩ σ' Z' (fun x=>if x=.t 0 then ω' g2 else none) ⟨[],[],0⟩ .e st' :=by
  have hn2:∀ x I,(fun x:Tg=>if x=.t 0 then ω' g2 else none) x=some I→x=.t 0∧ω' g2=some I:=fun x I hI=>by
   simp only at hI;split at hI
   ·exact⟨‹_›,hI⟩
   ·cases hI
  refine⟨fun t u hu=>by simp[look]at hu,fun i o ho=>by simp at ho,hk'.qc,fun x I hI=>hk'.lF g2 I (hn2 x I hI).2,hk'.fresh,fun i j hi=>by simp at hi,fun x y I J hI hJ _=>by rw[(hn2 x I hI).1,(hn2 y J hJ).1],fun i x I hi=>by simp at hi,fun i hi=>by simp at hi,fun x I hI=>hk'.wz g2 I (hn2 x I hI).2,fun i hi=>by simp at hi,⟨rfl,rfl⟩,fun i off I hI=>(by cases(hn2 _ I hI).1),aq _,fun i hi=>by simp at hi,hk'.zz,hk'.nx,fun b hb _=> ?_,fun i hi=>by simp at hi,fun i off cs h1=>by simp at h1⟩;by_cases hbI:∃ I,ω g=some I∧I.b=b
  ·obtain⟨I,hI,rfl⟩:=hbI;obtain⟨J,hJ1,hJ2⟩:=hJ I hI;refine⟨?_,fun i hi=>by simp at hi,fun x K hK hKb=> ?_,fun r hr=> ?_⟩
   ·exact(hkf.out I.b (hk.lt_next (hk.lF g I hI)) (by simp[fN])).1
   ·exact hg2 (hk'.gJ _ _ _ _ (hn2 x K hK).2 hJ1 (by rw[hKb,hJ2]))
   ·have:=hk'.wz .a J hJ1;rw[hJ2,hr]at this;cases this
  ·obtain⟨o1,_,o3,o4⟩:=hk'.out b hb hbI;exact⟨o1,fun i hi=>by simp at hi,fun x K hK=>o3 g2 K (hn2 x K hK).2,o4⟩
 have hrr:RR σ' Z' (fun x=>if x=.t 0 then ω' g2 else none) ([]:List Uo).length (.own .r w' ys) r:=by
  show OR σ' Z' (fun x=>if x=.t 0 then ω' g2 else none) (.t 0) w' ys r;exact OR.to hor' (fun _ _ h=>h) (by simp)
 obtain⟨σ2,ω2,k1,k2,k3,k4,k5⟩:=hk.DY (hc:=[]) (fc:=0) (fl2:=s.fl) (d:=d) (r:=.own .r w' ys) (v:=r) hb (fun d hd=>if_neg (by simpa using hd)) hrr;have e1:dH d ((U.own .r w' ys).shift s.h.length) {s with h:=s.h++([]:List Uo).map (eH s.h.length),fl:=s.fl}=(.own (.t d) w' ys,s.kill (.t d)):=by
  simp[dH,U.shift];rfl
 rw[e1]at k1 k2;have hln:(s.kill (.t d)).h.length=s.h.length:=rfl;have k6:=k1.sg (σ:=σ) (fun i hi=>k4 i hi);exact⟨Z',ω2,k6,OR.to k2.1 (fun _ _ h=>h) rfl,k5⟩
end
end Go.RE
namespace Go.RE
def Q0:mE:=⟨fun _=>none,fun _=>none,fun _=>false,fun _=>none⟩
@[simp] theorem qjA(f:Nat):Q0.q f=none:=rfl
@[simp] theorem qhc(f:Nat):Q0.app f=none:=rfl
@[simp] theorem qiI(f:Nat):Q0.ld f=false:=rfl
@[simp] theorem qhd(f:Nat):Q0.IN f=none:=rfl
noncomputable abbrev G0:=gF bq mT Q0 pT
theorem Pu{fn:az}{f:Nat}{us:List U}{h:List Uo}{fl:Nat}{R:U×List Uo×Nat}(hp:pT f=none)(hf:bq f=some fn)(ha:Nat.ble us.length fn.ntmps=true)(hR:gC bq mT Q0 pT fn fn.body ⟨lT us 0,h,fl⟩ (kE h.length fn R)):G0 f us h fl=some R:=G3 hp hf ha hR
theorem G2{f:Nat}(hf:ur f=true){w:Nat}{xs:List (List U)}(h:List Uo)(fl:Nat)(hl:xs.length<small)(hx:iP w xs=true)(hw:Nat.beq w (Ny f)=true:=by rfl):G0 f [.sl w xs] h fl=some (.own .r w xs,h,fl):=by
 have hp:pT f=some (o7 (Ny f)):=by unfold pT;rw[hf];rfl
 show gF bq mT Q0 pT f _ _ _=_;rw[yQ hp];have:Nat.ble (xs.length*200) aZ=true:=ou (by unfold small at hl;unfold aZ;omega);simp only[o7,this,hx,hw,Bool.and_self,cond_true]
theorem QH(r:Rc)(hr:fJ r):G0 107 [.agg (recC r)] [] 0=some (.agg (recC r),[],0):=by
 refine Pu (fn:=v107) rfl rfl rfl ?_;have c1:=G2 (f:=62) rfl (w:=2) (xs:=r.reads.map aP) [] 0 (by simp;unfold fJ small at*;omega) (kH _);have c2:=G2 (f:=62) rfl (w:=2) (xs:=r.writes.map aP) [] 0 (by simp;unfold fJ small at*;omega) (kH _);simp[sr,Kd,au Mn,E2,Ke,recC,c1,c2,cT]
theorem qck(l:List Rc)(low:Nat)(hl:l.length<small)(hok:∀ r∈l,fJ r):∀ (j i:Nat) (out:List Rc),i+j=l.length→out.length≤i→
  gL bq mT Q0 pT v66 0 lQ 0 ⟨[(10,.int .i64 (i:Int)),(5,.own (.t 5) 6 (out.map recC)),(1,.int .u64 (low:Int)),(8,.sl 6 (l.map recC)),(9,.int .i64 (l.length:Int))],[],0⟩
   (gy bq mT Q0 pT v66 (.seq (.region vU) .ret) (kE 0 v66 (.own .r 6 ((out++bI (l.drop i) low).map recC),[],0))):=by
 intro j
 induction j with
 |zero=>
  intro i out hij ho;obtain⟨h1,h2⟩:=nB hij;rw[ak lQ.eq_1,h2];simp[qn,vU,h1,bI]
 |succ j ih=>
  intro i out hij ho;obtain⟨h1,e3,r,d1,g1⟩:=ql hij hl;have e1:=g1 recC;have hr:fJ r:=hok r (List.mem_of_mem_drop (i:=i) (by rw[d1];exact eU));have c:=QH r hr;rw[ak lQ.eq_1,d1];simp only[recC]at e1 c;cases hn:decide (low<r.last)with
  |false=>
   have ih' :=ih (i+1) out (by omega) (by omega);simp[qn,Cf,Cg,Ch,h1,aS e1,e3,recC,hn,bI];simpa[recC,bI]using ih'
  |true=>
   have ih' :=ih (i+1) (out++[r]) (by omega) (by simp;omega);have b1:(out.length+1)*80≤aZ∧out.length+1≤aZ:=by unfold small at hl;unfold aZ;omega
   simp[qn,Cf,Cg,M8,Ch,h1,aS e1,e3,recC,c,hn,b1,bI];simpa[recC,bI]using ih'
theorem qfP(l:List Rc)(low:Nat)(hl:l.length<small)(hok:∀ r∈l,fJ r):G0 66 [.sl 6 (l.map recC),.int .u64 (low:Int)] [] 0=some (.own .r 6 ((bI l low).map recC),[],0):=by
 refine Pu (fn:=v66) rfl rfl rfl ?_;have:=qck l low hl hok l.length 0 [] (by omega) (by simp);simp[nF,DQ,DR,DS];simpa using this
def kBo(ys:List (List U)):Ex→Vs→Prop:=fun ex s=>(∀ i,ex≠.exit i)∧∃ g2,look s.e 4=some (.own g2 6 ys)∧g2≠.a
theorem iN(e:Env)(h:List Uo)(fl:Nat):Vs.cg Tg.a ⟨e,h,fl⟩=Env.cg Tg.a e e:=rfl
theorem qcl(l:List Rc)(low:Nat)(hl:l.length<small)(hok:∀ r∈l,fJ r):∀ (j i:Nat) (out:List Rc),i+j=l.length→out.length≤i→
  gL bq mT Q0 pT v66 0 lQ 0 ⟨[(10,.int .i64 (i:Int)),(5,.own (.t 5) 6 (out.map recC)),(1,.int .u64 (low:Int)),(8,.own .a 6 (l.map recC)),(9,.int .i64 (l.length:Int))],[],0⟩
   (gy bq mT Q0 pT v66 (.seq (.region vU) .ret) (kBo ((out++bI (l.drop i) low).map recC))):=by
 intro j
 induction j with
 |zero=>
  intro i out hij ho;obtain⟨h1,h2⟩:=nB hij;rw[ak lQ.eq_1,h2];simp[qn,vU,h1,bI,kBo]
 |succ j ih=>
  intro i out hij ho;obtain⟨h1,e3,r,d1,g1⟩:=ql hij hl;have e1:=g1 recC;have hr:fJ r:=hok r (List.mem_of_mem_drop (i:=i) (by rw[d1];exact eU));have c:=QH r hr;have hg:(l.map recC)[i]? =some (recC r):=by
   rw[List.getElem?_map,(by have:=congrArg (fun x:List Rc=>x[0]?) d1;simpa using this:l[i]? =some r)];rfl
  have hil:i<(l.map recC).length:=by simp;omega
  have ia:∀ s',qf s' 6 (some (.own .a 6 (l.map recC))) (some (.int .i64 (i:Int)))=some (.bD .a i 0,s'):=fun s' =>cz (by simpa using hil);rw[ak lQ.eq_1,d1];simp only[recC]at e1 c hg;cases hn:decide (low<r.last)with
  |false=>
   have ih' :=ih (i+1) out (by omega) (by omega);simp[qn,Cf,Cg,Ch,h1,ia,hg,iN,Env.cg,e3,recC,hn,bI];simpa[recC,bI]using ih'
  |true=>
   have ih' :=ih (i+1) (out++[r]) (by omega) (by simp;omega);have b1:(out.length+1)*80≤aZ∧out.length+1≤aZ:=by unfold small at hl;unfold aZ;omega
   simp[qn,Cf,Cg,M8,Ch,h1,ia,hg,iN,Env.cg,e3,recC,c,hn,b1,bI];simpa[recC,bI]using ih'
theorem qfR(l:List Rc)(low:Nat)(hl:l.length<small)(hok:∀ r∈l,fJ r):gC bq mT Q0 pT v66 v66.body ⟨[(0,.own .a 6 (l.map recC)),(1,.int .u64 (low:Int))],[],0⟩ (kBo ((bI l low).map recC)):=by
 have:=qcl l low hl hok l.length 0 [] (by omega) (by simp);simp[nF,DQ,DR,DS];simpa using this
theorem qcm(w:Nat)(low:Int):gC bq mT Q0 pT v66 v66.body ⟨[(0,.own .a w []),(1,.int .u64 low)],[],0⟩ (kBo []):=by
 simp[nF,DQ,DR,DS];rw[ak lQ.eq_1];simp[qn,vU,kBo]
theorem qfS(w:Nat)(low:Int):G0 66 [.sl w [],.int .u64 low] [] 0=some (.own .r 6 [],[],0):=by
 refine Pu (fn:=v66) rfl rfl rfl ?_;simp[nF,DQ,DR,DS];rw[ak lQ.eq_1];simp[qn,vU]
theorem qd5{C:Nat→Option b8}(T:kS C mT bq Q0 pT):Oz (cZ C mT) 66 fun _=>pz:=by
 refine OZ T (Pw T) (fn:=v66) (T.code 66 v66 rfl) (t:=4) rfl ?_;intro xs rest w' ys w hh hw;obtain⟨l,low,rfl,rfl,hl,hok,rfl,rfl⟩:=Ec hh;refine⟨fun u hu=> ?_,(by show 1+1≤25;omega),?_⟩
 ·have:=List.mem_singleton.1 hu;subst this;exact⟨rfl,rfl⟩
 ·cases l with
  |nil=>exact⟨⟨_,_,_,qfS w low⟩,qcm w low⟩
  |cons r l=>
   have h6:w=6:=(hw (recC r) (by simp)).symm;subst h6;exact⟨⟨_,_,_,qfP (r::l) low (by unfold small;omega) hok⟩,qfR (r::l) low (by unfold small;omega) hok⟩
end Go.RE
namespace Go.RE
def pS(a b:Nat):Nat→Nat→List cD→List cD
 |0,_,l=>l
 |k+1,i,l=>pS a b k (i+1) (kL l (a+i) (b+i))
def CH(w:Nat)(ys:List (List U)):Ex→Vs→Prop:=fun ex s=>(∀ i,ex≠.exit i)∧s.cg .a=some (w,ys)
theorem tL(w:Nat)(ys:List (List U))(e:Env)(h:List Uo)(fl:Nat):Vs.fB Tg.a w ys ⟨e,h,fl⟩=⟨Env.fB Tg.a ys e,h,fl⟩:=rfl
theorem qci(a b n:Nat)(L:Nat)(hL:L<small)(ha:a+n≤L)(hb:b+n≤L)(R:List cD):∀ (k i:Nat) (xs:List cD),i+k=n→xs.length=L→pS a b k i xs=R→
  gL bq mT Q0 pT BY 0 vD 0 ⟨[(10,.int .i64 (i:Int)),(0,.own .a 2 (xs.map aP)),(1,.int .i64 (a:Int)),(2,.int .i64 (b:Int)),(3,.int .i64 (n:Int))],[],0⟩ (CH 2 (R.map aP)):=by
 intro k
 induction k with
 |zero=>
  intro i xs hik hx hR;have h1:¬((i:Int)<(n:Int)):=by omega
  simp only[pS]at hR;subst hR;rw[ak vD.eq_1];simp[FW,h1,CH,iN,Env.cg]
 |succ k ih=>
  intro i xs hik hx hR;have h1:(i:Int)<(n:Int):=by omega
  simp only[pS]at hR;have ih' :=ih (i+1) (kL xs (a+i) (b+i)) (by omega) (by simp[kL,hx]) hR;obtain⟨p,hp⟩:∃ p,p=a+i:=⟨_,rfl⟩;obtain⟨q,hq⟩:∃ q,q=b+i:=⟨_,rfl⟩;have ea:aI .i64 ((a:Int)+(i:Int))=(p:Int):=by rw[dh (by omega) (by unfold small at hL;omega)];omega
  have eb:aI .i64 ((b:Int)+(i:Int))=(q:Int):=by rw[dh (by omega) (by unfold small at hL;omega)];omega
  have ei:aI .i64 ((i:Int)+1)=((i+1:Nat):Int):=by rw[dh (by omega) (by unfold small at hL;omega)];omega
  have hai:p<xs.length:=by omega
  have hbi:q<xs.length:=by omega
  have ia:∀ (ys:List cD) s',ys.length=xs.length→qf s' 2 (some (.own .a 2 (ys.map aP))) (some (.int .i64 (p:Int)))=some (.bD .a p 0,s'):=fun ys s' h=>cz (by simp[h];exact hai);have ib:∀ (ys:List cD) s',ys.length=xs.length→qf s' 2 (some (.own .a 2 (ys.map aP))) (some (.int .i64 (q:Int)))=some (.bD .a q 0,s'):=fun ys s' h=>cz (by simp[h];exact hbi);have ia1:=fun s' =>ia xs s' rfl;have ib1:=fun s' =>ib xs s' rfl;have ib2:∀ (r:List U) s',qf s' 2 (some (.own .a 2 ((xs.map aP).set p r))) (some (.int .i64 (q:Int)))=some (.bD .a q 0,s'):=fun r s' =>cz (by simp;exact hbi);rw[←hp,←hq]at ih';obtain⟨⟨s1,s2⟩,gp⟩:∃ r,xs[p]? =some r:=⟨_,bL hai⟩;obtain⟨⟨u1,u2⟩,gq⟩:∃ r,xs[q]? =some r:=⟨_,bL hbi⟩;have gp' :(xs.map aP)[p]? =some [.str s1,.str s2]:=by rw[List.getElem?_map,gp];rfl
  have gq' :(xs.map aP)[q]? =some [.str u1,.str u2]:=by rw[List.getElem?_map,gq];rfl
  simp only[kL,gp,gq,Option.getD_some,List.map_set]at ih';have g3:((xs.map aP).set p [.str u1,.str u2])[q]? =some [.str u1,.str u2]:=by
   rw[eM];by_cases hpq:p=q
   ·rw[if_pos hpq,if_pos (by simp;omega)]
   ·rw[if_neg hpq,gq']
  simp only[aP]at ih';generalize xs.map aP=X at*;rw[ak vD.eq_1];simp[FW,Us,au Xy,FX,h1,ea,eb,ei,ia1,ib1,gp',gq',iN,Env.cg,tL,Env.fB,U.fB,ib2,g3,cT];simpa using ih'
theorem nD:∀ {xs:List (List U)} {l:List cD},yK xs=some l→xs=l.map aP
 |[],l,h=>by simp[yK]at h;subst h;rfl
 |x::xs,l,h=>by
  unfold yK at h;split at h
  ·rename_i heq;cases heq
  ·rename_i heq;cases heq;split at h
   ·rename_i l' hl;simp only[ai]at h;subst h;rw[nD hl];rfl
   ·cases h
  ·cases h
def DF(xs:List (List U))(rest:List U):Option (List (List U)):=
 match rest with
 |[.int .i64 a,.int .i64 b,.int .i64 n,.func _ [] []]=>match yK xs with
  |some l=>bif decide (0≤a)&&decide (0≤b)&&decide (0≤n)&&decide (a+n≤l.length)&&decide (b+n≤l.length)&&decide (l.length<small)then some ((pS a.toNat b.toNat n.toNat 0 l).map aP)else none
  |none=>none
 |_=>none
theorem lB(a b:Nat):∀ (k i:Nat) (l:List cD),(pS a b k i l).length=l.length
 |0,_,_=>rfl
 |k+1,i,l=>by rw[pS,lB a b k];simp[kL]
theorem t238(c:Nat)(a b n:Nat)(l:List cD)(hL:l.length<small)(ha:a+n≤l.length)(hb:b+n≤l.length)(w:Nat)(hw:∀ r∈l.map aP,r.length=w):
  gC bq mT Q0 pT BY BY.body ⟨[(0,.own .a w (l.map aP)),(1,.int .i64 (a:Int)),(2,.int .i64 (b:Int)),(3,.int .i64 (n:Int)),(4,.func c [] [])],[],0⟩ (CH w ((pS a b n 0 l).map aP)):=by
 cases l with
 |nil=>
  have hn:n=0:=by simp at ha;omega
  subst hn;simp[sG,KU];rw[ak vD.eq_1];simp[FW,CH,iN,Env.cg,pS]
 |cons s l=>
  have h2:w=2:=(hw (aP s) (by simp)).symm;subst h2;have:=qci a b n (s::l).length hL ha hb _ n 0 (s::l) (by omega) rfl rfl;generalize s::l=l at*;simp[sG,KU];simpa using this
theorem qhN{C:Nat→Option b8}(T:kS C mT bq Q0 pT):vZ (cZ C mT) 238 DF:=by
 refine wK T (T.code 238 BY rfl) rfl ?_;intro xs rest ys w hh hw;unfold DF at hh;split at hh
 case h_2=>cases hh
 rename_i a b n c;split at hh
 case h_2=>cases hh
 rename_i l hl;obtain⟨hb2,hh3⟩:=aM hh;clear hh;have hx:=nD hl;subst hx;simp only[bC,decide_eq_true_eq]at hb2;obtain⟨⟨⟨⟨⟨h1,h2⟩,h3⟩,h4⟩,h5⟩,h6⟩:=hb2;simp only[ai]at hh3;subst hh3;obtain⟨a,rfl⟩:=Int.eq_ofNat_of_zero_le h1;obtain⟨b,rfl⟩:=Int.eq_ofNat_of_zero_le h2;obtain⟨n,rfl⟩:=Int.eq_ofNat_of_zero_le h3;have ht:=t238 c a b n l h6 (by omega) (by omega) w hw;refine⟨fun u hu=> ?_,(by show 4+1≤38;omega),by simp[lB],fun r hr=> ?_,?_,?_⟩
 ·simp at hu;rcases hu with rfl|rfl|rfl|rfl<;>exact⟨rfl,rfl⟩
 ·obtain⟨s,hs,rfl⟩:=eR.1 hr;cases l with
  |nil=>have:=lB (Int.toNat a) (Int.toNat b) (Int.toNat n) 0 [];have h0:=jq this;rw[h0]at hs;cases hs
  |cons s l=>exact hw (aP s) (by simp)
 ·exact j9 _
 ·exact ht
def Q1:mE:=⟨fun f=>bif f==238 then some DF else none,fun _=>none,fun _=>false,fun _=>none⟩
@[simp] theorem qhg(f:Nat):Q1.q f=bif f==238 then some DF else none:=rfl
@[simp] theorem qhe(f:Nat):Q1.app f=none:=rfl
@[simp] theorem qiJ(f:Nat):Q1.ld f=false:=rfl
@[simp] theorem qhf(f:Nat):Q1.IN f=none:=rfl
theorem qfV{C:Nat→Option b8}(T:kS C mT bq Q0 pT):kS C mT bq Q1 pT:=
 ⟨T.code,⟨fun f q h=>(by
  rw[qhg]at h;cases hf:f==238 with
  |true=>
   rw[hf]at h;simp only[cond_true,ai]at h;subst h;have:f=238:=by simpa using hf
   subst this;exact qhN T
  |false=>rw[hf]at h;cases h),fun f q h=>(by cases h),fun f q h=>(by cases h)⟩,T.HH⟩
theorem Bh(c:Nat)(a b n:Nat)(l:List cD)(hL:l.length<small)(ha:a+n≤l.length)(hb:b+n≤l.length):DF (l.map aP) [.int .i64 (a:Int),.int .i64 (b:Int),.int .i64 (n:Int),.func c [] []]=some ((pS a b n 0 l).map aP):=by
 have h1:decide ((0:Int)≤(a:Int))=true:=decide_eq_true (by omega);have h2:decide ((0:Int)≤(b:Int))=true:=decide_eq_true (by omega);have h3:decide ((0:Int)≤(n:Int))=true:=decide_eq_true (by omega);have h4:decide ((a:Int)+(n:Int)≤(l.length:Int))=true:=decide_eq_true (by omega);have h5:decide ((b:Int)+(n:Int)≤(l.length:Int))=true:=decide_eq_true (by omega);have h6:decide (l.length<small)=true:=decide_eq_true hL;simp only[DF,oL,h1,h2,h3,h4,h5,h6,Bool.and_self,cond_true];rfl
end Go.RE
namespace Go.RE
theorem Bi(a b:Nat):∀ (k i:Nat) (l:List cD),pS a b k (i+1) l=pS (a+1) (b+1) k i l
 |0,_,_=>rfl
 |k+1,i,l=>by
  rw[pS,pS,Bi a b k (i+1)];rw[show a+(i+1)=a+1+i by omega,show b+(i+1)=b+1+i by omega]
theorem L5{α:Type}(P Q:List α)(z z' :α)(n:Nat)(hn:n=P.length):(P++z::Q).set n z' =P++z' ::Q:=by
 subst hn;simp
theorem LB{α:Type}(P Q:List α)(z:α)(n:Nat)(hn:n=P.length):(P++z::Q)[n]? =some z:=by
 subst hn;simp
theorem JY(A M Q:List cD)(x y:cD)(i j:Nat)(hi:i=A.length)(hj:j=A.length+1+M.length):kL (A++x::(M++y::Q)) i j=A++y::(M++x::Q):=by
 have g1:=LB A (M++y::Q) x i hi;have e:A++x::(M++y::Q)=(A++x::M)++y::Q:=by simp
 have g2:(A++x::(M++y::Q))[j]? =some y:=by rw[e];exact LB _ _ _ _ (by simp;omega)
 unfold kL;rw[g1,g2,Option.getD_some,Option.getD_some,L5 A _ x y i hi];have e2:A++y::(M++y::Q)=(A++y::M)++y::Q:=by simp
 rw[e2,L5 _ _ y x j (by simp;omega)];simp
theorem pU:∀ (n:Nat) (A X B Y C:List cD) (a b:Nat),X.length=n→Y.length=n→a=A.length→b=A.length+X.length+B.length→
  pS a b n 0 (A++X++B++Y++C)=A++Y++B++X++C
 |0,A,X,B,Y,C,a,b,hx,hy,_,_=>by
  have h1:=jq hx;have h2:=jq hy;subst h1;subst h2;rfl
 |n+1,A,[],B,Y,C,a,b,hx,hy,_,_=>by simp at hx
 |n+1,A,x::X,B,[],C,a,b,hx,hy,_,_=>by simp at hy
 |n+1,A,x::X,B,y::Y,C,a,b,hx,hy,ha,hb=>by
  have e:A++x::X++B++y::Y++C=A++x::((X++B)++y::(Y++C)):=by simp
  rw[pS,e,JY A (X++B) (Y++C) x y (a+0) (b+0) (by omega) (by simp at hb⊢;omega),Bi];have ih:=pU n (A++[y]) X (B++[x]) Y C (a+1) (b+1) (by simpa using hx) (by simpa using hy) (by simp;omega) (by simp at hb⊢;omega);have e2:A++y::(X++B++x::(Y++C))=A++[y]++X++(B++[x])++Y++C:=by simp
  rw[e2,ih];simp
def A6:Nat→Nat→Nat→Nat→List cD→List cD
 |0,_,_,_,l=>l
 |f+1,m,i,j,l=>if i=j then pS (m - i) m i 0 l else if j<i then A6 f m (i - j) j (pS (m - i) m j 0 l)else A6 f m i (j - i) (pS (m - i) (m+j - i) i 0 l)
theorem EA:∀ (f m i j:Nat) (A X Y C:List cD),0<i→0<j→i+j≤f→X.length=i→Y.length=j→A.length+i=m→A6 f m i j (A++X++Y++C)=A++Y++X++C
 |0,m,i,j,A,X,Y,C,hi,hj,hf,hx,hy,hm=>by omega
 |f+1,m,i,j,A,X,Y,C,hi,hj,hf,hx,hy,hm=>by
  unfold A6;by_cases h1:i=j
  ·rw[if_pos h1];have:=pU i A X [] Y C (m - i) m hx (by omega) (by omega) (by simp;omega);simpa using this
  ·rw[if_neg h1];by_cases h2:j<i
   ·rw[if_pos h2];have e:X=X.take j++X.drop j:=(List.take_append_drop j X).symm;have l1:(X.take j).length=j:=by simp;omega
    have l2:(X.drop j).length=i - j:=by simp;omega
    generalize X.take j=X1 at*;generalize X.drop j=X2 at*;subst e;have s1:=pU j A X1 X2 Y C (m - i) m l1 hy (by omega) (by omega);have e1:A++(X1++X2)++Y++C=A++X1++X2++Y++C:=by simp
    rw[e1,s1];have ih:=EA f m (i - j) j (A++Y) X2 X1 C (by omega) hj (by omega) l2 l1 (by simp;omega);rw[ih];simp
   ·rw[if_neg h2];have e:Y=Y.take (j - i)++Y.drop (j - i):=(List.take_append_drop (j - i) Y).symm;have l1:(Y.take (j - i)).length=j - i:=by simp;omega
    have l2:(Y.drop (j - i)).length=i:=by simp;omega
    generalize Y.take (j - i)=Y1 at*;generalize Y.drop (j - i)=Y2 at*;subst e;have s1:=pU i A X Y1 Y2 C (m - i) (m+j - i) hx l2 (by omega) (by omega);have e1:A++X++(Y1++Y2)++C=A++X++Y1++Y2++C:=by simp
    rw[e1,s1];have e2:A++Y2++Y1++X++C=A++Y2++Y1++(X++C):=by simp
    rw[e2];have ih:=EA f m i (j - i) A Y2 Y1 (X++C) hi (by omega) (by omega) l2 l1 hm;rw[ih];simp
end Go.RE
namespace Go.RE
theorem qch(c m L:Nat)(hL:L<small)(R:List cD):∀ (f i j:Nat) (l:List cD),l.length=L→0<i→0<j→i+j≤f→i≤m→m+j≤L→A6 f m i j l=R→
  gL bq mT Q1 pT yM 0 FV 0 ⟨[(11,.int .i64 (j:Int)),(10,.int .i64 (i:Int)),(4,.func c [] []),(2,.int .i64 (m:Int)),(0,.own .a 2 (l.map aP))],[],0⟩ (gy bq mT Q1 pT yM (.region KT) (CH 2 (R.map aP))):=by
 intro f
 induction f with
 |zero=>intro i j l hl hi hj hf;omega
 |succ f ih=>
  intro i j l hl hi hj hf him hmj hR;unfold A6 at hR;have e1:aI .i64 ((m:Int) - (i:Int))=((m - i:Nat):Int):=by rw[dh (by omega) (by unfold small at hL;omega)];omega
  rw[ak FV.eq_1];by_cases h1:i=j
  ·subst h1;rw[if_pos rfl]at hR;have c1:=Bh c (m - i) m i l (by omega) (by omega) (by omega);simp[FT,KT,e1,c1,iN,tL,Env.cg,Env.fB,U.fB,CH,hR]
  ·rw[if_neg h1]at hR;have h1' :¬((i:Int)=(j:Int)):=by omega
   by_cases h2:j<i
   ·rw[if_pos h2]at hR;have h2' :(j:Int)<(i:Int):=by omega
    have c1:=Bh c (m - i) m j l (by omega) (by omega) (by omega);have e2:aI .i64 ((i:Int) - (j:Int))=((i - j:Nat):Int):=by rw[dh (by omega) (by unfold small at hL;omega)];omega
    have ih' :=ih (i - j) j _ (by rw[lB];exact hl) (by omega) hj (by omega) (by omega) hmj hR;simp[FT,KS,Ul,Um,e1,e2,c1,h1',h2',iN,tL,Env.cg,Env.fB,U.fB];simpa using ih'
   ·rw[if_neg h2]at hR;have h2' :¬((j:Int)<(i:Int)):=by omega
    have c1:=Bh c (m - i) (m+j - i) i l (by omega) (by omega) (by omega);have e2:aI .i64 ((j:Int) - (i:Int))=((j - i:Nat):Int):=by rw[dh (by omega) (by unfold small at hL;omega)];omega
    have e3:aI .i64 ((m:Int)+(j:Int))=((m+j:Nat):Int):=by rw[dh (by omega) (by unfold small at hL;omega)];omega
    have e4:aI .i64 (((m:Int)+(j:Int)) - (i:Int))=((m+j - i:Nat):Int):=by rw[dh (by omega) (by unfold small at hL;omega)];omega
    have ih' :=ih i (j - i) _ (by rw[lB];exact hl) hi (by omega) (by omega) him (by omega) hR;simp[FT,KS,Un,Uq,e1,e2,e3,e4,c1,h1',h2',iN,tL,Env.cg,Env.fB,U.fB];simpa using ih'
theorem t237(c a m b:Nat)(l:List cD)(hL:l.length<small)(ham:a<m)(hmb:m<b)(hb:b≤l.length):
  gC bq mT Q1 pT yM yM.body ⟨[(0,.own .a 2 (l.map aP)),(1,.int .i64 (a:Int)),(2,.int .i64 (m:Int)),(3,.int .i64 (b:Int)),(4,.func c [] [])],[],0⟩ (CH 2 ((A6 (b - a) m (m - a) (b - m) l).map aP)):=by
 have e1:aI .i64 ((m:Int) - (a:Int))=((m - a:Nat):Int):=by rw[dh (by omega) (by unfold small at hL;omega)];omega
 have e2:aI .i64 ((b:Int) - (m:Int))=((b - m:Nat):Int):=by rw[dh (by omega) (by unfold small at hL;omega)];omega
 have:=qch c m l.length hL _ (b - a) (m - a) (b - m) l rfl (by omega) (by omega) (by omega) (by omega) (by omega) rfl;simp[xT,Uj,Uk,e1,e2];simpa using this
theorem A7:∀ (f m i j:Nat) (l:List cD),(A6 f m i j l).length=l.length
 |0,_,_,_,_=>rfl
 |f+1,m,i,j,l=>by
  unfold A6;by_cases h1:i=j
  ·rw[if_pos h1,lB]
  ·rw[if_neg h1];by_cases h2:j<i
   ·rw[if_pos h2,A7 f,lB]
   ·rw[if_neg h2,A7 f,lB]
def JN(xs:List (List U))(rest:List U):Option (List (List U)):=
 match rest with
 |[.int .i64 a,.int .i64 m,.int .i64 b,.func _ [] []]=>match yK xs with
  |some l=>bif decide (0≤a)&&decide (a<m)&&decide (m<b)&&decide (b≤l.length)&&decide (l.length<small)then some ((A6 (b.toNat - a.toNat) m.toNat (m.toNat - a.toNat) (b.toNat - m.toNat) l).map aP)else none
  |none=>none
 |_=>none
theorem qhM{C:Nat→Option b8}(T:kS C mT bq Q0 pT):vZ (cZ C mT) 237 JN:=by
 refine wK (qfV T) (T.code 237 yM rfl) rfl ?_;intro xs rest ys w hh hw;unfold JN at hh;split at hh
 case h_2=>cases hh
 rename_i a m b c;split at hh
 case h_2=>cases hh
 rename_i l hl;obtain⟨hb2,hh3⟩:=aM hh;clear hh;have hx:=nD hl;subst hx;simp only[bC,decide_eq_true_eq]at hb2;obtain⟨⟨⟨⟨h1,h2⟩,h3⟩,h4⟩,h5⟩:=hb2;simp only[ai]at hh3;subst hh3;obtain⟨a,rfl⟩:=Int.eq_ofNat_of_zero_le h1;obtain⟨m,rfl⟩:=Int.eq_ofNat_of_zero_le (show 0≤m by omega);obtain⟨b,rfl⟩:=Int.eq_ofNat_of_zero_le (show 0≤b by omega);have hw2:w=2:=by
  cases l with
  |nil=>simp at h4;omega
  |cons s l=>exact(hw (aP s) (by simp)).symm
 subst hw2;have ht:=t237 c a m b l h5 (by omega) (by omega) (by omega);refine⟨fun u hu=> ?_,(by show 4+1≤58;omega),by simp[A7],fun r hr=> ?_,?_,?_⟩
 ·simp at hu;rcases hu with rfl|rfl|rfl|rfl<;>exact⟨rfl,rfl⟩
 ·obtain⟨s,hs,rfl⟩:=eR.1 hr;rfl
 ·exact j9 _
 ·exact ht
end Go.RE
namespace Go.RE
theorem t192{Q:mE}(h1:Q.q 83=none)(h2:Q.app 83=none)(h3:Q.IN 83=none)(h4:Q.ld 83=false)(x y:cD):gF bq mT Q pT 192 [.agg [.str x.1,.str x.2],.agg [.str y.1,.str y.2]] [] 0=some (.int .i64 (oc x.1 y.1),[],0):=by
 have c:gF bq mT Q pT 83 [.str x.1,.str y.1] [] 0=some (.int .i64 (oc x.1 y.1),[],0):=yQ (p:=Wk) rfl;refine G3 (fn:=To) rfl rfl rfl ?_;simp[xI,Tp,Tq,c,h1,h2,h3,h4]
theorem GD(a j:Nat)(l:List cD)(h:(decide (a<j+1)&&aY (l[j+1]?.getD default) (l[j]?.getD default))=false):wg aY a (j+1) l=l:=by
 rw[wg,h,cond_false]
theorem qap(a j:Nat)(l:List cD)(h:(decide (a<j+1)&&aY (l[j+1]?.getD default) (l[j]?.getD default))=true):wg aY a (j+1) l=wg aY a j (kL l (j+1) j):=by
 rw[wg,h,cond_true]
theorem qca(a b i L:Nat)(hL:L<small)(K:Ex→Vs→Prop)(R:List cD)
  (hK:K .normal ⟨[(0,.own .a 2 (R.map aP)),(1,.int .i64 (a:Int)),(3,.func 192 [] []),(2,.int .i64 (b:Int)),(8,.int .i64 (i:Int))],[],0⟩):∀ (j:Nat) (l:List cD),l.length=L→j<L→wg aY a j l=R→
  gL bq mT Q0 pT v233 2 zM 0 ⟨[(9,.int .i64 (j:Int)),(0,.own .a 2 (l.map aP)),(1,.int .i64 (a:Int)),(3,.func 192 [] []),(2,.int .i64 (b:Int)),(8,.int .i64 (i:Int))],[],0⟩ K:=by
 intro j
 induction j with
 |zero=>
  intro l hl hj hR;rw[wg]at hR;subst hR;have h1:¬((a:Int)<0):=by omega
  rw[ak zM.eq_1];simp[au zL,sE,h1]at hK⊢;simpa using hK
 |succ j ih=>
  intro l hl hj hR;obtain⟨p,hp⟩:∃ p,p=j+1:=⟨_,rfl⟩;have e1:aI .i64 ((p:Int) - 1)=(j:Int):=by rw[dh (by omega) (by unfold small at hL;omega)];omega
  have hpl:p<l.length:=by omega
  have hjl:j<l.length:=by omega
  obtain⟨⟨s1,s2⟩,gp⟩:∃ r,l[p]? =some r:=⟨_,bL hpl⟩;obtain⟨⟨u1,u2⟩,gq⟩:∃ r,l[j]? =some r:=⟨_,bL hjl⟩;have gp' :(l.map aP)[p]? =some [.str s1,.str s2]:=by rw[List.getElem?_map,gp];rfl
  have gq' :(l.map aP)[j]? =some [.str u1,.str u2]:=by rw[List.getElem?_map,gq];rfl
  have ip:∀ s',qf s' 2 (some (.own .a 2 (l.map aP))) (some (.int .i64 (p:Int)))=some (.bD .a p 0,s'):=fun s' =>cz (by simpa using hpl);have ij:∀ s',qf s' 2 (some (.own .a 2 (l.map aP))) (some (.int .i64 (j:Int)))=some (.bD .a j 0,s'):=fun s' =>cz (by simpa using hjl);have ij2:∀ (r:List U) s',qf s' 2 (some (.own .a 2 ((l.map aP).set p r))) (some (.int .i64 (j:Int)))=some (.bD .a j 0,s'):=fun r s' =>cz (by simp;exact hjl);have c:=t192 (Q:=Q0) rfl rfl rfl rfl (s1,s2) (u1,u2);rw[ak zM.eq_1,←hp];cases ha:decide (a<p)with
  |false=>
   rw[GD a j l (by rw[←hp,ha];rfl)]at hR;subst hR;simp[au zL,sE,ha]at hK⊢;simpa using hK
  |true=>
   cases hlt:lt s1 u1 with
   |false=>
    rw[GD a j l (by rw[←hp,ha,gp,gq];exact hlt)]at hR;subst hR;generalize l.map aP=X at*;simp[au zL,sE,ha,ip,ij,gp',gq',e1,c,hlt,iN,Env.cg,cT]at hK⊢;simpa using hK
   |true=>
    rw[qap a j l (by rw[←hp,ha,gp,gq];exact hlt),←hp]at hR;have ih' :=ih (kL l p j) (by simp[kL,hl]) (by omega) hR;have g3:((l.map aP).set p [.str u1,.str u2])[j]? =some [.str u1,.str u2]:=by
     rw[eM,if_neg (by omega),gq']
    simp only[kL,gp,gq,Option.getD_some,List.map_set,aP]at ih';generalize l.map aP=X at*;simp[au zL,sE,T9,au Xx,FB,ha,ip,ij,ij2,gp',gq',g3,e1,c,hlt,iN,Env.cg,tL,Env.fB,U.fB,cT];simpa using ih'
theorem Ae(a:Nat):∀ (j:Nat) (l:List cD),(wg aY a j l).length=l.length
 |0,_=>rfl
 |j+1,l=>by
  unfold wg;cases decide (a<j+1)&&aY (l[j+1]?.getD default) (l[j]?.getD default)with
  |true=>rw[cond_true,Ae a j];simp[kL]
  |false=>rfl
theorem G7(a:Nat):∀ (k i:Nat) (l:List cD),(CG aY a k i l).length=l.length
 |0,_,_=>rfl
 |k+1,i,l=>by unfold CG;rw[G7 a k,Ae]
theorem qcb(a b L:Nat)(hL:L<small)(hb:b≤L)(R:List cD):∀ (k i:Nat) (l:List cD),l.length=L→b - i=k→i≤L+1→CG aY a k i l=R→
  gL bq mT Q0 pT v233 0 vh 0 ⟨[(0,.own .a 2 (l.map aP)),(8,.int .i64 (i:Int)),(1,.int .i64 (a:Int)),(3,.func 192 [] []),(2,.int .i64 (b:Int))],[],0⟩ (CH 2 (R.map aP)):=by
 intro k
 induction k with
 |zero=>
  intro i l hl hik hi hR;have h1:¬((i:Int)<(b:Int)):=by omega
  rw[CG]at hR;subst hR;rw[ak vh.eq_1];simp[FA,h1,CH,iN,Env.cg]
 |succ k ih=>
  intro i l hl hik hi hR;have h1:(i:Int)<(b:Int):=by omega
  rw[CG]at hR;have e1:aI .i64 ((i:Int)+1)=((i+1:Nat):Int):=by rw[dh (by omega) (by unfold small at hL;omega)];omega
  have ih' :=ih (i+1) _ (by rw[Ae];exact hl) (by omega) (by omega) hR;rw[ak vh.eq_1];simp[FA,T6,h1];refine qca a b i L hL _ _ ?_ i l hl (by omega) rfl;simp[Ua,e1];simpa using ih'
theorem qE(l:List cD)(a b:Nat):(iZ aY l a b).length=l.length:=G7 _ _ _ _
theorem t233(a b:Nat)(l:List cD)(hL:l.length<small)(hab:a≤b)(hb:b≤l.length)(w:Nat)(hw:∀ r∈l.map aP,r.length=w):
  gC bq mT Q0 pT v233 v233.body ⟨[(0,.own .a w (l.map aP)),(1,.int .i64 (a:Int)),(2,.int .i64 (b:Int)),(3,.func 192 [] [])],[],0⟩ (CH w ((iZ aY l a b).map aP)):=by
 have e1:aI .i64 ((a:Int)+1)=((a+1:Nat):Int):=by rw[dh (by omega) (by unfold small at hL;omega)];omega
 cases l with
 |nil=>
  have hn:b=0:=by simpa using hb
  have ha:a=0:=by omega
  subst hn;subst ha;have e1:aI .i64 1=1:=rfl;simp[sF,KP,e1];rw[ak vh.eq_1];simp[FA,CH,iN,Env.cg,iZ,CG]
 |cons s l=>
  have h2:w=2:=(hw (aP s) (by simp)).symm;subst h2;have:=qcb a b (s::l).length hL hb _ (b - (a+1)) (a+1) (s::l) rfl rfl (by omega) rfl;unfold iZ;generalize s::l=l at*;simp[sF,KP,e1];simpa using this
def rU(xs:List (List U))(rest:List U):Option (List (List U)):=
 match rest with
 |[.int .i64 a,.int .i64 b,.func 192 [] []]=>match yK xs with
  |some l=>bif decide (0≤a)&&decide (a≤b)&&decide (b≤l.length)&&decide (l.length<small)then some ((iZ aY l a.toNat b.toNat).map aP)else none
  |none=>none
 |_=>none
theorem tu(a b:Nat)(l:List cD)(hL:l.length<small)(hab:a≤b)(hb:b≤l.length):rU (l.map aP) [.int .i64 (a:Int),.int .i64 (b:Int),.func 192 [] []]=some ((iZ aY l a b).map aP):=by
 have h1:decide ((0:Int)≤(a:Int))=true:=decide_eq_true (by omega);have h2:decide ((a:Int)≤(b:Int))=true:=decide_eq_true (by omega);have h3:decide ((b:Int)≤(l.length:Int))=true:=decide_eq_true (by omega);have h6:decide (l.length<small)=true:=decide_eq_true hL;simp only[rU,oL,h1,h2,h3,h6,Bool.and_self,cond_true];rfl
theorem qhK{C:Nat→Option b8}(T:kS C mT bq Q0 pT):vZ (cZ C mT) 233 rU:=by
 refine wK T (T.code 233 v233 rfl) rfl ?_;intro xs rest ys w hh hw;unfold rU at hh;split at hh
 case h_2=>cases hh
 rename_i a b;split at hh
 case h_2=>cases hh
 rename_i l hl;obtain⟨hb2,hh3⟩:=aM hh;clear hh;have hx:=nD hl;subst hx;simp only[bC,decide_eq_true_eq]at hb2;obtain⟨⟨⟨h1,h2⟩,h3⟩,h4⟩:=hb2;simp only[ai]at hh3;subst hh3;obtain⟨a,rfl⟩:=Int.eq_ofNat_of_zero_le h1;obtain⟨b,rfl⟩:=Int.eq_ofNat_of_zero_le (show 0≤b by omega);have ht:=t233 a b l h4 (by omega) (by omega) w hw;refine⟨fun u hu=> ?_,(by show 3+1≤53;omega),by simp[qE],fun r hr=> ?_,?_,?_⟩
 ·simp at hu;rcases hu with rfl|rfl|rfl<;>exact⟨rfl,rfl⟩
 ·obtain⟨s,hs,rfl⟩:=eR.1 hr;cases l with
  |nil=>have:=qE [] a b;have h0:=jq this;simp only[Int.toNat_natCast]at hs;rw[h0]at hs;cases hs
  |cons s l=>exact hw (aP s) (by simp)
 ·exact j9 _
 ·exact ht
end Go.RE
