/- Sorting that keeps what is alike in order, as it is done: insertion in blocks, and merging by rotations. -/
import Derived.Test.YtmpopachilfinaaGreatPart13
import Derived.Test.YtmpopachilfinaaGreatPart12
import Derived.Lib.Bytealg
import Derived.Sort.Walk0
set_option linter.unusedVariables false
set_option linter.unusedSimpArgs false
set_option linter.unnecessarySimpa false
set_option linter.constructorNameAsVariable false
namespace Go.RE
section
variable{α:Type}[Inhabited α](less:α→α→Bool)
def kM(l:List α)(i j:Nat):List α:=(l.set i (l[j]?.getD default)).set j (l[i]?.getD default)
def vZ(a:Nat):Nat→List α→List α
 |0,l=>l
 |j+1,l=>bif decide (a<j+1)&&less (l[j+1]?.getD default) (l[j]?.getD default)then vZ a j (kM l (j+1) j)else l
def CG(a:Nat):Nat→Nat→List α→List α
 |0,_,l=>l
 |k+1,i,l=>CG a k (i+1) (vZ less a i l)
def iS(l:List α)(a b:Nat):List α:=CG less a (b - (a+1)) (a+1) l
def sX(p:Nat→Bool):Nat→Nat→Nat→Nat
 |0,i,_=>i
 |f+1,i,j=>bif decide (i<j)then(bif p ((i+j) / 2)then sX p f ((i+j) / 2+1) j else sX p f i ((i+j) / 2))else i
def pP(l:List α)(a m b:Nat):List α:=l.take a++(l.drop m).take (b - m)++(l.drop a).take (m - a)++l.drop b
def lI:Nat→List α→Nat→Nat→Nat→List α
 |0,l,_,_,_=>l
 |f+1,l,a,m,b=>
  bif decide (m - a=1)then pP l a m (sX (fun h=>less (l[h]?.getD default) (l[a]?.getD default)) (b - m) m b)
  else bif decide (b - m=1)then pP l (sX (fun h=> !less (l[m]?.getD default) (l[h]?.getD default)) (m - a) a m) m b
  else
   let mid:=(a+b) / 2;let n:=mid+m;let s0:=bif decide (mid<m)then n - b else a
   let r0:=bif decide (mid<m)then mid else m
   let s:=sX (fun c=> !less (l[n - 1 - c]?.getD default) (l[c]?.getD default)) (r0 - s0) s0 r0;let e:=n - s;let l1:=bif decide (s<m)&&decide (m<e)then pP l s m e else l
   let l2:=bif decide (a<s)&&decide (s<mid)then lI f l1 a s mid else l1
   bif decide (mid<e)&&decide (e<b)then lI f l2 mid e b else l2
def qI(n:Nat):Nat→Nat→List α→List α
 |0,a,l=>iS less l a n
 |f+1,a,l=>bif decide (a+20≤n)then qI n f (a+20) (iS less l a (a+20))else iS less l a n
def s4(n bs:Nat):Nat→Nat→List α→List α
 |0,_,l=>l
 |f+1,a,l=>bif decide (a+2*bs≤n)then s4 n bs f (a+2*bs) (lI less (2*bs) l a (a+bs) (a+2*bs))
   else bif decide (a+bs<n)then lI less n l a (a+bs) n else l
def pN(n:Nat):Nat→Nat→List α→List α
 |0,_,l=>l
 |f+1,bs,l=>bif decide (bs<n)then pN n f (bs*2) (s4 less n bs n 0 l)else l
def zb(l:List α):List α:=pN less l.length l.length 20 (qI less l.length l.length 0 l)
end
end Go.RE
namespace Go.RE
abbrev lt(a b:By):Bool:=Op.bytesLess a b
def small:Nat:=1000000000
def kJ(w:Nat)(xs:List (List U)):Bool:=xs.all fun r=>r.all U.aH&&U.b8 0 r&&Nat.beq r.length w
abbrev Prm:=List U→List Uo→Nat→Option (U×List Uo×Nat)
def tg(w0:Nat):Prm:=fun us h fl=>match us with
 |[.sl w xs]=>bif Nat.beq w w0&&Nat.ble (xs.length*200) bp&&kJ w xs then some (.own .r w xs,h,fl)else none
 |_=>none
def Pz(f:Nat):Nat:=bif f==61 then 7 else bif f==62 then 2 else bif f==97 then 6 else 1
def n9(a b:By):Int:=bif lt a b then -1 else bif a==b then 0 else 1
def Wp:Prm:=fun us h fl=>match us with
 |[.str a,.str b]=>some (.int .i64 (n9 a b),h,fl)
 |_=>none
def uw(f:Nat):Bool:=f==58||f==61||f==62||f==97||f==135||f==194
def pT:Nat→Option Prm:=fun f=>bif uw f then some (tg (Pz f))else bif f==83 then some Wp else none
def mT:oW:=fun _ _=>none
def pQ:List U→Option By
 | .str k::_=>some k
 |_=>none
def kz:List (List U)→Option (List By)
 |[]=>some []
 |x::r=>match pQ x,kz r with
  |some k,some l=>some (k::l)
  |_,_=>none
def Mt(x y:List U):Bool:=match pQ x,pQ y with
 |some a,some b=>lt a b
 |_,_=>false
def Hp(a:List U):List (List U)→List (List U)
 |[]=>[a]
 |b::l=>bif Mt b a then b::Hp a l else a::b::l
def Ij(xs:List (List U)):List (List U):=xs.foldr Hp []
def kj(k:Nat):List U→Bool
 |[.str _,.sl _ _]=>Nat.beq k 2
 |[.str _,.bool _,.sl _ _]=>Nat.beq k 3
 |_=>false
def oq(k c:Nat)(xs:List (List U))(rest:List U):Option (List (List U)):=
 match rest with
 |[.func g [] []]=>bif Nat.beq g c&&Nat.blt xs.length 4611686018427387904&&xs.all (kj k)then(match kz xs with
  |some l=>if l.Nodup then some (Ij xs)else none
  |none=>none)else none
 |_=>none
def Of(xs:List (List U))(rest:List U):Option (List (List U)):=
 match rest with
 |[.int .i64 n,.own (.t _) 1 [[.str k]]]=>bif decide (0≤n)&&Nat.ble n.toNat xs.length&&Nat.blt xs.length 1000000000&&(kz xs).isSome&&kJ 1 xs then some (xs.take n.toNat++[[.str k]]++xs.drop n.toNat)else none
 |_=>none
abbrev cA:=By×By
def aQ(s:cA):List U:=[.str s.1,.str s.2]
def yH:List (List U)→Option (List cA)
 |[]=>some []
 |[.str a,.str b]::r=>match yH r with
  |some l=>some ((a,b)::l)
  |none=>none
 |_=>none
def aX(x y:cA):Bool:=lt x.1 y.1
def qj(l:List cA):List cA:=zb aX l
def sn(xs:List (List U))(rest:List U):Option (List (List U)):=
 match rest with
 |[.func 192 [] []]=>bif Nat.blt xs.length 1000000000 then(match yH xs with|some l=>some ((qj l).map aQ)|none=>none)else none
 |_=>none
def ldF(f:Nat):Bool:=f==27||f==77
structure Rc where
 first:Nat
 last:Nat
 began:Nat
 out:Nat
 reads:List cA
 writes:List cA
deriving Inhabited,DecidableEq
def recC(r:Rc):List U:=[.int .u64 r.first,.int .u64 r.last,.int .u64 r.began,.int .u64 r.out,.sl 2 (r.reads.map aQ),.sl 2 (r.writes.map aQ)]
def fL(r:Rc):Prop:=r.reads.length<small / 8∧r.writes.length<small / 8
theorem EO:∀ {a b:List cA},a.map aQ=b.map aQ→a=b
 |[],[],_=>rfl
 |[],_::_,h=>by simp at h
 |_::_,[],h=>by simp at h
 |(x1,x2)::a,(y1,y2)::b,h=>by
  simp only[List.map_cons,List.cons.injEq,aQ,U.str.injEq,and_true]at h;rw[EO h.2,h.1.1,h.1.2]
theorem HR:∀ {a b:List Rc},a.map recC=b.map recC→a=b
 |[],[],_=>rfl
 |[],_::_,h=>by simp at h
 |_::_,[],h=>by simp at h
 |⟨x1,x2,x3,x4,x5,x6⟩::a,⟨y1,y2,y3,y4,y5,y6⟩::b,h=>by
  simp only[List.map_cons,List.cons.injEq,recC,U.int.injEq,U.sl.injEq,and_true,true_and,Int.ofNat_inj]at h;obtain⟨⟨h1,h2,h3,h4,h5,h6⟩,h7⟩:=h;rw[HR h7,EO h5,EO h6,h1,h2,h3,h4]
noncomputable def pE(xs:List (List U))(rest:List U):Option (Nat×List (List U)):=open Classical in
 if h:∃ p:List Rc×Nat,xs=p.1.map recC∧rest=[.int .u64 (p.2:Int)]∧p.1.length<100000000∧∀ r∈p.1,fL r then
  some (6,(h.choose.1.filter fun r=>decide (h.choose.2<r.last)).map recC)else none
theorem AD(l:List Rc)(low:Nat)(hl:l.length<100000000)(hok:∀ r∈l,fL r):pE (l.map recC) [.int .u64 (low:Int)]=some (6,(l.filter fun r=>decide (low<r.last)).map recC):=by
 have hex:∃ p:List Rc×Nat,l.map recC=p.1.map recC∧[U.int .u64 (low:Int)]=[.int .u64 (p.2:Int)]∧p.1.length<100000000∧∀ r∈p.1,fL r:=⟨(l,low),rfl,rfl,hl,hok⟩;unfold pE;rw[dif_pos hex];obtain⟨a,b,_⟩:=hex.choose_spec;have e1:=HR a;have e2:(low:Int)=(hex.choose.2:Int):=by simpa using b
 have e3:hex.choose=(l,low):=Prod.ext e1.symm (by show hex.choose.2=low;omega);rw[e3]
theorem Ek{xs:List (List U)}{rest:List U}{w:Nat}{ys:List (List U)}(h:pE xs rest=some (w,ys)):∃ (l:List Rc) (low:Nat),xs=l.map recC∧rest=[.int .u64 (low:Int)]∧l.length<100000000∧(∀ r∈l,fL r)∧w=6∧ys=(l.filter fun r=>decide (low<r.last)).map recC:=by
 by_cases hex:∃ p:List Rc×Nat,xs=p.1.map recC∧rest=[.int .u64 (p.2:Int)]∧p.1.length<100000000∧∀ r∈p.1,fL r
 ·obtain⟨⟨l,low⟩,h1,h2,hl,hok⟩:=hex;dsimp only at h1 h2 hl hok;subst h1;subst h2;rw[AD l low hl hok]at h;simp only[ai,aJ]at h;exact⟨l,low,rfl,rfl,hl,hok,h.1.symm,h.2.symm⟩
 ·unfold pE at h;rw[dif_neg hex]at h;cases h
noncomputable def GJ:Nat→Option (List (List U)→List U→Option (Nat×List (List U))):=fun f=>bif f==66 then some pE else none
noncomputable def qT:mA:=⟨fun f=>bif f==81 then some (oq 2 82)else bif f==115 then some (oq 3 116)else bif f==191 then some sn else none,fun f=>bif f==145 then some Of else none,ldF,GJ⟩
theorem oM(l:List cA):yH (l.map aQ)=some l:=by
 induction l with
 |nil=>rfl
 |cons a l ih=>show(match yH (l.map aQ)with|some l=>some ((a.1,a.2)::l)|none=>none)=_;rw[ih]
theorem Ki(l:List cA)(hl:l.length<small):sn (l.map aQ) [.func 192 [] []]=some ((qj l).map aQ):=by
 unfold small at hl;simp[sn,oM,hl]
@[simp] theorem qe5(f:Nat):qT.q f=bif f==81 then some (oq 2 82)else bif f==115 then some (oq 3 116)else bif f==191 then some sn else none:=rfl
@[simp] theorem QC(f:Nat):qT.app f=bif f==145 then some Of else none:=rfl
@[simp] theorem qbq(f:Nat):qT.Jb f=GJ f:=rfl
@[simp] theorem qiK(f:Nat):qT.ld f=ldF f:=rfl
attribute [simp] ldF GJ
noncomputable abbrev G:=gF br mT qT pT
theorem bL{fn:aC}{f:Nat}{us:List U}{h:List Uo}{fl:Nat}{R:U×List Uo×Nat}(hp:pT f=none)(hf:br f=some fn)(ha:Nat.ble us.length fn.ntmps=true)(hR:gC br mT qT pT fn fn.body ⟨lM us 0,h,fl⟩ (kE h.length fn R)):G f us h fl=some R:=Hf hp hf ha hR
theorem jK{f:Nat}(hf:uw f=true){w:Nat}{xs:List (List U)}(h:List Uo)(fl:Nat)(hl:xs.length<small)(hx:kJ w xs=true)(hw:Nat.beq w (Pz f)=true:=by rfl):G f [.sl w xs] h fl=some (.own .r w xs,h,fl):=by
 have hp:pT f=some (tg (Pz f)):=by unfold pT;rw[hf];rfl
 show gF br mT qT pT f _ _ _=_;rw[El hp];have:Nat.ble (xs.length*200) bp=true:=oT (by unfold small at hl;unfold bp;omega);simp only[tg,this,hx,hw,Bool.and_self,cond_true]
@[simp] theorem qau(a b:By):decide (n9 a b<0)=lt a b:=by
 unfold n9;cases lt a b with
 |true=>rfl
 |false=>cases a==b<;>rfl
structure jw where
 At:Nat
 qp:Bool
 Data:By
deriving Inhabited,DecidableEq
def bX(v:jw):List U:=[.int .u64 v.At,.bool v.qp,.sl 1 (bE v.Data)]
@[simp] theorem qbx(w:Nat):kJ w []=true:=rfl
theorem pR{α:Type}{w:Nat}{f:α→List U}(hf:∀ a,((f a).all U.aH&&U.b8 0 (f a)&&Nat.beq (f a).length w)=true)(l:List α):kJ w (l.map f)=true:=by
 simp only[kJ,List.all_map,jD];intro x _;exact hf x
@[simp] theorem Xe(b:By):kJ 1 (bE b)=true:=pR (fun v=>by simp[LM]) b
@[simp] theorem oK(l:List cA):kJ 2 (l.map aQ)=true:=pR (fun v=>by simp[aQ]) l
theorem j0(b:By):(bE b).length=b.length:=by simp[bE]
def half(n:Nat):Nat:=n / 2
@[simp] theorem qcG(n:Nat):jF .quo .no (.int .i64 (n:Int)) (.int .i64 2)=some (.int .i64 (aI .i64 (half n:Nat))):=by
 have:(n:Int).tdiv 2=((n / 2:Nat):Int):=by rw[Int.tdiv_eq_ediv_of_nonneg (by omega)];omega
 simp only[jF,jL,this,half];rfl
def msV(d:Nat)(s:Vs)(w bytes:Nat)(zero:List V):Option U→Option U→Option (U×Vs)
 |some l,some c=>(match fM c bp with
   |some c=>(match fM l c with
    |some l=>bif Nat.ble (c*bytes) bp&&Nat.beq zero.length w&&U.b8 0 (V.dc zero)&&(V.dc zero).all U.aH then some (.own (.t d) w (iA (V.dc zero) l),s.kill (.t d))else none
    |none=>none)
   |none=>none)
 |_,_=>none
@[simp] theorem V4(d:Nat)(s:Vs)(w bytes:Nat)(zero:List V)(len cap:bJ):yg d s (.makeSlice w bytes zero len cap)=msV d s w bytes zero (cq s.e len) (cq s.e cap):=by
 simp only[yg];cases cq s.e len with
 |none=>rfl
 |some l=>cases cq s.e cap<;>rfl
theorem JV{d:Nat}{s:Vs}{w bytes:Nat}{zero:List V}{z:Int}(h0:0≤z)(hb:z.toNat*bytes≤bp∧z.toNat≤bp)(hz:(Nat.beq zero.length w&&U.b8 0 (V.dc zero)&&(V.dc zero).all U.aH)=true):
  msV d s w bytes zero (some (.int .i64 0)) (some (.int .i64 z))=some (.own (.t d) w [],s.kill (.t d)):=by
 obtain⟨n,rfl⟩:∃ n:Nat,z=n:=⟨z.toNat,by omega⟩;simp only[Int.toNat_natCast]at hb;have h1:fM (.int .i64 (n:Int)) bp=some n:=by
  show asNat (.int .i64 (n:Int)) bp=some n;simp only[asNat];rw[if_pos ⟨Int.natCast_nonneg n,Int.ofNat_le.2 hb.2⟩];rfl
 have h2:fM (.int .i64 0) n=some 0:=by
  show asNat (.int .i64 0) n=some 0;simp only[asNat];rw[if_pos ⟨by decide,Int.natCast_nonneg n⟩];rfl
 simp only[bC]at hz;simp only[msV,h1,h2,oT hb.1,hz.1.1,hz.1.2,hz.2,Bool.and_self,cond_true];rfl
def slM(d w:Nat)(xs:List (List U))(s:Vs)(h l:Nat):Option Nat→Option (U×Vs)
 |some m=>bif Nat.beq m h then(bif Nat.beq m 0 then some (.own (.t d) w [],s.kill (.t d))else some (.sl w ((xs.take h).drop l),s))else none
 |none=>none
@[simp] theorem qfo(d w:Nat)(xs:List (List U))(s:Vs)(h l m:Nat):slM d w xs s h l (some m)=bif Nat.beq m h then(bif Nat.beq m 0 then some (.own (.t d) w [],s.kill (.t d))else some (.sl w ((xs.take h).drop l),s))else none:=rfl
def slL(d w:Nat)(mx:Option bJ)(xs:List (List U))(s:Vs)(h:Nat):Option Nat→Option (U×Vs)
 |some l=>(match mx with
  |none=>some (.sl w ((xs.take h).drop l),s)
  |some m=>slM d w xs s h l (bw s.e (some m) xs.length xs.length))
 |none=>none
@[simp] theorem qfm(d w:Nat)(xs:List (List U))(s:Vs)(h l:Nat):slL d w none xs s h (some l)=some (.sl w ((xs.take h).drop l),s):=rfl
@[simp] theorem qfn(d w:Nat)(m:bJ)(xs:List (List U))(s:Vs)(h l:Nat):slL d w (some m) xs s h (some l)=slM d w xs s h l (bw s.e (some m) xs.length xs.length):=rfl
def slH(d w:Nat)(lo mx:Option bJ)(xs:List (List U))(s:Vs):Option Nat→Option (U×Vs)
 |some h=>slL d w mx xs s h (bw s.e lo 0 h)
 |none=>none
@[simp] theorem qfl(d w:Nat)(lo mx:Option bJ)(xs:List (List U))(s:Vs)(h:Nat):slH d w lo mx xs s (some h)=slL d w mx xs s h (bw s.e lo 0 h):=rfl
@[simp] theorem qdF(d w:Nat)(lo hi mx:Option bJ)(xs:List (List U))(s:Vs):ir d w lo hi mx (.sl w xs) s=slH d w lo mx xs s (bw s.e hi xs.length xs.length):=by
 simp only[ir,jC,cond_true];cases bw s.e hi xs.length xs.length with
 |none=>rfl
 |some h=>
  simp only[slH];cases bw s.e lo 0 h with
  |none=>rfl
  |some l=>
   cases mx with
   |none=>rfl
   |some m=>
    simp only[slL];cases bw s.e (some m) xs.length xs.length<;>rfl
def soL(d w:Nat)(g:Tg)(xs:List (List U))(s:Vs)(h:Nat):Option Nat→Option (U×Vs)
 |some l=>bif g.HA then some (.view g l (h - l) w,s)else some (.own (.t d) w ((xs.take h).drop l),(s.kill g).kill (.t d))
 |none=>none
@[simp] theorem qfs(d w:Nat)(g:Tg)(xs:List (List U))(s:Vs)(h l:Nat):soL d w g xs s h (some l)=bif g.HA then some (.view g l (h - l) w,s)else some (.own (.t d) w ((xs.take h).drop l),(s.kill g).kill (.t d)):=rfl
def soH(d w:Nat)(g:Tg)(lo:Option bJ)(xs:List (List U))(s:Vs):Option Nat→Option (U×Vs)
 |some h=>soL d w g xs s h (bw s.e lo 0 h)
 |none=>none
@[simp] theorem qfr(d w:Nat)(g:Tg)(lo:Option bJ)(xs:List (List U))(s:Vs)(h:Nat):soH d w g lo xs s (some h)=soL d w g xs s h (bw s.e lo 0 h):=rfl
@[simp] theorem qbD(d w:Nat)(g:Tg)(lo hi:Option bJ)(xs:List (List U))(s:Vs):ir d w lo hi none (.own g w xs) s=soH d w g lo xs s (bw s.e hi xs.length xs.length):=by
 simp only[ir,jC,cond_true];cases bw s.e hi xs.length xs.length with
 |none=>rfl
 |some h=>
  simp only[soH];cases bw s.e lo 0 h<;>rfl
attribute [simp] Tg.HA
def stW(n i f:Nat)(g:Tg)(v:U)(s:Vs):Nat×List (List U)→Option (U×Vs)
 |(w,xs)=>(xs[i]?).bind fun r=>bif Nat.beq v.cells.length n&&Nat.ble (f+n) r.length&&v.cells.all U.aH&&v.low 0 then some (.aV [],s.fB g w (xs.set i (gh r f v.cells)))else none
@[simp] theorem qhJ(n i f:Nat)(g:Tg)(v:U)(s:Vs)(w:Nat)(xs:List (List U)):stW n i f g v s (w,xs)=(xs[i]?).bind fun r=>bif Nat.beq v.cells.length n&&Nat.ble (f+n) r.length&&v.cells.all U.aH&&v.low 0 then some (.aV [],s.fB g w (xs.set i (gh r f v.cells)))else none:=rfl
def stQ(n i f:Nat)(g:Tg):U×Vs→Option (U×Vs)
 |(v,s)=>(s.cc g).bind (stW n i f g v s)
@[simp] theorem qhH(n i f:Nat)(g:Tg)(v:U)(s:Vs):stQ n i f g (v,s)=(s.cc g).bind (stW n i f g v s):=rfl
@[simp] theorem qfv(d:Nat)(s:Vs)(n i f:Nat)(g:Tg)(v:U):stO d s n (.bD g i f) v=(esc v s).bind (stQ n i f g):=by
 simp only[stO];cases esc v s with
 |none=>rfl
 |some p=>
  obtain⟨v,s⟩:=p;simp only[Option.bind,stQ];cases s.cc g with
  |none=>rfl
  |some q=>
   obtain⟨w,xs⟩:=q;simp only[stW,Option.bind];cases xs[i]? <;>rfl
theorem fC{n:Nat}(h:n≤9223372036854775807):aI .i64 (n:Int)=(n:Int):=Cu h
end Go.RE
namespace Go.RE
theorem t222(v:jw)(i at_:Nat)(h:List Uo)(fl:Nat)(hf:fl≤h.length)(hi:h[i]? =some (.row [.int .u64 at_])):G 222 [.agg (bX v),.ptr i 0] h fl=some (.bool (decide (v.At≤at_)),h,fl):=by
 refine bL (fn:=v222) rfl rfl rfl ?_;simp[xQ,T7,T8,bX,aS hi,gf hf]
def upto(l:List jw)(t:Nat):Nat:=sX (fun j=>decide ((l[j]?.getD default).At≤t)) (l.length+1) 0 l.length
theorem qb4(l:List jw)(i at_:Nat)(h:List Uo)(fl:Nat)(hf:fl≤h.length)(hi:h[i]? =some (.row [.int .u64 at_]))(hl:l.length<small):∀ (f lo hi' :Nat),hi'≤l.length→lo≤hi'→hi' - lo<f→
  gL br mT qT pT BQ 0 FC h.length ⟨[(0,.sl 3 (l.map bX)),(1,.func 222 [] [.ptr i 0]),(5,.int .i64 lo),(6,.int .i64 hi')],h,fl⟩
   (gI br mT qT pT BQ (.seq (.region K6) .ret) (kE h.length BQ (.int .i64 (sX (fun j=>decide ((l[j]?.getD default).At≤at_)) f lo hi' :Nat),h,fl))):=by
 intro f
 induction f with
 |zero=>intro lo hi' _ _ hh;omega
 |succ f ih=>
  intro lo hi' h1 h2 h3;rw[ak FC.eq_1];by_cases hlt:lo<hi'
  ·have c1:(lo:Int)<(hi' :Int):=by omega
   obtain⟨m,hm⟩:∃ m,m=(lo+hi') / 2:=⟨_,rfl⟩;have hmid:m<l.length:=by omega
   have e1:aI .i64 ((hi' :Int) - (lo:Int))=((hi' - lo:Nat):Int):=by
    rw[show(hi' :Int) - (lo:Int)=((hi' - lo:Nat):Int) by omega];exact fC (by unfold small at hl;omega)
   have e2:aI .i64 (half (hi' - lo):Nat)=(half (hi' - lo):Nat):=fC (by unfold half;unfold small at hl;omega);have e3:aI .i64 ((lo:Int)+(half (hi' - lo):Nat))=((m:Nat):Int):=by
    rw[show(lo:Int)+(half (hi' - lo):Nat)=((m:Nat):Int) by unfold half;omega];exact fC (by unfold small at hl;omega)
   have e4:aI .i64 (((m:Nat):Int)+1)=((m+1:Nat):Int):=fD (by unfold small at hl;omega);have g1:(l.map bX)[m]? =some (bX l[m]):=by simp[hmid]
   have g2:(l[m]?.getD default)=l[m]:=by simp[hmid]
   have hx:=t222 l[m] i at_ h fl hf hi;have hil:i<h.length:=(bn.1 hi).1;simp only[bX]at hx g1;simp only[sX,decide_eq_true hlt,cond_true,←hm,g2];cases hp:decide (l[m].At≤at_)with
   |true=>
    rw[hp]at hx;have ih' :=ih (m+1) hi' h1 (by omega) (by omega);simp[FB,K4,K5,T4,c1,e1,e2,e3,e4,bg g1,hx,hil,aZ hf];exact ih'
   |false=>
    rw[hp]at hx;have ih' :=ih lo (m) (by omega) (by omega) (by omega);simp[FB,K4,K5,T6,c1,e1,e2,e3,e4,bg g1,hx,hil,aZ hf];exact ih'
  ·have c1:¬(lo:Int)<(hi' :Int):=by omega
   simp only[sX,decide_eq_false hlt,cond_false];simp[FB,K6,c1,aZ hf]
theorem t187(l:List jw)(at_:Nat)(hl:l.length<small):G 187 [.sl 3 (l.map bX),.int .u64 at_] [] 0=some (.int .i64 (upto l at_:Nat),[],0):=by
 refine bL (fn:=Tm) rfl rfl rfl ?_;have h221:G 221 [.sl 3 (l.map bX),.func 222 [] [.ptr 0 0]] [.row [.int .u64 at_]] 0=some (.int .i64 (upto l at_:Nat),[.row [.int .u64 at_]],0):=by
  refine bL (fn:=BQ) rfl rfl rfl ?_;have:=qb4 l 0 at_ [.row [.int .u64 at_]] 0 (by simp) rfl hl (l.length+1) 0 l.length (aq _) (dW _) (by omega);simp[xP,T0,T3];exact this
 simp[xC,Tn,To,h221]
theorem qn{α:Type}{l:List α}{i j:Nat}(hij:i+(j+1)=l.length)(hl:l.length<small):((i:Int)<(l.length:Int))∧aI .i64 ((i:Int)+1)=((i+1:Nat):Int)∧∃ x,l.drop i=x::l.drop (i+1)∧∀ {β:Type} (f:α→β),(l.map f)[i]? =some (f x):=by
 have h:i<l.length:=by omega
 exact⟨by omega,fD (by unfold small at hl;omega),l[i],XD h,fun f=>by simp[h]⟩
theorem nB{α:Type}{l:List α}{i:Nat}(hij:i+0=l.length):¬((i:Int)<(l.length:Int))∧l.drop i=[]:=⟨by omega,Gz (by omega)⟩
def eH:Nat→List jw→Bool
 |_,[]=>true
 |last,v::l=> !(decide (v.At≤last)||(v.qp&&decide (0<v.Data.length)))&&eH v.At l
theorem qb2(l:List jw)(hl:l.length<small):∀ (j i last:Nat),i+j=l.length→
  gL br mT qT pT v193 0 zG 0 ⟨[(8,.int .i64 (i:Int)),(3,.int .u64 last),(6,.sl 3 (l.map bX)),(7,.int .i64 (l.length:Int))],[],0⟩ (gI br mT qT pT v193 (.seq (.region Fx) .ret) (kE 0 v193 (.bool (eH last (l.drop i)),[],0))):=by
 intro j
 induction j with
 |zero=>
  intro i last hij;obtain⟨h1,h2⟩:=nB hij;rw[ak zG.eq_1,h2];simp[xH,h1,Fx,eH]
 |succ j ih=>
  intro i last hij;obtain⟨h1,e3,v,d1,g1⟩:=qn hij hl;have e1:=g1 bX;have ih' :=ih (i+1) v.At (by omega);rw[ak zG.eq_1,d1,eH];simp only[bX]at e1;by_cases c1:v.At≤last
  ·simp[xH,BL,BM,KX,h1,bg e1,c1,bX]
  ·cases c2:v.qp with
   |false=>
    simp[xH,BL,BM,KY,KZ,h1,bg e1,c1,c2,bX,e3];simpa[bX]using ih'
   |true=>
    cases c3:v.Data with
    |nil=>
     simp[xH,BL,BM,KY,KZ,h1,bg e1,c1,c2,c3,bX,e3,bE];simpa[bX]using ih'
    |cons x r=>simp[xH,BL,BM,KX,h1,bg e1,c1,c2,c3,bX,bE]
theorem t193(l:List jw)(hl:l.length<small):G 193 [.sl 3 (l.map bX)] [] 0=some (.bool (eH 0 l),[],0):=by
 refine bL (fn:=v193) rfl rfl rfl ?_;simp[xI,TJ,TK,TL];have:=qb2 l hl l.length 0 0 (by omega);simpa using this
theorem qb0(l:List jw)(hl:l.length<small):∀ (j i:Nat) (out:List jw),i+j=l.length→out.length≤i→(∀ v∈l,v.Data.length<small)→
  gL br mT qT pT BK 0 zD 0 ⟨[(12,.int .i64 (i:Int)),(3,.own (.t 3) 3 (out.map bX)),(10,.sl 3 (l.map bX)),(11,.int .i64 (l.length:Int))],[],0⟩ (gI br mT qT pT BK (.seq (.region KP) .ret) (kE 0 BK (.own .r 3 ((out++l.drop i).map bX),[],0))):=by
 intro j
 induction j with
 |zero=>
  intro i out hij ho hd;obtain⟨h1,h2⟩:=nB hij;rw[ak zD.eq_1,h2];simp[KO,h1,KP]
 |succ j ih=>
  intro i out hij ho hd;obtain⟨h1,e3,v,d1,g1⟩:=qn hij hl;have e1:=g1 bX;have hv:v∈l:=List.mem_of_mem_drop (by rw[d1];exact eU:v∈l.drop i);have ih' :=ih (i+1) (out++[v]) (by omega) (by simp;omega) hd;have hc:=jK (f:=194) rfl (w:=1) (xs:=bE v.Data) [] 0 (by rw[j0];exact hd v hv) (by simp);have b1:(out.length+1)*40≤bp∧out.length+1≤bp:=by unfold small at hl;unfold bp;omega
  rw[ak zD.eq_1,d1];simp only[bX]at e1;simp[KO,Ts,Tt,Tu,Tv,h1,bg e1,e3,bX,hc,b1];simpa[bX]using ih'
def nE(l:List jw):Prop:=l.length<small∧∀ v∈l,v.Data.length<small
theorem t188(l:List jw)(hl:nE l):G 188 [.sl 3 (l.map bX)] [] 0=some (.own .r 3 (l.map bX),[],0):=by
 refine bL (fn:=BK) rfl rfl rfl ?_;have h1:=hl.1;have e1:aI .i64 ((l.length:Int)+1)=((l.length+1:Nat):Int):=fD (by unfold small at h1;omega);have b1:(l.length+1)*40≤bp∧l.length+1≤bp:=by unfold small at h1;unfold bp;omega
 have:=qb0 l hl.1 l.length 0 [] (by omega) (by simp) hl.2;simp only[List.drop_zero,List.nil_append,List.map_nil]at this;simp[xD,Tp,Tq,Tr,e1,JV (w:=3) (bytes:=40) (zero:=[.int .u64 0,.bool false,.ag [] 0 0 1]) (z:=(l.length:Int)+1) (by omega) ⟨by omega,by omega⟩ rfl];exact this
def fm(l:List jw):Nat:=(l.getLast?.getD ⟨0,false,[]⟩).At
theorem t189(l:List jw)(hl:l.length<small):G 189 [.sl 3 (l.map bX)] [] 0=some (.int .u64 (fm l),[],0):=by
 refine bL (fn:=Tw) rfl rfl rfl ?_;rcases List.eq_nil_or_concat l with rfl|⟨l',v,hlv⟩
 ·simp[sF,KQ,KS,Ty,fm]
 ·rw[List.concat_eq_append]at hlv;subst hlv;have hlen:((l'++[v]).map bX).length=l'.length+1:=by simp
  have e2:((l'++[v]).map bX)[l'.length]? =some (bX v):=by simp
  have hv:fm (l'++[v])=v.At:=by simp[fm]
  have e1:aI .i64 ((l'.length:Int)+1 - 1)=(l'.length:Int):=by
   rw[show(l'.length:Int)+1 - 1=(l'.length:Int) by omega];exact fC (by simp at hl;unfold small at hl;omega)
  have e3:¬((l'.length:Int)+1=0):=by omega
  rw[hv];generalize (l'++[v]).map bX=xs at*;simp only[bX]at e2;simp at e1;simp[sF,KQ,KS,Tz,hlen,e1,e3,bg e2]
def LR(l:List jw)(t:Nat):Option jw:=match upto l t with
 |0=>none
 |n+1=>l[n]?
def pG(l:List jw)(t:Nat):Option By:=match LR l t with
 |some v=>bif v.qp then none else some v.Data
 |none=>none
def dh(l:List jw)(t:Nat):List jw:=match upto l t with
 |0=>l
 |n+1=>bif(l[n]?.getD default).qp then l.drop (n+1)else l.drop n
def cw(l:List jw):Nat:=(l.map fun v=>v.Data.length).sum
theorem EX(l:List jw)(t:Nat):upto l t≤l.length:=by
 have:∀ (p:Nat→Bool) (f i j:Nat),i≤j→sX p f i j≤j:=by
  intro p f
  induction f with
  |zero=>intro i j h;exact h
  |succ f ih=>
   intro i j h;simp only[sX];by_cases hlt:i<j
   ·simp only[decide_eq_true hlt,cond_true];cases p ((i+j) / 2)with
    |true=>exact ih _ _ (by omega)
    |false=>exact Nat.le_trans (ih _ _ (by omega)) (by omega)
   ·simp only[decide_eq_false hlt,cond_false];exact h
 exact this _ _ _ _ (dW _)
def G4(o:Option jw):U:=.aV [.agg (bX (o.getD ⟨0,false,[]⟩)),.bool o.isSome]
theorem t164(l:List jw)(t:Nat)(hl:nE l):G 164 [.sl 3 (l.map bX),.int .u64 t] [] 0=some (G4 (LR l t),[],0):=by
 refine bL (fn:=v164) rfl rfl rfl ?_;have h187:=t187 l t hl.1;have hle:=EX l t;unfold LR;cases hn:upto l t with
 |zero=>
  rw[hn]at h187;simp[sE,KK,KL,KM,S6,h187,G4,bX,bE]
 |succ n=>
  rw[hn]at h187;have hlt:n<l.length:=by omega
  have e1:aI .i64 ((n:Int)+1 - 1)=(n:Int):=by
   rw[show(n:Int)+1 - 1=(n:Int) by omega];exact fC (by have:=hl.1;unfold small at this;omega)
  have e3:¬((n:Int)+1=0):=by omega
  have e2:(l.map bX)[n]? =some (bX l[n]):=by simp[hlt]
  have hc:=jK (f:=194) rfl (w:=1) (xs:=bE l[n].Data) [] 0 (by rw[j0];exact hl.2 _ (List.getElem_mem hlt)) (by simp);simp only[bP hlt];simp only[bX]at e2;simp at e1;simp[sE,KK,KL,KM,S7,S8,S9,h187,G4,bX,e1,e3,bg e2,hc]
def sS(o:Option By):U:=.aV [.sl 1 (bE (o.getD [])),.bool o.isSome]
theorem t113(l:List jw)(t:Nat)(hl:nE l):G 113 [.sl 3 (l.map bX),.int .u64 t] [] 0=some (sS (pG l t),[],0):=by
 refine bL (fn:=RO) rfl rfl rfl ?_;have h164:=t164 l t hl;unfold pG;cases hf:LR l t with
 |none=>
  rw[hf]at h164;simp[G4,bX]at h164;simp[oP,Fc,Fe,Ff,Kz,h164,sS,bE]
 |some v=>
  rw[hf]at h164;simp[G4,bX]at h164;cases hg:v.qp with
  |true=>
   rw[hg]at h164;simp[oP,Fc,Fe,Ff,Kz,h164,sS,bE,hg]
  |false=>
   rw[hg]at h164;simp[oP,Fc,Fe,Ff,RP,h164,sS,bE,hg]
theorem t136(l:List jw)(t:Nat)(hl:nE l):G 136 [.sl 3 (l.map bX),.int .u64 t] [] 0=some (.own .r 3 ((dh l t).map bX),[],0):=by
 refine bL (fn:=R5) rfl rfl rfl ?_;have h187:=t187 l t hl.1;have hle:=EX l t;have sm:=hl.1;have dr:∀ n,G 188 [.sl 3 ((l.drop n).map bX)] [] 0=some (.own .r 3 ((l.drop n).map bX),[],0):=fun n=>t188 _ ⟨by simp;omega,fun v hv=>hl.2 v (List.mem_of_mem_drop hv)⟩;by_cases h0:l=[]
 ·subst h0;have hu:upto [] t=0:=by have:=EX [] t;simpa using this
  rw[hu]at h187;have d0:=dr 0;simp at d0 h187;simp[mu,Bt,Bu,Bv,Bw,h187,d0,dh,hu,fM,asNat]
 have hne:¬l.length=0:=fun h=>h0 (jT h);have nl:=o7 (k:=.i64) (n:=l.length) (m:=l.length) (aq _);have tk:List.take l.length (l.map bX)=l.map bX:=jU (by simp);unfold dh;cases hn:upto l t with
 |zero=>
  rw[hn]at h187;have d0:=dr 0;have n0:=o7 (k:=.i64) (n:=0) (m:=l.length) (dW _);simp at n0;simp only[List.drop_zero]at d0;simp[mu,Bt,Bu,Bv,Bw,h187,d0,nl,n0,hne,tk]
 |succ n=>
  rw[hn]at h187;have hlt:n<l.length:=by omega
  have e1:aI .i64 ((n:Int)+1 - 1)=(n:Int):=by
   rw[show(n:Int)+1 - 1=(n:Int) by omega];exact fC (by unfold small at sm;omega)
  have e2:(l.map bX)[n]? =some (bX l[n]):=by simp[hlt]
  have hg:(l[n]?.getD default)=l[n]:=by simp[hlt]
  simp only[bX]at e2;simp at e1;simp only[hg];cases hgn:l[n].qp with
  |true=>
   have d0:=dr (n+1);have n0:=o7 (k:=.i64) (n:=n+1) (m:=l.length) hlt;simp at n0;rw[List.map_drop]at d0;simp only[cond_true,List.map_drop];simp[mu,Bt,Bu,Bv,Bw,h187,d0,e1,bg e2,hgn,nl,n0,hne,tk]
  |false=>
   have d0:=dr n;have n0:=o7 (k:=.i64) (n:=n) (m:=l.length) (by omega);rw[List.map_drop]at d0;simp only[cond_false,List.map_drop];simp[mu,Bt,Bu,Bv,R6,Bw,h187,d0,e1,bg e2,hgn,nl,n0,hne,tk]
theorem qbW(l:List jw)(hl:nE l)(hs:cw l<small):∀ (j i:Nat),i+j=l.length→
  gL br mT qT pT Bx 0 zy 0 ⟨[(8,.int .i64 (i:Int)),(3,.int .i64 (cw (l.take i):Nat)),(6,.sl 3 (l.map bX)),(7,.int .i64 (l.length:Int))],[],0⟩ (gI br mT qT pT Bx (.seq (.region KD) .ret) (kE 0 Bx (.int .i64 (cw l:Nat),[],0))):=by
 intro j
 induction j with
 |zero=>
  intro i hij;obtain⟨h1,h2⟩:=nB hij;have h3:l.take i=l:=jU (by omega);rw[ak zy.eq_1,h3];simp[KC,h1,KD]
 |succ j ih=>
  intro i hij;obtain⟨h1,e3,v,d1,g1⟩:=qn hij hl.1;have e1:=g1 bX;have hv:l[i]? =some v:=by have:=g1 (fun x=>x);simpa using this
  have h4:cw (l.take (i+1))=cw (l.take i)+v.Data.length:=by rw[List.take_add_one,hv];simp[cw]
  have h5:cw (l.take (i+1))≤cw l:=by
   have:cw l=cw (l.take (i+1))+cw (l.drop (i+1)):=by
    unfold cw;rw[←List.sum_append,←List.map_append,List.take_append_drop]
   omega
  have e4:aI .i64 ((cw (l.take i):Int)+(v.Data.length:Int))=(cw (l.take (i+1)):Nat):=by
   rw[h4,←Int.natCast_add];exact fC (by unfold small at hs;omega)
  have ih' :=ih (i+1) (by omega);rw[ak zy.eq_1];simp only[bX]at e1;simp[KC,Sa,Sb,Sc,h1,bg e1,e3,j0,e4];exact ih'
theorem t137(l:List jw)(hl:nE l)(hs:cw l<small):G 137 [.sl 3 (l.map bX)] [] 0=some (.int .i64 (cw l:Nat),[],0):=by
 refine bL (fn:=Bx) rfl rfl rfl ?_;have:=qbW l hl hs l.length 0 (by omega);have h0:cw (l.take 0)=0:=rfl;rw[h0]at this;simp[w8,R7,R8,R9];exact this
def W8(l:List jw)(v:jw):Option (List jw)×Nat:=
 bif !(eH 0 l&&eH 0 [v])then(none,1)else bif decide (v.At≤fm l)then(none,70)else(some (l++[v]),0)
def Oz(r:Option (List jw)×Nat):U:=.aV [.sl 3 ((r.1.getD []).map bX),.int .i64 r.2]
theorem t144(l:List jw)(v:jw)(hl:nE l)(hv:v.Data.length<small):G 144 [.sl 3 (l.map bX),.agg (bX v)] [] 0=some (Oz (W8 l v),[],0):=by
 refine bL (fn:=SG) rfl rfl rfl ?_;have c1:=t193 l hl.1;have c2:=t193 [v] (by simp[small]);have c3:=t189 l hl.1;have c4:=t188 l hl;have c5:=jK (f:=194) rfl (w:=1) (xs:=bE v.Data) [] 0 (by rw[j0];exact hv) (by simp);have sm:=hl.1;have b1:(l.length+1)*40≤bp∧l.length+1≤bp:=by unfold small at sm;unfold bp;omega
 simp only[List.map_cons,List.map_nil,bX]at c2;unfold W8;cases r1:eH 0 l with
 |false=>
  rw[r1]at c1;simp[mw,BC,BD,KG,bX,c1,Oz]
 |true=>
  rw[r1]at c1;cases r2:eH 0 [v]with
  |false=>
   rw[r2]at c2;simp[mw,BC,BD,KG,bX,c1,c2,Oz]
  |true=>
   rw[r2]at c2;by_cases c:v.At≤fm l
   ·simp[mw,BC,BD,SI,bX,c1,c2,Oz,ay MT,zC,c3,c]
   ·simp[mw,BC,BD,SJ,bX,c1,c2,Oz,ay MT,zC,ay Xs,MU,c3,c4,c5,c,b1,cR]
end Go.RE
namespace Go.RE
def dP(s:cA):Bool:=s.2==[]||lt s.1 s.2
def PS(s:cA)(k:By):Bool:= !lt k s.1&&(s.2==[]||lt k s.2)
def vY(s:cA)(k:By):Bool:=s.2 !=[]&& !lt k s.2
def tE(a b:cA):Bool:=dP a&&dP b&& !vY a b.1&& !vY b a.1
theorem t78(s:cA):G 78 [.agg (aQ s)] [] 0=some (.bool (dP s),[],0):=by
 refine bL (fn:=v78) rfl rfl rfl ?_;cases hh:s.2==[]<;>simp[Cl,ZP,ZQ,hh,dP,aQ]
theorem t80(s:cA)(k:By):G 80 [.agg (aQ s),.str k] [] 0=some (.bool (PS s k),[],0):=by
 refine bL (fn:=v80) rfl rfl rfl ?_;cases h1:lt k s.1<;>cases h2:s.2==[]<;>simp[Cn,ZW,ZX,h1,h2,PS,aQ]
theorem t199(s:cA)(k:By):G 199 [.agg (aQ s),.str k] [] 0=some (.bool (vY s k),[],0):=by
 refine bL (fn:=TX) rfl rfl rfl ?_;cases h2:s.2==[]<;>simp[xL,TY,TZ,h2,vY,aQ,bne]
theorem t76(k:By)(hk:k.length<small):G 76 [.str k] [] 0=some (.agg (aQ (k,k++[0])),[],0):=by
 refine bL (fn:=v76) rfl rfl rfl ?_;have hb:k.length+1≤bp:=by unfold small at hk;unfold bp;omega
 simp[Cj,ZL,ZM,hb,aQ]
theorem t152(a b:cA):G 152 [.agg (aQ a),.agg (aQ b)] [] 0=some (.bool (tE a b),[],0):=by
 refine bL (fn:=v152) rfl rfl rfl ?_;have c1:=t78 a;have c2:=t78 b;have c3:=t199 a b.1;have c4:=t199 b a.1;unfold tE;simp only[aQ]at c1 c2 c3 c4;cases h1:dP a<;>cases h2:dP b<;>cases h3:vY a b.1<;>cases h4:vY b a.1<;>rw[h1]at c1<;>rw[h2]at c2<;>rw[h3]at c3<;>rw[h4]at c4<;>
  simp[xA,S4,S5,c1,c2,c3,c4,aQ]
theorem t151(a b:cA)(i:Nat)(h:List Uo)(fl:Nat)(hf:fl≤h.length)(hi:h[i]? =some (.row (aQ a))):G 151 [.agg (aQ b),.ptr i 0] h fl=some (.bool (tE a b),h,fl):=by
 refine bL (fn:=S1) rfl rfl rfl ?_;have c1:=t152 a b;simp only[aQ]at c1 hi;simp[xz,S2,S3,aQ,aS hi,c1,gf hf]
theorem qb3(f i:Nat)(p:cA→Bool)(h:List Uo)(fl:Nat)(hf:fl≤h.length)(hil:i<h.length)(hp:∀ s,G f [.agg (aQ s),.ptr i 0] h fl=some (.bool (p s),h,fl))(hq:qT.q f=none)(ha:qT.app f=none)(hld:ldF f=false)(hbo:GJ f=none)(l:List cA)(hl:l.length<small):∀ (j q:Nat),q+j=l.length→
  ∃ z:Int,decide (z≥0)=(l.drop q).any p∧gL br mT qT pT v198 0 vg h.length ⟨[(8,.int .i64 (q:Int)),(0,.sl 2 (l.map aQ)),(1,.func f [] [.ptr i 0]),(7,.int .i64 (l.length:Int))],h,fl⟩
   (gI br mT qT pT v198 (.seq (.region K3) .ret) (kE h.length v198 (.int .i64 z,h,fl))):=by
 intro j
 induction j with
 |zero=>
  intro q hij;obtain⟨h1,h2⟩:=nB hij;refine⟨-1,by rw[h2];rfl,?_⟩;rw[ak vg.eq_1];simp[Fy,h1,K3,aZ hf]
 |succ j ih=>
  intro q hij;obtain⟨h1,e3,s,d1,g1⟩:=qn hij hl;have e1:=g1 aQ;obtain⟨z,z1,z2⟩:=ih (q+1) (by omega);have hps:=hp s;simp only[qe5,QC]at hq ha;simp only[aQ]at e1 hps;rw[d1];cases c:p s with
  |true=>
   rw[c]at hps;refine⟨q,by simp[c],?_⟩;rw[ak vg.eq_1];simp only[ldF]at hld;simp only[GJ]at hbo;simp[Fy,K0,K2,TV,h1,bg e1,hq,ha,hld,hbo,hps,hil,aZ hf,bne]
  |false=>
   rw[c]at hps;refine⟨z,by simp[c,z1],?_⟩;rw[ak vg.eq_1];simp only[ldF]at hld;simp only[GJ]at hbo;simp[Fy,K0,K2,TW,h1,bg e1,hq,ha,hld,hbo,hps,hil,aZ hf,e3];exact z2
theorem t149(f i:Nat)(p:cA→Bool)(h:List Uo)(fl:Nat)(hf:fl≤h.length)(hil:i<h.length)(hp:∀ s,G f [.agg (aQ s),.ptr i 0] h fl=some (.bool (p s),h,fl))(hq:qT.q f=none)(ha:qT.app f=none)(hld:ldF f=false)(hbo:GJ f=none)(l:List cA)(hl:l.length<small):
  G 149 [.sl 2 (l.map aQ),.func f [] [.ptr i 0]] h fl=some (.bool (l.any p),h,fl):=by
 obtain⟨z,z1,z2⟩:=qb3 f i p h fl hf hil hp hq ha hld hbo l hl l.length 0 (by omega);have c:G 198 [.sl 2 (l.map aQ),.func f [] [.ptr i 0]] h fl=some (.int .i64 z,h,fl):=by
  refine bL (fn:=v198) rfl rfl rfl ?_;simp[xK,TT,TU,hil,aZ hf];exact z2
 refine bL (fn:=SU) rfl rfl rfl ?_;rw[List.drop_zero]at z1;rw[←z1];simp[xw,SV,SX,c,hil,aZ hf]
def Dq(a b:List cA):Bool:=a.any fun x=>b.any fun y=>tE x y
theorem t150(b:List cA)(a:cA)(i:Nat)(h:List Uo)(fl:Nat)(hf:fl≤h.length)(hb:b.length<small)(hi:h[i]? =some (.row [.sl 2 (b.map aQ)])):G 150 [.agg (aQ a),.ptr i 0] h fl=some (.bool (b.any fun y=>tE a y),h,fl):=by
 refine bL (fn:=SY) rfl rfl rfl ?_;have c:=t149 151 h.length (fun y=>tE a y) (h++[.row (aQ a)]) fl (by simp;omega) (by simp) (fun s=>t151 a s h.length (h++[.row (aQ a)]) fl (by simp;omega) (by simp)) rfl rfl rfl rfl b hb;simp only[aQ]at c;simp[xy,SZ,S0,aQ,aS hi,c,gf hf]
theorem t108(a b:List cA)(ha:a.length<small)(hb:b.length<small):G 108 [.sl 2 (a.map aQ),.sl 2 (b.map aQ)] [] 0=some (.bool (Dq a b),[],0):=by
 refine bL (fn:=RG) rfl rfl rfl ?_;have c:=t149 150 0 (fun x=>b.any fun y=>tE x y) [.row [.sl 2 (b.map aQ)]] 0 (by simp) (by simp) (fun s=>t150 b s 0 _ 0 (by simp) hb rfl) rfl rfl rfl rfl a ha;simp[wY,RH,RI,c,Dq]
def lU(out:List cA)(s:cA):List cA:=match out.getLast? with
 |none=>[s]
 |some x=>bif x.2 !=[]&&lt x.2 s.1 then out++[s]else bif x.2 !=[]&&(s.2==[]||lt x.2 s.2)then out.dropLast++[(x.1,s.2)]else out
def mO(a b:List cA):List cA:=(qj (a.filter dP++b.filter dP)).foldl lU []
theorem qb1(l:List cA)(hl:l.length<small):∀ (j i:Nat) (out:List cA),i+j=l.length→out.length<small+i→
  gL br mT qT pT CV 0 zF 1 ⟨[(7,.int .i64 (i:Int)),(1,.ptr 0 0),(5,.sl 2 (l.map aQ)),(6,.int .i64 (l.length:Int))],[.row [.bF 2 (out.map aQ)]],0⟩
   (kE 1 CV (.aV [],[.row [.bF 2 ((out++(l.drop i).filter dP).map aQ)]],0)):=by
 intro j
 induction j with
 |zero=>
  intro i out hij ho;obtain⟨h1,h2⟩:=nB hij;rw[ak zF.eq_1,h2];simp[Fw,h1]
 |succ j ih=>
  intro i out hij ho;obtain⟨h1,e3,s,d1,g1⟩:=qn hij hl;have e1:=g1 aQ;have c:=t78 s;rw[ak zF.eq_1,d1];simp only[aQ]at e1 c;cases hr:dP s with
  |false=>
   rw[hr]at c;have ih' :=ih (i+1) out (by omega) (by omega);simp[Fw,KU,KV,KW,h1,bg e1,e3,aQ,c,hr];simpa[aQ]using ih'
  |true=>
   rw[hr]at c;have ih' :=ih (i+1) (out++[s]) (by omega) (by simp;omega);have b1:(out.length+1)*32≤bp∧out.length+1≤bp:=by unfold small at ho hl;unfold bp;omega
   simp[Fw,KU,KV,TD,KW,h1,bg e1,e3,aQ,c,hr,b1];simpa[aQ]using ih'
theorem t190(l out:List cA)(hl:l.length<small)(ho:out.length<small):G 190 [.sl 2 (l.map aQ),.ptr 0 0] [.row [.bF 2 (out.map aQ)]] 0=some (.aV [],[.row [.bF 2 ((out++l.filter dP).map aQ)]],0):=by
 refine bL (fn:=CV) rfl rfl rfl ?_;have:=qb1 l hl l.length 0 out (by omega) (by omega);simp[xE,TC];simpa using this
theorem qbX(L:List cA)(hl:L.length<small):∀ (j i:Nat) (out:List cA),i+j=L.length→out.length≤i→
  gL br mT qT pT v139 0 uX 1 ⟨[(29,.int .i64 (i:Int)),(7,.own (.t 7) 2 (out.map aQ)),(27,.own (.c 0 0) 2 (L.map aQ)),(28,.int .i64 (L.length:Int))],[.row [.bF 2 (L.map aQ)]],0⟩
   (gI br mT qT pT v139 (.seq (.region Fi) .ret) (kE 0 v139 (.own .r 2 (((L.drop i).foldl lU out).map aQ),[],0))):=by
 intro j
 induction j with
 |zero=>
  intro i out hij ho;obtain⟨h1,h2⟩:=nB hij;rw[ak uX.eq_1,h2];simp[rm,h1,Fi]
 |succ j ih=>
  intro i out hij ho;obtain⟨h1,e3,s,d1,g1⟩:=qn hij hl;have e1:=g1 aQ;have hi:i<L.length:=by omega
  have ia:∀ s',qo s' 2 (some (.own (.c 0 0) 2 (L.map aQ))) (some (.int .i64 (i:Int)))=some (.bD (.c 0 0) i 0,s'):=fun s' =>cT (by simpa using hi);have b1:(out.length+1)*32≤bp∧out.length+1≤bp:=by unfold small at hl;unfold bp;omega
  rw[ak uX.eq_1,d1,List.foldl_cons];rcases List.eq_nil_or_concat out with rfl|⟨out',x,hox⟩
  ·have ih' :=ih (i+1) [s] (by omega) (by simp);simp only[aQ]at e1;have b0:32≤bp∧1≤bp:=by unfold bp;omega
   simp[rm,tV,pZ,ay oQ,lC,Fg,p7,h1,ia,e1,e3,aQ,lU,b0];simpa[aQ]using ih'
  ·rw[List.concat_eq_append]at hox;subst hox;have hlen:((out'++[x]).map aQ).length=out'.length+1:=by simp
   have e2:((out'++[x]).map aQ)[out'.length]? =some (aQ x):=by simp
   have e5:aI .i64 ((out'.length:Int)+1 - 1)=(out'.length:Int):=by
    rw[show(out'.length:Int)+1 - 1=(out'.length:Int) by omega];exact fC (by simp at ho;unfold small at hl;omega)
   have e6:((out'.length:Int)+1==0)=false:=by rw[beq_eq_false_iff_ne];omega
   have ib:∀ s',qo s' 2 (some (.own (.t 7) 2 ((out'++[x]).map aQ))) (some (.int .i64 (out'.length:Int)))=some (.bD (.t 7) out'.length 0,s'):=fun s' =>cT (by simp);have hm:lU (out'++[x]) s=bif x.2 !=[]&&lt x.2 s.1 then out'++[x]++[s]else bif x.2 !=[]&&(s.2==[]||lt x.2 s.2)then out'++[(x.1,s.2)]else out'++[x]:=by simp[lU]
   have hset:((out'++[x]).map aQ).set out'.length [.str x.1,.str s.2]=(out'++[(x.1,s.2)]).map aQ:=by simp[aQ]
   have happ:((out'++[x]).map aQ)++[[.str s.1,.str s.2]]=(out'++[x]++[s]).map aQ:=by simp[aQ]
   have ihA:=ih (i+1) (out'++[x]++[s]) (by omega) (by simp at ho⊢;omega);have ihB:=ih (i+1) (out'++[(x.1,s.2)]) (by omega) (by simp at ho⊢;omega);have ihC:=ih (i+1) (out'++[x]) (by omega) (by simp at ho⊢;omega);have hlen2:(out'++[x]).length=out'.length+1:=by simp
   rw[hlen2]at b1;rw[hm];rw[←happ]at ihA;rw[←hset]at ihB;generalize (out'++[x]).map aQ=xs at*;simp only[aQ]at e1 e2;have e7:∀ hh:out'.length<xs.length,xs[out'.length]=[.str x.1,.str x.2]:=fun hh=>by rw[bP hh]at e2;exact Option.some.inj e2
   simp at e5;have b2:=b1.1;have b3:=b1.2;cases c1:(x.2==[])with
   |true=>
    simp[rm,tV,pZ,ay oQ,lC,uV,ay uW,oR,p7,h1,ia,ib,e1,e2,e7,e3,e5,e6,hlen,bne,c1];simpa[bne,c1]using ihC
   |false=>
    cases c2:lt x.2 s.1 with
    |true=>
     simp[rm,tV,pZ,ay oQ,lC,Fg,p7,h1,ia,ib,e1,e2,e7,e3,e5,e6,hlen,bne,c1,c2,b2,b3];simpa[bne,c1,c2]using ihA
    |false=>
     cases c3:(s.2==[])with
     |true=>
      simp[rm,tV,pZ,ay oQ,lC,uV,ay uW,oR,Fh,p7,h1,ia,ib,e1,e2,e7,e3,e5,e6,hlen,bne,c1,c2,c3];simpa[bne,c1,c2,c3]using ihB
     |false=>
      cases c4:lt x.2 s.2 with
      |true=>
       simp[rm,tV,pZ,ay oQ,lC,uV,ay uW,oR,Fh,p7,h1,ia,ib,e1,e2,e7,e3,e5,e6,hlen,bne,c1,c2,c3,c4];simpa[bne,c1,c2,c3,c4]using ihB
      |false=>
       simp[rm,tV,pZ,ay oQ,lC,uV,ay uW,oR,p7,h1,ia,ib,e1,e2,e7,e3,e5,e6,hlen,bne,c1,c2,c3,c4];simpa[bne,c1,c2,c3,c4]using ihC
end Go.RE
namespace Go.RE
set_option linter.unusedSectionVars false
section
variable{α:Type}[Inhabited α](less:α→α→Bool)
theorem OK(l:List α)(i j:Nat)(hi:i<l.length)(hj:j<l.length):(kM l i j).Perm l:=by
 have e:kM l i j=(l.set i l[j]).set j l[i]:=by
  simp only[kM,bP hi,bP hj,Option.getD_some]
 rw[e];exact List.set_set_perm hi hj
theorem CZ(a:Nat):∀ (j:Nat) (l:List α),(j<l.length∨j=0)→(vZ less a j l).Perm l
 |0,l,_=> .refl _
 |j+1,l,h=>by
  unfold vZ;cases decide (a<j+1)&&less (l[j+1]?.getD default) (l[j]?.getD default)with
  |true=>
   rw[cond_true];have h1:=OK l (j+1) j (by omega) (by omega);exact(CZ a j _ (by rw[h1.length_eq];omega)).trans h1
  |false=>exact .refl _
theorem Dl(a:Nat):∀ (k i:Nat) (l:List α),i+k≤l.length→(CG less a k i l).Perm l
 |0,_,l,_=> .refl _
 |k+1,i,l,h=>by
  unfold CG;have h1:=CZ less a i l (by omega);exact(Dl a k (i+1) _ (by rw[h1.length_eq];omega)).trans h1
theorem pI(l:List α)(a b:Nat)(h:b≤l.length):(iS less l a b).Perm l:=by
 unfold iS;by_cases hab:a+1≤b
 ·exact Dl less a _ _ l (by omega)
 ·rw[show b - (a+1)=0 by omega];exact .refl _
theorem tu(n:Nat):∀ (f a:Nat) (l:List α),n≤l.length→(qI less n f a l).Perm l
 |0,a,l,h=>pI less l a n h
 |f+1,a,l,h=>by
  unfold qI;cases hd:decide (a+20≤n)with
  |true=>
   rw[cond_true];have h1:=pI less l a (a+20) (by have:=of_decide_eq_true hd;omega);exact(tu n f (a+20) _ (by rw[h1.length_eq];exact h)).trans h1
  |false=>exact pI less l a n h
theorem gE(p:Nat→Bool):∀ (f i j:Nat),i≤j→i≤sX p f i j∧sX p f i j≤j
 |0,i,j,h=>⟨aq _,h⟩
 |f+1,i,j,h=>by
  unfold sX;cases hd:decide (i<j)with
  |false=>exact⟨aq _,h⟩
  |true=>
   have:=of_decide_eq_true hd;rw[cond_true];cases p ((i+j) / 2)with
   |true=>rw[cond_true];have:=gE p f ((i+j) / 2+1) j (by omega);omega
   |false=>rw[cond_false];have:=gE p f i ((i+j) / 2) (by omega);omega
theorem nh(l:List α)(a m b:Nat)(h1:a≤m)(h2:m≤b):l=l.take a++(l.drop a).take (m - a)++(l.drop m).take (b - m)++l.drop b:=by
 have e1:l.drop b=(l.drop m).drop (b - m):=by rw[List.drop_drop,show m+(b - m)=b by omega]
 have e2:l.drop m=(l.drop a).drop (m - a):=by rw[List.drop_drop,show a+(m - a)=m by omega]
 rw[kO,e1,List.take_append_drop,kO,e2,List.take_append_drop,List.take_append_drop]
theorem sj(l:List α)(a m b:Nat)(h1:a≤m)(h2:m≤b):(pP l a m b).Perm l:=by
 have e:=nh l a m b h1 h2;generalize l.take a=A at e;have:(pP l a m b).Perm (l.take a++(l.drop a).take (m - a)++(l.drop m).take (b - m)++l.drop b):=by
  unfold pP;refine List.Perm.append_right _ ?_;rw[kO,kO];exact List.Perm.append_left _ List.perm_append_comm
 rw[←nh l a m b h1 h2]at this;exact this
theorem oL:∀ (f:Nat) (l:List α) (a m b:Nat),a≤m→m≤b→b≤l.length→(lI less f l a m b).Perm l
 |0,l,_,_,_,_,_,_=> .refl _
 |f+1,l,a,m,b,h1,h2,h3=>by
  unfold lI;cases hd:decide (m - a=1)with
  |true=>
   rw[cond_true];have:=gE (fun h=>less (l[h]?.getD default) (l[a]?.getD default)) (b - m) m b h2;exact sj l _ _ _ h1 this.1
  |false=>
   rw[cond_false];cases hd2:decide (b - m=1)with
   |true=>
    rw[cond_true];have:=gE (fun h=> !less (l[m]?.getD default) (l[h]?.getD default)) (m - a) a m h1;exact sj l _ _ _ this.2 h2
   |false=>
    rw[cond_false];have hs:∃ s0 r0,s0≤r0∧a≤s0∧r0≤m∧r0≤(a+b) / 2∧(a+b) / 2+m - s0≤b∧m≤(a+b) / 2+m - r0∧(bif decide ((a+b) / 2<m)then(a+b) / 2+m - b else a)=s0∧(bif decide ((a+b) / 2<m)then(a+b) / 2 else m)=r0:=by
     cases hm:decide ((a+b) / 2<m)with
     |true=>have:=of_decide_eq_true hm;exact⟨(a+b) / 2+m - b,(a+b) / 2,by omega,by omega,by omega,by omega,by omega,by omega,rfl,rfl⟩
     |false=>have:=of_decide_eq_false hm;exact⟨a,m,by omega,by omega,by omega,by omega,by omega,by omega,rfl,rfl⟩
    obtain⟨s0,r0,a1,a2,a3,a4,a5,a6,e1,e2⟩:=hs;dsimp only;rw[e1,e2];obtain⟨b1,b2⟩:=gE (fun c=> !less (l[(a+b) / 2+m - 1 - c]?.getD default) (l[c]?.getD default)) (r0 - s0) s0 r0 a1;generalize sX (fun c=> !less (l[(a+b) / 2+m - 1 - c]?.getD default) (l[c]?.getD default)) (r0 - s0) s0 r0=s at b1 b2⊢;have p1:(bif decide (s<m)&&decide (m<(a+b) / 2+m - s)then pP l s m ((a+b) / 2+m - s)else l).Perm l:=by
     cases decide (s<m)&&decide (m<(a+b) / 2+m - s)with
     |true=>exact sj l _ _ _ (by omega) (by omega)
     |false=>exact .refl _
    generalize (bif decide (s<m)&&decide (m<(a+b) / 2+m - s)then pP l s m ((a+b) / 2+m - s)else l)=l1 at p1⊢;have p2:(bif decide (a<s)&&decide (s<(a+b) / 2)then lI less f l1 a s ((a+b) / 2)else l1).Perm l1:=by
     cases decide (a<s)&&decide (s<(a+b) / 2)with
     |true=>exact oL f l1 _ _ _ (by omega) (by omega) (by rw[p1.length_eq];omega)
     |false=>exact .refl _
    generalize (bif decide (a<s)&&decide (s<(a+b) / 2)then lI less f l1 a s ((a+b) / 2)else l1)=l2 at p2⊢;have p3:(bif decide ((a+b) / 2<(a+b) / 2+m - s)&&decide ((a+b) / 2+m - s<b)then lI less f l2 ((a+b) / 2) ((a+b) / 2+m - s) b else l2).Perm l2:=by
     cases decide ((a+b) / 2<(a+b) / 2+m - s)&&decide ((a+b) / 2+m - s<b)with
     |true=>exact oL f l2 _ _ _ (by omega) (by omega) (by rw[p2.length_eq,p1.length_eq];omega)
     |false=>exact .refl _
    exact p3.trans (p2.trans p1)
theorem tG(n bs:Nat):∀ (f a:Nat) (l:List α),n≤l.length→(s4 less n bs f a l).Perm l
 |0,_,l,_=> .refl _
 |f+1,a,l,h=>by
  unfold s4;cases hd:decide (a+2*bs≤n)with
  |true=>
   rw[cond_true];have:=of_decide_eq_true hd;have h1:=oL less (2*bs) l a (a+bs) (a+2*bs) (by omega) (by omega) (by omega);exact(tG n bs f _ _ (by rw[h1.length_eq];exact h)).trans h1
  |false=>
   rw[cond_false];cases hd2:decide (a+bs<n)with
   |true=>have:=of_decide_eq_true hd2;exact oL less n l a (a+bs) n (by omega) (by omega) h
   |false=>exact .refl _
theorem uE(n:Nat):∀ (f bs:Nat) (l:List α),n≤l.length→(pN less n f bs l).Perm l
 |0,_,l,_=> .refl _
 |f+1,bs,l,h=>by
  unfold pN;cases decide (bs<n)with
  |true=>
   rw[cond_true];have h1:=tG less n bs n 0 l h;exact(uE n f (bs*2) _ (by rw[h1.length_eq];exact h)).trans h1
  |false=>exact .refl _
theorem pS(l:List α):(zb less l).Perm l:=by
 unfold zb;have h1:=tu less l.length l.length 0 l (aq _);exact(uE less l.length l.length 20 _ (by rw[h1.length_eq];exact aq _)).trans h1
end
def qW(s:Vs)(g:Tg)(w:Nat):Option (List (List U))→Option (U×Vs)
 |some ys=>bif(s.cc g).isSome then some (.aV [],s.fB g w ys)else none
 |none=>none
@[simp] theorem qgM(s:Vs)(g:Tg)(w:Nat)(ys:List (List U)):qW s g w (some ys)=bif(s.cc g).isSome then some (.aV [],s.fB g w ys)else none:=rfl
@[simp] theorem qcM(Q:mA)(F:FU)(s:Vs)(d f:Nat)(g:Tg)(w:Nat)(xs:List (List U))(rest:List U)(q:List (List U)→List U→Option (List (List U))):
  C6 Q F s d f (.own g w xs::rest) (some q)=qW s g w (q xs rest):=by
 simp only[C6];cases q xs rest<;>rfl
def aW(s:Vs)(d:Nat)(g:Tg)(w:Nat)(rest:List U):Option (List (List U))→Option (U×Vs)
 |some ys=>bif !(decide (g=.a))&&lP w ys&&uA g rest then some (.own (.t d) w ys,(s.kill g).kill (.t d))else none
 |none=>none
@[simp] theorem qgj(s:Vs)(d:Nat)(g:Tg)(w:Nat)(rest:List U)(ys:List (List U)):aW s d g w rest (some ys)=bif !(decide (g=.a))&&lP w ys&&uA g rest then some (.own (.t d) w ys,(s.kill g).kill (.t d))else none:=rfl
@[simp] theorem qcL(Q:mA)(F:FU)(s:Vs)(d f:Nat)(g:Tg)(w:Nat)(xs:List (List U))(rest:List U)(q:List (List U)→List U→Option (List (List U))):
  xX Q F s d f (.own g w xs::rest) (some q)=aW s d g w rest (q xs rest):=by
 simp only[xX];cases q xs rest<;>rfl
theorem mj(l:List cA):(qj l).length=l.length:=(pS aX l).length_eq
theorem t139(a b:List cA)(ha:a.length<small / 4)(hb:b.length<small / 4):G 139 [.sl 2 (a.map aQ),.sl 2 (b.map aQ)] [] 0=some (.own .r 2 ((mO a b).map aQ),[],0):=by
 refine bL (fn:=v139) rfl rfl rfl ?_;have fa:(a.filter dP).length≤a.length:=List.length_filter_le _ _;have fb:(b.filter dP).length≤b.length:=List.length_filter_le _ _;have hs:(qj (a.filter dP++b.filter dP)).length<small:=by rw[mj];simp;unfold small at*;omega
 have e1:aI .i64 ((a.length:Int)+(b.length:Int))=((a.length+b.length:Nat):Int):=by
  rw[show(a.length:Int)+(b.length:Int)=((a.length+b.length:Nat):Int) by omega];exact fC (by unfold small at*;omega)
 have e2:∀ d s,msV d s 2 32 [.str [],.str []] (some (.int .i64 0)) (some (.int .i64 ((a.length:Int)+(b.length:Int))))=some (.own (.t d) 2 [],s.kill (.t d)):=fun d s=>JV (by omega) (by unfold small at*;unfold bp;omega) rfl;have c1:=t190 a [] (by unfold small at*;omega) (by decide);have c2:=t190 b (a.filter dP) (by unfold small at*;omega) (by unfold small at*;omega);have c3:=Ki (a.filter dP++b.filter dP) (by simp;unfold small at*;omega);have c4:=qbX _ hs (qj (a.filter dP++b.filter dP)).length 0 [] (by omega) (by simp);simp[mj]at c1 c2 c3 c4;simp at e1;simp[xb,Sf,Sh,Si,Sj,Sk,Sl,Sm,Sn,e1,e2,c1,c2,c3,mj];exact c4
@[simp] theorem ki(l:List cA):U.kg (l.map aQ)=true:=by
 induction l with
 |nil=>rfl
 |cons a l ih=>rw[List.map_cons,U.kg,ih];rfl
def DZ(l:List cA)(s:cA):List cA:=mO l [s]
theorem t112(l:List cA)(s:cA)(hl:l.length<small / 4):G 112 [.sl 2 (l.map aQ),.agg (aQ s)] [] 0=some (.own .r 2 ((DZ l s).map aQ),[],0):=by
 refine bL (fn:=RJ) rfl rfl rfl ?_;have c:=t139 l [s] hl (by show 1<small / 4;decide);simp only[aQ,List.map_cons,List.map_nil]at c;simp[wZ,RM,RN,aQ,c,DZ]
theorem HI(out:List cA)(s:cA):(lU out s).length≤out.length+1:=by
 unfold lU;cases h:out.getLast? with
 |none=>simp
 |some x=>
  dsimp only;cases x.2 !=[]&&lt x.2 s.1 with
  |true=>simp
  |false=>
   cases x.2 !=[]&&(s.2==[]||lt x.2 s.2)with
   |true=>simp
   |false=>simp
theorem Mm:∀ (l out:List cA),(l.foldl lU out).length≤out.length+l.length
 |[],out=>by simp
 |s::l,out=>by
  have:=Mm l (lU out s);have:=HI out s;simp only[List.foldl_cons,List.length_cons];omega
theorem js(a b:List cA):(mO a b).length≤a.length+b.length:=by
 have:=Mm (qj (a.filter dP++b.filter dP)) [];rw[mj]at this;have fa:(a.filter dP).length≤a.length:=List.length_filter_le _ _;have fb:(b.filter dP).length≤b.length:=List.length_filter_le _ _;unfold mO;simp at this⊢;omega
theorem de{z:Int}(h0: -4000000000000000000≤z)(h1:z≤4000000000000000000):aI .i64 z=z:=by
 cases z with
 |ofNat m=>exact Cu (by have:(Int.ofNat m)=(m:Int):=rfl;omega)
 |negSucc m=>
  have:m≤AK .i64:=by show m≤9223372036854775807;omega
  simp only[aI,oT this,Bool.and_true];rfl
def ou(n:Nat):Nat:=max n 1
theorem Qj(n:Nat):n≤ou n∧1≤ou n:=by unfold ou;omega
def mx(a b:Nat):Nat:=max a b
def mn(a b:Nat):Nat:=min a b
@[simp] theorem qgC(k:IntKind)(n:Nat):lH yf (.int k (n:Int)) (.int k 1)=some (.int k (ou n:Nat)):=by
 have e:(if(1:Int)>(n:Int)then(1:Int)else(n:Int))=(ou n:Nat):=by
  unfold ou;split<;>omega
 show MD (if k=k then some (V.int k (if(1:Int)>(n:Int)then(1:Int)else(n:Int)))else none)=_;rw[if_pos rfl,e];rfl
@[simp] theorem qgD(k:IntKind)(n m:Nat):lH yf (.int k (n:Int)) (.int k (m:Int))=some (.int k (mx n m:Nat)):=by
 have e:(if(m:Int)>(n:Int)then(m:Int)else(n:Int))=(mx n m:Nat):=by
  unfold mx;split<;>omega
 show MD (if k=k then some (V.int k (if(m:Int)>(n:Int)then(m:Int)else(n:Int)))else none)=_;rw[if_pos rfl,e];rfl
@[simp] theorem qgE(k:IntKind)(n m:Nat):lH AY (.int k (n:Int)) (.int k (m:Int))=some (.int k (mn n m:Nat)):=by
 have e:(if(m:Int)<(n:Int)then(m:Int)else(n:Int))=(mn n m:Nat):=by
  unfold mn;split<;>omega
 show MD (if k=k then some (V.int k (if(m:Int)<(n:Int)then(m:Int)else(n:Int)))else none)=_;rw[if_pos rfl,e];rfl
def PJ(l:List cA)(n:Nat):List cA:=
 bif decide (ou n<l.length)then(l.set (l.length - ou n) ((l[0]?.getD default).1,(l[l.length - ou n]?.getD default).2)).drop (l.length - ou n)else l
def tq(l:List cA)(n:Nat):List cA:=PJ (mO l []) n
theorem PK(l:List cA)(n:Nat):(PJ l n).length≤ou n∧(PJ l n).length≤l.length:=by
 unfold PJ;cases h:decide (ou n<l.length)with
 |true=>simp;omega
 |false=>have:=of_decide_eq_false h;simp;omega
theorem qD(l:List cA)(n:Nat):(tq l n).length≤ou n∧(tq l n).length≤l.length:=by
 have h1:=PK (mO l []) n;have h2:=js l [];unfold tq;simp at h2;omega
theorem t101(l:List cA)(n:Nat)(hl:l.length<small / 4)(hn:n<small):G 101 [.sl 2 (l.map aQ),.int .i64 (n:Int)] [] 0=some (.own .r 2 ((tq l n).map aQ),[],0):=by
 refine bL (fn:=Re) rfl rfl rfl ?_;have c:=t139 l [] hl (by decide);have hj:=js l [];have hm:=Qj n;have hm2:ou n<small:=by unfold ou;unfold small at*;omega
 unfold tq;generalize mO l []=L at*;simp only[List.map_nil]at c;simp at hj;have hL:L.length<small:=by unfold small at*;omega
 have e1:aI .i64 ((L.length:Int) - (ou n:Int))=(L.length:Int) - (ou n:Int):=by
  unfold small at hL hm2;exact de (by omega) (by omega)
 have e2:decide (0<(L.length:Int) - (ou n:Int))=decide (ou n<L.length):=by
  rw[decide_eq_decide];omega
 unfold PJ;cases h:decide (ou n<L.length)with
 |true=>
  have hlt:=of_decide_eq_true h;obtain⟨k,hk⟩:∃ k,L.length=k+ou n:=⟨L.length - ou n,by omega⟩;have e3:L.length - ou n=k:=by omega
  have e4:(L.length:Int) - (ou n:Int)=(k:Int):=by omega
  have hk1:k<L.length:=by omega
  have h0:0<L.length:=by omega
  have hlen:(L.map aQ).length=L.length:=by simp
  have ia0:∀ s',qo s' 2 (some (.own (.t 8) 2 (L.map aQ))) (some (.int .i64 0))=some (.bD (.t 8) 0 0,s'):=fun s' =>cT (n:=0) (by simpa using h0);have iak:∀ s',qo s' 2 (some (.own (.t 8) 2 (L.map aQ))) (some (.int .i64 (k:Int)))=some (.bD (.t 8) k 0,s'):=fun s' =>cT (by simpa using hk1);have r0:(L.map aQ)[0]? =some [.str (L[0]?.getD default).1,.str (L[0]?.getD default).2]:=by simp[aQ,h0]
  have rk:(L.map aQ)[k]? =some [.str (L[k]?.getD default).1,.str (L[k]?.getD default).2]:=by simp[aQ,hk1]
  have ek:fM (.int .i64 (k:Int)) L.length=some k:=by
   show asNat (.int .i64 (k:Int)) _=some k;simp only[asNat];rw[if_pos ⟨Int.natCast_nonneg k,by omega⟩];rfl
  rw[e3];generalize (L[0]?.getD default).1=A at*;generalize (L[0]?.getD default).2=A' at*;generalize (L[k]?.getD default).1=B at*;generalize (L[k]?.getD default).2=B' at*;have hc:=jK (f:=62) rfl (w:=2) (xs:=((L.set k (A,B')).drop k).map aQ) [] 0 (by simp;omega) (oK _);have hset:(L.map aQ).set k [.str A,.str B']=(L.set k (A,B')).map aQ:=by simp[aQ]
  have hmd:((L.set k (A,B')).map aQ).drop k=((L.set k (A,B')).drop k).map aQ:=by rw[List.map_drop]
  have hmt:((L.set k (A,B')).map aQ).take L.length=(L.set k (A,B')).map aQ:=jU (by simp);have hml:((L.set k (A,B')).map aQ).length=L.length:=by simp
  rw[cond_true];generalize (L.set k (A,B'))=L' at*;generalize hX:L.map aQ=X at*;have hl2:X.length=L.length:=by rw[←hX];simp
  rw[←hmd]at hc;have hfl:U.kg ((L'.map aQ).drop k)=true:=by rw[hmd];exact ki _
  have rk2:∀ hh:k<X.length,X[k]=[.str B,.str B']:=fun hh=>by rw[bP hh]at rk;exact Option.some.inj rk
  have e5:aI .i64 (k:Int)=(k:Int):=fC (by unfold small at hL;omega);have e6:0<k:=by omega
  have e7:aI .i64 ((L.length:Int) - (ou n:Int))=(k:Int):=by rw[e1,e4]
  have e8:bw [] none X.length X.length=some X.length:=rfl;have ek2:fM (.int .i64 (k:Int)) X.length=some k:=by rw[hl2];exact ek
  simp[su,Kr,Ks,Kt,Ku,Rf,Rg,Kv,aQ,c,e7,e6,ia0,iak,r0,rk,rk2,hset,hl2,hk1,ek,hml,hmt,hc,hfl]
 |false=>
  simp[su,Kr,Ks,Kt,Ku,Kv,aQ,c,e1,e2,h]
end Go.RE
namespace Go.RE
@[simp] theorem Kb(l:List Rc):kJ 6 (l.map recC)=true:=pR (fun v=>by simp[recC]) l
theorem t107(r:Rc)(hr:fL r):G 107 [.agg (recC r)] [] 0=some (.agg (recC r),[],0):=by
 refine bL (fn:=v107) rfl rfl rfl ?_;have c1:=jK (f:=62) rfl (w:=2) (xs:=r.reads.map aQ) [] 0 (by simp;unfold fL small at*;omega) (oK _);have c2:=jK (f:=62) rfl (w:=2) (xs:=r.writes.map aQ) [] 0 (by simp;unfold fL small at*;omega) (oK _);simp[sB,Kx,ay MN,Fb,Ky,recC,c1,c2,cR]
def Hv(r:Rc):Nat:=bif r.writes.isEmpty then r.began else r.last
theorem t141(r:Rc):G 141 [.agg (recC r)] [] 0=some (.int .u64 (Hv r),[],0):=by
 refine bL (fn:=v141) rfl rfl rfl ?_;cases h:r.writes with
 |nil=>simp[sC,KE,KF,Sv,recC,Hv,h]
 |cons a l=>
  have e:((l.length:Int)+1==0)=false:=by rw[beq_eq_false_iff_ne];omega
  simp[sC,KE,KF,Sw,recC,Hv,h,e]
def Dr(t r:Rc):Bool:=decide (t.began<r.last)
theorem t140(r t:Rc)(i:Nat)(h:List Uo)(fl:Nat)(hf:fl≤h.length)(hi:h[i]? =some (.row (recC t))):G 140 [.agg (recC r),.ptr i 0] h fl=some (.bool (Dr t r),h,fl):=by
 refine bL (fn:=Sq) rfl rfl rfl ?_;simp only[recC]at hi;simp[xd,Sr,Su,recC,aS hi,Dr,gf hf]
def JO(a b:Nat):Nat:=bif a==0 then b else bif b==0||decide (a<b)then a else b
theorem t197(a b:Nat):G 197 [.int .u64 (a:Int),.int .u64 (b:Int)] [] 0=some (.int .u64 (JO a b),[],0):=by
 refine bL (fn:=OP) rfl rfl rfl ?_;have e1:∀ n:Nat,((n:Int)==0)=(n==0):=fun n=>by cases n<;>simp;omega
 cases h1:a==0<;>cases h2:b==0<;>cases h3:decide (a<b)<;>simp[xJ,TM,TN,TO,TP,TQ,TS,JO,h1,h2,h3,e1]
def bK(l:List Rc)(low:Nat):List Rc:=l.filter fun r=>decide (low<r.last)
theorem qfH(l:List Rc)(low:Nat)(hl:l.length<small)(hok:∀ r∈l,fL r):∀ (j i:Nat) (out:List Rc),i+j=l.length→out.length≤i→
  gL br mT qT pT v66 0 lJ 0 ⟨[(10,.int .i64 (i:Int)),(5,.own (.t 5) 6 (out.map recC)),(1,.int .u64 (low:Int)),(8,.sl 6 (l.map recC)),(9,.int .i64 (l.length:Int))],[],0⟩
   (gI br mT qT pT v66 (.seq (.region vR) .ret) (kE 0 v66 (.own .r 6 ((out++bK (l.drop i) low).map recC),[],0))):=by
 intro j
 induction j with
 |zero=>
  intro i out hij ho;obtain⟨h1,h2⟩:=nB hij;rw[ak lJ.eq_1,h2];simp[ql,vR,h1,bK]
 |succ j ih=>
  intro i out hij ho;obtain⟨h1,e3,r,d1,g1⟩:=qn hij hl;have e1:=g1 recC;have hr:fL r:=hok r (List.mem_of_mem_drop (i:=i) (by rw[d1];exact eU));have c:=t107 r hr;rw[ak lJ.eq_1,d1];simp only[recC]at e1 c;cases hn:decide (low<r.last)with
  |false=>
   have ih' :=ih (i+1) out (by omega) (by omega);simp[ql,Cf,Cg,Ch,h1,bg e1,e3,recC,hn,bK];simpa[recC,bK]using ih'
  |true=>
   have ih' :=ih (i+1) (out++[r]) (by omega) (by simp;omega);have b1:(out.length+1)*80≤bp∧out.length+1≤bp:=by unfold small at hl;unfold bp;omega
   simp[ql,Cf,Cg,NC,Ch,h1,bg e1,e3,recC,c,hn,b1,bK];simpa[recC,bK]using ih'
theorem t66(l:List Rc)(low:Nat)(hl:l.length<small)(hok:∀ r∈l,fL r):G 66 [.sl 6 (l.map recC),.int .u64 (low:Int)] [] 0=some (.own .r 6 ((bK l low).map recC),[],0):=by
 refine bL (fn:=v66) rfl rfl rfl ?_;have:=qfH l low hl hok l.length 0 [] (by omega) (by simp);simp[nw,DT,DU,DV];simpa using this
def uy(a b:Rc)(n:Nat):Rc:=⟨mn a.first b.first,mx a.last b.last,mx a.began b.began,JO a.out b.out,tq (mO a.reads b.reads) n,tq (mO a.writes b.writes) n⟩
theorem t146(a b:Rc)(n:Nat)(ha:fL a)(hb:fL b)(hn:n<small):G 146 [.agg (recC a),.agg (recC b),.int .i64 (n:Int)] [] 0=some (.agg (recC (uy a b n)),[],0):=by
 refine bL (fn:=v146) rfl rfl rfl ?_;have c0:=t197 a.out b.out;have c1:=t139 a.reads b.reads (by unfold fL small at*;omega) (by unfold fL small at*;omega);have c2:=t139 a.writes b.writes (by unfold fL small at*;omega) (by unfold fL small at*;omega);have l1:=js a.reads b.reads;have l2:=js a.writes b.writes;have c3:=t101 (mO a.reads b.reads) n (by unfold fL small at*;omega) hn;have c4:=t101 (mO a.writes b.writes) n (by unfold fL small at*;omega) hn;simp[xm,SL,ay Xt,MV,recC,c0,c1,c2,c3,c4,uy,cR]
def VD(r:Rc):Nat:=r.reads.length+r.writes.length
def sU:List Rc→Nat
 |[]=>0
 |r::l=>VD r+sU l
theorem XB{l:List Rc}{r:Rc}(h:r∈l):VD r≤sU l:=by
 induction l with
 |nil=>cases h
 |cons a l ih=>
  rcases dS.1 h with rfl|h
  ·simp only[sU];omega
  ·have:=ih h;simp only[sU];omega
theorem Cw{l:List Rc}(h:sU l<small / 8){r:Rc}(hr:r∈l):fL r:=by
 have:=XB hr;unfold VD at this;exact⟨by omega,by omega⟩
theorem NI(a b:Rc)(n:Nat):VD (uy a b n)≤VD a+VD b:=by
 have l1:=js a.reads b.reads;have l2:=js a.writes b.writes;have l3:=qD (mO a.reads b.reads) n;have l4:=qD (mO a.writes b.writes) n;unfold VD;show(tq (mO a.reads b.reads) n).length+(tq (mO a.writes b.writes) n).length≤_;omega
def qeq(n m:Nat):Nat→List Rc→List Rc
 |f+1,a::b::r=>bif decide (n<r.length+2)then qeq n m f (uy a b m::r)else a::b::r
 |_,l=>l
def oB(n m:Nat)(l:List Rc):List Rc:=qeq n m l.length l
theorem wB(n m:Nat)(a b:Rc)(r:List Rc):oB n m (a::b::r)=bif decide (n<r.length+2)then oB n m (uy a b m::r)else a::b::r:=rfl
theorem qC(n m:Nat):oB n m []=[]:=rfl
theorem uq(n m:Nat)(a:Rc):oB n m [a]=[a]:=rfl
theorem qbV(n m:Nat)(hn1:1≤n)(hn:n<small)(hm:m<small):∀ (j:Nat) (l:List Rc),l.length=j→l.length<small→sU l<small / 8→
  gL br mT qT pT rj 2 oO 0 ⟨[(7,.own (.t 7) 6 (l.map recC)),(2,.int .i64 (m:Int)),(1,.int .i64 (n:Int))],[],0⟩
   (gI br mT qT pT rj (.seq (.region uT) .ret) (kE 0 rj (.own .r 6 ((oB n m l).map recC),[],0))):=by
 intro j
 induction j with
 |zero=>
  intro l hj hl hw;have:l=[]:=List.length_eq_zero_iff.1 hj;subst this;have c:=jK (f:=97) rfl (w:=6) (xs:=[]) [] 0 (by decide) rfl;have h0:¬((n:Int)<0):=by omega
  rw[ak oO.eq_1];simp[Fa,uT,qC,c,h0]
 |succ j ih=>
  intro l hj hl hw;have c:=jK (f:=97) rfl (w:=6) (xs:=l.map recC) [] 0 (by simpa using hl) (Kb _);cases hd:decide (n<l.length)with
  |false=>
   have e:oB n m l=l:=by
    match l,hd with
    |[],_=>simp[qC,uq]
    |[a],_=>simp[qC,uq]
    |a::b::r,hd=>rw[wB];simp only[List.length_cons]at hd;rw[hd,cond_false]
   rw[ak oO.eq_1,e];cases hfl:U.kg (l.map recC)<;>simp[Fa,uT,c,hd,hfl]
  |true=>
   match l,hd,hj with
   |a::b::r,hd,hj=>
   have hlt:=of_decide_eq_true hd;have c1:=t146 a b m (Cw hw (by simp)) (Cw hw (by simp)) hm;have hw2:sU (uy a b m::r)<small / 8:=by have:=NI a b m;simp only[sU]at hw⊢;omega
   have ih' :=ih (uy a b m::r) (by simpa using hj) (by simp at hl⊢;omega) hw2;have e:oB n m (a::b::r)=oB n m (uy a b m::r):=by
    rw[wB];simp only[List.length_cons]at hd;rw[hd,cond_true]
   rw[ak oO.eq_1,e];simp only[recC]at c1;simp only[List.length_cons]at hd;have h1:(n:Int)<(r.length:Int)+1+1:=by simp at hlt;omega
   have h2:0<(r.length:Int)+1+1:=by omega
   have h3:1<(r.length:Int)+1+1:=by omega
   have h4:fM (.int .i64 1) (r.length+1+1)=some 1:=by
    show asNat (.int .i64 1) _=some 1;simp only[asNat];rw[if_pos ⟨by decide,by omega⟩];rfl
   simp[Fa,ay Ru,Br,MM,c1,recC,h1,h2,h3,h4,cR];have h5:(r.map recC).take r.length=r.map recC:=jU (by simp);rw[h5];exact ih'
   |[a],hd,hj=>have:=of_decide_eq_true hd;simp at this;omega
   |[],hd,hj=>have:=of_decide_eq_true hd;simp at this
theorem qbU(l:List Rc)(n m:Nat)(hl:l.length<small)(hw:sU l<small / 8)(K:Ex→Vs→Prop)(hK:K .normal ⟨[(7,.own (.t 7) 6 (l.map recC)),(2,.int .i64 (m:Int)),(1,.int .i64 (n:Int))],[],0⟩):∀ (j i:Nat),i+j=l.length→
  gL br mT qT pT rj 0 zw 0 ⟨[(17,.int .i64 (i:Int)),(7,.own (.t 7) 6 ((l.take i).map recC)),(15,.sl 6 (l.map recC)),(2,.int .i64 (m:Int)),(1,.int .i64 (n:Int)),(16,.int .i64 (l.length:Int))],[],0⟩ K:=by
 intro j
 induction j with
 |zero=>
  intro i hij;obtain⟨h1,h2⟩:=nB hij;have h3:l.take i=l:=jU (by omega);rw[ak zw.eq_1,h3];simp[Kw,h1];exact hK
 |succ j ih=>
  intro i hij;obtain⟨h1,e3,r,d1,g1⟩:=qn hij hl;have e1:=g1 recC;have hr:fL r:=Cw hw (List.mem_of_mem_drop (i:=i) (by rw[d1];exact eU));have c:=t107 r hr;have hi:i<l.length:=by omega
  have hlt:l.take (i+1)=l.take i++[r]:=by
   rw[List.take_add_one];have:l[i]? =some r:=by rw[←List.head?_drop,d1];rfl
   rw[this];rfl
  have ih' :=ih (i+1) (by omega);rw[hlt]at ih';rw[ak zw.eq_1];have b1:(min i l.length+1)*80≤bp∧min i l.length+1≤bp:=by unfold small at hl;unfold bp;omega
  simp only[recC]at e1 c;simp[Kw,Ry,Rz,RA,h1,bg e1,e3,recC,c,b1];simpa[recC]using ih'
theorem t104(l:List Rc)(n m:Nat)(hl:l.length<small)(hw:sU l<small / 8)(hn:n<small)(hm:m<small):G 104 [.sl 6 (l.map recC),.int .i64 (n:Int),.int .i64 (m:Int)] [] 0=some (.own .r 6 ((oB (ou n) m l).map recC),[],0):=by
 refine bL (fn:=rj) rfl rfl rfl ?_;have hb:=qbV (ou n) m (Qj n).2 (by unfold ou;unfold small at*;omega) hm l.length l rfl hl hw;have:=qbU l (ou n) m hl hw _ (show gI br mT qT pT rj (.seq (.block 2 (.loop oO)) (.seq (.region uT) .ret)) (kE 0 rj (.own .r 6 ((oB (ou n) m l).map recC),[],0)) .normal _ by simpa using hb) l.length 0 (by omega);have e2:∀ d s,msV d s 6 80 [.int .u64 0,.int .u64 0,.int .u64 0,.int .u64 0,.ag [] 0 0 2,.ag [] 0 0 2] (some (.int .i64 0)) (some (.int .i64 (l.length:Int)))=some (.own (.t d) 6 [],s.kill (.t d)):=fun d s=>JV (by omega) (by simp;unfold small at*;unfold bp;omega) rfl;simp[wW,Rs,Rt,Rv,Rx,e2];simpa using this
def IY(t:Rc)(s:Nat×Bool)(r:Rc):Nat×Bool:=bif Dr t r&&Dq r.reads t.writes then(mx s.1 (Hv r),true)else s
def CL(t:Rc)(most:Nat)(inn:Bool):Nat×Bool→List Rc→Option (Nat×Bool)
 |s,[]=>some s
 |s,r::l=>bif !Dr t r|| !Dq t.reads r.writes then CL t most inn s l
  else bif(!(r.out==0)&&decide (0<t.writes.length))||(!(r.out==0)&&decide (r.out≤t.began))||(inn&&decide (r.first≤most))then none
  else CL t most inn (bif !s.2||decide (r.first<s.1)then(r.first,true)else s) l
def oe(l:List Rc)(t:Rc):Option Nat:=
 let a:=l.foldl (IY t) (0,false)
 (CL t a.1 a.2 (0,false) l).map (·.1)
theorem qbR(l:List Rc)(t:Rc)(hl:l.length<small)(hok:∀ r∈l,fL r)(ht:fL t)(K:Ex→Vs→Prop)
  (hK:K .normal ⟨[(7,.int .u64 ((l.foldl (IY t) (0,false)).1:Nat)),(8,.bool (l.foldl (IY t) (0,false)).2),(3,.ptr 0 0),(6,.func 140 [] [.ptr 0 0]),(0,.sl 6 (l.map recC))],[.row (recC t)],0⟩):∀ (j i:Nat) (s:Nat×Bool),i+j=l.length→(l.drop i).foldl (IY t) s=l.foldl (IY t) (0,false)→
  gL br mT qT pT lW 0 zi 1 ⟨[(19,.int .i64 (i:Int)),(7,.int .u64 (s.1:Nat)),(3,.ptr 0 0),(6,.func 140 [] [.ptr 0 0]),(17,.sl 6 (l.map recC)),(8,.bool s.2),(0,.sl 6 (l.map recC)),(18,.int .i64 (l.length:Int))],[.row (recC t)],0⟩ K:=by
 intro j
 induction j with
 |zero=>
  intro i s hij hs;obtain⟨h1,h2⟩:=nB hij;rw[h2]at hs;simp only[List.foldl_nil]at hs;rw[←hs]at hK;rw[ak zi.eq_1];simp[Bn,h1,recC]at hK⊢;exact hK
 |succ j ih=>
  intro i s hij hs;obtain⟨h1,e3,r,d1,g1⟩:=qn hij hl;have e1:=g1 recC;have hr:fL r:=hok r (List.mem_of_mem_drop (i:=i) (by rw[d1];exact eU));rw[d1,List.foldl_cons]at hs;have ih' :=ih (i+1) (IY t s r) (by omega) hs;have c0:=t140 r t 0 [.row (recC t),.row (recC r)] 0 (dW _) rfl;have c1:=t108 r.reads t.writes (by unfold fL small at*;omega) (by unfold fL small at*;omega);have c2:=t141 r;rw[ak zi.eq_1];simp only[recC]at e1 c0 c2;cases hn:Dr t r with
  |false=>
   rw[hn]at c0;have e:IY t s r=s:=by simp[IY,hn]
   rw[e]at ih';simp[Bn,E3,E4,E5,h1,bg e1,e3,recC,c0,hn];simpa[recC]using ih'
  |true=>
   rw[hn]at c0;cases hm:Dq r.reads t.writes with
   |false=>
    rw[hm]at c1;have e:IY t s r=s:=by simp[IY,hm]
    rw[e]at ih';simp[Bn,E3,E4,E5,h1,bg e1,e3,recC,c0,c1,hn];simpa[recC]using ih'
   |true=>
    rw[hm]at c1;have e:IY t s r=(mx s.1 (Hv r),true):=by simp[IY,hn,hm]
    rw[e]at ih';simp[Bn,E3,E4,Rn,E5,h1,bg e1,e3,recC,c0,c1,c2,hn];simpa[recC]using ih'
def wE:Option Nat→U
 |some n=> .aV [.int .u64 (n:Int),.int .i64 0]
 |none=> .aV [.int .u64 0,.int .i64 101]
abbrev qaU(R:U):Ex→Vs→Prop:=gI br mT qT pT lW (.seq (.seq (.region nV)
 (.cond (.t 96) (.seq (.region pX)
 .ret) .skip))
 (.seq (.region zh)
 .ret)) (gI br mT qT pT lW .skip (kE 0 lW (R,[],0)))
theorem qbS(l:List Rc)(t:Rc)(hl:l.length<small)(hok:∀ r∈l,fL r)(ht:fL t)(most:Nat)(inn:Bool):∀ (j i:Nat) (s:Nat×Bool),i+j=l.length→
  gL br mT qT pT lW 2 oN 1 ⟨[(40,.int .i64 (i:Int)),(11,.int .u64 (s.1:Nat)),(12,.bool s.2),(7,.int .u64 (most:Int)),(8,.bool inn),(3,.ptr 0 0),(6,.func 140 [] [.ptr 0 0]),(38,.sl 6 (l.map recC)),(13,.bool false),(39,.int .i64 (l.length:Int))],[.row (recC t)],0⟩
   (qaU (wE ((CL t most inn s (l.drop i)).map (·.1)))):=by
 intro j
 induction j with
 |zero=>
  intro i s hij;obtain⟨h1,h2⟩:=nB hij;rw[ak oN.eq_1,h2];simp[uP,h1,recC,CL,wE,nV,zh]
 |succ j ih=>
  intro i s hij;obtain⟨h1,e3,r,d1,g1⟩:=qn hij hl;have e1:=g1 recC;have hr:fL r:=hok r (List.mem_of_mem_drop (i:=i) (by rw[d1];exact eU));have c0:=t140 r t 0 [.row (recC t),.row (recC r)] 0 (dW _) rfl;have c1:=t108 t.reads r.writes (by unfold fL small at*;omega) (by unfold fL small at*;omega);have ih' :=ih (i+1) s (by omega);have ihB:=ih (i+1) (r.first,true) (by omega);rw[ak oN.eq_1,d1];simp only[recC]at e1 c0;cases hn:Dr t r with
  |false=>
   rw[hn]at c0;simp[uP,ze,zf,gm,h1,bg e1,e3,recC,c0,hn,CL];simpa[recC]using ih'
  |true=>
   rw[hn]at c0;cases hm:Dq t.reads r.writes with
   |false=>
    rw[hm]at c1;simp[uP,ze,zf,gm,h1,bg e1,e3,recC,c0,c1,hn,hm,CL];simpa[recC]using ih'
   |true=>
    rw[hm]at c1;have z1:((r.out:Int)==0)=(r.out==0):=by cases r.out<;>simp;omega
    have z2:decide (0<(t.writes.length:Int))=decide (0<t.writes.length):=by rw[decide_eq_decide];omega
    simp[uP,ze,zf,h1,bg e1,recC,c0,c1,hn,hm,CL,qaU];have fin:gL br mT qT pT lW 2 oN 1 ⟨[(40,.int .i64 ((i+1:Nat):Int)),(11,.int .u64 ((bif !s.2||decide (r.first<s.1)then(r.first,true)else s).1:Nat)),(12,.bool (bif !s.2||decide (r.first<s.1)then(r.first,true)else s).2),(7,.int .u64 (most:Int)),(8,.bool inn),(3,.ptr 0 0),(6,.func 140 [] [.ptr 0 0]),(38,.sl 6 (l.map recC)),(13,.bool false),(39,.int .i64 (l.length:Int))],[.row (recC t)],0⟩
      (qaU (wE ((CL t most inn (bif !s.2||decide (r.first<s.1)then(r.first,true)else s) (l.drop (i+1))).map (·.1)))):=ih (i+1) _ (by omega)
    cases q1:r.out==0 with
    |true=>
     have z0:r.out=0:=by simpa using q1
     rw[z0]at*;simp[uQ,zg];cases inn with
     |false=>
      cases q5:s.2 with
      |false=>
       rw[q5]at fin;simp at fin;simp[gj,iB,lX,gm,e3,q5];simpa[recC]using fin
      |true=>
       rw[q5]at fin;cases q6:decide (r.first<s.1)with
       |false=>
        rw[q6]at fin;simp[q5]at fin;simp[gj,iB,gm,e3,q5,q6];simpa[recC]using fin
       |true=>
        rw[q6]at fin;simp at fin;simp[gj,iB,lX,gm,e3,q5,q6];simpa[recC]using fin
     |true=>
      cases q4:decide (r.first≤most)with
      |true=>simp[gj,uR,nV,pX,q4,wE]
      |false=>
       cases q5:s.2 with
       |false=>
        rw[q5]at fin;simp at fin;simp[gj,iB,lX,gm,e3,q4,q5];simpa[recC]using fin
       |true=>
        rw[q5]at fin;cases q6:decide (r.first<s.1)with
        |false=>
         rw[q6]at fin;simp[q5]at fin;simp[gj,iB,gm,e3,q4,q5,q6];simpa[recC]using fin
        |true=>
         rw[q6]at fin;simp at fin;simp[gj,iB,lX,gm,e3,q4,q5,q6];simpa[recC]using fin
    |false=>
     have z0:¬r.out=0:=by simpa using q1
     rw[q1]at z1;have z4:((r.out:Int) !=0)=true:=by rw[bne,z1];rfl
     cases q2:decide (0<t.writes.length)with
     |true=>
      rw[q2]at z2;simp[uQ,uR,nV,pX,z0,z4,z2,q2,wE]
     |false=>
      rw[q2]at z2;cases q3:decide (r.out≤t.began)with
      |true=>
       simp[uQ,zg,uR,nV,pX,z0,z4,z2,q2,q3,wE]
      |false=>
       simp[uQ,zg,z0,z4,z2,q2,q3];cases inn with
       |false=>
        cases q5:s.2 with
        |false=>
         rw[q5]at fin;simp at fin;simp[gj,iB,lX,gm,e3,q5];simpa[recC]using fin
        |true=>
         rw[q5]at fin;cases q6:decide (r.first<s.1)with
         |false=>
          rw[q6]at fin;simp[q5]at fin;simp[gj,iB,gm,e3,q5,q6];simpa[recC]using fin
         |true=>
          rw[q6]at fin;simp at fin;simp[gj,iB,lX,gm,e3,q5,q6];simpa[recC]using fin
       |true=>
        cases q4:decide (r.first≤most)with
        |true=>simp[gj,uR,nV,pX,q4,wE]
        |false=>
         cases q5:s.2 with
         |false=>
          rw[q5]at fin;simp at fin;simp[gj,iB,lX,gm,e3,q4,q5];simpa[recC]using fin
         |true=>
          rw[q5]at fin;cases q6:decide (r.first<s.1)with
          |false=>
           rw[q6]at fin;simp[q5]at fin;simp[gj,iB,gm,e3,q4,q5,q6];simpa[recC]using fin
          |true=>
           rw[q6]at fin;simp at fin;simp[gj,iB,lX,gm,e3,q4,q5,q6];simpa[recC]using fin
theorem t102(l:List Rc)(t:Rc)(hl:l.length<small)(hok:∀ r∈l,fL r)(ht:fL t):G 102 [.sl 6 (l.map recC),.agg (recC t)] [] 0=some (wE (oe l t),[],0):=by
 refine bL (fn:=lW) rfl rfl rfl ?_;have hb:=qbS l t hl hok ht (l.foldl (IY t) (0,false)).1 (l.foldl (IY t) (0,false)).2 l.length 0 (0,false) (by omega);have hR:wE ((CL t (l.foldl (IY t) (0,false)).1 (l.foldl (IY t) (0,false)).2 (0,false) (l.drop 0)).map (·.1))=wE (oe l t):=rfl;rw[hR]at hb;have a:=qbR l t hl hok ht (gI br mT qT pT lW (.seq (.region E1)
 (.seq .skip
 (.seq (.seq (.region E2)
 (.block 2 (.loop oN)))
 (.seq (.seq (.region nV)
 (.cond (.t 96) (.seq (.region pX)
 .ret) .skip))
 (.seq (.region zh)
 .ret))))) (gI br mT qT pT lW .skip (kE 0 lW (wE (oe l t),[],0)))) (by simp[E1,E2];simpa[recC]using hb) l.length 0 (0,false) (by omega) rfl
 simp[wU,Rh,Ri,Rj,Rm,recC];simpa[recC]using a
end Go.RE
namespace Go.RE
def Pv(w bytes:Nat)(zero:List V):List aD:=[⟨(some 5),.m (.buildSlice w 0 zero []),none,0⟩,⟨(some 6),.s (.bt (.t 0)),none,0⟩,⟨(some 7),.h (.append w bytes false (.t 5) (.t 6)),none,3⟩,⟨(some 2),.s (.bt (.t 7)),none,7⟩]
def qhj(w bytes:Nat)(zero:List V):aj:=(.seq (.region [⟨(some 2),.s (.bt (.c (.ag [] 1 0 w))),none,0⟩])
 (.seq (.seq (.region [⟨(some 3),.s (.bt (.t 0)),none,0⟩,⟨(some 4),.s (.bin .eql .bu (.t 3) (.c .bu)),none,1⟩])
 (.cond (.t 4) (.seq (.region [⟨(some 2),.s (.bt (.c (.ag [] 1 0 w))),none,0⟩])
 .ret) .skip))
 (.seq (.region (Pv w bytes zero))
 .ret)))
def qx(w bytes:Nat)(zero:List V):aC:=⟨8,[.t 2],true,qhj w bytes zero,fun _=>[],fun _=>[]⟩
theorem qe9{M:oW}{w bytes:Nat}{zero:List V}(hz:(V.dc zero).all U.aH=true)(hw:0<w)(hb:0<bytes∧bytes≤200)(xs:List (List U))(h:List Uo)(fl:Nat)(hx1:xs.length*200≤bp)(hx:kJ w xs=true):
  gC (fun _=>none) M ⟨fun _=>none,fun _=>none,fun _=>false,fun _=>none⟩ (fun _=>none) (qx w bytes zero) (.seq (.region (Pv w bytes zero)) .ret) ⟨[(0,.sl w xs)],h,fl⟩ (kE h.length (qx w bytes zero) (.own .r w xs,h,fl)):=by
 have h3:cut h.length fl h=h:=by unfold cut;exact jU (oU _ _)
 have h1:decide (xs.length*bytes≤bp)=true:=decide_eq_true (Nat.le_trans (Nat.mul_le_mul_left _ hb.2) hx1);have h2:decide (xs.length≤bp)=true:=decide_eq_true (by omega);have h4:(xs.all fun r=>r.all U.aH&&U.b8 0 r&&decide (r.length=w))=true:=by
  unfold kJ at hx;rw[jD]at hx⊢;intro r hr;have:=hx r hr;simp only[bC,decide_eq_true_eq]at this⊢;exact⟨this.1,bR this.2⟩
 simp[qx,Pv,h1,h2,h3,h4,hz,qam]
theorem oy{C:Nat→Option ck}{M:oW}{f w bytes:Nat}{zero:List V}(hz:(V.dc zero).all U.aH=true)(hw:0<w)(hb:0<bytes∧bytes≤200)
  (hC:C f=some ⟨(qx w bytes zero).ntmps,(qx w bytes zero).results,(qx w bytes zero).body.er⟩):V9 (dA C M) f (tg w):=by
 intro us h fl r h' fl' hp σ Z ω st vs hk hfl ht hlu;unfold tg at hp;split at hp
 case h_2=>cases hp
 rename_i w' xs;obtain⟨hb2,hp3⟩:=aK hp;clear hp;simp only[bC]at hb2;have hw2:w' =w:=bR hb2.1.1;subst hw2;simp only[ai,aJ]at hp3;obtain⟨rfl,rfl,rfl⟩:=hp3;obtain⟨v,vs',rfl,hv,hvs⟩:=hlu.bx;obtain rfl:=hvs.dY;have T:lR C M (fun _=>none) ⟨fun _=>none,fun _=>none,fun _=>false,fun _=>none⟩ (fun _=>none):=⟨fun f fn h=>by simp at h,⟨fun f q h=>by simp at h,fun f q h=>by simp at h,fun f q h=>by simp at h⟩,fun f p h=>by simp at h⟩;obtain⟨n,hn⟩:=qe9 (M:=M) hz hw hb xs h fl (gu hb2.1.2) hb2.2;have hok:∀ e:PT V,e.get 0=some v→Cz ⟨h.length,σ,fO σ ω h.length,Z,st,fun i=>h[i]? =some .gone,none,jd h⟩ ⟨[(0,.sl w' xs)],h,fl⟩ e st:=fun e he=>by
  refine⟨hfl.env _,σ,Z,ω,hk.setEnv fun t u hu=> ?_⟩;simp only[look]at hu;cases hb0:Nat.beq 0 t with
  |true=>
   rw[hb0]at hu;have:=bR hb0;subst this;simp at hu;subst hu;exact⟨v,he,TR.bB hv⟩
  |false=>rw[hb0]at hu;simp at hu
 have key:∀ e:PT V,e.get 0=some v→∃ N,fZ C M N (aj.seq (.region (Pv w' bytes zero)) .ret).er e st (P3 ⟨(qx w' bytes zero).ntmps,(qx w' bytes zero).results,(qx w' bytes zero).body.er⟩ fun v st' =>Fl ⟨[],h,fl⟩∧∃ σ' Z' ω',Ok ⟨h.length,σ,fO σ ω h.length,Z,st,fun i=>h[i]? =some .gone,none,jd h⟩ σ' Z' ω' ⟨[],h,fl⟩ .e st'∧(∀ d,d≠0→ω' (.t d)=none)∧RR σ' Z' ω' h.length (.own .r w' xs) v):=fun e he=>by
  obtain⟨N,hN⟩:=(sound T n).2.1 hn (hok e he);refine⟨N,b9 (aq _) ?_ hN⟩;rintro ex' e' st' ⟨s',hK,hf',σ',Z',ω',hk'⟩;cases ex' with
  |exit i=>exact hK.elim
  |normal=>
   obtain⟨v,r1,r2,r3⟩:=rP hk' hf' rfl (aq _) hK;rw[kr];simp only[r1];exact⟨r2,r3⟩
  |ret=>
   obtain⟨v,r1,r2,r3⟩:=rP hk' hf' rfl (aq _) hK;rw[nK];simp only[r1];exact⟨r2,r3⟩
 have start:∀ (b:Bool),GC .bu v .bu=some b→(b=true→v=.bu)→∃ N,bW C M N f [v] st fun v st' =>Fl ⟨[],h,fl⟩∧∃ σ' Z' ω',Ok ⟨h.length,σ,fO σ ω h.length,Z,st,fun i=>h[i]? =some .gone,none,jd h⟩ σ' Z' ω' ⟨[],h,fl⟩ .e st'∧(∀ d,d≠0→ω' (.t d)=none)∧RR σ' Z' ω' h.length (.own .r w' xs) v:=by
  intro b hbv hnil;have hinit:(cu [v] 0 .e).get 0=some v:=by rw[fF];rfl
  obtain⟨N,hN⟩:=key ((((cu [v] 0 .e).set 2 .bu).set 3 v).set 4 (.bool b)) (by simp[PT.iz,hinit]);refine⟨N+6,?_⟩;rw[qv hC (by show[v].length≤8;simp)];have hbody:(qx w' bytes zero).body.er=.seq (.region [⟨some 2,.s (.bt (.c .bu)),none,0⟩]) (.seq (.seq (.region [⟨some 3,.s (.bt (.t 0)),none,0⟩,⟨some 4,.s (.bin .eql .bu (.t 3) (.c .bu)),none,1⟩]) (.cond (.t 4) (.seq (.region [⟨some 2,.s (.bt (.c .bu)),none,0⟩]) .ret) .skip)) (aj.seq (.region (Pv w' bytes zero)) .ret).er):=rfl;simp only[hbody];rw[pg,jb];simp only[eV,bU,dH,cD,bJ.ev,fq,nL];rw[pg,pg,jb];have h2:((cu [v] 0 .e).set 2 .bu).get 0=some v:=by simp[PT.iz,hinit]
  have h3:((((cu [v] 0 .e).set 2 .bu)).set 3 v).get 3=some v:=by simp[PT.iz]
  simp only[eV,bU,dH,cD,bJ.ev,fq,nL,h2,h3];have h4:jF .eql .bu v .bu=some (.bool b):=by
   cases v<;>simp_all [jF,GC]
  simp only[h4];rw[Au (t:=b) (by simp[bJ.ev,PT.iz])];cases b with
  |true=>
   obtain rfl:=hnil rfl;rw[if_pos rfl,pg,jb];simp only[eV,bU,dH,cD,bJ.ev,fq,nL];rw[Ef,P4,nK];have hr:ct (((((cu [.bu] 0 .e).set 2 .bu).set 3 .bu).set 4 (.bool true)).set 2 .bu) st [.t 2]=some .bu:=by simp[ct,tI,CN,PT.iz]
   have hres:(qx w' bytes zero).results=[.t 2]:=rfl;simp only[hres,hr];refine⟨hfl,σ,Z,ω,hk,fun d _=>ht d,?_⟩;show OR σ Z ω (.t 0) w' xs .bu;unfold OR;rw[ht 0];cases hv;exact⟨rfl,.inl rfl⟩
  |false=>
   rw[if_neg (by simp),Aw,nL];exact b9 (by omega) (fun _ _ _ h=>h) hN
 cases hv with
 |slnil=>exact start true rfl (fun _=>rfl)
 |y9=>exact start false rfl (fun h=>by cases h)
 |Bf=>exact start false rfl (fun h=>by cases h)
 |CO=>exact start false rfl (fun h=>by cases h)
end Go.RE
namespace Go.RE
section
variable{C:Nat→Option ck}{M:oW}
theorem Je{f n:Nat}{p:List V→St→Option (V×St)}(hC:C f=some (qh n p)){args:List V}(ha:args.length=n){st st' :St}{v:V}(hp:p args st=some (v,st')){k:V→St→Prop}(hk:k v st'):bW C M 1 f args st k:=by
 rw[qv hC (by rw[ha];exact aq n)];simp only[qh,fZ];have hf:∃ vs,firsts (cu args 0 .e) n []=some vs:=by
  subst ha;have key:∀ (m:Nat) (acc:List V),m≤args.length→∃ vs,firsts (cu args 0 .e) m acc=some vs:=by
   intro m
   induction m with
   |zero=>intro acc _;exact⟨acc,rfl⟩
   |succ m ih=>
    intro acc hm;simp only[firsts];have:(cu args 0 .e).get m=args[m]? :=by
     rw[fF,if_pos ⟨dW _,by omega⟩];rfl
    rw[this,bP (by omega)];exact ih _ (by omega)
  exact key _ [] (aq _)
 obtain⟨vs,hvs⟩:=hf;obtain⟨h1,h2⟩:=x9 hvs;have h3:vs=args:=by rw[h2,←ha,List.take_length,List.append_nil]
 subst h3;rw[hvs];simp only[hp];rw[nK];have hr:ct ((cu vs 0 .e).set 0 v) st' [.t 0]=some v:=by
  simp[ct,tI,CN,PT.iz]
 simp only[hr];exact hk
theorem j7{f n:Nat}{p:List V→St→Option (V×St)}(hC:C f=some (qh n p)){args:List V}(ha:args.length=n){st st' :St}{v:V}(hp:p args st=some (v,st')){k:V→St→Prop}(hk:k v st'):dA C M f args st k:=
 ⟨1,Je hC ha hp hk⟩
end
theorem rL:∀ a b:By,Lib.compareBytes a b=n9 a b
 |[],[]=>rfl
 |[],_::_=>rfl
 |_::_,[]=>rfl
 |a::xs,b::ys=>by
  have ih:=rL xs ys;have hl:lt (a::xs) (b::ys)=(decide (a<b)||(!decide (b<a)&&lt xs ys)):=by
   show Op.bytesLess _ _=_;rw[Go.Proofs.bytesLess_eq];show _=(decide (a<b)||(!decide (b<a)&&Op.bytesLess xs ys));rw[Go.Proofs.bytesLess_eq];rw[Bool.eq_iff_iff];simp only[decide_eq_true_eq,Bool.or_eq_true,bC,Bool.not_eq_true',decide_eq_false_iff_not];rw[List.cons_lt_cons_iff];constructor
   ·rintro(h|⟨h,h2⟩)
    ·exact .inl h
    ·subst h;exact .inr ⟨UInt8.lt_irrefl a,h2⟩
   ·rintro(h|⟨h,h2⟩)
    ·exact .inl h
    ·by_cases hab:a<b
     ·exact .inl hab
     ·exact .inr ⟨UInt8.le_antisymm (UInt8.not_lt.1 h) (UInt8.not_lt.1 hab),h2⟩
  unfold Lib.compareBytes n9;rw[hl];by_cases h1:a<b
  ·simp[h1]
  ·by_cases h2:b<a
   ·have:¬a=b:=fun e=>by subst e;exact h1 h2
    have hb:(a==b)=false:=by simpa using this
    simp[h1,h2,hb]
   ·have:a=b:=UInt8.le_antisymm (UInt8.not_lt.1 h2) (UInt8.not_lt.1 h1);subst this;rw[if_neg h1,if_neg h1,ih];unfold n9;simp[h1]
def Qy:List V→St→Option (V×St):=fun vs s=>match vs with
 |[.str a,.str b]=>some (.int .i64 (n9 a b),s)
 |_=>none
theorem J4{P:Program}{f:Nat}(hfn:∃ fn b,P.funcs[f]? =some fn∧fn.body=some b∧(fn.name== "runtime.NumGoroutine")=false)
  (hS:∀ (a b:ByteArray) (w:World),Calls P f #[.string a,.string b] w fun e w' =>e=.returned (.int .i64 (Lib.compareBytes a.data.toList b.data.toList))∧w' =w) (w0:World):DY P w0 f 2 Qy:=by
 refine⟨hfn,?_⟩;intro args s v s' ρ w args' hl hp hR hA;unfold Qy at hp;split at hp
 case h_2=>cases hp
 rename_i a b;simp only[ai,aJ]at hp;obtain⟨rfl,rfl⟩:=hp;obtain⟨x,xs,rfl,hx,hxs⟩:=hA.bx;obtain⟨y,ys,rfl,hy,hys⟩:=hxs.bx;obtain rfl:=hys.dY;cases hx with
 |str hx=>
  cases hy with
  |str hy=>
   rename_i sa sb;refine(hS sa sb w).mono ?_;rintro e w' ⟨rfl,rfl⟩;refine⟨ρ,_,rfl,hR,jO.refl _ _ _,?_⟩;have e:n9 a b=Lib.compareBytes sa.data.toList sb.data.toList:=by rw[rL];simp[hx,hy]
   rw[e];exact .int _ _
theorem qav{C:Nat→Option ck}{M:oW}{f:Nat}(hC:C f=some (qh 2 Qy)):V9 (dA C M) f Wp:=by
 intro us h fl r h' fl' hp σ Z ω st vs hk hfl ht hlu;unfold Wp at hp;split at hp
 case h_2=>cases hp
 rename_i a b;simp only[ai,aJ]at hp;obtain⟨rfl,rfl,rfl⟩:=hp;obtain⟨x,xs,rfl,hx,hxs⟩:=hlu.bx;obtain⟨y,ys,rfl,hy,hys⟩:=hxs.bx;obtain rfl:=hys.dY;cases hx;cases hy;exact j7 hC rfl (v:=.int .i64 (n9 a b)) (st' :=st) rfl ⟨hfl,σ,Z,ω,hk,fun d _=>ht d,.int _ _⟩
end Go.RE
