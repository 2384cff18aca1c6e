/- What an operation with a cache over any view asks, tells and changes: those that change. -/
import Derived.Test.YtigkmaeaoaejiaaGreatDoorPart15
import Derived.Test.YtigkmaeaoaejiaaGreatDoorPart12
set_option linter.unusedVariables false
set_option linter.unusedSimpArgs false
set_option linter.unnecessarySimpa false
namespace Go.RE
variable{M:eA}{Q:fq}{Pm:gU}
def PA.w:PA→List Cg
 | .err _=>[]
 | .lU l=>l
theorem AN{h:List Uo}{c t i m cl:Nat}{ms:List bL}(hc:iO h c t i m ms cl)(a:PA):oA h m (ms,cl) a=h.set m (mb (a.w.foldl cx (ms,cl))):=by
 cases a with
 |err f=>exact hc.self.symm
 |lU l=>rfl
theorem DU(a:PA):(eO a).l=[]:=by cases a<;>rfl
theorem jI{o:nc}(a:PA)(hfl:a.vQ)(hask:(eO a).e.asks=false)(hcg:∀ w∈a.w,Eu w)(hlen:a.w.length≤4)(hro:o.dd≤8→o.dd≠2→o.dd≠3→a.w=[])
  (hrun:∀ {h:List Uo} {fl c t i m cl:Nat} {ms:List bL},iO h c t i m ms cl→fl≤h.length→gF ah M Q Pm 35 [.ptr c 0,.agg (cJ o)] h fl=some (.agg (bC (eO a)),oA h m (ms,cl) a,fl)):∃ q F W,gM M Q Pm o q F W:=
 ⟨.no,fun _=>eO a,fun _=>a.w,fun {h fl c t i m cl ms Vp g sc} hv hc hV hf hml=>(by rw[hrun hc hf,AN hc]),fun _=>hcg,fun _=>hlen,fun _ _=>hask,.inl rfl,fun h1 h2 h3 _=>hro h1 h2 h3,fun _ _=>⟨[],DU a,by simp⟩⟩
theorem qlX(hp:aG Pm)(hq:cI Q)(hcl:Pm 49=some bU)(ha:Pm 97=some pq)(o:nc)(ho:o.dd=2)(hB:BU o):∃ q F W,gM M Q Pm o q F W:=by
 obtain⟨key,e,hk,hkl⟩:=rB (M:=M) (Q:=Q) (Pm:=Pm) hp hq o.r hB.a hB.b hB.c hB.d hB.x hB.y hB.z;by_cases he:e=0
 ·subst he;refine jI (.lU [(key,false,o.data)]) trivial rfl (fun w hw=> ?_) (by simp[PA.w]) (fun _ h=>absurd ho h) fun {h fl c t i m cl ms} hc hf=> ?_
  ·simp[PA.w]at hw;subst hw;exact⟨hB.da,fun h=>(by cases h),hkl⟩
  ·exact d2 hp hq ha o ho trivial hc hf (zO hp hq hcl hk hB.da (kC hc o) (eZ hf o))
 ·refine jI (.err (cW o.r.k e)) (nY _ _) rfl (fun w hw=>(by cases hw)) (by simp[PA.w]) (fun _ h=>absurd ho h) fun {h fl c t i m cl ms} hc hf=> ?_;exact d2 hp hq ha o ho (nY _ _) hc hf (qeG hp hq he hk (kC hc o) (eZ hf o))
theorem qlf(hp:aG Pm)(hq:cI Q)(ha:Pm 97=some pq)(o:nc)(ho:o.dd=3)(hB:BU o):∃ q F W,gM M Q Pm o q F W:=by
 obtain⟨key,e,hk,hkl⟩:=rB (M:=M) (Q:=Q) (Pm:=Pm) hp hq o.r hB.a hB.b hB.c hB.d hB.x hB.y hB.z;by_cases he:e=0
 ·subst he;refine jI (.lU [(key,true,[])]) trivial rfl (fun w hw=> ?_) (by simp[PA.w]) (fun _ _ h=>absurd ho h) fun {h fl c t i m cl ms} hc hf=> ?_
  ·simp[PA.w]at hw;subst hw;exact⟨show(0:Nat)<small by decide,fun _=>rfl,hkl⟩
  ·exact d3 hp hq ha o ho trivial hc hf (Lw hp hq hk (kC hc o) (eZ hf o))
 ·refine jI (.err (cW o.r.k e)) (nY _ _) rfl (fun w hw=>(by cases hw)) (by simp[PA.w]) (fun _ _ h=>absurd ho h) fun {h fl c t i m cl ms} hc hf=> ?_;exact d3 hp hq ha o ho (nY _ _) hc hf (qcU hp hq he hk (kC hc o) (eZ hf o))
theorem MK(r:Rn)(key:By)(e:Int)(d:By)(hk:key.length<small)(hd:d.length<small):(H8 r key e d).all.vQ∧(eO (H8 r key e d).all).e.asks=false∧(∀ w∈(H8 r key e d).all.w,Eu w)∧(H8 r key e d).all.w.length≤4:=by
 unfold H8;split
 ·split
  ·exact⟨nY _ _,rfl,fun w hw=>(by cases hw),(by simp[SA.all,PA.w])⟩
  ·refine⟨trivial,rfl,fun w hw=> ?_,by simp[SA.all,PA.w]⟩;simp[SA.all,PA.w]at hw;subst hw;exact⟨hd,fun h=>(by cases h),hk⟩
 ·exact⟨nY _ _,rfl,fun w hw=>(by cases hw),(by simp[SA.all,PA.w])⟩
theorem qkQ(hp:aG Pm)(hq:cI Q)(hcl:Pm 49=some bU)(ha:Pm 97=some pq)(o:nc)(ho:o.dd=9)(hB:BU o):∃ q F W,gM M Q Pm o q F W:=by
 obtain⟨key,e,hk,hkl⟩:=rB (M:=M) (Q:=Q) (Pm:=Pm) hp hq (eP o.r.d) (by simp[eP]) (by simp[eP]) (by simp[eP]) hB.d (by simp[eP]) (by simp[eP]) (by simp[eP]);obtain⟨b,hb,hbl⟩:=t123 (M:=M) (Q:=Q) (Pm:=Pm) hp hq o.x hB.xd hB.xc hB.xv hB.xn;have hbs:b.length<small:=by unfold small;omega
 obtain⟨g1,g2,g3,g4⟩:=MK (eP o.r.d) key e b hkl hbs;refine jI _ g1 g2 g3 g4 (fun h=>by omega) fun {h fl c t i m cl ms} hc hf=> ?_;have hS:=qgN (M:=M) (Q:=Q) (Pm:=Pm) hp hq hcl hk hbs ((kC hc o).app [.row (kG o.x)]) (jL (eZ hf o) _);exact d9 hp hq ha o ho g1 hc hf (x72 hp hq hb (kC hc o) (eZ hf o) hS).all
theorem qiV(hp:aG Pm)(hq:cI Q)(hcl:Pm 49=some bU)(ha:Pm 97=some pq)(o:nc)(ho:o.dd=10)(hB:BU o):∃ q F W,gM M Q Pm o q F W:=by
 obtain⟨key,e,hk,hkl⟩:=rB (M:=M) (Q:=Q) (Pm:=Pm) hp hq (kI o.r.d o.r.x) (by simp[kI]) (by simp[kI]) (by simp[kI]) hB.d hB.x (by simp[kI]) (by simp[kI]);obtain⟨b,hb,hbl⟩:=t124 (M:=M) (Q:=Q) (Pm:=Pm) hp hq o.t hB.ts;have hbs:b.length<small:=by unfold small;omega
 obtain⟨g1,g2,g3,g4⟩:=MK (kI o.r.d o.r.x) key e b hkl hbs;refine jI _ g1 g2 g3 g4 (fun h=>by omega) fun {h fl c t i m cl ms} hc hf=> ?_;have hS:=qgN (M:=M) (Q:=Q) (Pm:=Pm) hp hq hcl hk hbs ((kC hc o).app [.row (lI o.t)]) (jL (eZ hf o) _);exact d10 hp hq ha o ho g1 hc hf (x73 hp hq hb (kC hc o) (eZ hf o) hS).all
theorem qiS(hp:aG Pm)(hq:cI Q)(hcl:Pm 49=some bU)(ha:Pm 97=some pq)(o:nc)(ho:o.dd=11)(hB:BU o):∃ q F W,gM M Q Pm o q F W:=by
 obtain⟨key,e,hk,hkl⟩:=rB (M:=M) (Q:=Q) (Pm:=Pm) hp hq (gA o.r.d o.v.name) hB.vn (by simp[gA]) (by simp[gA]) hB.d (by simp[gA]) (by simp[gA]) (by simp[gA]);obtain⟨e2,h125⟩:=qdp (M:=M) (Q:=Q) (Pm:=Pm) hp o.v.kind o.v.n o.v.s;obtain⟨b,h126,hbl⟩:=qms (M:=M) (Q:=Q) (Pm:=Pm) hp hq o.v.kind o.v.n o.v.s hB.vs;have hbs:b.length<small:=by unfold small;omega
 have hrun:∀ {h:List Uo} {fl c t i m cl:Nat} {ms:List bL},iO h c t i m ms cl→fl≤h.length→_:=fun {h fl c t i m cl ms} hc hf=>(x74 (M:=M) (Q:=Q) (Pm:=Pm) (t:=t) (i:=i) (m:=m) (ms:=ms) (cl:=cl) hp hq hcl hk h125 h126 hbs (kC hc o) (eZ hf o)).all;by_cases he:e=0
 ·by_cases he2:e2=0
  ·refine jI (.lU [(key,false,b)]) trivial rfl (fun w hw=> ?_) (by simp[PA.w]) (fun h=>by omega) fun {h fl c t i m cl ms} hc hf=> ?_
   ·simp[PA.w]at hw;subst hw;exact⟨hbs,fun h=>(by cases h),hkl⟩
   ·have hr:=hrun hc hf;rw[if_pos he,if_pos he2]at hr;exact d11 hp hq ha o ho trivial hc hf hr
  ·refine jI (.err (cW 118 e2)) (nY _ _) rfl (fun w hw=>(by cases hw)) (by simp[PA.w]) (fun h=>by omega) fun {h fl c t i m cl ms} hc hf=> ?_;have hr:=hrun hc hf;rw[if_pos he,if_neg he2]at hr;exact d11 hp hq ha o ho (nY _ _) hc hf hr
 ·refine jI (.err (cW 118 e)) (nY _ _) rfl (fun w hw=>(by cases hw)) (by simp[PA.w]) (fun h=>by omega) fun {h fl c t i m cl ms} hc hf=> ?_;have hr:=hrun hc hf;rw[if_neg he]at hr;exact d11 hp hq ha o ho (nY _ _) hc hf hr
theorem qgI(hp:aG Pm)(hq:cI Q)(o:nc)(ho:o.dd<0∨13<o.dd):∃ q F W,gM M Q Pm o q F W:=
 jI (.lU []) trivial rfl (fun w hw=>(by cases hw)) (by simp[PA.w]) (fun _ _ _=>rfl) fun {h fl c t i m cl ms} hc hf=>(by
  have:=qls (M:=M) (Q:=Q) (Pm:=Pm) (c:=c) hp hq o ho hf;rw[AN hc,show(PA.lU []).w=[]from rfl,mw hc];exact this)
end Go.RE
namespace Go.RE
variable{M:eA}{Q:fq}{Pm:gU}
def ArL(x:Ar):Prop:=x.name.length≤1048576∧x.key.length≤1048576∧∃ d:Nat,x.due=(d:Int)∧d<18446744073709551616
theorem ArB.l{x:Ar}(h:ArB x):ArL x:=⟨by have:=h.1;omega,by have:=h.2.1;omega,h.2.2⟩
theorem qmd(s:By)(y z:Nat)(x:Ar)(d:Nat):∃ r:Rn,X3 s y z x d=bg r:=by
 unfold X3;split
 ·exact⟨⟨122,[],[],[],s,y,z,d⟩,rfl⟩
 ·split
  ·exact⟨⟨109,x.name,x.key,[],s,y,z,0⟩,rfl⟩
  ·exact⟨⟨115,x.name,[],[],s,y,z,0⟩,rfl⟩
def qjj(M:eA)(Q:fq)(Pm:gU)(s:By)(y z:Nat)(kx:Ar→By):Prop:=
 ∀ x,(kx x).length<small∧(ArL x→∃ d:Nat,x.due=(d:Int)∧∃ r:Rn,X3 s y z x d=bg r∧kS M Q Pm r (kx x) 0)
theorem qhx(hp:aG Pm)(hq:cI Q)(s:By)(y z:Nat)(hs:s.length≤1048576)(hy:y<18446744073709551616)(hz:z<18446744073709551616):∃ kx,qjj M Q Pm s y z kx:=by
 have h:∀ x:Ar,∃ key:By,key.length<small∧(ArL x→∃ d:Nat,x.due=(d:Int)∧∃ r:Rn,X3 s y z x d=bg r∧kS M Q Pm r key 0):=fun x=>by
  by_cases hx:ArL x
  ·obtain⟨h1,h2,d,h3,h4⟩:=hx;obtain⟨key,k1,k2⟩:=qcK (M:=M) (Q:=Q) (Pm:=Pm) hp hq s y z d x hs h1 h2 hy hz h4;obtain⟨r,hr⟩:=qmd s y z x d;exact⟨key,k2,fun _=>⟨d,h3,r,hr,by unfold MJ at k1;rw[hr]at k1;exact k1⟩⟩
  ·exact⟨[],by decide,fun h=>absurd h hx⟩
 exact⟨fun x=>(h x).choose,fun x=>(h x).choose_spec⟩
def qiN(M:eA)(Q:fq)(Pm:gU)(T:By→Ar×Int):Prop:=∀ b:By,b.length<small→gF ah M Q Pm 117 [.sl 1 (az b)] [] 0=some (.aP [.agg (bV (T b).1),.int .i64 (T b).2],[],0)∧ArB (T b).1∧((T b).2=0→BV (T b).1)
theorem qjn(hp:aG Pm)(hq:cI Q):∃ T,qiN M Q Pm T:=
 DB (⟨0,[],[],0⟩:Ar) (R:=fun b y=>gF ah M Q Pm 117 [.sl 1 (az b)] [] 0=some (.aP [.agg (bV y.1),.int .i64 y.2],[],0)∧ArB y.1∧(y.2=0→BV y.1)) fun b hb=>qjc b hb hp hq
section
variable{h:List Uo}{fl c t i m cl:Nat}{ms:List bL}{Vp:List Uo→Prop}{g:By→Option (Option By)}{sc:By→By→Option (List Pr)}
theorem Hv(hp:aG Pm)(hq:cI Q)(hcl:Pm 49=some bU){s:By}{y z:Nat}{ka:By}{kx:Ar→By}{T:By→Ar×Int}(hka:kS M Q Pm (dJ s y z) ka 0)(hla:ka.length<small)(hkx:qjj M Q Pm s y z kx)(hT:qiN M Q Pm T)
  (hv:PK M Q Pm t i m Vp g sc) (hc:iO h c t i m ms cl) (hV:Vp h) (hf:fl≤h.length):
  gQ (gF ah M Q Pm) 76 [.ptr c 0,.str s,.int .u64 (y:Int),.int .u64 (z:Int)] h fl m (ms,cl) (jF ka kx (cB (dJ s y z) T (kY (dJ s y z) ka 0 (eG ms g ka)))):=by
 have hc2:=hc.app [.row bP];have hV2:=hv.app _ [.row bP] hV;have hc3:=hc2.app [.row (bg (dJ s y z)),.row bP,.row bP];have hV3:=hv.app _ [.row (bg (dJ s y z)),.row bP,.row bP] hV2;have hG:=x64 hp hq hcl hv hka hc3 hV3 (jL (jL hf _) _);have hfew:=wM hv hc.ok (dJ s y z) ka 0;have hTk:=qhB hp hq (dJ s y z) T (fun d hd=>(hT d hd).1) hfew hc2 (jL hf _) hG;have hr:=x70 hp hq hc hf hTk;refine x76 hp hq hka hla (fun x hx=> ?_) hc hf hr;have:ArB x∧BV x:=by
  revert hfew hx;cases kY (dJ s y z) ka 0 (eG ms g ka)with
  |err f=>intro _ h;cases h
  |val v=>
   cases v with
   |none=>intro _ h;cases h
   |some d=>
    intro hd hx;simp only[cB]at hx;split at hx
    ·rename_i he;injection hx with hx
     rw[←hx];exact⟨(hT d hd).2.1,(hT d hd).2.2 he⟩
    ·cases hx
 exact⟨this.2,(hkx x).2 this.1.l⟩
end
theorem Gw(ka:By)(kx:Ar→By)(hla:ka.length<small)(hkx:∀ x,(kx x).length<small)(a:TA Ar)(ha:a.vQ):(jF ka kx a).vQ∧(∀ w∈(jF ka kx a).w,Eu w)∧(jF ka kx a).w.length≤2:=by
 cases a with
 |err f=>exact⟨ha,fun w hw=>(by cases hw),by simp[jF,PA.w]⟩
 |no=>exact⟨trivial,fun w hw=>(by cases hw),by simp[jF,PA.w]⟩
 |yes x=>
  refine⟨trivial,fun w hw=> ?_,by simp[jF,PA.w]⟩;simp[jF,PA.w]at hw;rcases hw with rfl|rfl
  ·exact⟨show(0:Nat)<small by decide,fun _=>rfl,hla⟩
  ·exact⟨show(0:Nat)<small by decide,fun _=>rfl,hkx x⟩
theorem Vh(ka:By)(kx:Ar→By)(r:Rn)(T:By→Ar×Int)(v:Option By):(eO (jF ka kx (cB r T (.val v)))).e.asks=false:=by
 cases v with
 |none=>rfl
 |some d=>simp only[cB];split<;>rfl
theorem qgF(hp:aG Pm)(hq:cI Q)(hcl:Pm 49=some bU)(ha:Pm 97=some pq)(o:nc)(ho:o.dd=13)(hB:BU o):∃ q F W,gM M Q Pm o q F W:=by
 obtain⟨ka,hka,hla⟩:=Mg (M:=M) (Q:=Q) (Pm:=Pm) hp hq o.r.d o.r.x o.r.y hB.d hB.x hB.y;obtain⟨kx,hkx⟩:=qhx (M:=M) (Q:=Q) (Pm:=Pm) hp hq o.r.d o.r.x o.r.y hB.d hB.x hB.y;obtain⟨T,hT⟩:=qjn (M:=M) (Q:=Q) (Pm:=Pm) hp hq;have hok:=fun a ha=>Gw ka kx hla (fun x=>(hkx x).1) a ha;refine⟨.get ka,(fun a=>match a with| .got v=>eO (jF ka kx (cB (dJ o.r.d o.r.x o.r.y) T (.val v)))| .asked=>eO (.err (oF 97 ka ka))|_=>bE),(fun a=>match a with| .got v=>(jF ka kx (cB (dJ o.r.d o.r.x o.r.y) T (.val v))).w|_=>[]),fun {h fl c t i m cl ms Vp g sc} hv hc hV hf hml=> ?_,fun a=> ?_,fun a=> ?_,fun a h=> ?_,.inr ⟨97,rfl⟩,fun h=>(by omega),fun a _=>⟨[],(by cases a<;>first|rfl|exact DU _),by simp⟩⟩
 ·have hr:=Hv hp hq hcl hka hla hkx hT hv (kC hc o) (hv.app _ _ hV) (eZ hf o);have hfl:=(hok _ (fE (dJ o.r.d o.r.x o.r.y) T (jM (dJ o.r.d o.r.x o.r.y) ka 0 (eG ms g ka)))).1;rw[d13 hp hq ha o ho hfl hc hf hr,AN hc];simp only[kY,if_true,jz];cases eG ms g ka<;>rfl
 ·cases a with
  |got v=>exact(hok _ (fE _ _ (a:=.val v) trivial)).2.1
  |_=>intro w hw;cases hw
 ·cases a with
  |got v=>exact Nat.le_trans (hok _ (fE (dJ o.r.d o.r.x o.r.y) T (a:=.val v) trivial)).2.2 (by decide)
  |_=>show(0:Nat)≤4;omega
 ·cases a with
  |got v=>exact Vh _ _ _ _ _
  |asked=>exact absurd rfl h
  |_=>rfl
theorem Hs(ka kx:By)(a:PA):fP [] ka kx a=.err (cW 97 1):=by cases a<;>rfl
theorem LV(b ka kx:By)(hb:b≠[])(hbs:b.length<small)(hla:ka.length<small)(hlx:kx.length<small)(a:PA)(h1:a.vQ)(h2:∀ w∈a.w,Eu w)(h3:a.w.length≤2):(fP b ka kx a).vQ∧(∀ w∈(fP b ka kx a).w,Eu w)∧(fP b ka kx a).w.length≤4:=by
 cases a with
 |err f=>simp only[fP,if_neg hb];exact⟨h1,fun w hw=>(by cases hw),by simp[PA.w]⟩
 |lU l=>
  simp only[fP,if_neg hb];refine⟨trivial,fun w hw=> ?_,by simp[PA.w]at h3⊢;omega⟩;simp only[PA.w,ic]at hw;rcases hw with hw|hw
  ·exact h2 w hw
  ·simp at hw;rcases hw with rfl|rfl
   ·exact⟨hbs,fun h=>(by cases h),hla⟩
   ·exact⟨show(0:Nat)<small by decide,fun h=>(by cases h),hlx⟩
theorem qit(hp:aG Pm)(hq:cI Q)(hcl:Pm 49=some bU)(ha:Pm 97=some pq)(o:nc)(ho:o.dd=12)(hB:BU o):∃ q F W,gM M Q Pm o q F W:=by
 obtain⟨ka,hka,hla⟩:=Mg (M:=M) (Q:=Q) (Pm:=Pm) hp hq o.r.d o.r.x o.r.y hB.d hB.x hB.y;obtain⟨kx,hkx⟩:=qhx (M:=M) (Q:=Q) (Pm:=Pm) hp hq o.r.d o.r.x o.r.y hB.d hB.x hB.y;obtain⟨T,hT⟩:=qjn (M:=M) (Q:=Q) (Pm:=Pm) hp hq;obtain⟨dn,hd1,hd2⟩:=hB.ad;obtain⟨b,h127,hbl,hbK⟩:=qk1 (M:=M) (Q:=Q) (Pm:=Pm) hp hq o.a (by have:=hB.an;omega) (by have:=hB.ak;omega) dn hd1 hd2;have hbs:b.length<small:=by unfold small;omega
 have hok:=fun a ha=>Gw ka kx hla (fun x=>(hkx x).1) a ha;have hxl:=(hkx o.a).1;have run:∀ {h:List Uo} {fl c t i m cl:Nat} {ms:List bL} {Vp:List Uo→Prop} {g:By→Option (Option By)} {sc:By→By→Option (List Pr)},PK M Q Pm t i m Vp g sc→iO h c t i m ms cl→Vp h→fl≤h.length→
   gQ (gF ah M Q Pm) 75 [.ptr c 0,.str o.r.d,.int .u64 (o.r.x:Int),.int .u64 (o.r.y:Int),.agg (bV o.a)] (hD h o) fl m (ms,cl) (fP b ka (kx o.a) (jF ka kx (cB (dJ o.r.d o.r.x o.r.y) T (kY (dJ o.r.d o.r.x o.r.y) ka 0 (eG ms g ka))))):=by
  intro h fl c t i m cl ms Vp g sc hv hc hV hf;have hc1:=kC hc o;have hV1:=hv.app h [.row (cJ o),.row nP,.row nP,.row (bg o.r)] hV;have hD:=Hv hp hq hcl hka hla hkx hT hv (hc1.app [.row (bV o.a),.row (bg (dJ o.r.d o.r.x o.r.y))]) (hv.app _ _ hV1) (jL (eZ hf o) _);have hcg:=(hok _ (fE (dJ o.r.d o.r.x o.r.y) T (jM (dJ o.r.d o.r.x o.r.y) ka 0 (eG ms g ka)))).2.1;refine x75 hp hq hcl hka hla h127 hbs (fun h=>⟨hbK h,(hkx o.a).2 ⟨hB.an,hB.ak,hB.ad⟩⟩) (fun l hl w hw=> ?_) hc1 (eZ hf o) hD;rw[hl]at hcg;exact hcg w hw
 by_cases hb:b=[]
 ·refine⟨.no,fun _=>eO (.err (cW 97 1)),fun _=>[],fun {h fl c t i m cl ms Vp g sc} hv hc hV hf hml=> ?_,fun _ w h=>(by cases h),fun _=>(by simp),fun a h=>rfl,.inl rfl,fun _ _ _ _=>rfl,fun a _=>⟨[],rfl,by simp⟩⟩;have hr:=run hv hc hV hf;rw[hb,Hs]at hr;rw[d12 hp hq ha o ho (a:=.err (cW 97 1)) (nY _ _) hc hf hr,mw hc,AN hc,show(PA.err (cW 97 1)).w=[]from rfl,mw hc]
 ·have hok2:=fun a ha=>LV b ka (kx o.a) hb hbs hla hxl _ (hok a ha).1 (hok a ha).2.1 (hok a ha).2.2;refine⟨.get ka,(fun a=>match a with| .got v=>eO (fP b ka (kx o.a) (jF ka kx (cB (dJ o.r.d o.r.x o.r.y) T (.val v))))| .asked=>eO (.err (oF 97 ka ka))|_=>bE),(fun a=>match a with| .got v=>(fP b ka (kx o.a) (jF ka kx (cB (dJ o.r.d o.r.x o.r.y) T (.val v)))).w|_=>[]),fun {h fl c t i m cl ms Vp g sc} hv hc hV hf hml=> ?_,fun a=> ?_,fun a=> ?_,fun a h=> ?_,.inr ⟨97,rfl⟩,fun h=>(by omega),fun a _=>⟨[],(by cases a<;>first|rfl|exact DU _),by simp⟩⟩
  ·have hr:=run hv hc hV hf;have hfl:=(hok2 _ (fE (dJ o.r.d o.r.x o.r.y) T (jM (dJ o.r.d o.r.x o.r.y) ka 0 (eG ms g ka)))).1;rw[d12 hp hq ha o ho hfl hc hf hr,AN hc];simp only[kY,if_true,jz];cases eG ms g ka with
   |none=>simp only[cB,jF,fP,if_neg hb];rfl
   |some v=>rfl
  ·cases a with
   |got v=>exact(hok2 _ (fE _ _ (a:=.val v) trivial)).2.1
   |_=>intro w hw;cases hw
  ·cases a with
   |got v=>exact(hok2 _ (fE (dJ o.r.d o.r.x o.r.y) T (a:=.val v) trivial)).2.2
   |_=>show(0:Nat)≤4;omega
  ·cases a with
   |got v=>
    cases v with
    |none=>simp only[cB,jF,fP,if_neg hb];rfl
    |some d=>
     simp only[cB];split
     ·simp only[jF,fP,if_neg hb];rfl
     ·simp only[jF,fP,if_neg hb];rfl
   |asked=>exact absurd rfl h
   |_=>rfl
theorem UD(hp:aG Pm)(hq:cI Q)(hsq:Q 90=some nT)(hcl:Pm 49=some bU)(ha:Pm 97=some pq)(o:nc)(hB:BU o):∃ q F W,gM M Q Pm o q F W:=by
 by_cases h:o.dd<0∨13<o.dd
 ·exact qgI hp hq o h
 ·have:o.dd=0∨o.dd=1∨o.dd=2∨o.dd=3∨o.dd=4∨o.dd=5∨o.dd=6∨o.dd=7∨o.dd=8∨o.dd=9∨o.dd=10∨o.dd=11∨o.dd=12∨o.dd=13:=by omega
  rcases this with h|h|h|h|h|h|h|h|h|h|h|h|h|h
  ·exact qln hp hq hcl ha o h hB
  ·exact do_1 hp hq hsq hcl ha o h hB
  ·exact qlX hp hq hcl ha o h hB
  ·exact qlf hp hq ha o h hB
  ·exact qlQ hp hq hcl ha o h hB
  ·exact qj9 hp hq hcl ha o h hB
  ·exact qlU hp hq hcl ha o h hB
  ·exact qka hp hq hcl ha o h hB
  ·exact qmv hp hq hcl ha o h hB
  ·exact qkQ hp hq hcl ha o h hB
  ·exact qiV hp hq hcl ha o h hB
  ·exact qiS hp hq hcl ha o h hB
  ·exact qit hp hq hcl ha o h hB
  ·exact qgF hp hq hcl ha o h hB
end Go.RE
namespace Go.RE
variable{M:eA}{Q:fq}{Pm:gU}
def gT(es:List dK)(k:By):Option (Option By):=some ((dZ k es).map (·.d))
def Gd(P:List Pr)(lo hi:By):Option (List Pr):=some (P.filter fun x=>has lo hi x.1)
theorem NF{es:List dK}{P:List Pr}(h:Rl es P)(k d:By):(dZ k es).map (·.d)=some d↔(k,d)∈P:=by
 rw[h.mem];constructor
 ·intro he;cases hx:dZ k es with
  |none=>rw[hx]at he;cases he
  |some e=>
   rw[hx]at he;simp only[Option.map,ay]at he;have hm:=B8 hx;have hk:=List.find?_some hx;exact⟨e,hm,eq_of_beq hk,he⟩
 ·rintro⟨e,he,rfl,rfl⟩;rw[K8 h.nd he];rfl
theorem D3 (hp : aG Pm) (hq : cI Q) (hsq : Q 90 = some nT) (hcl : Pm 49 = some bU) (hm1 : M 26 "Get" = some 19) (hm2 : M 26 "Scan" = some 21) {i mt m ec : Nat} {es : List dK} {P : List Pr} (hT : ju es ec) (hR : Rl es P) (hl : es.length < small) (hPl : P.length ≤ 1000000) (hPk : ∀ p ∈ P, p.1.length < small ∧ p.2.length < small) (h1 : m ≠ i) (h2 : m ≠ mt) :
  PK M Q Pm 26 i m (fun h=>h[i]? =some (.row [.map mt])∧h[mt]? =some (.map (es.map fe) ec)) (gT es) (Gd P):=by
 refine⟨⟨19,hm1,fun h fl k hv hf=> ?_⟩,⟨21,hm2,fun h fl lo hi hv hf=> ?_⟩,fun h hv=>(cz.1 hv.1).1,fun h l hv=>⟨bl hv.1,bl hv.2⟩,fun h x hv=>⟨by rw[List.getElem?_set_ne h1];exact hv.1,by rw[List.getElem?_set_ne h2];exact hv.2⟩,fun k d hk=> ?_,fun lo hi l hsc=> ?_⟩
 ·rw[t19 hp hq hcl es ec mt i hT k h fl hf hv.1 hv.2];simp only[gT,mV];cases dZ k es<;>simp[vgR,aB]
 ·rw[t21 hp hq hsq hcl es ec mt i lo hi hT hl h fl hf hv.1 hv.2,qb2 hR];rfl
 ·simp only[gT,ay]at hk;cases he:dZ k es with
  |none=>rw[he]at hk;cases hk
  |some e=>
   rw[he]at hk;simp only[Option.map,ay]at hk;rw[←hk];exact hT.dat e (B8 he)
 ·simp only[Gd,ay]at hsc;subst hsc;refine⟨eY hR.XW _,Nat.le_trans (List.length_filter_le _ _) hPl,fun p hp=>hPk p (List.mem_filter.1 hp).1⟩
def YK(ms:List bL):List bL:=(dy (ms.map (·.k))).map fun k=>(di k ms).getD default
def fZ(ms:List bL):List Wr:=(YK ms).map fun e=>(e.k,e.g,e.d)
theorem QW{ms:List bL}(hn:(ms.map (·.k)).Nodup){e:bL}(he:e∈ms):di e.k ms=some e:=by
 induction ms with
 |nil=>cases he
 |cons a ms ih=>
  simp only[List.map_cons,List.nodup_cons]at hn;unfold di;rw[List.find?_cons];rcases eB.1 he with h1|h1
  ·rw[h1];simp
  ·have:(a.k==e.k)=false:=by
    rw[beq_eq_false_iff_ne];intro hh;exact hn.1 (by rw[hh];exact fh.2 ⟨e,h1,rfl⟩)
   rw[this];exact ih hn.2 h1
theorem Xx(a:By):∀ l,(k8 a l).Perm (a::l):=by
 intro l
 induction l with
 |nil=>exact List.Perm.refl _
 |cons x l ih=>
  simp only[k8];split
  ·exact(ih.cons x).trans (List.Perm.swap a x l)
  ·exact List.Perm.refl _
theorem CC:∀ l:List By,(dy l).Perm l:=by
 intro l
 induction l with
 |nil=>exact List.Perm.refl _
 |cons a l ih=>
  show(k8 a (dy l)).Perm _;exact(Xx a _).trans (ih.cons a)
theorem pH{ms:List bL}(hn:(ms.map (·.k)).Nodup):(YK ms).Perm ms:=by
 unfold YK;have h1:=(CC (ms.map (·.k))).map fun k=>(di k ms).getD default;refine h1.trans ?_;rw[List.map_map];have h2:ms.map ((fun k=>(di k ms).getD default)∘(·.k))=ms:=by
  conv=>rhs;rw[←List.map_id ms]
  refine List.map_congr_left fun e he=> ?_;simp[QW hn he]
 rw[h2]
theorem Pj(P:List Pr)(vis:List bL):xq P (vis.map fun e=>(e.k,e.g,e.d))=xD (fun _=>true) P vis:=by
 unfold xq xD;rw[List.foldl_map];rfl
theorem xS{P:List Pr}(h:ue P){ms:List bL}(hn:(ms.map (·.k)).Nodup):xq P (fZ ms)=xD (fun _=>true) P ms:=by
 unfold fZ;rw[Pj,Gz _ h (pH hn) hn]
theorem O0{P:List Pr}(h:ue P){ms:List bL}(hn:(ms.map (·.k)).Nodup)(lo hi:By):xD (has lo hi) (P.filter fun x=>has lo hi x.1) ms=(xD (fun _=>true) P ms).filter fun x=>has lo hi x.1:=by
 refine ur (yB _ _ (eY h _)) (eY (yB _ _ h) _) fun x=> ?_;have e2:x∈(xD (fun _=>true) P ms).filter (fun x=>has lo hi x.1)↔x∈xD (fun _=>true) P ms∧has lo hi x.1=true:=List.mem_filter;rw[vJ _ ms (eY h _) hn,e2,vJ _ ms h hn];cases hc:di x.1 ms with
 |none=>simp[List.mem_filter]
 |some e=>
  simp only[if_true];by_cases hh:has lo hi x.1=true
  ·rw[if_pos hh];simp[hh]
  ·rw[if_neg hh];simp[hh]
theorem Rh{es es1:List dK}{P:List Pr}(h:Rl es P){ms:List bL}(hn:(ms.map (·.k)).Nodup)(h1:Rl es1 (xD (fun _=>true) P ms))(k:By):eG ms (gT es) k=gT es1 k:=by
 unfold eG gT;have key:∀ d,(dZ k es1).map (·.d)=some d↔(match di k ms with|some e=>e.g=false∧d=e.d|none=>(dZ k es).map (·.d)=some d):=fun d=>by
  rw[NF h1,vJ _ ms h.XW hn];cases hc:di k ms with
  |none=>simp only[hc];rw[NF h]
  |some e=>simp[hc]
 cases hc:di k ms with
 |none=>
  simp only[hc]at key;have:(dZ k es1).map (·.d)=(dZ k es).map (·.d):=Option.ext fun d=>key d;rw[this]
 |some e=>
  simp only[hc]at key;cases hg:e.g with
  |true=>
   simp only[hg,if_true];have:(dZ k es1).map (·.d)=none:=by
    cases hx:(dZ k es1).map (·.d)with
    |none=>rfl
    |some d=>have:=(key d).1 hx;rw[hg]at this;cases this.1
   rw[this]
  |false=>
   have:(dZ k es1).map (·.d)=some e.d:=(key e.d).2 ⟨hg,rfl⟩;rw[this];simp[hg]
theorem Sm{es es1:List dK}{P:List Pr}(h:Rl es P){ms:List bL}(hn:(ms.map (·.k)).Nodup)(h1:Rl es1 (xD (fun _=>true) P ms))(q:Qy):jz ms (gT es) (Gd P) q=jz [] (gT es1) (Gd (xD (fun _=>true) P ms)) q:=by
 cases q with
 |no=>rfl
 |get k=>
  simp only[jz];rw[Rh h hn h1 k];rfl
 |scan lo hi=>
  simp only[jz,eS,Gd,Option.map];rw[O0 h.XW hn];rfl
end Go.RE
namespace Go.RE
variable{M:eA}{Q:fq}{Pm:gU}
theorem qh9(l:List nc)(hl:l.length<small)(K:Ex→Vs→Prop)(h0:K .normal ⟨[(0,.sl 27 (l.map cJ))],[],0⟩)(h1:∀ (e:Env) (h:List Uo),K .ret ⟨(2,.bool false)::e,h,0⟩):∀ (j q:Nat),q+j=l.length→
  gL ah M Q Pm UC 0 EA 0 ⟨[(8,.int .i64 (q:Int)),(6,.sl 27 (l.map cJ)),(0,.sl 27 (l.map cJ)),(7,.int .i64 (l.length:Int))],[],0⟩ K:=by
 intro j
 induction j with
 |zero=>
  intro q hij;have g1:¬((q:Int)<(l.length:Int)):=by omega
  rw[aq EA.eq_1];simp[Sk,g1];exact h0
 |succ j ih=>
  intro q hij;have g1:((q:Int)<(l.length:Int)):=by omega
  have hi1:q<l.length:=by omega
  have e1:(l.map cJ)[q]? =some (cJ l[q]):=by simp[hi1]
  have e3:aD .i64 ((q:Int)+1)=((q+1:Nat):Int):=cj (by unfold small at hl;omega);have ih' :=ih (q+1) (by omega);generalize l[q]=o at*;rw[aq EA.eq_1];simp only[cJ,bg,bJ,kG,lI,bV,nG,List.cons_append,List.nil_append]at e1;simp at ih';simp[Sk,qcc,qba,qaS,qcA,qbO,g1,eC e1,e3];split
  ·exact h1 _ _
  ·exact ih'
theorem x32(hp:aG Pm)(l:List nc)(hl:l.length<small):∃ b:Bool,gF ah M Q Pm 32 [.sl 27 (l.map cJ)] [] 0=some (.bool b,[],0)∧(b=true→l.length≤60):=by
 have h:=jx (VF:=ah) (M:=M) (Q:=Q) (Pm:=Pm) (fn:=UC) (f:=32) (us:=[.sl 27 (l.map cJ)]) (h:=[]) (fl:=0) (P:=fun r h fl=>h=[]∧fl=0∧∃ b:Bool,r=.bool b∧(b=true→l.length≤60)) (hp 32 (by decide) (by decide)) rfl rfl rfl (by
  simp[Ak,qbl,qbT];have:=qh9 (M:=M) (Q:=Q) (Pm:=Pm) l hl (l9 ah M Q Pm UC (.seq (.region Xr) .ret) (kX 0 UC fun r h fl=>h=[]∧fl=0∧∃ b:Bool,r=.bool b∧(b=true→l.length≤60))) (by simp[Xr];omega) (fun e h=>by simp) l.length 0 (by omega);simp at this;exact this)
 obtain⟨r,h,fl,h1,rfl,rfl,b,rfl,h2⟩:=h;exact⟨b,h1,h2⟩
theorem x61(hp:aG Pm)(k:By):gF ah M Q Pm 61 [.sl 1 [[.str k]],.sl 1 [[.str k]]] [] 0=some (.bool true,[],0):=by
 refine bq hp rfl rfl ?_;simp[uY,Tc,Wb,Q8,BC];rw[aq D0.eq_1];simp[Mj,qb7,qch,bn qc8,S7,Tf,RJ];rw[aq D0.eq_1];simp[Mj,BC]
theorem x30(hp:aG Pm)(hq:cI Q)(t:TE):gF ah M Q Pm 30 [.agg (oS t),.agg (oS t)] [] 0=some (.bool true,[],0):=by
 refine bq hp rfl rfl ?_;cases t with
 |no=>simp[sq,MI,N7,oS,Qc,hq,qjs hp]
 |code k e=>simp[sq,MI,N7,oS,hq,x61 hp [k]]
 |need k lo hi=>simp[sq,MI,N7,oS,hq,x61 hp [k]]
theorem qhp(hp:aG Pm)(hq:cI Q)(l:List (Rn×By))(hl:l.length<small)(K:Ex→Vs→Prop)(h0:K .normal ⟨[],[],0⟩):∀ (j q:Nat),q+j=l.length→
  gL ah M Q Pm XY 0 DZ 0 ⟨[(13,.int .i64 (q:Int)),(0,.sl 9 (l.map zy)),(1,.sl 9 (l.map zy)),(12,.int .i64 (l.length:Int))],[],0⟩ K:=by
 intro j
 induction j with
 |zero=>
  intro q hij;have g1:¬((q:Int)<(l.length:Int)):=by omega
  rw[aq DZ.eq_1];simp[Va,g1];exact h0
 |succ j ih=>
  intro q hij;have g1:((q:Int)<(l.length:Int)):=by omega
  have hi1:q<l.length:=by omega
  have e1:(l.map zy)[q]? =some (zy l[q]):=by simp[hi1]
  have e3:aD .i64 ((q:Int)+1)=((q+1:Nat):Int):=cj (by unfold small at hl;omega);have ih' :=ih (q+1) (by omega);generalize l[q]=p at*;have c23:=t23 (M:=M) (Q:=Q) (Pm:=Pm) (hp 23 (by decide) (by decide)) p.2 p.2;rw[aq DZ.eq_1];simp only[zy,bg,bJ,List.cons_append,List.nil_append]at e1;simp at ih' c23;simp[Va,qcm,qci,bn qeJ,Um,g1,eC e1,hq,c23,e3];exact ih'
theorem x63(hp:aG Pm)(hq:cI Q)(l:List (Rn×By))(hl:l.length<small):gF ah M Q Pm 63 [.sl 9 (l.map zy),.sl 9 (l.map zy)] [] 0=some (.bool true,[],0):=by
 refine bq hp rfl rfl ?_;have a:=qhp (M:=M) (Q:=Q) (Pm:=Pm) hp hq l hl (l9 ah M Q Pm XY (.seq (.region IG) .ret) (kE 0 XY (.bool true,[],0))) (by simp[IG]) l.length 0 (by omega);simp at a;simp[AW,qbD,qco,qaV];exact a
theorem x34(hp:aG Pm)(hq:cI Q)(t:Told)(fs:List (Rn×By))(h1:t.l=fs.map zy)(h2:fs.length<small):gF ah M Q Pm 34 [.agg (bC t),.agg (bC t)] [] 0=some (.bool true,[],0):=by
 refine bq hp rfl rfl ?_;have c23:=t23 (M:=M) (Q:=Q) (Pm:=Pm) (hp 23 (by decide) (by decide)) t.b t.b;have c63:=x63 (M:=M) (Q:=Q) (Pm:=Pm) hp hq fs h2;have c30:=x30 (M:=M) (Q:=Q) (Pm:=Pm) hp hq t.e;obtain⟨b1,ps,e0,b2,s1,s2,hte⟩:=GN t.e;rw[←h1]at c63;rw[hte]at c30;simp at c23;simp[AI,qb8,qbP,bC,hte,kG,lI,bV,jw,br,hq,c23,c63,c30]
end Go.RE
namespace Go.RE
variable{M:eA}{Q:fq}{Pm:gU}
section
variable{h:List Uo}{fl c t i m cl:Nat}{ms:List bL}
theorem qf9(hT:oT ms cl)(hl:ms.length<small)(hc:iO h c t i m ms cl)(hf:fl≤h.length)(K:Ex→Vs→Prop)
  (hK:∀ vis:List bL,vis.Perm ms→K .normal ⟨[(0,.ptr c 0),(3,.own (.t 3) 1 ((vis.map (·.k)).map bA))],h++[.iter (some m) cl (vis.map (·.b)) cl],fl⟩):
  ∀ (j:Nat) (vis left:List bL),left.length≤j→(vis++left).Perm ms→
  gL ah M Q Pm Is 0 DP (h.length+1) ⟨[(3,.own (.t 3) 1 ((vis.map (·.k)).map bA)),(14,.ptr h.length 0),(0,.ptr c 0)],h++[.iter (some m) cl (vis.map (·.b)) cl],fl⟩ K:=by
 have hd1:=l7 hc.row;intro j
 induction j with
 |zero=>
  intro vis left hj hper;obtain rfl:left=[]:=pQ (by omega);rw[aq DP.eq_1];simp[Xb];refine uv hT hper (q:=h.length) (m:=m) rfl (by simp) (bl hc.map) (fun _=> ?_) (fun e he=>by cases he);rw[List.append_nil]at hper;have:=hK vis hper;simp at this;simp[qB hf,hd1];exact this
 |succ j ih=>
  intro vis left hj hper;rw[aq DP.eq_1];simp[Xb];refine uv hT hper (q:=h.length) (m:=m) rfl (by simp) (bl hc.map) (fun hl=> ?_) (fun e he hes hper2=> ?_)
  ·subst hl;rw[List.append_nil]at hper;have:=hK vis hper;simp at this;simp[qB hf,hd1];exact this
  ·have hlen:(left.erase e).length≤j:=by
    have:=List.length_erase_of_mem he;have:=List.length_pos_of_mem he;omega
   have ih' :=ih (vis++[e]) (left.erase e) hlen hper2;have hfe:=HA hT.nodup hes;have hent:∀ ev:Env,mH ⟨ev,h++[.iter (some m) cl (vis.map (·.b)++[e.b]) cl],fl⟩ h.length=some (.aP [.str e.k,.agg [.bool e.g,.sl 1 (az e.d)]]):=fun ev=>by
    simp only[mH,Wp,bl hc.map,List.getLast?_concat,nX,cond_true,hfe,iS,Gc]
   have hvl:vis.length<small:=by
    have:=hper.length_eq;simp at this;omega
   obtain⟨f1,f2⟩:(vis.length+1)*16≤aW∧vis.length+1≤aW:=by unfold small at hvl;unfold aW;omega
   simp[bA]at ih';simp[qbd,qbp,hent,bA,qB hf,f1,f2,hd1];exact ih'
theorem qhd(hp:aG Pm)(hq:cI Q)(hcl:Pm 49=some bU){H:List Uo}(hc:iO H c t i m ms cl)(hf:fl≤H.length)(ks:List By)(hl:ks.length<small)(hk:∀ k∈ks,∃ e,di k ms=some e∧e.k=k)(K:Ex→Vs→Prop):
  ∀ (j q:Nat) (out:List bL),q+j=ks.length→out.length≤q→
  K .normal ⟨[(5,.own (.t 5) 3 ((out++(ks.drop q).map fun k=>(di k ms).getD default).map fun e=>Qt (e.k,e.g,e.d)))],H,fl⟩→
  gL ah M Q Pm Is 2 vG H.length ⟨[(27,.int .i64 (q:Int)),(0,.ptr c 0),(25,.own (.t 25) 1 (ks.map bA)),(5,.own (.t 5) 3 (out.map fun e=>Qt (e.k,e.g,e.d))),(26,.int .i64 (ks.length:Int))],H,fl⟩ K:=by
 have d0:=lt0 hc.row;intro j
 induction j with
 |zero=>
  intro q out hij ho hK;have h1:¬((q:Int)<(ks.length:Int)):=by omega
  have h2:ks.drop q=[]:=tN (by omega);rw[h2]at hK;rw[aq vG.eq_1];simp at hK;simp[L3,h1,b9 hf];exact hK
 |succ j ih=>
  intro q out hij ho hK;have h1:((q:Int)<(ks.length:Int)):=by omega
  have hi1:q<ks.length:=by omega
  have e1:(ks.map bA)[q]? =some (bA ks[q]):=by simp[hi1]
  have e2:q<(ks.map bA).length:=by simpa using hi1
  have e3:aD .i64 ((q:Int)+1)=((q+1:Nat):Int):=cj (by unfold small at hl;omega);have d1:ks.drop q=ks[q]::ks.drop (q+1):=vT hi1;obtain⟨e,he,hek⟩:=hk ks[q] (List.getElem_mem hi1);have hem:=B8 he;have hlk:=fun z s hs=>(Ax ks[q] ms cl m z s hs).2;rw[d1,List.map_cons,he]at hK;simp only[he]at hlk;have ih' :=ih (q+1) (out++[e]) (by omega) (by simp;omega) (by rw[ow];exact hK);have h49:=t49 (M:=M) (Q:=Q) (Pm:=Pm) hcl e.d (hc.ok.dat e hem);have io:∀ s,Tf s 1 (some (.own (.t 25) 1 (ks.map bA))) (some (.int .i64 (q:Int)))=some (.cA (.t 25) q 0,s):=fun s=>yO e2;generalize ks[q]=k at*;generalize ks.map bA=KS at*;obtain⟨f1,f2⟩:(out.length+1)*48≤aW∧out.length+1≤aW:=by unfold small at hl;unfold aW;omega
  rw[aq vG.eq_1];simp[Qt,hek]at ih';simp[L3,R8,bn YM,Ov,Xv,h1,io,e1,bA,d0,hc.row,hc.map,hlk,Gc,hq,h49,bH,e3,f1,f2,b9 hf,hY];exact ih'
theorem x38(hp:aG Pm)(hq:cI Q)(hsq:Q 90=some nT)(hcl:Pm 49=some bU)(hc:iO h c t i m ms cl)(hl:ms.length<small)(hf:fl≤h.length):gF ah M Q Pm 38 [.ptr c 0] h fl=some (.own .r 3 ((fZ ms).map Qt),h,fl):=by
 refine bq hp rfl rfl ?_;have hd1:=l7 hc.row;have d0:=lt0 hc.row;have a:=qf9 (M:=M) (Q:=Q) (Pm:=Pm) hc.ok hl hc hf (l9 ah M Q Pm Is (.seq (.region R4) (.seq (.region Js) (.seq (.seq (.region I4) (.block 2 (.loop vG))) (.seq (.region DW) .ret)))) (kE h.length Is (.own .r 3 ((fZ ms).map Qt),h,fl))) (fun vis hv=> ?_) ms.length [] ms (aM _) (by simp)
 ·simp at a;simp[A6,qcn,qbL,qaN,qaQ,hc.row,hc.map,d0,hd1,qB hf,b9 hf];exact a
 ·have hqq:=Aw (F:=gF ah M Q Pm) ⟨[(23,.own (.t 3) 1 ((vis.map (·.k)).map bA)),(0,.ptr c 0),(3,.own (.t 3) 1 ((vis.map (·.k)).map bA))],h++[.iter (some m) cl (vis.map (·.b)) cl],fl⟩ 24 90 (.t 3) 1 ((vis.map (·.k)).map bA) _ [] (Dh (vis.map (·.k)) (by have:=hv.length_eq;simp;omega));rw[tC (hv.map (·.k))]at hqq;have hkl:(dy (ms.map (·.k))).length=ms.length:=by rw[HY];simp
  have b:=qhd (M:=M) (Q:=Q) (Pm:=Pm) hp hq hcl (hc.app [.iter (some m) cl (vis.map (·.b)) cl]) (fl:=fl) (by simp;omega) (dy (ms.map (·.k))) (by rw[hkl];exact hl) (fun k hk=>by
   have:k∈ms.map (·.k):=(CC _).subset hk;obtain⟨e,he,rfl⟩:=fh.1 this;exact⟨e,QW hc.ok.keys he,rfl⟩) (l9 ah M Q Pm Is (.seq (.region DW) .ret) (kE h.length Is (.own .r 3 ((fZ ms).map Qt),h,fl))) (dy (ms.map (·.k))).length 0 [] (by omega) (by simp) (by simp[DW,ez hf,fZ,YK,Function.comp_def])
  have hkl2:((dy (ms.map (·.k))).map bA).length=(dy (ms.map (·.k))).length:=by simp
  generalize dy (ms.map (·.k))=KS at*;simp[Function.comp_def]at hqq;simp at b;simp[R4,Js,I4,hsq,hqq,Function.comp_def,qB hf,hd1];exact b
end
end Go.RE
namespace Go.RE
variable{M:eA}{Q:fq}{Pm:gU}
theorem Cx:∀ (l:List Cg) (t:Ms),(l.foldl cx t).1.length≤t.1.length+l.length:=by
 intro l
 induction l with
 |nil=>intro t;exact aM _
 |cons w l ih=>
  intro t;have h1:=ih (cx t w);have h2:(cx t w).1.length≤t.1.length+1:=TS _ _ _ _ _;simp only[List.foldl_cons,List.length_cons];omega
theorem Gt:∀ (l:List Cg) (t:Ms),oT t.1 t.2→(∀ w∈l,Eu w)→oT (l.foldl cx t).1 (l.foldl cx t).2:=by
 intro l
 induction l with
 |nil=>intro t h _;exact h
 |cons w l ih=>
  intro t h hl;have hw:=hl w k7;exact ih (cx t w) (h.set w.1 w.2.1 w.2.2 hw.1 hw.2.1 hw.2.2) fun v hv=>hl v (ki _ hv)
def o9(X0:Uo)(t0:Tb)(ms:Ms):List Uo:=[X0,dX t0,.row [.map 1],mb ms,.row [.iface 26 (.ptr 2 0),.map 3]]
theorem qkt(hp:aG Pm)(hq:cI Q)(X0:Uo)(t0:Tb)(l0:List (List U)){g:By→Option (Option By)}{sc:By→By→Option (List Pr)}(hv:PK M Q Pm 26 2 3 (fun h=>h[2]? =some (.row [.map 1])∧h[1]? =some (dX t0)) g sc)
  (S:List nc) (hl:S.length≤60) (hS:∀ o∈S,∃ q F W,gM M Q Pm o q F W) (K:Ex→Vs→Prop)
  (hK:∀ ms:Ms,oT ms.1 ms.2→ms.1.length≤4*S.length→K .normal ⟨[(5,.ptr 0 0),(0,.sl 2 l0),(8,.ptr 4 0)],o9 X0 t0 ms,0⟩):
  ∀ (j q:Nat) (ms:Ms),q+j=S.length→oT ms.1 ms.2→ms.1.length≤4*q→
  gL ah M Q Pm v6 0 DX 5 ⟨[(46,.int .i64 (q:Int)),(8,.ptr 4 0),(44,.sl 27 (S.map cJ)),(5,.ptr 0 0),(0,.sl 2 l0),(45,.int .i64 (S.length:Int))],o9 X0 t0 ms,0⟩ K:=by
 intro j
 induction j with
 |zero=>
  intro q ms hij hok hml;have h1:¬((q:Int)<(S.length:Int)):=by omega
  have:=hK ms hok (by omega);rw[aq DX.eq_1];simp only[o9]at this⊢;simp[qei,h1];exact this
 |succ j ih=>
  intro q ms hij hok hml;have h1:((q:Int)<(S.length:Int)):=by omega
  have hi1:q<S.length:=by omega
  have e1:(S.map cJ)[q]? =some (cJ S[q]):=by simp[hi1]
  have e3:aD .i64 ((q:Int)+1)=((q+1:Nat):Int):=cj (by omega);obtain⟨qy,F,W,hD⟩:=hS S[q] (List.getElem_mem hi1);generalize S[q]=o at*;have hc:iO (o9 X0 t0 ms++[.row (cJ o)]) 4 26 2 3 ms.1 ms.2:=⟨rfl,rfl,hok⟩;have hr:=hD.run hv hc ⟨rfl,rfl⟩ (fl:=0) (kN _) (by omega);have hcg:=hD.cg (jz ms.1 g sc qy);have hln:=hD.len (jz ms.1 g sc qy);generalize W (jz ms.1 g sc qy)=w at*;generalize F (jz ms.1 g sc qy)=tl at*;have hok2:=Gt w ms hok hcg;have hml2:=Cx w ms;have ih' :=ih (q+1) (w.foldl cx ms) (by omega) hok2 (by omega);have hms:(ms.1,ms.2)=ms:=rfl;rw[hms]at hr;generalize w.foldl cx ms=ms2 at*;obtain⟨b1,ps,e0,b2,s1,s2,hte⟩:=GN tl.e;simp only[cJ,bg,bJ,kG,lI,bV,nG,List.cons_append,List.nil_append]at e1 hr;simp only[bC,hte,kG,lI,bV,jw,br,List.cons_append,List.nil_append,o9]at hr;simp only[o9]at ih'⊢;simp[mb,dX]at hr ih'⊢;rw[aq DX.eq_1];simp[qei,qhi,qaX,qbA,h1,eC e1,hq,hr,e3,cut];exact ih'
end Go.RE
namespace Go.RE
variable{M:eA}{Q:fq}{Pm:gU}
theorem x33(hp:aG Pm){h:List Uo}{fl i t:Nat}(hi:i<h.length)(hf:fl≤h.length):gF ah M Q Pm 33 [.iface t (.ptr i 0)] h fl=some (.ptr (h.length+1) 0,h++[.map [] 0,.row [.iface t (.ptr i 0),.map h.length]],fl):=by
 refine bq hp rfl rfl ?_;simp[uf,W4,W7,Rv]
theorem TL{l:List Pr}(h:E3 l=true):∀ p∈l,p.1.length<small:=by
 intro p hp;simp only[E3,cm,qd]at h;have:=h.1 p hp;simp at this;unfold small;omega
structure qjo(l:List Pr)(t0:Tb)(P0:List Pr):Prop where
 tab:ju t0.1 t0.2
 len:t0.1.length≤100
 rl:Rl t0.1 P0
 YN:P0.length≤100
 pk:∀ p∈P0,p.1.length<small∧p.2.length<small
theorem qlK{l:List Pr}(h:E3 l=true):qjo l (l.foldl n9 ([],0)) (Bw l):=by
 obtain⟨h1,h2⟩:=US h;obtain⟨T1,T2⟩:=CW l ([],0) h2 Mp;refine⟨T1,by simp at T2;omega,HZ l ([],0) [] V5,by have:=P6 l [];simp at this;unfold Bw;omega,fun p hp=> ?_⟩;obtain⟨k,d⟩:=p;have:=(BP l k d).1 hp;have hm:=Am this;exact⟨TL h (k,d) hm,h2 (k,d) hm⟩
section
variable (hp : aG Pm) (hq : cI Q) (hsq : Q 90 = some nT) (hcl : Pm 49 = some bU) (ha : Pm 97 = some pq) (hm1 : M 26 "Get" = some 19) (hm2 : M 26 "Scan" = some 21)
include hp hq hsq hcl ha hm1 hm2
theorem qk2{l:List Pr}{t0:Tb}{P0:List Pr}(hF:qjo l t0 P0)(o:nc)(hB:BU o)(ms:Ms)(hok:oT ms.1 ms.2)(hml:ms.1.length≤240):
  ∃ (tl tl2:Told) (ms2:Ms) (t1:Tb),gF ah M Q Pm 35 [.ptr 4 0,.agg (cJ o)] (o9 (.row (cJ o)) t0 ms) 0=some (.agg (bC tl),o9 (.row (cJ o)) t0 ms2,0)∧iO (o9 (.row (cJ o)) t0 ms2) 4 26 2 3 ms2.1 ms2.2∧ms2.1.length≤250∧
   t1=(fZ ms2.1).foldl stepT t0∧(∀ X,gF ah M Q Pm 35 [.ptr 9 0,.agg (cJ o)] (o9 (.row (cJ o)) t0 ms2++[X,dX t1,.row [.map 6],.map [] 0,.row [.iface 26 (.ptr 7 0),.map 8]]) 0=some (.agg (bC tl2),o9 (.row (cJ o)) t0 ms2++[X,dX t1,.row [.map 6],.map [] 0,.row [.iface 26 (.ptr 7 0),.map 8]],0)∨¬(o.dd≤8∧o.dd≠2∧o.dd≠3))∧
   ((o.dd≤8∧o.dd≠2∧o.dd≠3)→tl2=tl∧gF ah M Q Pm 34 [.agg (bC tl),.agg (bC tl)] [] 0=some (.bool true,[],0)):=by
 obtain⟨qy,F,W,hD⟩:=UD (M:=M) (Q:=Q) (Pm:=Pm) hp hq hsq hcl ha o hB;have hv:=D3 (M:=M) (Q:=Q) (Pm:=Pm) hp hq hsq hcl hm1 hm2 (i:=2) (mt:=1) (m:=3) hF.tab hF.rl (by have:=hF.len;unfold small;omega) (by have:=hF.YN;omega) hF.pk (by decide) (by decide);have hc:iO (o9 (.row (cJ o)) t0 ms) 4 26 2 3 ms.1 ms.2:=⟨rfl,rfl,hok⟩;have hr:=hD.run hv hc ⟨rfl,rfl⟩ (fl:=0) (kN _) (by omega);have hcg:=hD.cg (jz ms.1 (gT t0.1) (Gd P0) qy);have hln:=hD.len (jz ms.1 (gT t0.1) (Gd P0) qy);have hro:=fun h1 h2 h3=>hD.ro h1 h2 h3 (jz ms.1 (gT t0.1) (Gd P0) qy);have hrows:=hD.rows (jz ms.1 (gT t0.1) (Gd P0) qy) (fun P hP=>by
  cases qy with
  |no=>cases hP
  |get k=>simp only[jz]at hP;cases h:eG ms.1 (gT t0.1) k<;>rw[h]at hP<;>cases hP
  |scan lo hi=>
   simp only[jz,eS,Gd,Option.map]at hP;injection hP with hP
   rw[←hP];have h1:=En (has lo hi) ms.1 (P0.filter fun x=>has lo hi x.1);have h2:=List.length_filter_le (fun x:Pr=>has lo hi x.1) P0;have:=hF.YN;omega)
 have hok2:=Gt (W (jz ms.1 (gT t0.1) (Gd P0) qy)) ms hok hcg;have hml2:=Cx (W (jz ms.1 (gT t0.1) (Gd P0) qy)) ms;have hms:(ms.1,ms.2)=ms:=rfl;rw[hms]at hr;have hset:∀ x:Ms,(o9 (.row (cJ o)) t0 ms).set 3 (mb x)=o9 (.row (cJ o)) t0 x:=fun x=>rfl;rw[hset]at hr;refine⟨F (jz ms.1 (gT t0.1) (Gd P0) qy),F (jz [] (gT ((fZ ((W (jz ms.1 (gT t0.1) (Gd P0) qy)).foldl cx ms).1).foldl stepT t0).1) (Gd (xD (fun _=>true) P0 ((W (jz ms.1 (gT t0.1) (Gd P0) qy)).foldl cx ms).1)) qy),(W (jz ms.1 (gT t0.1) (Gd P0) qy)).foldl cx ms,_,hr,⟨rfl,rfl,hok2⟩,by omega,rfl,fun X=> ?_,fun⟨h1,h2,h3⟩=> ?_⟩
 ·generalize (W (jz ms.1 (gT t0.1) (Gd P0) qy)).foldl cx ms=ms2 at*;by_cases hh:o.dd≤8∧o.dd≠2∧o.dd≠3
  ·left;have R1:=C5 (fZ ms2.1) t0 P0 hF.rl;rw[xS hF.rl.XW hok2.keys]at R1;have hfd:∀ x∈fZ ms2.1,x.2.2.length<small:=fun x hx=>by
    obtain⟨e,he,rfl⟩:=fh.1 hx;exact hok2.dat e ((pH hok2.keys).subset he)
   have hfl:(fZ ms2.1).length=ms2.1.length:=by
    unfold fZ;rw[List.length_map];exact(pH hok2.keys).length_eq
   obtain⟨T1,T2⟩:=Jx (fZ ms2.1) t0 hfd hF.tab;have hpl:=En (fun _=>true) ms2.1 P0;have hv1:=D3 (M:=M) (Q:=Q) (Pm:=Pm) hp hq hsq hcl hm1 hm2 (i:=7) (mt:=6) (m:=8) T1 R1 (by have:=hF.len;unfold small;omega) (by have:=hF.YN;omega) (fun p hp=>by
    rcases Hr (fun _=>true) ms2.1 p hp with h1|⟨e,he,rfl⟩
    ·exact hF.pk p h1
    ·exact⟨hok2.kl e he,hok2.dat e he⟩) (by decide) (by decide)
   generalize (fZ ms2.1).foldl stepT t0=t1 at*;have hc1:iO (o9 (.row (cJ o)) t0 ms2++[X,dX t1,.row [.map 6],.map [] 0,.row [.iface 26 (.ptr 7 0),.map 8]]) 9 26 7 8 [] 0:=⟨rfl,rfl,⟨by simp,fun e he=>(by cases he),fun e he=>(by cases he),by simp,fun e he=>(by cases he),fun e he=>(by cases he)⟩⟩;have hr1:=hD.run hv1 hc1 ⟨rfl,rfl⟩ (fl:=0) (kN _) (by simp);rw[hD.ro hh.1 hh.2.1 hh.2.2]at hr1;exact hr1
  ·exact .inr hh
 ·have hw:=hro h1 h2 h3;rw[hw]at hok2⊢;have R1:=C5 (fZ ms.1) t0 P0 hF.rl;rw[xS hF.rl.XW hok.keys]at R1;have hsame:=Sm hF.rl hok.keys R1 qy;refine⟨by rw[hsame];rfl,?_⟩;obtain⟨fs,f1,f2⟩:=hrows;exact x34 hp hq _ fs f1 (by unfold small;omega)
end
end Go.RE
namespace Go.RE
variable{M:eA}{Q:fq}{Pm:gU}
section
variable (hp : aG Pm) (hq : cI Q) (hsq : Q 90 = some nT) (hcl : Pm 49 = some bU) (ha : Pm 97 = some pq) (hm : M 58 "Get" = some 28) (hm1 : M 26 "Get" = some 19) (hm2 : M 26 "Scan" = some 21)
include hp hq hsq hcl ha hm hm1 hm2
theorem qlc(l:List Pr)(S:List nc)(o:nc)(hl:l.length≤1048576)(hS:S.length≤1048576)(hSB:∀ s∈S,BU s)(hB:BU o):
  gF ah M Q Pm 6 [.sl 2 (l.map fL),.sl 27 (S.map cJ),.agg (cJ o)] [] 0=some (.bool true,[],0):=by
 refine bq hp rfl rfl ?_;have c11:=t11 (M:=M) (Q:=Q) (Pm:=Pm) hp hq hcl ha hm;have c12:=t12 (M:=M) (Q:=Q) (Pm:=Pm) (hp 12 (by decide) (by decide)) l (by omega);obtain⟨b1,c32,hb1⟩:=x32 (M:=M) (Q:=Q) (Pm:=Pm) hp S (by unfold small;omega);obtain⟨b2,c33,hb2⟩:=x32 (M:=M) (Q:=Q) (Pm:=Pm) hp [o] (by simp[small]);have h35:=hB;have hF:=qlK (l:=l);have E:=fun(h:E3 l=true) ms h1 h2=>qk2 (M:=M) (Q:=Q) (Pm:=Pm) hp hq hsq hcl ha hm1 hm2 (hF h) o hB ms h1 h2;simp only[List.map_cons,List.map_nil,cJ,bg,bJ,kG,lI,bV,nG,List.cons_append,List.nil_append]at c33;simp only[cJ,bg,bJ,kG,lI,bV,nG,List.cons_append,List.nil_append];cases hf:E3 l with
 |false=>
  rw[hf]at c12;simp[qv,PG,Qb,OV,hq,c11,c12]
 |true=>
  rw[hf]at c12;cases b1 with
  |false=>simp[qv,PG,Qb,OV,hq,c11,c12,c32]
  |true=>
   cases b2 with
   |false=>simp[qv,PG,Qb,OV,hq,c11,c12,c32,c33]
   |true=>
    by_cases hd:(8:Int)<o.dd
    ·simp[qv,PG,Qb,OV,hq,c11,c12,c32,c33,hd]
    ·have hF' :=hF hf;have c13:=t13 (M:=M) hp hq hcl l (by unfold small;omega) (US hf).2;have hv:=D3 (M:=M) (Q:=Q) (Pm:=Pm) hp hq hsq hcl hm1 hm2 (i:=2) (mt:=1) (m:=3) hF'.tab hF'.rl (by have:=hF'.len;unfold small;omega) (by have:=hF'.YN;omega) hF'.pk (by decide) (by decide);have E:=E hf;generalize l.foldl n9 ([],0)=t0 at*;have c33b:=x33 (M:=M) (Q:=Q) (Pm:=Pm) hp (h:=[.row (cJ o),dX t0,.row [.map 1]]) (fl:=0) (i:=2) (t:=26) (by simp) (by simp);simp only[cJ,bg,bJ,kG,lI,bV,nG,List.cons_append,List.nil_append]at c33b;simp at c33b;simp[qv,PG,Qb,OV,qhs,qgj,qgx,qg8,qiI,hq,c11,c12,c32,c33,hd,c13,c33b,cut];refine qkt (M:=M) (Q:=Q) (Pm:=Pm) hp hq (.row (cJ o)) t0 (l.map fL) hv S (hb1 rfl) (fun s hs=>UD hp hq hsq hcl ha s (hSB s hs)) _ (fun ms g1 g2=> ?_) S.length 0 ([],0) (by simp) ⟨by simp,fun e he=>(by cases he),fun e he=>(by cases he),by simp,fun e he=>(by cases he),fun e he=>(by cases he)⟩ (by simp);have hS60:=hb1 rfl;obtain⟨tl,tl2,ms2,t1,e1,e2,e3,e4,e5,e6⟩:=E ms g1 (by omega);have c38:=fun X=>x38 (M:=M) (Q:=Q) (Pm:=Pm) hp hq hsq hcl (e2.app [X]) (by unfold small;omega) (fl:=0) (kN _);have hfd:∀ x∈fZ ms2.1,x.2.2.length<small:=fun x hx=>by
      obtain⟨e,he,rfl⟩:=fh.1 hx;exact e2.ok.dat e ((pH e2.ok.keys).subset he)
     have hfl:(fZ ms2.1).length=ms2.1.length:=by
      unfold fZ;rw[List.length_map];exact(pH e2.ok.keys).length_eq
     have c17:=fun X=>t17 (M:=M) (Q:=Q) (Pm:=Pm) hp hq hcl 6 7 (o9 (.row (cJ o)) t0 ms2++[X,dX t0,.row [.map 6]]) 0 (kN _) t0 rfl rfl (fZ ms2.1) (by rw[hfl];unfold small;omega) hfd;have c33c:=fun X=>x33 (M:=M) (Q:=Q) (Pm:=Pm) hp (h:=o9 (.row (cJ o)) t0 ms2++[X,dX t1,.row [.map 6]]) (fl:=0) (i:=7) (t:=26) (by simp[o9]) (by simp[o9]);rw[←e4]at c17;obtain⟨b1,ps,e0,b2,s1,s2,hte⟩:=GN tl.e;have h34:=e6;generalize fZ ms2.1=fw at*;simp only[o9,bC,hte,cJ,bg,bJ,kG,lI,bV,nG,jw,br,List.cons_append,List.nil_append]at e1 c38 c17 c33c h34⊢;simp at e1 c38 c17 c33c h34⊢;simp[qbN,qbs,qaG,qaL,qax,hq,e1,c38,c13,c17,c33c,cut];have hdl:o.dd≤8:=by omega
     by_cases d2:o.dd=2
     ·simp[bn KY,E2,hq,d2,cut]
     ·by_cases d3:o.dd=3
      ·have g2:(o.dd==2)=false:=beq_eq_false_iff_ne.2 d2;simp[bn KY,E2,hq,g2,d3,cut]
      ·obtain⟨e7,e8⟩:=h34 hdl d2 d3;subst e7;have e9:=fun X=>(e5 X).resolve_right (fun h=>h ⟨hdl,d2,d3⟩);simp only[o9,bC,hte,cJ,bg,bJ,kG,lI,bV,nG,jw,br,List.cons_append,List.nil_append]at e9;have g2:(o.dd==2)=false:=beq_eq_false_iff_ne.2 d2;have g3:(o.dd==3)=false:=beq_eq_false_iff_ne.2 d3;simp[bn KY,E2,hq,g2,g3,e9,e8,cut,hY]
end
end Go.RE
