/- What an operation with a cache over any view asks, tells and changes: those that change. -/
import Derived.Test.YtigkmaeaoaejiaaGreatDoorPart15
import Derived.Test.YtigkmaeaoaejiaaGreatDoorPart14
import Derived.Test.YtigkmaeaoaejiaaGreatDoorPart12
set_option linter.unusedVariables false
set_option linter.unusedSimpArgs false
set_option linter.unnecessarySimpa false
namespace Go.RE
variable{M:eA}{Q:fq}{Pm:gU}
def PA.w:PA→List Cg
 | .err _=>[]
 | .lU l=>l
theorem AN{h:List Uo}{c t i m cl:Nat}{ms:List bL}(hc:iO h c t i m ms cl)(a:PA):oA h m (ms,cl) a=h.set m (mb (a.w.foldl cx (ms,cl))):=by
 cases a with
 |err f=>exact hc.self.symm
 |lU l=>rfl
theorem DU(a:PA):(eO a).l=[]:=by cases a<;>rfl
theorem jI{o:nc}(a:PA)(hfl:a.vQ)(hask:(eO a).e.asks=false)(hcg:∀ w∈a.w,Eu w)(hlen:a.w.length≤4)(hro:o.dd≤8→o.dd≠2→o.dd≠3→a.w=[])
  (hrun:∀ {h:List Uo} {fl c t i m cl:Nat} {ms:List bL},iO h c t i m ms cl→fl≤h.length→gF ah M Q Pm 35 [.ptr c 0,.agg (cJ o)] h fl=some (.agg (bC (eO a)),oA h m (ms,cl) a,fl)):∃ q F W,gM M Q Pm o q F W:=
 ⟨.no,fun _=>eO a,fun _=>a.w,trivial,fun {h fl c t i m cl ms Vp g sc} hv hc hV hf hml=>(by rw[hrun hc hf,AN hc]),fun _=>hcg,fun _=>hlen,fun _ _=>hask,.inl rfl,fun h1 h2 h3 _=>hro h1 h2 h3,fun _ _=>⟨[],DU a,by simp⟩⟩
theorem qlX(hp:aG Pm)(hq:cI Q)(hcl:Pm 49=some bU)(ha:Pm 97=some pq)(o:nc)(ho:o.dd=2)(hB:BU o):∃ q F W,gM M Q Pm o q F W:=by
 obtain⟨key,e,hk,hkl⟩:=rB (M:=M) hp hq o.r hB.a hB.b hB.c hB.d hB.x hB.y hB.z;by_cases he:e=0
 ·subst he;refine jI (.lU [(key,false,o.data)]) trivial rfl (fun w hw=> ?_) (by simp[PA.w]) (fun _ h=>absurd ho h) fun {h fl c t i m cl ms} hc hf=> ?_
  ·simp[PA.w]at hw;subst hw;exact⟨hB.da,fun h=>(by cases h),hkl⟩
  ·exact d2 hp hq ha o ho trivial hc hf (zO hp hq hcl hk hB.da (kC hc o) (eZ hf o))
 ·refine jI (.err (cW o.r.k e)) (nY _ _) rfl (fun w hw=>(by cases hw)) (by simp[PA.w]) (fun _ h=>absurd ho h) fun {h fl c t i m cl ms} hc hf=> ?_;exact d2 hp hq ha o ho (nY _ _) hc hf (qeG hp hq he hk (kC hc o) (eZ hf o))
theorem qlf(hp:aG Pm)(hq:cI Q)(ha:Pm 97=some pq)(o:nc)(ho:o.dd=3)(hB:BU o):∃ q F W,gM M Q Pm o q F W:=by
 obtain⟨key,e,hk,hkl⟩:=rB (M:=M) hp hq o.r hB.a hB.b hB.c hB.d hB.x hB.y hB.z;by_cases he:e=0
 ·subst he;refine jI (.lU [(key,true,[])]) trivial rfl (fun w hw=> ?_) (by simp[PA.w]) (fun _ _ h=>absurd ho h) fun {h fl c t i m cl ms} hc hf=> ?_
  ·simp[PA.w]at hw;subst hw;exact⟨show(0:Nat)<small by decide,fun _=>rfl,hkl⟩
  ·exact d3 hp hq ha o ho trivial hc hf (Lw hp hq hk (kC hc o) (eZ hf o))
 ·refine jI (.err (cW o.r.k e)) (nY _ _) rfl (fun w hw=>(by cases hw)) (by simp[PA.w]) (fun _ _ h=>absurd ho h) fun {h fl c t i m cl ms} hc hf=> ?_;exact d3 hp hq ha o ho (nY _ _) hc hf (qcU hp hq he hk (kC hc o) (eZ hf o))
theorem MK(r:Rn)(key:By)(e:Int)(d:By)(hk:key.length<small)(hd:d.length<small):(H8 r key e d).all.vQ∧(eO (H8 r key e d).all).e.asks=false∧(∀ w∈(H8 r key e d).all.w,Eu w)∧(H8 r key e d).all.w.length≤4:=by
 unfold H8;split
 ·split
  ·exact⟨nY _ _,rfl,fun w hw=>(by cases hw),(by simp[SA.all,PA.w])⟩
  ·refine⟨trivial,rfl,fun w hw=> ?_,by simp[SA.all,PA.w]⟩;simp[SA.all,PA.w]at hw;subst hw;exact⟨hd,fun h=>(by cases h),hk⟩
 ·exact⟨nY _ _,rfl,fun w hw=>(by cases hw),(by simp[SA.all,PA.w])⟩
theorem qkQ(hp:aG Pm)(hq:cI Q)(hcl:Pm 49=some bU)(ha:Pm 97=some pq)(o:nc)(ho:o.dd=9)(hB:BU o):∃ q F W,gM M Q Pm o q F W:=by
 obtain⟨key,e,hk,hkl⟩:=rB (M:=M) hp hq (eP o.r.d) (by simp[eP]) (by simp[eP]) (by simp[eP]) hB.d (by simp[eP]) (by simp[eP]) (by simp[eP]);obtain⟨b,hb,hbl⟩:=t123 (M:=M) hp hq o.x hB.xd hB.xc hB.xv hB.xn;have hbs:b.length<small:=by unfold small;omega
 obtain⟨g1,g2,g3,g4⟩:=MK (eP o.r.d) key e b hkl hbs;refine jI _ g1 g2 g3 g4 (fun h=>by omega) fun {h fl c t i m cl ms} hc hf=> ?_;have hS:=qgN (M:=M) hp hq hcl hk hbs ((kC hc o).app [.row (kG o.x)]) (jL (eZ hf o) _);exact d9 hp hq ha o ho g1 hc hf (x72 hp hq hb (kC hc o) (eZ hf o) hS).all
theorem qiV(hp:aG Pm)(hq:cI Q)(hcl:Pm 49=some bU)(ha:Pm 97=some pq)(o:nc)(ho:o.dd=10)(hB:BU o):∃ q F W,gM M Q Pm o q F W:=by
 obtain⟨key,e,hk,hkl⟩:=rB (M:=M) hp hq (kI o.r.d o.r.x) (by simp[kI]) (by simp[kI]) (by simp[kI]) hB.d hB.x (by simp[kI]) (by simp[kI]);obtain⟨b,hb,hbl⟩:=t124 (M:=M) hp hq o.t hB.ts;have hbs:b.length<small:=by unfold small;omega
 obtain⟨g1,g2,g3,g4⟩:=MK (kI o.r.d o.r.x) key e b hkl hbs;refine jI _ g1 g2 g3 g4 (fun h=>by omega) fun {h fl c t i m cl ms} hc hf=> ?_;have hS:=qgN (M:=M) hp hq hcl hk hbs ((kC hc o).app [.row (lI o.t)]) (jL (eZ hf o) _);exact d10 hp hq ha o ho g1 hc hf (x73 hp hq hb (kC hc o) (eZ hf o) hS).all
theorem qiS(hp:aG Pm)(hq:cI Q)(hcl:Pm 49=some bU)(ha:Pm 97=some pq)(o:nc)(ho:o.dd=11)(hB:BU o):∃ q F W,gM M Q Pm o q F W:=by
 obtain⟨key,e,hk,hkl⟩:=rB (M:=M) hp hq (gA o.r.d o.v.name) hB.vn (by simp[gA]) (by simp[gA]) hB.d (by simp[gA]) (by simp[gA]) (by simp[gA]);obtain⟨e2,h125⟩:=qdp (M:=M) (Q:=Q) hp o.v.kind o.v.n o.v.s;obtain⟨b,h126,hbl⟩:=qms (M:=M) hp hq o.v.kind o.v.n o.v.s hB.vs;have hbs:b.length<small:=by unfold small;omega
 have hrun:∀ {h:List Uo} {fl c t i m cl:Nat} {ms:List bL},iO h c t i m ms cl→fl≤h.length→_:=fun {h fl c t i m cl ms} hc hf=>(x74 (M:=M) (Q:=Q) (Pm:=Pm) (t:=t) (i:=i) (m:=m) (ms:=ms) (cl:=cl) hp hq hcl hk h125 h126 hbs (kC hc o) (eZ hf o)).all;by_cases he:e=0
 ·by_cases he2:e2=0
  ·refine jI (.lU [(key,false,b)]) trivial rfl (fun w hw=> ?_) (by simp[PA.w]) (fun h=>by omega) fun {h fl c t i m cl ms} hc hf=> ?_
   ·simp[PA.w]at hw;subst hw;exact⟨hbs,fun h=>(by cases h),hkl⟩
   ·have hr:=hrun hc hf;rw[if_pos he,if_pos he2]at hr;exact d11 hp hq ha o ho trivial hc hf hr
  ·refine jI (.err (cW 118 e2)) (nY _ _) rfl (fun w hw=>(by cases hw)) (by simp[PA.w]) (fun h=>by omega) fun {h fl c t i m cl ms} hc hf=> ?_;have hr:=hrun hc hf;rw[if_pos he,if_neg he2]at hr;exact d11 hp hq ha o ho (nY _ _) hc hf hr
 ·refine jI (.err (cW 118 e)) (nY _ _) rfl (fun w hw=>(by cases hw)) (by simp[PA.w]) (fun h=>by omega) fun {h fl c t i m cl ms} hc hf=> ?_;have hr:=hrun hc hf;rw[if_neg he]at hr;exact d11 hp hq ha o ho (nY _ _) hc hf hr
theorem qgI(hp:aG Pm)(hq:cI Q)(o:nc)(ho:o.dd<0∨13<o.dd):∃ q F W,gM M Q Pm o q F W:=
 jI (.lU []) trivial rfl (fun w hw=>(by cases hw)) (by simp[PA.w]) (fun _ _ _=>rfl) fun {h fl c t i m cl ms} hc hf=>(by
  have:=qls (M:=M) (Q:=Q) (Pm:=Pm) (c:=c) hp hq o ho hf;rw[AN hc,show(PA.lU []).w=[]from rfl,mw hc];exact this)
def ArL(x:Ar):Prop:=x.name.length≤1048576∧x.key.length≤1048576∧∃ d:Nat,x.due=(d:Int)∧d<18446744073709551616
theorem ArB.l{x:Ar}(h:ArB x):ArL x:=⟨by have:=h.1;omega,by have:=h.2.1;omega,h.2.2⟩
theorem qmd(s:By)(y z:Nat)(x:Ar)(d:Nat):∃ r:Rn,X3 s y z x d=bg r:=by
 unfold X3;split
 ·exact⟨⟨122,[],[],[],s,y,z,d⟩,rfl⟩
 ·split
  ·exact⟨⟨109,x.name,x.key,[],s,y,z,0⟩,rfl⟩
  ·exact⟨⟨115,x.name,[],[],s,y,z,0⟩,rfl⟩
def qjj(M:eA)(Q:fq)(Pm:gU)(s:By)(y z:Nat)(kx:Ar→By):Prop:=
 ∀ x,(kx x).length<small∧(ArL x→∃ d:Nat,x.due=(d:Int)∧∃ r:Rn,X3 s y z x d=bg r∧kS M Q Pm r (kx x) 0)
theorem qhx(hp:aG Pm)(hq:cI Q)(s:By)(y z:Nat)(hs:s.length≤1048576)(hy:y<18446744073709551616)(hz:z<18446744073709551616):∃ kx,qjj M Q Pm s y z kx:=by
 have h:∀ x:Ar,∃ key:By,key.length<small∧(ArL x→∃ d:Nat,x.due=(d:Int)∧∃ r:Rn,X3 s y z x d=bg r∧kS M Q Pm r key 0):=fun x=>by
  by_cases hx:ArL x
  ·obtain⟨h1,h2,d,h3,h4⟩:=hx;obtain⟨key,k1,k2⟩:=qcK (M:=M) hp hq s y z d x hs h1 h2 hy hz h4;obtain⟨r,hr⟩:=qmd s y z x d;exact⟨key,k2,fun _=>⟨d,h3,r,hr,by unfold MJ at k1;rw[hr]at k1;exact k1⟩⟩
  ·exact⟨[],by decide,fun h=>absurd h hx⟩
 exact⟨fun x=>(h x).choose,fun x=>(h x).choose_spec⟩
def qiN(M:eA)(Q:fq)(Pm:gU)(T:By→Ar×Int):Prop:=∀ b:By,b.length<small→gF ah M Q Pm 117 [.sl 1 (az b)] [] 0=some (.aP [.agg (bV (T b).1),.int .i64 (T b).2],[],0)∧ArB (T b).1∧((T b).2=0→BV (T b).1)
theorem qjn(hp:aG Pm)(hq:cI Q):∃ T,qiN M Q Pm T:=
 DB (⟨0,[],[],0⟩:Ar) (R:=fun b y=>gF ah M Q Pm 117 [.sl 1 (az b)] [] 0=some (.aP [.agg (bV y.1),.int .i64 y.2],[],0)∧ArB y.1∧(y.2=0→BV y.1)) fun b hb=>qjc b hb hp hq
section
variable{h:List Uo}{fl c t i m cl:Nat}{ms:List bL}{Vp:List Uo→Prop}{g:By→Option (Option By)}{sc:By→By→Option (List Pr)}
theorem Hv(hp:aG Pm)(hq:cI Q)(hcl:Pm 49=some bU){s:By}{y z:Nat}{ka:By}{kx:Ar→By}{T:By→Ar×Int}(hka:kS M Q Pm (dJ s y z) ka 0)(hla:ka.length<small)(hkx:qjj M Q Pm s y z kx)(hT:qiN M Q Pm T)
  (hv:PK M Q Pm t i m Vp g sc) (hc:iO h c t i m ms cl) (hV:Vp h) (hf:fl≤h.length):
  gQ (gF ah M Q Pm) 76 [.ptr c 0,.str s,.int .u64 (y:Int),.int .u64 (z:Int)] h fl m (ms,cl) (jF ka kx (cB (dJ s y z) T (kY (dJ s y z) ka 0 (eG ms g ka)))):=by
 have hc2:=hc.app [.row bP];have hV2:=hv.app _ [.row bP] hV;have hc3:=hc2.app [.row (bg (dJ s y z)),.row bP,.row bP];have hV3:=hv.app _ [.row (bg (dJ s y z)),.row bP,.row bP] hV2;have hG:=x64 hp hq hcl hv hka hc3 hV3 (jL (jL hf _) _);have hfew:=wM hv hc.ok (dJ s y z) ka 0;have hTk:=qhB hp hq (dJ s y z) T (fun d hd=>(hT d hd).1) hfew hc2 (jL hf _) hG;have hr:=x70 hp hq hc hf hTk;refine x76 hp hq hka hla (fun x hx=> ?_) hc hf hr;have:ArB x∧BV x:=by
  revert hfew hx;cases kY (dJ s y z) ka 0 (eG ms g ka)with
  |err f=>intro _ h;cases h
  |val v=>
   cases v with
   |none=>intro _ h;cases h
   |some d=>
    intro hd hx;simp only[cB]at hx;split at hx
    ·rename_i he;injection hx with hx
     rw[←hx];exact⟨(hT d hd).2.1,(hT d hd).2.2 he⟩
    ·cases hx
 exact⟨this.2,(hkx x).2 this.1.l⟩
end
theorem Gw(ka:By)(kx:Ar→By)(hla:ka.length<small)(hkx:∀ x,(kx x).length<small)(a:TA Ar)(ha:a.vQ):(jF ka kx a).vQ∧(∀ w∈(jF ka kx a).w,Eu w)∧(jF ka kx a).w.length≤2:=by
 cases a with
 |err f=>exact⟨ha,fun w hw=>(by cases hw),by simp[jF,PA.w]⟩
 |no=>exact⟨trivial,fun w hw=>(by cases hw),by simp[jF,PA.w]⟩
 |yes x=>
  refine⟨trivial,fun w hw=> ?_,by simp[jF,PA.w]⟩;simp[jF,PA.w]at hw;rcases hw with rfl|rfl
  ·exact⟨show(0:Nat)<small by decide,fun _=>rfl,hla⟩
  ·exact⟨show(0:Nat)<small by decide,fun _=>rfl,hkx x⟩
theorem Vh(ka:By)(kx:Ar→By)(r:Rn)(T:By→Ar×Int)(v:Option By):(eO (jF ka kx (cB r T (.val v)))).e.asks=false:=by
 cases v with
 |none=>rfl
 |some d=>simp only[cB];split<;>rfl
theorem qgF(hp:aG Pm)(hq:cI Q)(hcl:Pm 49=some bU)(ha:Pm 97=some pq)(o:nc)(ho:o.dd=13)(hB:BU o):∃ q F W,gM M Q Pm o q F W:=by
 obtain⟨ka,hka,hla⟩:=Mg (M:=M) hp hq o.r.d o.r.x o.r.y hB.d hB.x hB.y;obtain⟨kx,hkx⟩:=qhx (M:=M) hp hq o.r.d o.r.x o.r.y hB.d hB.x hB.y;obtain⟨T,hT⟩:=qjn (M:=M) hp hq;have hok:=fun a ha=>Gw ka kx hla (fun x=>(hkx x).1) a ha;refine⟨.get ka,(fun a=>match a with| .got v=>eO (jF ka kx (cB (dJ o.r.d o.r.x o.r.y) T (.val v)))| .asked=>eO (.err (oF 97 ka ka))|_=>bE),(fun a=>match a with| .got v=>(jF ka kx (cB (dJ o.r.d o.r.x o.r.y) T (.val v))).w|_=>[]),hla,fun {h fl c t i m cl ms Vp g sc} hv hc hV hf hml=> ?_,fun a=> ?_,fun a=> ?_,fun a h=> ?_,.inr ⟨97,rfl⟩,fun h=>(by omega),fun a _=>⟨[],(by cases a<;>first|rfl|exact DU _),by simp⟩⟩
 ·have hr:=Hv hp hq hcl hka hla hkx hT hv (kC hc o) (hv.app _ _ hV) (eZ hf o);have hfl:=(hok _ (fE (dJ o.r.d o.r.x o.r.y) T (jM (dJ o.r.d o.r.x o.r.y) ka 0 (eG ms g ka)))).1;rw[d13 hp hq ha o ho hfl hc hf hr,AN hc];simp only[kY,if_true,jz];cases eG ms g ka<;>rfl
 ·cases a with
  |got v=>exact(hok _ (fE _ _ (a:=.val v) trivial)).2.1
  |_=>intro w hw;cases hw
 ·cases a with
  |got v=>exact Nat.le_trans (hok _ (fE (dJ o.r.d o.r.x o.r.y) T (a:=.val v) trivial)).2.2 (by decide)
  |_=>show(0:Nat)≤4;omega
 ·cases a with
  |got v=>exact Vh _ _ _ _ _
  |asked=>exact absurd rfl h
  |_=>rfl
theorem Hs(ka kx:By)(a:PA):fP [] ka kx a=.err (cW 97 1):=by cases a<;>rfl
theorem LV(b ka kx:By)(hb:b≠[])(hbs:b.length<small)(hla:ka.length<small)(hlx:kx.length<small)(a:PA)(h1:a.vQ)(h2:∀ w∈a.w,Eu w)(h3:a.w.length≤2):(fP b ka kx a).vQ∧(∀ w∈(fP b ka kx a).w,Eu w)∧(fP b ka kx a).w.length≤4:=by
 cases a with
 |err f=>simp only[fP,if_neg hb];exact⟨h1,fun w hw=>(by cases hw),by simp[PA.w]⟩
 |lU l=>
  simp only[fP,if_neg hb];refine⟨trivial,fun w hw=> ?_,by simp[PA.w]at h3⊢;omega⟩;simp only[PA.w,ic]at hw;rcases hw with hw|hw
  ·exact h2 w hw
  ·simp at hw;rcases hw with rfl|rfl
   ·exact⟨hbs,fun h=>(by cases h),hla⟩
   ·exact⟨show(0:Nat)<small by decide,fun h=>(by cases h),hlx⟩
theorem qit(hp:aG Pm)(hq:cI Q)(hcl:Pm 49=some bU)(ha:Pm 97=some pq)(o:nc)(ho:o.dd=12)(hB:BU o):∃ q F W,gM M Q Pm o q F W:=by
 obtain⟨ka,hka,hla⟩:=Mg (M:=M) hp hq o.r.d o.r.x o.r.y hB.d hB.x hB.y;obtain⟨kx,hkx⟩:=qhx (M:=M) hp hq o.r.d o.r.x o.r.y hB.d hB.x hB.y;obtain⟨T,hT⟩:=qjn (M:=M) hp hq;obtain⟨dn,hd1,hd2⟩:=hB.ad;obtain⟨b,h127,hbl,hbK⟩:=qk1 (M:=M) hp hq o.a (by have:=hB.an;omega) (by have:=hB.ak;omega) dn hd1 hd2;have hbs:b.length<small:=by unfold small;omega
 have hok:=fun a ha=>Gw ka kx hla (fun x=>(hkx x).1) a ha;have hxl:=(hkx o.a).1;have run:∀ {h:List Uo} {fl c t i m cl:Nat} {ms:List bL} {Vp:List Uo→Prop} {g:By→Option (Option By)} {sc:By→By→Option (List Pr)},PK M Q Pm t i m Vp g sc→iO h c t i m ms cl→Vp h→fl≤h.length→
   gQ (gF ah M Q Pm) 75 [.ptr c 0,.str o.r.d,.int .u64 (o.r.x:Int),.int .u64 (o.r.y:Int),.agg (bV o.a)] (hD h o) fl m (ms,cl) (fP b ka (kx o.a) (jF ka kx (cB (dJ o.r.d o.r.x o.r.y) T (kY (dJ o.r.d o.r.x o.r.y) ka 0 (eG ms g ka))))):=by
  intro h fl c t i m cl ms Vp g sc hv hc hV hf;have hc1:=kC hc o;have hV1:=hv.app h [.row (cJ o),.row nP,.row nP,.row (bg o.r)] hV;have hD:=Hv hp hq hcl hka hla hkx hT hv (hc1.app [.row (bV o.a),.row (bg (dJ o.r.d o.r.x o.r.y))]) (hv.app _ _ hV1) (jL (eZ hf o) _);have hcg:=(hok _ (fE (dJ o.r.d o.r.x o.r.y) T (jM (dJ o.r.d o.r.x o.r.y) ka 0 (eG ms g ka)))).2.1;refine x75 hp hq hcl hka hla h127 hbs (fun h=>⟨hbK h,(hkx o.a).2 ⟨hB.an,hB.ak,hB.ad⟩⟩) (fun l hl w hw=> ?_) hc1 (eZ hf o) hD;rw[hl]at hcg;exact hcg w hw
 by_cases hb:b=[]
 ·refine⟨.no,fun _=>eO (.err (cW 97 1)),fun _=>[],trivial,fun {h fl c t i m cl ms Vp g sc} hv hc hV hf hml=> ?_,fun _ w h=>(by cases h),fun _=>(by simp),fun a h=>rfl,.inl rfl,fun _ _ _ _=>rfl,fun a _=>⟨[],rfl,by simp⟩⟩;have hr:=run hv hc hV hf;rw[hb,Hs]at hr;rw[d12 hp hq ha o ho (a:=.err (cW 97 1)) (nY _ _) hc hf hr,mw hc,AN hc,show(PA.err (cW 97 1)).w=[]from rfl,mw hc]
 ·have hok2:=fun a ha=>LV b ka (kx o.a) hb hbs hla hxl _ (hok a ha).1 (hok a ha).2.1 (hok a ha).2.2;refine⟨.get ka,(fun a=>match a with| .got v=>eO (fP b ka (kx o.a) (jF ka kx (cB (dJ o.r.d o.r.x o.r.y) T (.val v))))| .asked=>eO (.err (oF 97 ka ka))|_=>bE),(fun a=>match a with| .got v=>(fP b ka (kx o.a) (jF ka kx (cB (dJ o.r.d o.r.x o.r.y) T (.val v)))).w|_=>[]),hla,fun {h fl c t i m cl ms Vp g sc} hv hc hV hf hml=> ?_,fun a=> ?_,fun a=> ?_,fun a h=> ?_,.inr ⟨97,rfl⟩,fun h=>(by omega),fun a _=>⟨[],(by cases a<;>first|rfl|exact DU _),by simp⟩⟩
  ·have hr:=run hv hc hV hf;have hfl:=(hok2 _ (fE (dJ o.r.d o.r.x o.r.y) T (jM (dJ o.r.d o.r.x o.r.y) ka 0 (eG ms g ka)))).1;rw[d12 hp hq ha o ho hfl hc hf hr,AN hc];simp only[kY,if_true,jz];cases eG ms g ka with
   |none=>simp only[cB,jF,fP,if_neg hb];rfl
   |some v=>rfl
  ·cases a with
   |got v=>exact(hok2 _ (fE _ _ (a:=.val v) trivial)).2.1
   |_=>intro w hw;cases hw
  ·cases a with
   |got v=>exact(hok2 _ (fE (dJ o.r.d o.r.x o.r.y) T (a:=.val v) trivial)).2.2
   |_=>show(0:Nat)≤4;omega
  ·cases a with
   |got v=>
    cases v with
    |none=>simp only[cB,jF,fP,if_neg hb];rfl
    |some d=>
     simp only[cB];split
     ·simp only[jF,fP,if_neg hb];rfl
     ·simp only[jF,fP,if_neg hb];rfl
   |asked=>exact absurd rfl h
   |_=>rfl
theorem UD(hp:aG Pm)(hq:cI Q)(hsq:Q 90=some nT)(hcl:Pm 49=some bU)(ha:Pm 97=some pq)(o:nc)(hB:BU o):∃ q F W,gM M Q Pm o q F W:=by
 by_cases h:o.dd<0∨13<o.dd
 ·exact qgI hp hq o h
 ·have:o.dd=0∨o.dd=1∨o.dd=2∨o.dd=3∨o.dd=4∨o.dd=5∨o.dd=6∨o.dd=7∨o.dd=8∨o.dd=9∨o.dd=10∨o.dd=11∨o.dd=12∨o.dd=13:=by omega
  rcases this with h|h|h|h|h|h|h|h|h|h|h|h|h|h
  ·exact qln hp hq hcl ha o h hB
  ·exact do_1 hp hq hsq hcl ha o h hB
  ·exact qlX hp hq hcl ha o h hB
  ·exact qlf hp hq ha o h hB
  ·exact qlQ hp hq hcl ha o h hB
  ·exact qj9 hp hq hcl ha o h hB
  ·exact qlU hp hq hcl ha o h hB
  ·exact qka hp hq hcl ha o h hB
  ·exact qmv hp hq hcl ha o h hB
  ·exact qkQ hp hq hcl ha o h hB
  ·exact qiV hp hq hcl ha o h hB
  ·exact qiS hp hq hcl ha o h hB
  ·exact qit hp hq hcl ha o h hB
  ·exact qgF hp hq hcl ha o h hB
def gT(es:List dK)(k:By):Option (Option By):=some ((dZ k es).map (·.d))
def Gd(P:List Pr)(lo hi:By):Option (List Pr):=some (P.filter fun x=>has lo hi x.1)
theorem NF{es:List dK}{P:List Pr}(h:Rl es P)(k d:By):(dZ k es).map (·.d)=some d↔(k,d)∈P:=by
 rw[h.mem];constructor
 ·intro he;cases hx:dZ k es with
  |none=>rw[hx]at he;cases he
  |some e=>
   rw[hx]at he;simp only[Option.map,ay]at he;have hm:=B8 hx;have hk:=List.find?_some hx;exact⟨e,hm,eq_of_beq hk,he⟩
 ·rintro⟨e,he,rfl,rfl⟩;rw[K8 h.nd he];rfl
theorem D3 (hp : aG Pm) (hq : cI Q) (hsq : Q 90 = some nT) (hcl : Pm 49 = some bU) (hm1 : M 26 "Get" = some 19) (hm2 : M 26 "Scan" = some 21) {i mt m ec : Nat} {es : List dK} {P : List Pr} (hT : ju es ec) (hR : Rl es P) (hl : es.length < small) (hPl : P.length ≤ 1000000) (hPk : ∀ p ∈ P, p.1.length < small ∧ p.2.length < small) (h1 : m ≠ i) (h2 : m ≠ mt) :
  PK M Q Pm 26 i m (fun h=>h[i]? =some (.row [.map mt])∧h[mt]? =some (.map (es.map fe) ec)) (gT es) (Gd P):=by
 refine⟨⟨19,hm1,fun h fl k hv hf=> ?_⟩,⟨21,hm2,fun h fl lo hi hv hf=> ?_⟩,fun h hv=>(cz.1 hv.1).1,fun h l hv=>⟨bl hv.1,bl hv.2⟩,fun h x hv=>⟨by rw[List.getElem?_set_ne h1];exact hv.1,by rw[List.getElem?_set_ne h2];exact hv.2⟩,fun k d hk=> ?_,fun lo hi l hsc=> ?_⟩
 ·rw[t19 hp hq hcl es ec mt i hT k h fl hf hv.1 hv.2];simp only[gT,mV];cases dZ k es<;>simp[vgR,aB]
 ·rw[t21 hp hq hsq hcl es ec mt i lo hi hT hl h fl hf hv.1 hv.2,qb2 hR];rfl
 ·simp only[gT,ay]at hk;cases he:dZ k es with
  |none=>rw[he]at hk;cases hk
  |some e=>
   rw[he]at hk;simp only[Option.map,ay]at hk;rw[←hk];exact hT.dat e (B8 he)
 ·simp only[Gd,ay]at hsc;subst hsc;refine⟨eY hR.XW _,Nat.le_trans (List.length_filter_le _ _) hPl,fun p hp=>hPk p (List.mem_filter.1 hp).1⟩
def YK(ms:List bL):List bL:=(dy (ms.map (·.k))).map fun k=>(di k ms).getD default
def fZ(ms:List bL):List Wr:=(YK ms).map fun e=>(e.k,e.g,e.d)
theorem QW{ms:List bL}(hn:(ms.map (·.k)).Nodup){e:bL}(he:e∈ms):di e.k ms=some e:=by
 induction ms with
 |nil=>cases he
 |cons a ms ih=>
  simp only[List.map_cons,List.nodup_cons]at hn;unfold di;rw[List.find?_cons];rcases eB.1 he with h1|h1
  ·rw[h1];simp
  ·have:(a.k==e.k)=false:=by
    rw[beq_eq_false_iff_ne];intro hh;exact hn.1 (by rw[hh];exact fh.2 ⟨e,h1,rfl⟩)
   rw[this];exact ih hn.2 h1
theorem Xx(a:By):∀ l,(k8 a l).Perm (a::l):=by
 intro l
 induction l with
 |nil=>exact List.Perm.refl _
 |cons x l ih=>
  simp only[k8];split
  ·exact(ih.cons x).trans (List.Perm.swap a x l)
  ·exact List.Perm.refl _
theorem CC:∀ l:List By,(dy l).Perm l:=by
 intro l
 induction l with
 |nil=>exact List.Perm.refl _
 |cons a l ih=>
  show(k8 a (dy l)).Perm _;exact(Xx a _).trans (ih.cons a)
theorem pH{ms:List bL}(hn:(ms.map (·.k)).Nodup):(YK ms).Perm ms:=by
 unfold YK;have h1:=(CC (ms.map (·.k))).map fun k=>(di k ms).getD default;refine h1.trans ?_;rw[List.map_map];have h2:ms.map ((fun k=>(di k ms).getD default)∘(·.k))=ms:=by
  conv=>rhs;rw[←List.map_id ms]
  refine List.map_congr_left fun e he=> ?_;simp[QW hn he]
 rw[h2]
theorem qh9(l:List nc)(hl:l.length<small)(K:Ex→Vs→Prop)(h0:K .normal ⟨[(0,.sl 27 (l.map cJ))],[],0⟩)(h1:∀ (e:Env) (h:List Uo),K .ret ⟨(2,.bool false)::e,h,0⟩):∀ (j q:Nat),q+j=l.length→
  gL ah M Q Pm UC 0 EA 0 ⟨[(8,.int .i64 (q:Int)),(6,.sl 27 (l.map cJ)),(0,.sl 27 (l.map cJ)),(7,.int .i64 (l.length:Int))],[],0⟩ K:=by
 intro j
 induction j with
 |zero=>
  intro q hij;have g1:¬((q:Int)<(l.length:Int)):=by omega
  rw[aq EA.eq_1];simp[Sk,g1];exact h0
 |succ j ih=>
  intro q hij;have g1:((q:Int)<(l.length:Int)):=by omega
  have hi1:q<l.length:=by omega
  have e1:(l.map cJ)[q]? =some (cJ l[q]):=by simp[hi1]
  have e3:aD .i64 ((q:Int)+1)=((q+1:Nat):Int):=cj (by unfold small at hl;omega);have ih' :=ih (q+1) (by omega);generalize l[q]=o at*;rw[aq EA.eq_1];simp only[cJ,bg,bJ,kG,lI,bV,nG,List.cons_append,List.nil_append]at e1;simp at ih';simp[Sk,qcc,qba,qaS,qcA,qbO,g1,eC e1,e3];split
  ·exact h1 _ _
  ·exact ih'
theorem x32(hp:aG Pm)(l:List nc)(hl:l.length<small):∃ b:Bool,gF ah M Q Pm 32 [.sl 27 (l.map cJ)] [] 0=some (.bool b,[],0)∧(b=true→l.length≤60):=by
 have h:=jx (VF:=ah) (M:=M) (Q:=Q) (Pm:=Pm) (fn:=UC) (f:=32) (us:=[.sl 27 (l.map cJ)]) (h:=[]) (fl:=0) (P:=fun r h fl=>h=[]∧fl=0∧∃ b:Bool,r=.bool b∧(b=true→l.length≤60)) (hp 32 (by decide) (by decide)) rfl rfl rfl (by
  simp[Ak,qbl,qbT];have:=qh9 (M:=M) (Q:=Q) (Pm:=Pm) l hl (l9 ah M Q Pm UC (.seq (.region Xr) .ret) (kX 0 UC fun r h fl=>h=[]∧fl=0∧∃ b:Bool,r=.bool b∧(b=true→l.length≤60))) (by simp[Xr];omega) (fun e h=>by simp) l.length 0 (by omega);simp at this;exact this)
 obtain⟨r,h,fl,h1,rfl,rfl,b,rfl,h2⟩:=h;exact⟨b,h1,h2⟩
theorem x61(hp:aG Pm)(k:By):gF ah M Q Pm 61 [.sl 1 [[.str k]],.sl 1 [[.str k]]] [] 0=some (.bool true,[],0):=by
 refine bq hp rfl rfl ?_;simp[uY,Tc,Wb,Q8,BC];rw[aq D0.eq_1];simp[Mj,qb7,qch,bn qc8,S7,Tf,RJ];rw[aq D0.eq_1];simp[Mj,BC]
theorem x30(hp:aG Pm)(hq:cI Q)(t:TE):gF ah M Q Pm 30 [.agg (oS t),.agg (oS t)] [] 0=some (.bool true,[],0):=by
 refine bq hp rfl rfl ?_;cases t with
 |no=>simp[sq,MI,N7,oS,Qc,hq,qjs hp]
 |code k e=>simp[sq,MI,N7,oS,hq,x61 hp [k]]
 |need k lo hi=>simp[sq,MI,N7,oS,hq,x61 hp [k]]
theorem qhp(hp:aG Pm)(hq:cI Q)(l:List (Rn×By))(hl:l.length<small)(K:Ex→Vs→Prop)(h0:K .normal ⟨[],[],0⟩):∀ (j q:Nat),q+j=l.length→
  gL ah M Q Pm XY 0 DZ 0 ⟨[(13,.int .i64 (q:Int)),(0,.sl 9 (l.map zy)),(1,.sl 9 (l.map zy)),(12,.int .i64 (l.length:Int))],[],0⟩ K:=by
 intro j
 induction j with
 |zero=>
  intro q hij;have g1:¬((q:Int)<(l.length:Int)):=by omega
  rw[aq DZ.eq_1];simp[Va,g1];exact h0
 |succ j ih=>
  intro q hij;have g1:((q:Int)<(l.length:Int)):=by omega
  have hi1:q<l.length:=by omega
  have e1:(l.map zy)[q]? =some (zy l[q]):=by simp[hi1]
  have e3:aD .i64 ((q:Int)+1)=((q+1:Nat):Int):=cj (by unfold small at hl;omega);have ih' :=ih (q+1) (by omega);generalize l[q]=p at*;have c23:=t23 (M:=M) (Q:=Q) (Pm:=Pm) (hp 23 (by decide) (by decide)) p.2 p.2;rw[aq DZ.eq_1];simp only[zy,bg,bJ,List.cons_append,List.nil_append]at e1;simp at ih' c23;simp[Va,qcm,qci,bn qeJ,Um,g1,eC e1,hq,c23,e3];exact ih'
theorem x63(hp:aG Pm)(hq:cI Q)(l:List (Rn×By))(hl:l.length<small):gF ah M Q Pm 63 [.sl 9 (l.map zy),.sl 9 (l.map zy)] [] 0=some (.bool true,[],0):=by
 refine bq hp rfl rfl ?_;have a:=qhp (M:=M) hp hq l hl (l9 ah M Q Pm XY (.seq (.region IG) .ret) (kE 0 XY (.bool true,[],0))) (by simp[IG]) l.length 0 (by omega);simp at a;simp[AW,qbD,qco,qaV];exact a
theorem x34(hp:aG Pm)(hq:cI Q)(t:Told)(fs:List (Rn×By))(h1:t.l=fs.map zy)(h2:fs.length<small):gF ah M Q Pm 34 [.agg (bC t),.agg (bC t)] [] 0=some (.bool true,[],0):=by
 refine bq hp rfl rfl ?_;have c23:=t23 (M:=M) (Q:=Q) (Pm:=Pm) (hp 23 (by decide) (by decide)) t.b t.b;have c63:=x63 (M:=M) hp hq fs h2;have c30:=x30 (M:=M) hp hq t.e;obtain⟨b1,ps,e0,b2,s1,s2,hte⟩:=GN t.e;rw[←h1]at c63;rw[hte]at c30;simp at c23;simp[AI,qb8,qbP,bC,hte,kG,lI,bV,jw,br,hq,c23,c63,c30]
section
variable{h:List Uo}{fl c t i m cl:Nat}{ms:List bL}
theorem qf9(hT:oT ms cl)(hl:ms.length<small)(hc:iO h c t i m ms cl)(hf:fl≤h.length)(K:Ex→Vs→Prop)
  (hK:∀ vis:List bL,vis.Perm ms→K .normal ⟨[(0,.ptr c 0),(3,.own (.t 3) 1 ((vis.map (·.k)).map bA))],h++[.iter (some m) cl (vis.map (·.b)) cl],fl⟩):
  ∀ (j:Nat) (vis left:List bL),left.length≤j→(vis++left).Perm ms→
  gL ah M Q Pm Is 0 DP (h.length+1) ⟨[(3,.own (.t 3) 1 ((vis.map (·.k)).map bA)),(14,.ptr h.length 0),(0,.ptr c 0)],h++[.iter (some m) cl (vis.map (·.b)) cl],fl⟩ K:=by
 have hd1:=l7 hc.row;intro j
 induction j with
 |zero=>
  intro vis left hj hper;obtain rfl:left=[]:=pQ (by omega);rw[aq DP.eq_1];simp[Xb];refine uv hT hper (q:=h.length) (m:=m) rfl (by simp) (bl hc.map) (fun _=> ?_) (fun e he=>by cases he);rw[List.append_nil]at hper;have:=hK vis hper;simp at this;simp[qB hf,hd1];exact this
 |succ j ih=>
  intro vis left hj hper;rw[aq DP.eq_1];simp[Xb];refine uv hT hper (q:=h.length) (m:=m) rfl (by simp) (bl hc.map) (fun hl=> ?_) (fun e he hes hper2=> ?_)
  ·subst hl;rw[List.append_nil]at hper;have:=hK vis hper;simp at this;simp[qB hf,hd1];exact this
  ·have hlen:(left.erase e).length≤j:=by
    have:=List.length_erase_of_mem he;have:=List.length_pos_of_mem he;omega
   have ih' :=ih (vis++[e]) (left.erase e) hlen hper2;have hfe:=HA hT.nodup hes;have hent:∀ ev:Env,mH ⟨ev,h++[.iter (some m) cl (vis.map (·.b)++[e.b]) cl],fl⟩ h.length=some (.aP [.str e.k,.agg [.bool e.g,.sl 1 (az e.d)]]):=fun ev=>by
    simp only[mH,Wp,bl hc.map,List.getLast?_concat,nX,cond_true,hfe,iS,Gc]
   have hvl:vis.length<small:=by
    have:=hper.length_eq;simp at this;omega
   obtain⟨f1,f2⟩:(vis.length+1)*16≤aW∧vis.length+1≤aW:=by unfold small at hvl;unfold aW;omega
   simp[bA]at ih';simp[qbd,qbp,hent,bA,qB hf,f1,f2,hd1];exact ih'
theorem qhd(hp:aG Pm)(hq:cI Q)(hcl:Pm 49=some bU){H:List Uo}(hc:iO H c t i m ms cl)(hf:fl≤H.length)(ks:List By)(hl:ks.length<small)(hk:∀ k∈ks,∃ e,di k ms=some e∧e.k=k)(K:Ex→Vs→Prop):
  ∀ (j q:Nat) (out:List bL),q+j=ks.length→out.length≤q→
  K .normal ⟨[(5,.own (.t 5) 3 ((out++(ks.drop q).map fun k=>(di k ms).getD default).map fun e=>Qt (e.k,e.g,e.d)))],H,fl⟩→
  gL ah M Q Pm Is 2 vG H.length ⟨[(27,.int .i64 (q:Int)),(0,.ptr c 0),(25,.own (.t 25) 1 (ks.map bA)),(5,.own (.t 5) 3 (out.map fun e=>Qt (e.k,e.g,e.d))),(26,.int .i64 (ks.length:Int))],H,fl⟩ K:=by
 have d0:=lt0 hc.row;intro j
 induction j with
 |zero=>
  intro q out hij ho hK;have h1:¬((q:Int)<(ks.length:Int)):=by omega
  have h2:ks.drop q=[]:=tN (by omega);rw[h2]at hK;rw[aq vG.eq_1];simp at hK;simp[L3,h1,b9 hf];exact hK
 |succ j ih=>
  intro q out hij ho hK;have h1:((q:Int)<(ks.length:Int)):=by omega
  have hi1:q<ks.length:=by omega
  have e1:(ks.map bA)[q]? =some (bA ks[q]):=by simp[hi1]
  have e2:q<(ks.map bA).length:=by simpa using hi1
  have e3:aD .i64 ((q:Int)+1)=((q+1:Nat):Int):=cj (by unfold small at hl;omega);have d1:ks.drop q=ks[q]::ks.drop (q+1):=vT hi1;obtain⟨e,he,hek⟩:=hk ks[q] (List.getElem_mem hi1);have hem:=B8 he;have hlk:=fun z s hs=>(Ax ks[q] ms cl m z s hs).2;rw[d1,List.map_cons,he]at hK;simp only[he]at hlk;have ih' :=ih (q+1) (out++[e]) (by omega) (by simp;omega) (by rw[ow];exact hK);have h49:=t49 (M:=M) (Q:=Q) (Pm:=Pm) hcl e.d (hc.ok.dat e hem);have io:∀ s,Tf s 1 (some (.own (.t 25) 1 (ks.map bA))) (some (.int .i64 (q:Int)))=some (.cA (.t 25) q 0,s):=fun s=>yO e2;generalize ks[q]=k at*;generalize ks.map bA=KS at*;obtain⟨f1,f2⟩:(out.length+1)*48≤aW∧out.length+1≤aW:=by unfold small at hl;unfold aW;omega
  rw[aq vG.eq_1];simp[Qt,hek]at ih';simp[L3,R8,bn YM,Ov,Xv,h1,io,e1,bA,d0,hc.row,hc.map,hlk,Gc,hq,h49,bH,e3,f1,f2,b9 hf,hY];exact ih'
theorem x38(hp:aG Pm)(hq:cI Q)(hsq:Q 90=some nT)(hcl:Pm 49=some bU)(hc:iO h c t i m ms cl)(hl:ms.length<small)(hf:fl≤h.length):gF ah M Q Pm 38 [.ptr c 0] h fl=some (.own .r 3 ((fZ ms).map Qt),h,fl):=by
 refine bq hp rfl rfl ?_;have hd1:=l7 hc.row;have d0:=lt0 hc.row;have a:=qf9 (M:=M) (Q:=Q) (Pm:=Pm) hc.ok hl hc hf (l9 ah M Q Pm Is (.seq (.region R4) (.seq (.region Js) (.seq (.seq (.region I4) (.block 2 (.loop vG))) (.seq (.region DW) .ret)))) (kE h.length Is (.own .r 3 ((fZ ms).map Qt),h,fl))) (fun vis hv=> ?_) ms.length [] ms (aM _) (by simp)
 ·simp at a;simp[A6,qcn,qbL,qaN,qaQ,hc.row,hc.map,d0,hd1,qB hf,b9 hf];exact a
 ·have hqq:=Aw (F:=gF ah M Q Pm) ⟨[(23,.own (.t 3) 1 ((vis.map (·.k)).map bA)),(0,.ptr c 0),(3,.own (.t 3) 1 ((vis.map (·.k)).map bA))],h++[.iter (some m) cl (vis.map (·.b)) cl],fl⟩ 24 90 (.t 3) 1 ((vis.map (·.k)).map bA) _ [] (Dh (vis.map (·.k)) (by have:=hv.length_eq;simp;omega));rw[tC (hv.map (·.k))]at hqq;have hkl:(dy (ms.map (·.k))).length=ms.length:=by rw[HY];simp
  have b:=qhd (M:=M) hp hq hcl (hc.app [.iter (some m) cl (vis.map (·.b)) cl]) (fl:=fl) (by simp;omega) (dy (ms.map (·.k))) (by rw[hkl];exact hl) (fun k hk=>by
   have:k∈ms.map (·.k):=(CC _).subset hk;obtain⟨e,he,rfl⟩:=fh.1 this;exact⟨e,QW hc.ok.keys he,rfl⟩) (l9 ah M Q Pm Is (.seq (.region DW) .ret) (kE h.length Is (.own .r 3 ((fZ ms).map Qt),h,fl))) (dy (ms.map (·.k))).length 0 [] (by omega) (by simp) (by simp[DW,ez hf,fZ,YK,Function.comp_def])
  have hkl2:((dy (ms.map (·.k))).map bA).length=(dy (ms.map (·.k))).length:=by simp
  generalize dy (ms.map (·.k))=KS at*;simp[Function.comp_def]at hqq;simp at b;simp[R4,Js,I4,hsq,hqq,Function.comp_def,qB hf,hd1];exact b
end
theorem Cx:∀ (l:List Cg) (t:Ms),(l.foldl cx t).1.length≤t.1.length+l.length:=by
 intro l
 induction l with
 |nil=>intro t;exact aM _
 |cons w l ih=>
  intro t;have h1:=ih (cx t w);have h2:(cx t w).1.length≤t.1.length+1:=TS _ _ _ _ _;simp only[List.foldl_cons,List.length_cons];omega
theorem Gt:∀ (l:List Cg) (t:Ms),oT t.1 t.2→(∀ w∈l,Eu w)→oT (l.foldl cx t).1 (l.foldl cx t).2:=by
 intro l
 induction l with
 |nil=>intro t h _;exact h
 |cons w l ih=>
  intro t h hl;have hw:=hl w k7;exact ih (cx t w) (h.set w.1 w.2.1 w.2.2 hw.1 hw.2.1 hw.2.2) fun v hv=>hl v (ki _ hv)
theorem x33(hp:aG Pm){h:List Uo}{fl i t:Nat}(hi:i<h.length)(hf:fl≤h.length):gF ah M Q Pm 33 [.iface t (.ptr i 0)] h fl=some (.ptr (h.length+1) 0,h++[.map [] 0,.row [.iface t (.ptr i 0),.map h.length]],fl):=by
 refine bq hp rfl rfl ?_;simp[uf,W4,W7,Rv]
theorem TL{l:List Pr}(h:E3 l=true):∀ p∈l,p.1.length<small:=by
 intro p hp;simp only[E3,cm,qd]at h;have:=h.1 p hp;simp at this;unfold small;omega
structure qjo(l:List Pr)(t0:Tb)(P0:List Pr):Prop where
 tab:ju t0.1 t0.2
 len:t0.1.length≤100
 rl:Rl t0.1 P0
 YN:P0.length≤100
 pk:∀ p∈P0,p.1.length<small∧p.2.length<small
theorem qlK{l:List Pr}(h:E3 l=true):qjo l (l.foldl n9 ([],0)) (Bw l):=by
 obtain⟨h1,h2⟩:=US h;obtain⟨T1,T2⟩:=CW l ([],0) h2 Mp;refine⟨T1,by simp at T2;omega,HZ l ([],0) [] V5,by have:=P6 l [];simp at this;unfold Bw;omega,fun p hp=> ?_⟩;obtain⟨k,d⟩:=p;have:=(BP l k d).1 hp;have hm:=Am this;exact⟨TL h (k,d) hm,h2 (k,d) hm⟩
section
variable (hp : aG Pm) (hq : cI Q) (hsq : Q 90 = some nT) (hcl : Pm 49 = some bU) (ha : Pm 97 = some pq) (hm1 : M 26 "Get" = some 19) (hm2 : M 26 "Scan" = some 21)
include hp hq hsq hcl ha hm1 hm2
end
def qnA(T:Tb)(p:List qnC×Nat)(S:List ZG)(t0:Tb)(a1 a2 a3 a4 a5 a6:Uo):List Uo:=[dX t0,.row [.map 0],dX T,.row [.map 2],ptO p,.row [.ptr 3 0,.map 4,qnB S],a1,a2,a3,a4,a5,a6]
def knJ(a:qny)(t0:Tb)(a1 a2 a3 a4 a5 a6:Uo):List Uo:=qnA a.t a.p a.s t0 a1 a2 a3 a4 a5 a6
theorem qqz(T:Tb)(c:Nat)(p:List qnC×Nat)(S:List ZG)(t0:Tb)(a1 a2 a3 a4 a5 a6 Z W:Uo)(N:List U)(D L:List Pr)(hl:D.length<small)(K:Ex→Vs→Prop):
  ∀ (j q:Nat) (es:List dK),q+j=D.length→
  K .normal ⟨[(0,.ptr 5 0),(6,.ptr 13 0),(2,.sl 2 (L.map fL))],qnA (qnT es (D.drop q),c) p S t0 a1 a2 a3 a4 a5 a6++[Z,W],0⟩→
  gL ah M Q Pm v26 1 qnN 14 ⟨[(63,.int .i64 (q:Int)),(0,.ptr 5 0),(61,.own (.t 61) 2 (D.map fL)),(6,.ptr 13 0),(2,.sl 2 (L.map fL)),(62,.int .i64 (D.length:Int))],qnA (es,c) p S t0 a1 a2 a3 a4 a5 a6++[Z,W],0⟩ K:=by
 intro j
 induction j with
 |zero=>
  intro q es hij hK;have h1:¬((q:Int)<(D.length:Int)):=by omega
  have h2:D.drop q=[]:=tN (by omega);rw[h2]at hK;rw[aq qnN.eq_1];simp[qo9,h1,qnA,dX,ptO,qnT]at hK⊢;exact hK
 |succ j ih=>
  intro q es hij hK;have h1:((q:Int)<(D.length:Int)):=by omega
  have hi1:q<D.length:=by omega
  have e1:(D.map fL)[q]? =some (fL D[q]):=by simp[hi1]
  have e2:q<(D.map fL).length:=by simpa using hi1
  have e3:aD .i64 ((q:Int)+1)=((q+1:Nat):Int):=cj (by unfold small at hl;omega);have d1:D.drop q=D[q]::D.drop (q+1):=vT hi1;rw[d1]at hK;have ih' :=ih (q+1) (qoL es D[q].1) (by omega) hK;have ep:fL D[q]=[.str D[q].1,.sl 1 (az D[q].2)]:=rfl;have hdl:=fun s hs=>UB D[q].1 es c 2 s hs;rw[aq qnN.eq_1];simp[qnA,dX,ptO,qoL]at ih';simp[qo9,qo2,qo4,h1,yO e2,hi1,ep,e3,qnA,dX,ptO,bn qpF,qn6,hdl,hY];exact ih'
theorem qqA(hp:aG Pm)(hq:cI Q)(hc:Pm 49=some bU)(p:List qnC×Nat)(S:List ZG)(t0:Tb)(a1 a2 a3 a4 a5 a6 Z:Uo)(lo hi:By)(L:List Pr)(hl:L.length<small)(hld:∀ p∈L,p.2.length<small)(K:Ex→Vs→Prop):
  ∀ (j q:Nat) (t:Tb),q+j=L.length→
  K .normal ⟨[],qnA (qnE t lo hi (L.drop q)) p S t0 a1 a2 a3 a4 a5 a6++[Z,.row [.str lo,.str hi]],0⟩→
  gL ah M Q Pm v26 3 qnO 14 ⟨[(79,.int .i64 (q:Int)),(0,.ptr 5 0),(6,.ptr 13 0),(77,.sl 2 (L.map fL)),(78,.int .i64 (L.length:Int))],qnA t p S t0 a1 a2 a3 a4 a5 a6++[Z,.row [.str lo,.str hi]],0⟩ K:=by
 intro j
 induction j with
 |zero=>
  intro q t hij hK;have h1:¬((q:Int)<(L.length:Int)):=by omega
  have h2:L.drop q=[]:=tN (by omega);rw[h2]at hK;rw[aq qnO.eq_1];simp[qn7,h1,qnA,dX,ptO,qnE]at hK⊢;exact hK
 |succ j ih=>
  intro q t hij hK;have h1:((q:Int)<(L.length:Int)):=by omega
  have hi1:q<L.length:=by omega
  have e1:(L.map fL)[q]? =some (fL L[q]):=by simp[hi1]
  have e3:aD .i64 ((q:Int)+1)=((q+1:Nat):Int):=cj (by unfold small at hl;omega);have d1:L.drop q=L[q]::L.drop (q+1):=vT hi1;have ep:fL L[q]=[.str L[q].1,.sl 1 (az L[q].2)]:=rfl;have hmu:=Nc L[q].1 L[q].2 t.1 t.2 2;rw[d1]at hK;rw[aq qnO.eq_1];cases hk:has lo hi L[q].1 with
  |false=>
   have hK' :K .normal ⟨[],qnA (qnE t lo hi (L.drop (q+1))) p S t0 a1 a2 a3 a4 a5 a6++[Z,.row [.str lo,.str hi]],0⟩:=by
    have:qnE t lo hi (L[q]::L.drop (q+1))=qnE t lo hi (L.drop (q+1)):=by unfold qnE;rw[List.filter_cons,hk];rfl
    rw[←this];exact hK
   have ih' :=ih (q+1) t (by omega) hK';simp[qnA,dX,ptO]at ih';simp[qn7,qoo,qop,qoq,h1,eC e1,ep,e3,qnA,dX,ptO,hq,t58 (hp 58 (by decide) (by decide)),hk];exact ih'
  |true=>
   have hK' :K .normal ⟨[],qnA (qnE (n9 t L[q]) lo hi (L.drop (q+1))) p S t0 a1 a2 a3 a4 a5 a6++[Z,.row [.str lo,.str hi]],0⟩:=by
    have:qnE t lo hi (L[q]::L.drop (q+1))=qnE (n9 t L[q]) lo hi (L.drop (q+1)):=by unfold qnE;rw[List.filter_cons,hk];rfl
    rw[←this];exact hK
   have ih' :=ih (q+1) (n9 t L[q]) (by omega) hK';simp[qnA,dX,ptO,n9]at ih';simp[qn7,qoo,qop,qoq,h1,eC e1,ep,e3,qnA,dX,ptO,hq,t58 (hp 58 (by decide) (by decide)),hk,bn qpG,qn8,t49 hc _ (hld _ (List.getElem_mem hi1)),bH,hmu,hY];exact ih'
theorem qqa(hp:aG Pm)(hq:cI Q)(hs:Q 90=some nT)(hc:Pm 49=some bU)(t:Tb)(p:List qnC×Nat)(S:List ZG)(t0:Tb)(a1 a2 a3 a4 a5 a6 Z:Uo)(lo hi:By)(L:List Pr)(hT:ju t.1 t.2)(hl:t.1.length<small)(hL:L.length<small)(hld:∀ p∈L,p.2.length<small)(K:Ex→Vs→Prop)
  (hK:K .normal ⟨[],qnA (qnU t lo hi L) p S t0 a1 a2 a3 a4 a5 a6++[Z,.row [.str lo,.str hi]],0⟩):
  gC ah M Q Pm v26 (.draw qo7) ⟨[(0,.ptr 5 0),(6,.ptr 13 0),(2,.sl 2 (L.map fL))],qnA t p S t0 a1 a2 a3 a4 a5 a6++[Z,.row [.str lo,.str hi]],0⟩ (l9 ah M Q Pm v26 (.block 1 (.loop qnN)) (l9 ah M Q Pm v26 (.seq (.region qon) (.block 3 (.loop qnO))) K)):=by
 have c46:=fun(A' B' A B C D E F G H I J:Uo)=>t46 (M:=M) hp hq hs hc t.1 t.2 2 3 lo hi hT hl [A',B',dX t,.row [.map 2],A,B,C,D,E,F,G,H,I,J] 0 (by simp) rfl rfl;simp[dX]at c46;have hlp:=qqz (M:=M) (Q:=Q) (Pm:=Pm) t t.2 p S t0 a1 a2 a3 a4 a5 a6 Z (.row [.str lo,.str hi]) [] (Pd t.1 lo hi (oO t.1)) L (by have:=qpx t.1 lo hi;omega);have hlq:=qqA (M:=M) hp hq hc p S t0 a1 a2 a3 a4 a5 a6 Z lo hi L hL hld;simp[qnA,dX,ptO]at hlp hlq;simp[qnA,dX,ptO,hq,bn qqj,qo8,c46,cut,hY];refine hlp _ _ 0 t.1 (Nat.zero_add _) ?_;simp only[List.drop_zero];simp[qon,cut];refine hlq _ _ 0 _ _ (Nat.zero_add _) ?_;simp only[List.drop_zero];simp[qnU,qnA,dX,ptO]at hK;exact hK
theorem x26(hp:aG Pm)(hq:cI Q)(hs:Q 90=some nT)(hc:Pm 49=some bU)(a:qny)(x:Les)(t0:Tb)(a1 a2 a3 a4 a5 a6:Uo)(hT:ju a.t.1 a.t.2)(hl:a.t.1.length<small)(hL:x.2.length<small)(hld:∀ p∈x.2,p.2.length<small)(hk:x.1.1.length<small)(hn:∀ k,cnt k a.p.1<small)(hS:a.s.length<small):
  gF ah M Q Pm 26 [.ptr 5 0,.agg [.str x.1.1,.str x.1.2],.sl 2 (x.2.map fL)] (knJ a t0 a1 a2 a3 a4 a5 a6) 0=some (.aP [],knJ (e9 x a) t0 a1 a2 a3 a4 a5 a6,0):=by
 refine bq hp rfl rfl ?_;obtain⟨⟨lo,hi⟩,L⟩:=x;obtain⟨t,p,S⟩:=a;dsimp only at hT hl hL hld hk hn hS;by_cases hlh:lo=hi
 ·subst hlh;have hcn:=hn lo;have e3:aD .i64 ((cnt lo p.1:Int)+1)=(cnt lo p.1:Int)+1:=cj (by unfold small at hcn;omega);have hlk:=fun s hs=>qn4 lo p.1 p.2 4 s hs;have hmu:∀ s,muP .str 4 (.str lo) (.int .i64 ((cnt lo p.1:Int)+1)) s (some (.map (p.1.map ptU) p.2))=_:=qqe lo (cnt lo p.1+1) p.1 p.2 4;have hend:=qqa (M:=M) hp hq hs hc t (bump lo p) S t0 a1 a2 a3 a4 a5 a6 (.row [.str lo,.str lo]) lo (lo++[0]) L hT hl hL hld;have hres:e9 ((lo,lo),L) ⟨t,p,S⟩=⟨qnU t lo (lo++[0]) L,bump lo p,S⟩:=by simp[e9]
  rw[hres];simp[qnA,dX,ptO,bump]at hend;simp[qnF,qoh,qoi,qoj,qol,qpL,knJ,qnA,dX,ptO,hq,t56 (hp 56 (by decide) (by decide)) _ hk,bn qqi,qor,hlk,e3,hmu,cut,bump,hY];refine hend _ ?_;simp[qnA,dX,ptO,bump,cut]
 ·have hlh' :(lo==hi)=false:=beq_eq_false_iff_ne.2 hlh;cases hr:right lo hi with
  |false=>
   have hres:e9 ((lo,hi),L) ⟨t,p,S⟩=⟨t,p,S⟩:=by simp[e9,hlh,hr]
   rw[hres];simp[qnF,qoh,qoi,qoj,qol,qoC,knJ,qnA,dX,ptO,hq,hlh',hlh,t57 (hp 57 (by decide) (by decide)),hr,cut]
  |true=>
   have hend:=qqa (M:=M) hp hq hs hc t p (S++[(lo,hi)]) t0 a1 a2 a3 a4 a5 a6 (.row [.str lo,.str hi]) lo hi L hT hl hL hld;have hres:e9 ((lo,hi),L) ⟨t,p,S⟩=⟨qnU t lo hi L,p,S++[(lo,hi)]⟩:=by simp[e9,hlh,hr]
   rw[hres];cases S with
   |nil=>
    simp[qnA,dX,ptO,qnB,Qo]at hend;simp[qnF,qoh,qoi,qoj,qol,qoC,knJ,qnA,dX,ptO,qnB,Qo,hq,hlh',hlh,t57 (hp 57 (by decide) (by decide)),hr,bn qo6,qn9,cut,aW,hY];refine hend _ ?_;simp[qnA,dX,ptO,qnB,Qo,cut]
   |cons s0 S=>
    have f1:(S.length+1+1)*32≤1099511627776∧S.length+1+1≤1099511627776:=by simp only[List.length_cons]at hS;unfold small at hS;omega
    simp[qnA,dX,ptO,qnB,Qo]at hend;simp[qnF,qoh,qoi,qoj,qol,qoC,knJ,qnA,dX,ptO,qnB,Qo,hq,hlh',hlh,t57 (hp 57 (by decide) (by decide)),hr,bn qo6,qn9,cut,aW,f1,hY];refine hend _ ?_;simp[qnA,dX,ptO,qnB,Qo,cut]
theorem qqB(hp:aG Pm)(hq:cI Q)(hs:Q 90=some nT)(hc:Pm 49=some bU)(t:Tb)(l:List ZG)(lo hi:By)(h:List Uo)(fl i ti pi mi:Nat)(hf:fl≤h.length)(hT:ju t.1 t.2)(hl:t.1.length<small)(hS:l.length<small)
  (h0:h[i]? =some (.row [.ptr ti 0,.map pi,.dD 2 (l.map Qo)])) (hti:h[ti]? =some (.row [.map mi])) (hmi:h[mi]? =some (dX t)):
  ∀ (j q:Nat),q+j=l.length→
  gL ah M Q Pm v29 0 qnP (h.length+1) ⟨[(0,.ptr i 0),(8,.ptr h.length 0),(24,.int .i64 (q:Int)),(2,.str hi),(1,.str lo),(22,.own (.c i 2) 2 (l.map Qo)),(23,.int .i64 (l.length:Int))],h++[.row [.str lo,.str hi]],fl⟩
   (l9 ah M Q Pm v29 (.seq (.region qoa) .ret) (kE h.length v29 (if qnz (l.drop q) (lo,hi)=true then .aP [.sl 2 ((Pd t.1 lo hi (oO t.1)).map fL),.aK]else .aP [.sl 2 [],.iface 45 (.agg [.str lo,.str hi])],h,fl))):=by
 have hlt:i<h.length:=(cz.1 h0).1;have hlt2:ti<h.length:=(cz.1 hti).1;have c46:=fun(l' :List Uo)=>t46 (M:=M) hp hq hs hc t.1 t.2 mi ti lo hi hT hl (h++l') fl (by simp;omega) (bl hti) (bl hmi);have d1:decide (i<h.length+1)=true:=decide_eq_true (by omega);have d2:decide (i<h.length+1+1)=true:=decide_eq_true (by omega);have d3:decide (ti<h.length+1+1)=true:=decide_eq_true (by omega);have h60:=t60 (M:=M) (Q:=Q) hp lo hi;intro j
 induction j with
 |zero=>
  intro q hij;have h1:¬((q:Int)<(l.length:Int)):=by omega
  have h2:l.drop q=[]:=tN (by omega);rw[h2,aq qnP.eq_1];simp[qoG,h1,qoa,qnz,hq,h60,ez hf,qB hf]
 |succ j ih=>
  intro q hij;have h1:((q:Int)<(l.length:Int)):=by omega
  have hi1:q<l.length:=by omega
  have e2:q<(l.map Qo).length:=by simpa using hi1
  have e3:aD .i64 ((q:Int)+1)=((q+1:Nat):Int):=cj (by unfold small at hS;omega);have dq:l.drop q=l[q]::l.drop (q+1):=vT hi1;have hI:qnz (l.drop q) (lo,hi)=(qnR l[q] (lo,hi)||qnz (l.drop (q+1)) (lo,hi)):=by rw[dq];rfl
  have ih' :=ih (q+1) (by omega);rw[hI,aq qnP.eq_1];simp only[qnR];rcases aV (lt lo l[q].1)with h3|h3<;>rcases aV (l[q].2==[])with h4|h4<;>rcases aV (hi==[])with h5|h5<;>rcases aV (lt l[q].2 hi)with h6|h6<;>(
   simp at ih';simp[qoG,qpP,qpQ,qpa,h1,yO e2,hi1,Qo,e3,h3,h4,h5,h6,bne,bn qqk,qos,hq,c46,bl h0,d1,d2,d3,ez hf,qB hf,hY]
   try exact ih')
theorem x29(hp:aG Pm)(hq:cI Q)(hs:Q 90=some nT)(hc:Pm 49=some bU)(t:Tb)(S:List ZG)(lo hi:By)(h:List Uo)(fl i ti pi mi:Nat)(hf:fl≤h.length)(hT:ju t.1 t.2)(hl:t.1.length<small)(hS:S.length<small)
  (h0:h[i]? =some (.row [.ptr ti 0,.map pi,qnB S])) (hti:h[ti]? =some (.row [.map mi])) (hmi:h[mi]? =some (dX t)):
  gF ah M Q Pm 29 [.ptr i 0,.str lo,.str hi] h fl=some (qnS t S lo hi,h,fl):=by
 refine bq hp rfl rfl ?_;have h60:=t60 (M:=M) (Q:=Q) hp lo hi;have hlt:i<h.length:=(cz.1 h0).1;have d1:decide (i<h.length+1)=true:=decide_eq_true (by omega);rcases aV (right lo hi)with hr|hr
 ·simp[qnK,qoD,qoE,qoF,qpO,hq,t57 (hp 57 (by decide) (by decide)),hr,qnS,ez hf]
 ·cases S with
  |nil=>
   simp only[qnB]at h0;simp[qnK,qoD,qoE,qoF,qpb,qpc,hq,t57 (hp 57 (by decide) (by decide)),hr,bl h0,d1,qB hf];rw[aq qnP.eq_1];simp[qoG,qoa,hq,h60,ez hf,qB hf,qnS,qnz,hr]
  |cons s0 S=>
   have a:=qqB (M:=M) hp hq hs hc t (s0::S) lo hi h fl i ti pi mi hf hT hl hS h0 hti hmi (s0::S).length 0 (Nat.zero_add _);rw[List.drop_zero]at a;have hk:qnS t (s0::S) lo hi=if qnz (s0::S) (lo,hi)=true then .aP [.sl 2 ((Pd t.1 lo hi (oO t.1)).map fL),.aK]else .aP [.sl 2 [],.iface 45 (.agg [.str lo,.str hi])]:=by unfold qnS;rw[if_pos hr]
   rw[hk];simp only[qnB]at h0;simp at a h0;simp[qnK,qoD,qoE,qoF,qpb,qpc,hq,t57 (hp 57 (by decide) (by decide)),hr,bl h0,d1,qB hf];exact a
def qnI(a:qny)(k:By):Option (Option By):=if cnt k a.p.1=0∧inB a.s k=false then none else gT a.t.1 k
def scK(a:qny)(P:List Pr)(lo hi:By):Option (List Pr):=if right lo hi=true then(if qnz a.s (lo,hi)=true then Gd P lo hi else none)else some []
theorem qqc (hp : aG Pm) (hq : cI Q) (hsq : Q 90 = some nT) (hcl : Pm 49 = some bU) (hm1 : M 58 "Get" = some 28) (hm2 : M 58 "Scan" = some 29) (a : qny) {P : List Pr} (hT : ju a.t.1 a.t.2) (hR : Rl a.t.1 P) (hl : a.t.1.length < small) (hS : a.s.length < small) (hPl : P.length ≤ 1000000) (hPk : ∀ p ∈ P, p.1.length < small ∧ p.2.length < small) :
  PK M Q Pm 58 5 6 (fun h=>h[5]? =some (.row [.ptr 3 0,.map 4,qnB a.s])∧h[3]? =some (.row [.map 2])∧h[2]? =some (dX a.t)∧h[4]? =some (ptO a.p)) (qnI a) (scK a P):=by
 refine⟨⟨28,hm1,fun h fl k hv hf=> ?_⟩,⟨29,hm2,fun h fl lo hi hv hf=> ?_⟩,fun h hv=>(cz.1 hv.1).1,fun h l hv=>⟨bl hv.1,bl hv.2.1,bl hv.2.2.1,bl hv.2.2.2⟩,fun h x hv=> ?_,fun k d hk=> ?_,fun lo hi l hsc=> ?_⟩
 ·rw[t28 hp hq hcl a.t a.p a.s k h fl 5 3 4 2 hf hT hS hv.1 hv.2.1 hv.2.2.1 hv.2.2.2];unfold qoT qnI;split
  ·rfl
  ·simp only[gT,mV];cases dZ k a.t.1<;>simp[vgR,aB]
 ·rw[x29 hp hq hsq hcl a.t a.s lo hi h fl 5 3 4 2 hf hT hl hS hv.1 hv.2.1 hv.2.2.1];unfold qnS scK;split
  ·split
   ·rw[qb2 hR];rfl
   ·rfl
  ·rfl
 ·simp only[List.getElem?_set_ne (show(6:Nat)≠5 by decide),List.getElem?_set_ne (show(6:Nat)≠4 by decide),List.getElem?_set_ne (show(6:Nat)≠3 by decide),List.getElem?_set_ne (show(6:Nat)≠2 by decide)];exact hv
 ·unfold qnI at hk;split at hk
  ·cases hk
  ·simp only[gT,ay]at hk;cases he:dZ k a.t.1 with
   |none=>rw[he]at hk;cases hk
   |some e=>
    rw[he]at hk;simp only[Option.map,ay]at hk;rw[←hk];exact hT.dat e (B8 he)
 ·unfold scK at hsc;split at hsc
  ·split at hsc
   ·simp only[Gd,ay]at hsc;subst hsc;exact⟨eY hR.XW _,Nat.le_trans (List.length_filter_le _ _) hPl,fun p hp=>hPk p (List.mem_filter.1 hp).1⟩
   ·cases hsc
  ·simp only[ay]at hsc;subst hsc;exact⟨List.Pairwise.nil,by simp,fun p hp=>by cases hp⟩
theorem le_trans{a b c:By}(h1:lt b a=false)(h2:lt c b=false):lt c a=false:=by
 cases h:lt c a with
 |false=>rfl
 |true=>
  rcases DJ b a with h3|h3|h3
  ·rw[show lt b a=true from h3]at h1;cases h1
  ·subst h3;rw[h2]at h;cases h
  ·have:lt c b=true:=NJ h h3;rw[h2]at this;cases this
theorem qpK{a b c:By}(h1:lt a b=true)(h2:lt c b=false):lt a c=true:=by
 rcases DJ b c with h3|h3|h3
 ·exact NJ h1 h3
 ·rw[←h3];exact h1
 ·rw[show lt c b=true from h3]at h2;cases h2
theorem qoM{lo hi k:By}(h:has lo hi k=true):right lo hi=true:=by
 unfold has at h;unfold right;rw[cm,Bool.or_eq_true,Bool.not_eq_true']at h;rw[Bool.or_eq_true];rcases h.2 with h2|h2
 ·exact .inl h2
 ·right;cases hh:lt lo hi with
  |true=>rfl
  |false=>
   have:=qpK h2 hh;rw[h.1]at this;cases this
theorem qn3{s:ZG}{lo hi k:By}(h:qnR s (lo,hi)=true)(hk:has lo hi k=true):has s.1 s.2 k=true:=by
 unfold qnR at h;unfold has at hk⊢;simp only[cm,Bool.or_eq_true,Bool.not_eq_true',bne_iff_ne,ne_eq]at h hk⊢;refine⟨le_trans h.1 hk.1,?_⟩;rcases h.2 with h2|⟨h2,h3⟩
 ·exact .inl h2
 ·right;rcases hk.2 with h4|h4
  ·exact absurd (eq_of_beq h4) h2
  ·exact qpK h4 h3
structure Knw(a:qny)(P P0:List Pr):Prop where
 rl:Rl a.t.1 P
 ok:∀ k,(cnt k a.p.1≠0∨inB a.s k=true)→∀ d,(k,d)∈P↔(k,d)∈P0
theorem qqn{a:qny}{P P0:List Pr}{es:List dK}(h:Knw a P P0)(h0:Rl es P0)(k:By):qnI a k=none∨qnI a k=gT es k:=by
 unfold qnI;split
 ·exact .inl rfl
 ·rename_i hn;right;have hk:cnt k a.p.1≠0∨inB a.s k=true:=by
   by_cases h1:cnt k a.p.1=0
   ·right;cases h2:inB a.s k with
    |true=>rfl
    |false=>exact absurd ⟨h1,h2⟩ hn
   ·exact .inl h1
  unfold gT;congr 1;apply Option.ext;intro d;rw[NF h.rl,NF h0];exact h.ok k hk d
theorem qqg{a:qny}{P P0:List Pr}(h:Knw a P P0)(hs:ue P0)(lo hi:By):scK a P lo hi=none∨scK a P lo hi=Gd P0 lo hi:=by
 unfold scK;split
 ·split
  ·rename_i hk;right;unfold Gd;congr 1;refine ur (eY h.rl.XW _) (eY hs _) fun x=> ?_;rw[List.mem_filter,List.mem_filter];obtain⟨s,hs1,hs2⟩:=List.any_eq_true.1 hk;constructor
   ·rintro⟨h1,h2⟩;exact⟨(h.ok x.1 (.inr (List.any_eq_true.2 ⟨s,hs1,qn3 hs2 h2⟩)) x.2).1 h1,h2⟩
   ·rintro⟨h1,h2⟩;exact⟨(h.ok x.1 (.inr (List.any_eq_true.2 ⟨s,hs1,qn3 hs2 h2⟩)) x.2).2 h1,h2⟩
  ·exact .inl rfl
 ·rename_i hr;right;unfold Gd;congr 1;symm;apply List.filter_eq_nil_iff.2;intro x hx hh;exact hr (qoM hh)
def qnx(n:ZG):ZG:=if n.1=n.2 then(n.1,n.1++[0])else n
def okN(n:ZG):Prop:=n.1.length<small∧(n.1=n.2∨right n.1 n.2=true)
theorem qoU{R R' :List Pr}{k:By}(h:∀ d,kL k R=some d↔kL k R' =some d):kL k R=kL k R' :=Option.ext h
theorem qnW{P0:List Pr}(hs:ue P0)(P:List Pr)(lo hi k d:By):(k,d)∈qoc P lo hi (P0.filter fun x=>has lo hi x.1)↔if has lo hi k=true then(k,d)∈P0 else(k,d)∈P:=by
 unfold qoc;have h1:kL k (Bw (P0.filter fun x=>has lo hi x.1))=kL k (P0.filter fun x=>has lo hi x.1):=qoU fun d=>by
  rw[WG (qn5 _),BP]
 rw[SB,qnJ,h1,qnJ,List.mem_filter];by_cases hh:has lo hi k=true
 ·simp only[hh,if_true,Bool.not_true,mF,and_false,or_false];exact WG hs k d
 ·have hf:has lo hi k=false:=by simpa using hh
  simp[hf]
structure qpn(n:Nat)(a:qny)(b:qn2)(P0:List Pr):Prop where
 rk:Rkv a b
 sz:Szs n a b
 kw:Knw a b.P P0
 pk:∀ p∈b.P,p.1.length<small∧p.2.length<small
theorem ln0(P0:List Pr):qpn 0 kn0 vw0 P0:=⟨rk0,qqG,⟨V5,fun k h=>by
 rcases h with h|h
 ·exact absurd rfl h
 ·cases h⟩,fun p h=>by cases h⟩
theorem qpz{n:Nat}{a:qny}{b:qn2}{P0:List Pr}(h:qpn n a b P0)(hs:ue P0)(hl:P0.length≤100)(hk0:∀ p∈P0,p.1.length<small∧p.2.length<small)(nd:ZG)(hn:okN nd)(L:List Pr)(hL:L=P0.filter fun x=>has (qnx nd).1 (qnx nd).2 x.1):∃ b',qpn (n+1) (e9 (nd,L) a) b' P0:=by
 have hLl:L.length≤100:=by rw[hL];exact Nat.le_trans (List.length_filter_le _ _) hl
 have hLd:∀ p∈L,p.2.length<small:=fun p hp=>by rw[hL]at hp;exact(hk0 p (List.mem_filter.1 hp).1).2
 refine⟨qnM (nd,L) b,qoA h.rk _,qo0 h.sz _ hLl hLd,⟨(qoA h.rk _).rl,fun k hk d=> ?_⟩,fun p hp=> ?_⟩
 ·unfold e9 at hk;unfold qnM;by_cases e1:nd.1=nd.2
  ·simp only[e1,if_true]at hk⊢;have e2:qnx nd=(nd.2,nd.2++[0]):=by unfold qnx;rw[if_pos e1,e1]
   rw[e2]at hL;subst hL;rw[qnW hs];split
   ·exact Iff.rfl
   ·rename_i hh;rw[Pv]at hh;refine h.kw.ok k ?_ d;rw[qnH,if_neg hh]at hk;exact hk
  ·simp only[e1,if_false]at hk⊢;have e3:right nd.1 nd.2=true:=hn.2.resolve_left e1;simp only[e3,if_true]at hk⊢;have e2:qnx nd=nd:=by unfold qnx;rw[if_neg e1]
   rw[e2]at hL;subst hL;rw[qnW hs];split
   ·exact Iff.rfl
   ·rename_i hh;refine h.kw.ok k ?_ d;rcases hk with hk|hk
    ·exact .inl hk
    ·right;simp only[inB,List.any_append,List.any_cons,List.any_nil,Bool.or_false,Bool.or_eq_true]at hk;rcases hk with hk|hk
     ·exact hk
     ·exact absurd hk hh
 ·obtain⟨k,d⟩:=p;unfold qnM at hp;by_cases e1:nd.1=nd.2
  ·simp only[e1,if_true]at hp;have e2:qnx nd=(nd.2,nd.2++[0]):=by unfold qnx;rw[if_pos e1,e1]
   rw[e2]at hL;subst hL;rw[qnW hs]at hp;split at hp
   ·exact hk0 _ hp
   ·exact h.pk _ hp
  ·simp only[e1,if_false]at hp;have e3:right nd.1 nd.2=true:=hn.2.resolve_left e1;simp only[e3,if_true]at hp;have e2:qnx nd=nd:=by unfold qnx;rw[if_neg e1]
   rw[e2]at hL;subst hL;rw[qnW hs]at hp;split at hp
   ·exact hk0 _ hp
   ·exact h.pk _ hp
theorem qoR(a:qny)(x:Les)(k:By)(h:cnt k a.p.1≠0):cnt k (e9 x a).p.1≠0:=by
 unfold e9;split
 ·rw[qnH];split
  ·omega
  ·exact h
 ·split<;>exact h
theorem qog(a:qny)(x:Les):∃ r,(e9 x a).s=a.s++r:=by
 unfold e9;split
 ·exact⟨[],by simp⟩
 ·split
  ·exact⟨[x.1],rfl⟩
  ·exact⟨[],by simp⟩
theorem qpu(a:qny)(x:Les)(k:By)(h:¬(cnt k a.p.1=0∧inB a.s k=false)):¬(cnt k (e9 x a).p.1=0∧inB (e9 x a).s k=false):=by
 rintro⟨h1,h2⟩;refine h ⟨?_,?_⟩
 ·by_cases h3:cnt k a.p.1=0
  ·exact h3
  ·exact absurd h1 (qoR a x k h3)
 ·obtain⟨r,hr⟩:=qog a x;rw[hr]at h2;simp only[inB,List.any_append,Bool.or_eq_false_iff]at h2⊢;exact h2.1
theorem qoS(a:qny)(x:Les)(n:ZG)(h:qnz a.s n=true):qnz (e9 x a).s n=true:=by
 obtain⟨r,hr⟩:=qog a x;rw[hr];simp only[qnz,List.any_append,Bool.or_eq_true]at h⊢;exact .inl h
theorem qqb(a:qny)(L:List Pr)(k:By):¬(cnt k (e9 ((k,k),L) a).p.1=0∧inB (e9 ((k,k),L) a).s k=false):=by
 rintro⟨h1,_⟩;unfold e9 at h1;simp only[if_true]at h1;rw[qnH,if_pos (by simp)]at h1;omega
theorem qpy(a:qny)(L:List Pr)(lo hi:By)(h1:lo≠hi)(h2:right lo hi=true):qnz (e9 ((lo,hi),L) a).s (lo,hi)=true:=by
 unfold e9;simp only[h1,h2,if_false,if_true,qnz,List.any_append,List.any_cons,List.any_nil,Bool.or_false,Bool.or_eq_true];right;have e1:lt lo lo=false:=qC lo;have e2:lt hi hi=false:=qC hi;unfold qnR;rw[e1,e2];rcases aV (hi==[])with h3|h3<;>simp[bne,h3]
theorem qqC(hp:aG Pm)(hq:cI Q)(l:List Wr)(hl:l.length<small)(K:Ex→Vs→Prop)(h0:K .normal ⟨[],[],0⟩):∀ (j q:Nat),q+j=l.length→
  gL ah M Q Pm v37 0 qob 0 ⟨[(13,.int .i64 (q:Int)),(0,.sl 3 (l.map Qt)),(1,.sl 3 (l.map Qt)),(12,.int .i64 (l.length:Int))],[],0⟩ K:=by
 intro j
 induction j with
 |zero=>
  intro q hij;have g1:¬((q:Int)<(l.length:Int)):=by omega
  rw[aq qob.eq_1];simp[qpd,g1];exact h0
 |succ j ih=>
  intro q hij;have g1:((q:Int)<(l.length:Int)):=by omega
  have hi1:q<l.length:=by omega
  have e1:(l.map Qt)[q]? =some (Qt l[q]):=by simp[hi1]
  have e3:aD .i64 ((q:Int)+1)=((q+1:Nat):Int):=cj (by unfold small at hl;omega);have ih' :=ih (q+1) (by omega);generalize l[q]=p at*;have c23:=t23 (M:=M) (Q:=Q) (Pm:=Pm) (hp 23 (by decide) (by decide)) p.2.2 p.2.2;rw[aq qob.eq_1];simp only[Qt]at e1;simp at ih' c23;simp[qpd,qpV,qpX,bn qql,qou,g1,eC e1,hq,c23,e3,bne];exact ih'
theorem x37(hp:aG Pm)(hq:cI Q)(l:List Wr)(hl:l.length<small):gF ah M Q Pm 37 [.sl 3 (l.map Qt),.sl 3 (l.map Qt)] [] 0=some (.bool true,[],0):=by
 refine bq hp rfl rfl ?_;have a:=qqC (M:=M) hp hq l hl (l9 ah M Q Pm v37 (.seq (.region qot) .ret) (kE 0 v37 (.bool true,[],0))) (by simp[qot]) l.length 0 (by omega);simp at a;simp[qnX,qpS,qpT,qpU,bne];exact a
def qnL(t0:Tb)(a:qny)(qqd mx:Ms)(N:Uo):List Uo:=[dX t0,.row [.map 0],dX a.t,.row [.map 2],ptO a.p,.row [.ptr 3 0,.map 4,qnB a.s],mb qqd,.row [.iface 58 (.ptr 5 0),.map 6],mb mx,.row [.iface 26 (.ptr 1 0),.map 8],N]
def VpK(a:qny)(h:List Uo):Prop:=h[5]? =some (.row [.ptr 3 0,.map 4,qnB a.s])∧h[3]? =some (.row [.map 2])∧h[2]? =some (dX a.t)∧h[4]? =some (ptO a.p)
def VpT(t0:Tb)(h:List Uo):Prop:=h[1]? =some (.row [.map 0])∧h[0]? =some (dX t0)
theorem qqJ(t:TE):∃ (b1:Bool) (ps:List (List U)) (e:Int) (s1 s2:By),oS t=[.bool b1,.sl 1 ps,.int .i64 e,.bool t.asks,.str s1,.str s2]∧∀ k lo hi,t=.need k lo hi→s1=lo∧s2=hi:=by
 cases t with
 |no=>exact⟨_,_,_,_,_,rfl,fun _ _ _ h=>by cases h⟩
 |code k e=>exact⟨_,_,_,_,_,rfl,fun _ _ _ h=>by cases h⟩
 |need k lo hi=>exact⟨_,_,_,_,_,rfl,fun _ _ _ h=>by cases h;exact⟨rfl,rfl⟩⟩
section
variable(gt:By→Option (Option By))(sct:By→By→Option (List Pr))(q:nc→Qy)(W:nc→An→List Cg)(S:List nc)
def qnD(i:Nat):Ms:=(S.take i).foldl (fun ms o=>(W o (jz ms.1 gt sct (q o))).foldl cx ms) ([],0)
theorem qoN{i:Nat}(hi:i<S.length):qnD gt sct q W S (i+1)=(W S[i] (jz (qnD gt sct q W S i).1 gt sct (q S[i]))).foldl cx (qnD gt sct q W S i):=by
 unfold qnD;rw[List.take_succ_eq_append_getElem hi,List.foldl_append];rfl
end
theorem qqL(hp:aG Pm)(hq:cI Q)(t0:Tb)(a:qny){gk:By→Option (Option By)}{sck:By→By→Option (List Pr)}{gt:By→Option (Option By)}{sct:By→By→Option (List Pr)}
  (hvK:PK M Q Pm 58 5 6 (VpK a) gk sck) (hvT:PK M Q Pm 26 1 8 (VpT t0) gt sct) (S:List nc) (hl:S.length≤60) (q:nc→Qy) (F:nc→An→Told) (W:nc→An→List Cg) (hS:∀ o∈S,gM M Q Pm o (q o) (F o) (W o))
  (hag:∀ ms qy,jz ms gk sck qy=.asked∨jz ms gk sck qy=jz ms gt sct qy) (hna:∀ ms qy,jz ms gt sct qy≠.asked) (r:Nat) (B:Int) (K:Ex→Vs→Prop)
  (hK0:∀ ms:Ms,oT ms.1 ms.2→ms.1.length≤240→K .normal ⟨[(8,.ptr 9 0),(7,.ptr 7 0),(6,.ptr 5 0),(5,.ptr 1 0),(1,.sl 27 (S.map cJ)),(36,.int .i64 B),(37,.int .i64 (r:Int)),(9,.ptr 10 0),(10,.bool false)],qnL t0 a ms ms (.row [.str [],.str []]),0⟩)
  (hK1:∀ (ms ms2:Ms) (i:Nat) (hi:i<S.length) (k:UInt8) (lo hi' :By),(∀ (i' :Nat) (h:i' <i),jz (qnD gt sct q W S i').1 gk sck (q (S[i']'(by omega)))≠.asked)→jz (qnD gt sct q W S i).1 gk sck (q S[i])=.asked→(q S[i]).need k=.need k lo hi'→
   K .normal ⟨[(8,.ptr 9 0),(7,.ptr 7 0),(6,.ptr 5 0),(5,.ptr 1 0),(1,.sl 27 (S.map cJ)),(36,.int .i64 B),(37,.int .i64 (r:Int)),(9,.ptr 10 0),(10,.bool true)],qnL t0 a ms ms2 (.row [.str lo,.str hi']),0⟩):
  ∀ (j i:Nat),i+j=S.length→oT (qnD gt sct q W S i).1 (qnD gt sct q W S i).2→(qnD gt sct q W S i).1.length≤4*i→(∀ (i' :Nat) (h:i' <i) (h2:i' <S.length),jz (qnD gt sct q W S i').1 gk sck (q S[i'])≠.asked)→
  gL ah M Q Pm v9 2 qn1 11 ⟨[(8,.ptr 9 0),(7,.ptr 7 0),(6,.ptr 5 0),(5,.ptr 1 0),(1,.sl 27 (S.map cJ)),(36,.int .i64 B),(37,.int .i64 (r:Int)),(9,.ptr 10 0),(54,.int .i64 (i:Int)),(52,.sl 27 (S.map cJ)),(10,.bool false),(53,.int .i64 (S.length:Int))],qnL t0 a (qnD gt sct q W S i) (qnD gt sct q W S i) (.row [.str [],.str []]),0⟩ K:=by
 intro j
 induction j with
 |zero=>
  intro i hij hok hml _;have h1:¬((i:Int)<(S.length:Int)):=by omega
  have:=hK0 _ hok (by omega);rw[aq qn1.eq_1];simp only[qnL]at this⊢;simp[qoH,h1,cut];exact this
 |succ j ih=>
  intro i hij hok hml hbe;have h1:((i:Int)<(S.length:Int)):=by omega
  have hi1:i<S.length:=by omega
  have e1:(S.map cJ)[i]? =some (cJ S[i]):=by simp[hi1]
  have e3:aD .i64 ((i:Int)+1)=((i+1:Nat):Int):=cj (by omega);have hD:=hS S[i] (List.getElem_mem hi1);have hK1:=fun ms ms2 k lo hi' =>hK1 ms ms2 i hi1 k lo hi' (fun i' h=>hbe i' h (by omega));have ih:=ih (i+1) (by omega);rw[qoN gt sct q W S hi1]at ih;have hbe2:jz (qnD gt sct q W S i).1 gk sck (q S[i])≠.asked→∀ (i' :Nat) (h:i' <i+1) (h2:i' <S.length),jz (qnD gt sct q W S i').1 gk sck (q S[i'])≠.asked:=fun hn i' h h2=>by
   by_cases hh:i' =i
   ·subst hh;exact hn
   ·exact hbe i' (by omega) h2
  clear hbe;generalize S[i]=o at*;generalize qnD gt sct q W S i=ms at*;have hms:(ms.1,ms.2)=ms:=rfl;have hc:iO (qnL t0 a ms ms (.row [.str [],.str []])++[.row (cJ o)]) 7 58 5 6 ms.1 ms.2:=⟨rfl,rfl,hok⟩;have hr:=hD.run hvK hc ⟨rfl,rfl,rfl,rfl⟩ (fl:=0) (kN _) (by omega);rw[hms]at hr;obtain⟨b1,ps,e0,s1,s2,hte,hnd⟩:=qqJ (F o (jz ms.1 gk sck (q o))).e;by_cases ha:jz ms.1 gk sck (q o)=.asked
  ·have hask:(F o .asked).e.asks=true:=by
    rcases hD.need with h|⟨k,h⟩
    ·rw[h]at ha;cases ha
    ·rw[h];cases hqo:q o with
     |no=>rw[hqo]at ha;cases ha
     |get k=>rfl
     |scan lo hi=>rfl
   have hk1:∀ ms' ms2,K .normal ⟨[(8,.ptr 9 0),(7,.ptr 7 0),(6,.ptr 5 0),(5,.ptr 1 0),(1,.sl 27 (S.map cJ)),(36,.int .i64 B),(37,.int .i64 (r:Int)),(9,.ptr 10 0),(10,.bool true)],qnL t0 a ms' ms2 (.row [.str s1,.str s2]),0⟩:=fun ms' ms2=>by
    rw[ha]at hnd;rcases hD.need with h|⟨k,h⟩
    ·rw[h]at ha;cases ha
    ·cases hqo:q o with
     |no=>rw[hqo]at ha;cases ha
     |get k' =>
      rw[hqo]at h;obtain⟨rfl,rfl⟩:=hnd k k' k' h;exact hK1 ms' ms2 k _ _ ha (by rw[hqo];rfl)
     |scan lo hi=>
      rw[hqo]at h;obtain⟨rfl,rfl⟩:=hnd k lo hi h;exact hK1 ms' ms2 k _ _ ha (by rw[hqo];rfl)
   rw[ha]at hr hte;rw[hask]at hte;have hk1:=hk1 ((W o .asked).foldl cx ms) ms;generalize (W o .asked).foldl cx ms=ms3 at*;generalize F o .asked=tl at*;simp only[cJ,bg,bJ,kG,lI,bV,nG,List.cons_append,List.nil_append]at e1 hr;simp only[bC,hte,kG,lI,bV,jw,br,List.cons_append,List.nil_append,qnL]at hr;simp only[qnL]at hk1⊢;simp at hr hk1⊢;rw[aq qn1.eq_1];simp[qoH,qpe,qpf,qpg,qp6,h1,eC e1,hq,hr,cut];exact hk1
  ·have hA:=(hag ms.1 (q o)).resolve_left ha;have hask:(F o (jz ms.1 gk sck (q o))).e.asks=false:=hD.ask _ ha;have hrows:=hD.rows (jz ms.1 gt sct (q o)) (fun P hP=>by
    cases hqo:q o with
    |no=>rw[hqo]at hP;cases hP
    |get k=>rw[hqo]at hP;simp only[jz]at hP;cases h:eG ms.1 gt k<;>rw[h]at hP<;>cases hP
    |scan lo hi=>
     rw[hqo]at hP;simp only[jz,eS]at hP;cases h:sct lo hi with
     |none=>rw[h]at hP;cases hP
     |some l=>
      rw[h]at hP;simp only[Option.map]at hP;injection hP with hP
      rw[←hP];have h1:=En (has lo hi) ms.1 l;have h2:=(hvT.qmj lo hi l h).2.1;omega)
   have hcg:=hD.cg (jz ms.1 gt sct (q o));have hln:=hD.len (jz ms.1 gt sct (q o));rw[hask]at hte;rw[hA]at hr hte;have hok2:=Gt (W o (jz ms.1 gt sct (q o))) ms hok hcg;have hml2:=Cx (W o (jz ms.1 gt sct (q o))) ms;have hrx:=fun(X:Uo) (qqd:Ms)=>hD.run hvT (h:=qnL t0 a qqd ms (.row [.str [],.str []])++[.row (cJ o),X]) (fl:=0) (c:=9) ⟨rfl,rfl,hok⟩ ⟨rfl,rfl⟩ (kN _) (by omega);rw[hms]at hrx;have ih' :=ih hok2 (by omega) (hbe2 ha);obtain⟨fs,f1,f2⟩:=hrows;have c34:=x34 (M:=M) hp hq _ fs f1 (by unfold small;omega);generalize (W o (jz ms.1 gt sct (q o))).foldl cx ms=ms3 at*;generalize F o (jz ms.1 gt sct (q o))=tl at*;simp only[cJ,bg,bJ,kG,lI,bV,nG,List.cons_append,List.nil_append]at e1 hr hrx;simp only[bC,hte,kG,lI,bV,jw,br,List.cons_append,List.nil_append,qnL]at hr hrx c34;simp only[qnL]at ih'⊢;simp at hr hrx c34 ih'⊢;rw[aq qn1.eq_1];simp[qoH,qpe,qpf,qpg,qp8,h1,eC e1,hq,hr,cut,bn qqm,qov,hrx,c34,e3,hY];exact ih'
theorem qpp{ms:List bL}{g g' :By→Option (Option By)}{sc sc' :By→By→Option (List Pr)}{k:By}(h:g k≠none→g' k≠none)(ha:jz ms g sc (.get k)≠.asked):jz ms g' sc' (.get k)≠.asked:=by
 simp only[jz,eG]at ha⊢;cases hc:di k ms with
 |some e=>simp
 |none=>
  rw[hc]at ha;cases hg:g' k with
  |some v=>simp
  |none=>
   exfalso;refine ha ?_;have:g k=none:=Classical.byContradiction fun hh=>h hh hg;rw[this]
theorem qoQ{ms:List bL}{g g' :By→Option (Option By)}{sc sc' :By→By→Option (List Pr)}{lo hi:By}(h:sc lo hi≠none→sc' lo hi≠none)(ha:jz ms g sc (.scan lo hi)≠.asked):jz ms g' sc' (.scan lo hi)≠.asked:=by
 simp only[jz,eS]at ha⊢;cases hg:sc' lo hi with
 |some v=>simp
 |none=>
  exfalso;refine ha ?_;have:sc lo hi=none:=Classical.byContradiction fun hh=>h hh hg;rw[this];rfl
theorem qnV{ms:List bL}{g:By→Option (Option By)}{sc:By→By→Option (List Pr)}:(∀ k,g k≠none→jz ms g sc (.get k)≠.asked)∧∀ lo hi,sc lo hi≠none→jz ms g sc (.scan lo hi)≠.asked:=by
 refine⟨fun k h hh=> ?_,fun lo hi h hh=> ?_⟩
 ·simp only[jz,eG]at hh;cases hc:di k ms with
  |some e=>rw[hc]at hh;cases hh
  |none=>
   rw[hc]at hh;cases hg:g k with
   |none=>exact h hg
   |some v=>rw[hg]at hh;cases hh
 ·simp only[jz,eS]at hh;cases hg:sc lo hi with
  |none=>exact h hg
  |some v=>rw[hg]at hh;cases hh
theorem qoy{a:qny}{k:By}(h:¬(cnt k a.p.1=0∧inB a.s k=false)):qnI a k≠none:=by
 unfold qnI;rw[if_neg h];exact fun hh=>by cases hh
theorem qpv{a:qny}{k:By}(h:qnI a k≠none):¬(cnt k a.p.1=0∧inB a.s k=false):=fun hh=>h (by unfold qnI;rw[if_pos hh])
theorem qof{a:qny}{P:List Pr}{lo hi:By}(h:right lo hi=true→qnz a.s (lo,hi)=true):scK a P lo hi≠none:=by
 unfold scK;split
 ·rename_i hr;rw[if_pos (h hr)];exact fun hh=>by cases hh
 ·exact fun hh=>by cases hh
theorem qoX{a:qny}{P:List Pr}{lo hi:By}(h:scK a P lo hi≠none)(hr:right lo hi=true):qnz a.s (lo,hi)=true:=by
 cases hk:qnz a.s (lo,hi)with
 |true=>rfl
 |false=>exact absurd (by unfold scK;rw[if_pos hr,hk];rfl) h
theorem qoP(a:qny)(x:Les){P P' :List Pr}{ms:List bL}{qy:Qy}(h:jz ms (qnI a) (scK a P) qy≠.asked):jz ms (qnI (e9 x a)) (scK (e9 x a) P') qy≠.asked:=by
 cases qy with
 |no=>exact h
 |get k=>exact qpp (fun h=>qoy (qpu a x k (qpv h))) h
 |scan lo hi=>exact qoQ (fun h=>qof fun hr=>qoS a x _ (qoX h hr)) h
def Qy.spn:Qy→ZG
 | .no=>([],[])
 | .get k=>(k,k)
 | .scan lo hi=>(lo,hi)
theorem qoK(a:qny)(L:List Pr){P' :List Pr}{ms:List bL}{qy:Qy}(hq:qpo qy):jz ms (qnI (e9 (qy.spn,L) a)) (scK (e9 (qy.spn,L) a) P') qy≠.asked:=by
 cases qy with
 |no=>exact fun h=>by cases h
 |get k=>exact qnV.1 k (qoy (qqb a L k))
 |scan lo hi=>exact qnV.2 lo hi (qof fun hr=>qpy a L lo hi hq.2.1 hr)
theorem qoJ{a:qny}{P P0:List Pr}{es:List dK}(h:Knw a P P0)(h0:Rl es P0)(ms:List bL)(qy:Qy):jz ms (qnI a) (scK a P) qy=.asked∨jz ms (qnI a) (scK a P) qy=jz ms (gT es) (Gd P0) qy:=by
 cases qy with
 |no=>exact .inr rfl
 |get k=>
  rcases qqn h h0 k with h1|h1
  ·simp only[jz,eG];cases hc:di k ms with
   |some e=>exact .inr rfl
   |none=>left;simp only[h1]
  ·right;simp only[jz,eG,h1]
 |scan lo hi=>
  rcases qqg h h0.XW lo hi with h1|h1
  ·left;simp only[jz,eS,h1];rfl
  ·right;simp only[jz,eS,h1]
theorem qpq(es:List dK)(P0:List Pr)(ms:List bL)(qy:Qy):jz ms (gT es) (Gd P0) qy≠.asked:=by
 cases qy with
 |no=>exact fun h=>by cases h
 |get k=>exact qnV.1 k (fun h=>by cases h)
 |scan lo hi=>exact qnV.2 lo hi (fun h=>by cases h)
theorem qpB{qy:Qy}(h:qpo qy):okN qy.spn:=by
 cases qy with
 |no=>exact⟨by decide,.inl rfl⟩
 |get k=>exact⟨h,.inl rfl⟩
 |scan lo hi=>exact⟨h.1,.inr h.2.2⟩
def qod(t0:Tb)(a:qny):List Uo:=[dX t0,.row [.map 0],dX a.t,.row [.map 2],ptO a.p,.row [.ptr 3 0,.map 4,qnB a.s]]
theorem qoY{qy:Qy}{k:UInt8}{lo hi:By}(h:qy.need k=.need k lo hi):qy.spn=(lo,hi):=by
 cases qy with
 |no=>cases h
 |get key=>cases h;rfl
 |scan a b=>cases h;rfl
theorem qqM (hp : aG Pm) (hq : cI Q) (hsq : Q 90 = some nT) (hcl : Pm 49 = some bU) (hk1 : M 58 "Get" = some 28) (hk2 : M 58 "Scan" = some 29) (hm1 : M 26 "Get" = some 19) (hm2 : M 26 "Scan" = some 21) {l : List Pr} {t0 : Tb} {P0 : List Pr} (hF : qjo l t0 P0)
  (S:List nc) (hl:S.length≤60) (q:nc→Qy) (F:nc→An→Told) (W:nc→An→List Cg) (hS:∀ o∈S,gM M Q Pm o (q o) (F o) (W o)) (K:Ex→Vs→Prop) (hKr:∀ (e:Env) (h:List Uo),K .ret ⟨(4,.bool true)::e,h,0⟩):
  ∀ (j r:Nat) (a:qny) (b:qn2),r+j=S.length→qpn r a b P0→(∀ (i' :Nat) (h:i' <r) (h2:i' <S.length),jz (qnD (gT t0.1) (Gd P0) q W S i').1 (qnI a) (scK a b.P) (q S[i'])≠.asked)→
  gL ah M Q Pm v9 0 qow 6 ⟨[(37,.int .i64 (r:Int)),(6,.ptr 5 0),(5,.ptr 1 0),(1,.sl 27 (S.map cJ)),(36,.int .i64 (3*(S.length:Int)+1))],qod t0 a,0⟩ K:=by
 intro j
 induction j using Nat.strongRecOn with
 |_ j ih=>
  intro r a b hij hL hbe;have h1:((r:Int)<3*(S.length:Int)+1):=by omega
  have e3:aD .i64 ((r:Int)+1)=((r+1:Nat):Int):=cj (by omega);have hlen:=hL.sz.len;have hspn:=hL.sz.spn;have hprs:=hL.sz.prs;have hcnt:=hL.sz.cnt;have hvK:=qqc (M:=M) hp hq hsq hcl hk1 hk2 a hL.sz.tab hL.rk.rl (by unfold small;omega) (by unfold small;omega) (by omega) hL.pk;have hvT:=D3 (M:=M) hp hq hsq hcl hm1 hm2 (i:=1) (mt:=0) (m:=8) hF.tab hF.rl (by have:=hF.len;unfold small;omega) (by have:=hF.YN;omega) hF.pk (by decide) (by decide);have c33a:=x33 (M:=M) (Q:=Q) hp (h:=qod t0 a) (fl:=0) (i:=5) (t:=58) (by simp[qod]) (by simp);have c33b:=x33 (M:=M) (Q:=Q) hp (h:=qod t0 a++[.map [] 0,.row [.iface 58 (.ptr 5 0),.map 6]]) (fl:=0) (i:=1) (t:=26) (by simp[qod]) (by simp);have hx:=fun K h0 h1=>qqL (M:=M) hp hq t0 a hvK hvT S hl q F W hS (qoJ hL.kw hF.rl) (qpq t0.1 P0) r (3*(S.length:Int)+1) K h0 h1 S.length 0 (Nat.zero_add _) ⟨by simp[qnD],fun e he=>(by cases he),fun e he=>(by cases he),by simp[qnD],fun e he=>(by cases he),fun e he=>(by cases he)⟩ (by simp[qnD]) (fun i' h=>absurd h (Nat.not_lt_zero _));have hms0:qnD (gT t0.1) (Gd P0) q W S 0=([],0):=rfl;rw[hms0]at hx;simp only[qod,List.cons_append,List.nil_append]at c33a c33b;simp at c33a c33b;rw[aq qow.eq_1];simp[qqw,h1,qqx,qqy,qp4,qp5,qod,c33a,c33b,hq,cut];refine hx _ (fun ms g1 g2=> ?_) (fun ms ms2 i hi k lo hi' hb1 hb2 hb3=> ?_)
  ·have hc7:iO (qnL t0 a ms ms (.row [.str [],.str []])) 7 58 5 6 ms.1 ms.2:=⟨rfl,rfl,g1⟩;have hc9:iO (qnL t0 a ms ms (.row [.str [],.str []])) 9 26 1 8 ms.1 ms.2:=⟨rfl,rfl,g1⟩;have c38:=x38 (M:=M) hp hq hsq hcl hc7 (by unfold small;omega) (fl:=0) (kN _);have c39:=x38 (M:=M) hp hq hsq hcl hc9 (by unfold small;omega) (fl:=0) (kN _);have hfl:(fZ ms.1).length=ms.1.length:=by
    unfold fZ;rw[List.length_map];exact(pH g1.keys).length_eq
   have c37:=x37 (M:=M) hp hq (fZ ms.1) (by rw[hfl];unfold small;omega);simp only[qnL]at c38 c39⊢;generalize fZ ms.1=fw at*;simp at c38 c39 c37⊢;simp[qoI,qp9,hq,c38,c39,c37,cut];exact hKr _ _
  ·have hir:r≤i:=Nat.le_of_not_lt fun h=>absurd hb2 (hbe i h hi);have hqk:=(hS S[i] (List.getElem_mem hi)).qok;have hsp:=qoY hb3;have hok:=qpB hqk;rw[hsp]at hok;obtain⟨b',hL'⟩:=qpz hL hF.rl.XW hF.YN hF.pk (lo,hi') hok _ rfl;have hbe' :∀ (i' :Nat) (h:i' <r+1) (h2:i' <S.length),jz (qnD (gT t0.1) (Gd P0) q W S i').1 (qnI (e9 ((lo,hi'),P0.filter fun x=>has (qnx (lo,hi')).1 (qnx (lo,hi')).2 x.1) a)) (scK (e9 ((lo,hi'),P0.filter fun x=>has (qnx (lo,hi')).1 (qnx (lo,hi')).2 x.1) a) b'.P) (q S[i'])≠.asked:=fun i' h h2=>by
    by_cases hii:i' =i
    ·subst hii;have:=qoK (ms:=(qnD (gT t0.1) (Gd P0) q W S i').1) a (P0.filter fun x=>has (qnx (lo,hi')).1 (qnx (lo,hi')).2 x.1) (P' :=b'.P) hqk;rw[hsp]at this;exact this
    ·exact qoP a _ (hb1 i' (by omega))
   have ih' :=ih (j - 1) (by omega) (r+1) _ b' (by omega) hL' hbe';have c21:=fun(s1 s2:By)=>t21 (M:=M) hp hq hsq hcl t0.1 t0.2 0 1 s1 s2 hF.tab (by have:=hF.len;unfold small;omega) (qnL t0 a ms ms2 (.row [.str lo,.str hi'])++[.row [.str s1,.str s2]]) 0 (kN _) rfl rfl;simp only[qb2 hF.rl]at c21;have hPl:=List.length_filter_le (fun x:Pr=>has (qnx (lo,hi')).1 (qnx (lo,hi')).2 x.1) P0;have hPd:∀ p∈P0.filter (fun x:Pr=>has (qnx (lo,hi')).1 (qnx (lo,hi')).2 x.1),p.2.length<small:=fun p hp=>(hF.pk p (List.mem_filter.1 hp).1).2;have hpl0:=hF.YN;have c26:=fun(a1 a2 a3 a4 a5 a6:Uo)=>x26 (M:=M) hp hq hsq hcl a ((lo,hi'),P0.filter fun x=>has (qnx (lo,hi')).1 (qnx (lo,hi')).2 x.1) t0 a1 a2 a3 a4 a5 a6 hL.sz.tab (by unfold small;omega) (by simp only;unfold small;omega) hPd hok.1 (fun k=>by have:=hcnt k;unfold small;omega) (by unfold small;omega);simp only[knJ,qnA]at c26;simp only[qnL,List.cons_append,List.nil_append]at c21⊢;simp only[qod]at ih';by_cases hlh:lo=hi'
   ·subst hlh;have e5:qnx (lo,lo)=(lo,lo++[0]):=if_pos rfl;rw[e5]at c26 ih';have c40:=t40 (M:=M) (Q:=Q) (Pm:=Pm) (hp 40 (by decide) (by decide)) lo hok.1;generalize e9 ((lo,lo),P0.filter fun x=>has (lo,lo++[0]).1 (lo,lo++[0]).2 x.1) a=a' at*;simp only at c26;have c21:=c21 lo (lo++[0]);generalize (P0.filter fun x=>has lo (lo++[0]) x.1).map fL=qqD at*;simp at ih' c21 c26 c40⊢;simp[qoI,qph,qpi,qpj,qpk,qpl,qpm,hq,c40,c21,c26,cut,e3];exact ih'
   ·have e5:qnx (lo,hi')=(lo,hi'):=if_neg hlh;rw[e5]at c26 ih';have hlh' :(hi' ==lo)=false:=beq_eq_false_iff_ne.2 fun h=>hlh h.symm;generalize e9 ((lo,hi'),P0.filter fun x=>has (lo,hi').1 (lo,hi').2 x.1) a=a' at*;simp only at c26;have c21:=c21 lo hi';generalize (P0.filter fun x=>has lo hi' x.1).map fL=qqD at*;simp at ih' c21 c26⊢;simp[qoI,qph,qpi,qpj,qpk,qpl,qpm,hq,hlh',c21,c26,cut,e3];exact ih'
theorem qqF (hp : aG Pm) (hq : cI Q) (hsq : Q 90 = some nT) (hcl : Pm 49 = some bU) (ha : Pm 97 = some pq) (hk1 : M 58 "Get" = some 28) (hk2 : M 58 "Scan" = some 29) (hm1 : M 26 "Get" = some 19) (hm2 : M 26 "Scan" = some 21)
  (l:List Pr) (S:List nc) (hl:l.length≤1048576) (hS:S.length≤1048576) (hSB:∀ s∈S,BU s):
  gF ah M Q Pm 9 [.sl 2 (l.map fL),.sl 27 (S.map cJ)] [] 0=some (.bool true,[],0):=by
 refine bq hp rfl rfl ?_;have c11:=t11 (M:=M) hp hq hcl ha hk1;have c12:=t12 (M:=M) (Q:=Q) (Pm:=Pm) (hp 12 (by decide) (by decide)) l (by omega);obtain⟨b1,c32,hb1⟩:=x32 (M:=M) (Q:=Q) hp S (by unfold small;omega);have hF:=qlK (l:=l);cases hf:E3 l with
 |false=>
  rw[hf]at c12;simp[qnQ,qpH,qpI,qpJ,hq,c11,c12]
 |true=>
  rw[hf]at c12;cases b1 with
  |false=>simp[qnQ,qpH,qpI,qpJ,hq,c11,c12,c32]
  |true=>
   have hF' :=hF hf;have c13:=t13 (M:=M) hp hq hcl l (by unfold small;omega) (US hf).2;have hS60:=hb1 rfl;generalize l.foldl n9 ([],0)=t0 at*;have c25:=t25 (M:=M) hp hq hcl;have e1:aD .i64 (3*(S.length:Int))=3*(S.length:Int):=by
    have:=CP (i:=3*S.length) (by omega);simpa using this
   have e2:aD .i64 (3*(S.length:Int)+1)=3*(S.length:Int)+1:=by
    have:=CP (i:=3*S.length+1) (by omega);simpa using this
   have hex:∀ o:nc,∃ y:Qy×(An→Told)×(An→List Cg),BU o→gM M Q Pm o y.1 y.2.1 y.2.2:=fun o=>by
    by_cases h:BU o
    ·obtain⟨q,F,W,h⟩:=UD (M:=M) hp hq hsq hcl ha o h;exact⟨(q,F,W),fun _=>h⟩
    ·exact⟨(.no,fun _=>bE,fun _=>[]),fun h' =>absurd h' h⟩
   have hx:=fun K hK=>qqM (M:=M) hp hq hsq hcl hk1 hk2 hm1 hm2 hF' S hS60 (fun o=>(hex o).choose.1) (fun o=>(hex o).choose.2.1) (fun o=>(hex o).choose.2.2) (fun o ho=>(hex o).choose_spec (hSB o ho)) K hK S.length 0 kn0 vw0 (Nat.zero_add _) (ln0 _) (fun i' h=>absurd h (Nat.not_lt_zero _));simp[qnQ,qpH,qpI,qpJ,qqs,qqu,qqv,hq,c11,c12,c32,c13,c25,e1,e2,tX,cut];exact hx _ (fun e h=>by simp)
end Go.RE
