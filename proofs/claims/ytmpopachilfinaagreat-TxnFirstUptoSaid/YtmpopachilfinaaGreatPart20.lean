/- Contracts: Base.Scan. -/
import Derived.Test.YtmpopachilfinaaGreatPart19
import Derived.Test.YtmpopachilfinaaGreatRows
set_option linter.unusedVariables false
set_option linter.unusedSimpArgs false
set_option linter.unnecessarySimpa false
namespace Go.RE
def iD(t:Tx)(l:List (By×By)):List (By×By):=l.filter fun p=>(fK nA p.1 t.bT).isNone
def om(s:cA)(l:List Wt):List (By×By):=(l.filter fun w=> !w.gone&&PS s w.key).map fun w=>(w.key,w.data)
def Mv(b:Bs)(t:Tx)(s:cA):List (By×By):=dQ (fun p:By×By=>p.1) (iD t (iO b.db s.1 s.2 t.began)++om s (ov t))
theorem qfA{h:List Uo}{t p:Nat}{tx:Tx}(fl:Nat)(hf:fl≤h.length)(ht:h[t]? =some (.row (lB tx p)))(hp:jX nA h[p]? tx.bT)(s:cA)(L:List (By×By))(hL:L.length<small)(K:Ex→Vs→Prop)
  (hK:K .normal ⟨[(12,.ptr h.length 0),(13,.own (.t 13) 2 ((iD tx L).map uF)),(10,.ptr t 0)],h++[.row (aQ s)],fl⟩):∀ (j i:Nat) (out:List (By×By)),i+j=L.length→out++iD tx (L.drop i)=iD tx L→out.length≤i→
  gL br mT qT pT v37 0 zO (h.length+1) ⟨[(51,.int .i64 (i:Int)),(13,.own (.t 13) 2 (out.map uF)),(10,.ptr t 0),(49,.own (.t 49) 2 (L.map uF)),(12,.ptr h.length 0),(50,.int .i64 (L.length:Int))],h++[.row (aQ s)],fl⟩ K:=by
 have hlk:∀ (k:By) (e:Env) (x:List Uo),fH ⟨e,h++x,fl⟩ .str (.agg [.str [],.bool false,.sl 1 []]) true (.map p) (.str k)=some (match fK nA k tx.bT with|some w=> .aV [.agg (dI w),.bool true]|none=> .aV [.agg [.str [],.bool false,.sl 1 []],.bool false]):=fun k e x=>by
  have hm:jX nA (h++x)[p]? tx.bT:=by rw[cz hp.lt];exact hp
  have:=mU nA (s:=⟨e,h++x,fl⟩) (m:=p) hm (.agg [.str [],.bool false,.sl 1 []]) k true;refine this.trans ?_;cases fK nA k tx.bT<;>rfl
 have hz:V.EV (.agg [.str [],.bool false,.ag [] 0 0 1])=some (.agg [.str [],.bool false,.sl 1 []]):=rfl;have hd:decide (t<h.length+1)=true:=decide_eq_true (by have:=(bn.1 ht).1;omega);simp only[lB]at ht;intro j
 induction j with
 |zero=>
  intro i out hij ho hl;obtain⟨h1,h2⟩:=nB hij;rw[h2]at ho;have:out=iD tx L:=by rw[←ho];simp[iD]
  subst this;rw[ak zO.eq_1];simp[Gf,h1,hd,kU hf];exact hK
 |succ j ih=>
  intro i out hij ho hl;obtain⟨h1,e3,q,d1,g1⟩:=qn hij hL;have e1:=g1 uF;have hi:i<L.length:=by omega
  have ia:∀ s',qo s' 2 (some (.own (.t 49) 2 (L.map uF))) (some (.int .i64 (i:Int)))=some (.bD (.t 49) i 0,s'):=fun s' =>cT (by simpa using hi);have e2:∀ hh:i<L.length,L[i]=q:=fun hh=>by
   have:=XD hh;rw[d1]at this;exact(List.cons.inj this).1.symm
  have hlen:(L.map uF).length=L.length:=by simp
  rw[d1]at ho;simp only[uF]at e1;have hq:=hlk q.1;have b1:(out.length+1)*40≤bp∧out.length+1≤bp:=by unfold small at hL;unfold bp;omega
  have e7:∀ hh:i<(L.map uF).length,(L.map uF)[i]=[.str q.1,.sl 1 (bE q.2)]:=fun hh=>by rw[bP hh]at e1;exact Option.some.inj e1
  generalize hX:L.map uF=X at*;rw[ak zO.eq_1];cases hw:fK nA q.1 tx.bT with
  |none=>
   rw[hw]at hq;simp only at hq;have hk:iD tx (q::L.drop (i+1))=q::iD tx (L.drop (i+1)):=by simp[iD,hw]
   rw[hk]at ho;have ih' :=ih (i+1) (out++[q]) (by omega) (by simpa using ho) (by simp;omega);simp[uF]at ih';simp[Gf,Li,ay Nt,zN,Lj,Lk,Ll,h1,ia,e1,e7,e3,hlen,hi,aS ht,hq,hz,hd,kU hf,Al hf,b1,cR];simpa using ih'
  |some w=>
   rw[hw]at hq;simp only[dI]at hq;have hk:iD tx (q::L.drop (i+1))=iD tx (L.drop (i+1)):=by simp[iD,hw]
   rw[hk]at ho;have ih' :=ih (i+1) out (by omega) ho (by omega);simp[Gf,Li,ay Nt,zN,Lj,Lk,Ll,h1,ia,e1,e7,e3,hlen,hi,aS ht,hq,hz,hd,kU hf,Al hf,b1,cR];simpa using ih'
theorem qfB{h:List Uo}(fl:Nat)(hf:fl≤h.length)(s:cA)(L:List Wt)(hL:L.length<small)(hok:∀ w∈L,lS w)(K:Ex→Vs→Prop)(out0:List (By×By))(ho0:out0.length<small)
  (hK:K .normal ⟨[(13,.own (.t 13) 2 ((out0++om s L).map uF))],h++[.row (aQ s)],fl⟩):∀ (j i:Nat) (out:List (By×By)),i+j=L.length→out++om s (L.drop i)=out0++om s L→out.length≤out0.length+i→
  gL br mT qT pT v37 2 vH (h.length+1) ⟨[(75,.int .i64 (i:Int)),(12,.ptr h.length 0),(73,.own (.t 73) 3 (L.map dI)),(13,.own (.t 13) 2 (out.map uF)),(74,.int .i64 (L.length:Int))],h++[.row (aQ s)],fl⟩ K:=by
 intro j
 induction j with
 |zero=>
  intro i out hij ho hl;obtain⟨h1,h2⟩:=nB hij;rw[h2]at ho;have:out=out0++om s L:=by rw[←ho];simp[om]
  subst this;rw[ak vH.eq_1];simp[B0,h1,kU hf]at hK⊢;exact hK
 |succ j ih=>
  intro i out hij ho hl;obtain⟨h1,e3,w,d1,g1⟩:=qn hij hL;have e1:=g1 dI;have hi:i<L.length:=by omega
  have hw:lS w:=hok w (List.mem_of_mem_drop (i:=i) (by rw[d1];exact eU));have ia:∀ s',qo s' 3 (some (.own (.t 73) 3 (L.map dI))) (some (.int .i64 (i:Int)))=some (.bD (.t 73) i 0,s'):=fun s' =>cT (by simpa using hi);have hlen:(L.map dI).length=L.length:=by simp
  rw[d1]at ho;simp only[dI]at e1;have b1:(out.length+1)*40≤bp∧out.length+1≤bp:=by unfold small at hL ho0;unfold bp;omega
  have e7:∀ hh:i<(L.map dI).length,(L.map dI)[i]=[.str w.key,.bool w.gone,.sl 1 (bE w.data)]:=fun hh=>by rw[bP hh]at e1;exact Option.some.inj e1
  have c1:=t80 s w.key;have c2:=jK (f:=58) rfl (w:=1) (xs:=bE w.data) [] 0 (by rw[j0];exact hw.2) (by simp);generalize hX:L.map dI=X at*;simp only[aQ]at c1;rw[ak vH.eq_1];have skip:(!w.gone&&PS s w.key)=false→out++om s (L.drop (i+1))=out0++om s L:=fun hh=>by
   have:om s (w::L.drop (i+1))=om s (L.drop (i+1)):=by simp[om,List.filter_cons,hh]
   rw[this]at ho;exact ho
  cases hg:w.gone with
  |true=>
   rw[hg]at e1 e7;have ih' :=ih (i+1) out (by omega) (skip (by rw[hg];rfl)) (by omega);simp only[aQ]at ih';simp[B0,Gg,Gh,Gj,aQ,h1,ia,e1,e7,e3,hlen,hi,kU hf];simpa using ih'
  |false=>
   rw[hg]at e1 e7;cases hh:PS s w.key with
   |false=>
    rw[hh]at c1;have ih' :=ih (i+1) out (by omega) (skip (by rw[hg,hh];rfl)) (by omega);simp only[aQ]at ih';simp[B0,Gg,Gh,Gj,aQ,h1,ia,e1,e7,e3,hlen,hi,c1,kU hf];simpa using ih'
   |true=>
    rw[hh]at c1;have hk:om s (w::L.drop (i+1))=(w.key,w.data)::om s (L.drop (i+1)):=by simp[om,List.filter_cons,hg,hh]
    rw[hk]at ho;have ih' :=ih (i+1) (out++[(w.key,w.data)]) (by omega) (by simpa using ho) (by simp;omega);simp[uF,aQ]at ih';simp[B0,Gg,Gh,ay Xx,Gi,Gj,aQ,h1,ia,e1,e7,e3,hlen,hi,c1,c2,b1,kU hf,Al hf,cR];simpa using ih'
theorem tJ(d:Db)(hi:By)(t:Nat):∀ ks:List By,((ym d hi t ks).map (·.1)).Sublist ks
 |[]=> .slnil
 |k::r=>by
  unfold ym;cases !hi.isEmpty&& !lt k hi with
  |true=>exact List.nil_sublist _
  |false=>
   rw[cond_false];cases pG (chain d k) t with
   |none=>exact(tJ d hi t r).cons k
   |some b=>exact(tJ d hi t r).cons_cons k
theorem Bc(d:Db)(lo hi:By)(t:Nat):((iO d lo hi t).map (·.1)).Sublist d.keys:=(tJ d hi t _).trans (List.drop_sublist _ _)
theorem jX.keys{α κ:Type}[DecidableEq κ]{F:Mk α κ}{o:Option Uo}{l:List α}(h:jX F o l):(l.map F.key).Nodup:=by
 obtain⟨lc,c,rfl,_,hc⟩:=h;have:=hc.keys;rw[List.map_map];exact this
theorem Ia{b:Bs}{t:Tx}{s:cA}(hn:b.db.keys.Nodup)(hp:(t.bT.map Wt.key).Nodup):((iD t (iO b.db s.1 s.2 t.began)++om s (ov t)).map (fun p:By×By=>p.1)).Nodup:=by
 have h1:((iD t (iO b.db s.1 s.2 t.began)).map (·.1)).Nodup:=List.Nodup.sublist ((List.filter_sublist.map _).trans (Bc _ _ _ _)) hn;have hw:((ov t).map Wt.key).Nodup:=((lu Wt.key t.bT).map _).nodup_iff.2 hp;have h2:((om s (ov t)).map (·.1)).Nodup:=by
  unfold om;rw[List.map_map];exact List.Nodup.sublist (List.filter_sublist.map _) hw
 rw[List.map_append];refine List.nodup_append.2 ⟨h1,h2,fun a ha c hc=> ?_⟩;intro he;subst he;obtain⟨p,hp1,rfl⟩:=eS.1 ha;have hk:=(List.mem_filter.1 hp1).2;obtain⟨q,hq,he⟩:=eS.1 hc;unfold om at hq;obtain⟨w,hw1,rfl⟩:=eS.1 hq;have hwm:w∈t.bT:=(lu Wt.key t.bT).subset (List.mem_filter.1 hw1).1;simp only at he;have:fK nA p.1 t.bT≠none:=by
  intro hh;have:=List.find?_eq_none.1 hh w hwm;exact this (by show decide (w.key=p.1)=true;exact decide_eq_true he)
 cases hl:fK nA p.1 t.bT with
 |none=>exact this hl
 |some x=>rw[hl]at hk;cases hk
def jW(b:Bs)(id:Int)(s:cA):(U×Bs):=match eR b id with
 |none=>(.aV [.sl 2 [],.int .i64 4],b)
 |some t=>bif dP s then(.aV [.sl 2 ((Mv b t s).map uF),.int .i64 0],aP b (ez b t s))else(.aV [.sl 2 [],.int .i64 1],b)
theorem t37{h:List Uo}{i s m o:Nat}{lv:List Lv}{b:Bs}{rc dn ks:U}(fl:Nat)(hf:fl≤h.length)(hb:dy h i s m o lv b rc dn ks)(hks:nY ks b.db.keys){n:Nat}(hk:qaa b n)(id:Int)(lo hi:By):
  ∃ h' lv',G 37 [.ptr i 0,.int .i64 id,.str lo,.str hi] h fl=some ((jW b id (lo,hi)).1,h',fl)∧dy h' i s m o lv' (jW b id (lo,hi)).2 rc dn ks∧Fr h h' (bZ i s m o lv)∧bZ i s m o lv' =bZ i s m o lv:=by
 have hl:decide (i<h.length)=true:=decide_eq_true (bn.1 hb.row).1;have c1:=t56 fl hf hb id;unfold jW;rw[hb.find];cases hlv:fK k8 id lv with
 |none=>
  rw[hlv]at c1;simp only[j9]at c1;refine⟨h,lv,?_,hb,Fr.refl h _,rfl⟩;refine bL (fn:=v37) rfl rfl rfl ?_;simp[rz,Nr,Ns,Nu,YY,c1,hl,aZ hf]
 |some l=>
  rw[hlv]at c1;simp only[j9]at c1;have hlm:=kR k8 hlv;obtain⟨x1,x2⟩:=hb.tx l hlm;have hlt:=(bn.1 x1).1;have hlt' :decide (l.t<h.length)=true:=decide_eq_true hlt;have c2:=t78 (lo,hi);simp only[aQ]at c2;simp only[Option.map_some];cases hr:dP (lo,hi)with
  |false=>
   rw[hr]at c2;refine⟨h,lv,?_,hb,Fr.refl h _,rfl⟩;refine bL (fn:=v37) rfl rfl rfl ?_;simp[rz,Nr,Ns,Nu,UI,UJ,YZ,c1,c2,hl,hlt',aZ hf,qA hf]
  |true=>
   rw[hr]at c2;have hml:=hk.marks l.tx (hb.mem hlm);have hpl:=hk.bT l.tx (hb.mem hlm);have hmarks:l.tx.marks.length<small / 8:=by unfold small at*;omega
   have hnx:∀ X:Uo,Fr h (h.set l.t X) (bZ i s m o lv):=fun X=>(Fr.refl h _).set (by unfold bZ;simp only[dS,List.mem_flatMap];right;right;right;right;exact⟨l,hlm,by simp⟩) X;have htp:=(hb.ne.2.2.2.2.2.2.1 l hlm).tp;have hbu:dy (h.set l.t (.row (lB (ez b l.tx (lo,hi)) l.p))) i s m o (yI (ez b l.tx (lo,hi)) lv) (aP b (ez b l.tx (lo,hi))) rc dn ks:=
    hb.fB hlm (ez b l.tx (lo,hi)) rfl _ (fun j hj _=>List.getElem?_set_ne (Ne.symm hj)) (List.getElem?_set_self hlt) (by rw[List.getElem?_set_ne htp];exact x2)
   refine⟨_,_,?_,hbu,hnx _,mK _ _ _ _ _ _⟩;refine bL (fn:=v37) rfl rfl rfl ?_;have hset:∀ X x,(h++x).set l.t X=h.set l.t X++x:=fun X x=>List.set_append_left _ _ hlt;have c3:=t75 (h:=h++[.row (aQ (lo,hi))]) fl (by simp;omega) (aS hb.row) (aS x1) hmarks hk.lim.1 (lo,hi);rw[hset]at c3;have c4:=t64 (h:=h.set l.t (.row (lB (ez b l.tx (lo,hi)) l.p))++[.row (aQ (lo,hi))]) fl (by simp;omega) hbu.st.app hks hk.db lo hi l.tx.began;have hx1' :(h.set l.t (.row (lB (ez b l.tx (lo,hi)) l.p)))[l.t]? =some (.row (lB (ez b l.tx (lo,hi)) l.p)):=List.getElem?_set_self hlt;have hx2' :jX nA (h.set l.t (.row (lB (ez b l.tx (lo,hi)) l.p)))[l.p]? (ez b l.tx (lo,hi)).bT:=by rw[List.getElem?_set_ne htp];exact x2
   have c5:=t79 (h:=h.set l.t (.row (lB (ez b l.tx (lo,hi)) l.p))++[.row (aQ (lo,hi))]) fl (by simp;omega) (aS hx1') (by rw[cz hx2'.lt];exact hx2') (by show l.tx.bT.length<small;unfold small at*;omega);have hr2:∀ x,(h.set l.t (.row (lB (ez b l.tx (lo,hi)) l.p))++x)[i]? =some (.row (dz b s m rc dn)):=fun x=>aS hbu.row;have ht2' :∀ x,(h.set l.t (.row (lB (ez b l.tx (lo,hi)) l.p))++x)[l.t]? =some (.row [.int .i64 l.tx.id,.int .u64 l.tx.began,.int .i64 l.tx.start,.sl 2 ((ez b l.tx (lo,hi)).marks.map aQ),.map l.p]):=fun x=>aS hx1';have hl1:decide (i<h.length+1)=true:=decide_eq_true (by have:=of_decide_eq_true hl;omega);have hlt1:decide (l.t<h.length+1)=true:=decide_eq_true (by omega);have hlenX:∀ X:Uo,(h.set l.t X).length=h.length:=fun X=>by simp
   have hcut:∀ (X:Uo) (x:List Uo),cut h.length fl (h.set l.t X++x)=h.set l.t X:=fun X x=>by
    have:=gf (fl:=fl) (h:=h.set l.t X) (l:=x) (by simpa using hf);simpa using this
   have hcut1:∀ (X a:Uo) (x:List Uo),cut (h.length+1) fl (h.set l.t X++a::x)=h.set l.t X++[a]:=fun X a x=>by
    have:=kU (fl:=fl) (h:=h.set l.t X) (by simpa using hf) a x;simpa using this
   have hkk:=Bc b.db lo hi l.tx.began;have hSL:(iO b.db lo hi l.tx.began).length<small:=by have:=hkk.length_le;have:=hk.db.keys;simp at*;omega
   have hwok:∀ w∈ov l.tx,lS w:=fun w hw=>hk.wt l.tx (hb.mem hlm) w ((lu Wt.key l.tx.bT).subset hw);have hwl:(ov l.tx).length<small:=by unfold ov;rw[jj];unfold small at*;omega
   have hkl:(iD l.tx (iO b.db lo hi l.tx.began)).length<small:=by
    have:(iD l.tx (iO b.db lo hi l.tx.began)).length≤_:=List.length_filter_le _ _;omega
   have hq:oq 2 82 ((iD l.tx (iO b.db lo hi l.tx.began)++om (lo,hi) (ov l.tx)).map uF) [.func 82 [] []]=some ((Mv b l.tx (lo,hi)).map uF):=
    DE (fun p:By×By=>p.1) uF (fun _=>rfl) 2 82 (fun _=>rfl) _ (Ia (s:=(lo,hi)) hk.IZ x2.keys) (by
     rw[lZ];have h1:(om (lo,hi) (ov l.tx)).length≤(ov l.tx).length:=by unfold om;rw[List.length_map];exact List.length_filter_le _ _
     have h2:(ov l.tx).length=l.tx.bT.length:=by unfold ov;rw[jj]
     have h3:(iD l.tx (iO b.db lo hi l.tx.began)).length≤(iO b.db lo hi l.tx.began).length:=List.length_filter_le _ _;have h4:=hkk.length_le;have h5:=hk.kl;simp at h4;unfold small at*;omega)
   have hkp:iD (ez b l.tx (lo,hi)) (iO b.db lo hi l.tx.began)=iD l.tx (iO b.db lo hi l.tx.began):=rfl;have hwp:ov (ez b l.tx (lo,hi))=ov l.tx:=rfl;rw[hwp]at c5;simp only[List.map_append]at hq;generalize hY:Uo.row (lB (ez b l.tx (lo,hi)) l.p)=Y at*;have hx1'' :(h.set l.t Y)[l.t]? =some (.row (lB (ez b l.tx (lo,hi)) l.p)):=by rw[hY];exact hx1'
   have hHl:(h.set l.t Y).length=h.length:=by simp
   have aB:=qfB (h:=h.set l.t Y) fl (by simpa using hf) (lo,hi) (ov l.tx) hwl hwok (gI br mT qT pT v37 (.seq (.region Gk) (.seq (.region Gl) .ret)) (kE h.length v37 (.aV [.sl 2 ((Mv b l.tx (lo,hi)).map uF),.int .i64 0],h.set l.t Y,fl))) (iD l.tx (iO b.db lo hi l.tx.began)) hkl (by
    simp[Gk,Gl,hq,hcut]) (ov l.tx).length 0 (iD l.tx (iO b.db lo hi l.tx.began)) (by omega) (by simp) (by omega)
   have aA:=qfA (h:=h.set l.t Y) fl (by simpa using hf) hx1'' hx2' (lo,hi) (iO b.db lo hi l.tx.began) hSL (gI br mT qT pT v37 (.seq (.seq (.region Ln) (.block 2 (.loop vH))) (.seq (.region Gk) (.seq (.region Gl) .ret))) (kE h.length v37 (.aV [.sl 2 ((Mv b l.tx (lo,hi)).map uF),.int .i64 0],h.set l.t Y,fl))) (by
    rw[hHl]at aB⊢;rw[hkp];simp at aB;simp[Ln,c5,hlt1,hcut1];exact aB) (iO b.db lo hi l.tx.began).length 0 [] (by omega) (by simp) (by simp)
   rw[hHl]at aA;simp at aA;simp only[aP]at c4;simp only[aQ,dz]at c2 c3 c4 hr2;simp[rz,Nr,Ns,Nu,UI,UJ,Y0,Y3,ay qct,UK,c1,c2,c3,c4,hl,hl1,hlt',hlt1,hr2,ht2',hcut1,cR];simpa[aQ]using aA
end Go.RE
namespace Go.RE
def yE(t:Tx)(w:Wt):Tx:={t with bT:=lq nA w t.bT}
def bI(b:Bs)(id:Int)(w:Wt):Nat×Bs:=match eR b id with
 |none=>(4,b)
 |some t=>bif fV none w==0 then(0,aP b (yE t w))else(fV none w,b)
theorem t18{h:List Uo}{i s m o:Nat}{lv:List Lv}{b:Bs}{rc dn ks:U}(fl:Nat)(hf:fl≤h.length)(hb:dy h i s m o lv b rc dn ks)(id:Int)(w:Wt)(hw:lS w):
  ∃ h' lv',G 18 [.ptr i 0,.int .i64 id,.agg (dI w)] h fl=some (.int .i64 ((bI b id w).1:Nat),h',fl)∧dy h' i s m o lv' (bI b id w).2 rc dn ks∧Fr h h' (bZ i s m o lv)∧bZ i s m o lv' =bZ i s m o lv:=by
 have hl:decide (i<h.length)=true:=decide_eq_true (bn.1 hb.row).1;have hl1:decide (i<h.length+1)=true:=decide_eq_true (by have:=of_decide_eq_true hl;omega);have c1:=t56 (h:=h++[.row (dI w)]) fl (by simp;omega) (i:=i) (s:=s) (m:=m) (o:=o) (lv:=lv) (b:=b) (rc:=rc) (dn:=dn) (ks:=ks) ⟨aS hb.row,hb.st.app,by rw[cz hb.map.lt];exact hb.map,hb.OM,fun l hlm=>⟨aS (hb.tx l hlm).1,by rw[cz (hb.tx l hlm).2.lt];exact(hb.tx l hlm).2⟩,hb.nd⟩ id;unfold bI;rw[hb.find];cases hlv:fK k8 id lv with
 |none=>
  rw[hlv]at c1;simp only[j9,dI]at c1;refine⟨h,lv,?_,hb,Fr.refl h _,rfl⟩;refine bL (fn:=v18) rfl rfl rfl ?_;simp[rq,MW,MX,MY,YC,dI,c1,hl1,qA hf]
 |some l=>
  rw[hlv]at c1;simp only[j9]at c1;have hlm:=kR k8 hlv;obtain⟨x1,x2⟩:=hb.tx l hlm;have hlt:=(bn.1 x1).1;have hlt1:decide (l.t<h.length+1)=true:=decide_eq_true (by omega);have c2:=t57 [w] (by simp[small]) (fun x hx=>by simp at hx;subst hx;exact hw);have hck:eP none [w]=fV none w:=by
   simp only[eP];cases hc:fV none w==0 with
   |true=>rw[cond_true];exact(by simpa using hc:fV none w=0).symm
   |false=>rfl
  rw[hck]at c2;simp only[Option.map_some];simp only[List.map_cons,List.map_nil]at c2;cases hc:fV none w==0 with
  |false=>
   have hc' :¬(fV none w=0):=by simpa using hc
   have hci:(((fV none w:Nat):Int) !=0)=true:=by simp;omega
   refine⟨h,lv,?_,hb,Fr.refl h _,rfl⟩;refine bL (fn:=v18) rfl rfl rfl ?_;simp only[dI]at c1 c2;simp[rq,MW,MX,MY,TA,TB,YD,dI,c1,c2,hl1,hlt1,hci,hc',qA hf]
  |true=>
   have hc' :fV none w=0:=by simpa using hc
   rw[hc']at c2;obtain⟨o',m1,m2⟩:=map_set nA x2 w;have hpl:=x2.lt;have hmu:∀ e x,V1 .str l.p (.str w.key) (.agg (dI w)) ⟨e,h++x,fl⟩ (h++x)[l.p]? =some (.aV [],⟨e,h.set l.p o'++x,fl⟩):=fun e x=>by
    have:=m2 l.p ⟨e,h++x,fl⟩;rw[cz hpl,←List.set_append_left _ _ hpl];exact this
   have htp:=(hb.ne.2.2.2.2.2.2.1 l hlm).tp;have hbu:dy (h.set l.p o') i s m o (yI (yE l.tx w) lv) (aP b (yE l.tx w)) rc dn ks:=
    hb.fB hlm (yE l.tx w) rfl _ (fun j _ hj=>List.getElem?_set_ne (Ne.symm hj)) (by rw[List.getElem?_set_ne (Ne.symm htp)];exact x1) (by rw[List.getElem?_set_self hpl];exact m1)
   refine⟨_,_,?_,hbu,(Fr.refl h _).set (by unfold bZ;simp only[dS,List.mem_flatMap];right;right;right;right;exact⟨l,hlm,by simp⟩) o',mK _ _ _ _ _ _⟩;refine bL (fn:=v18) rfl rfl rfl ?_;have c3:=jK (f:=58) rfl (w:=1) (xs:=bE w.data) [] 0 (by rw[j0];exact hw.2) (by simp);have hcut:∀ (X:Uo) (x:List Uo),cut h.length fl (h.set l.p X++x)=h.set l.p X:=fun X x=>by
    have:=gf (fl:=fl) (h:=h.set l.p X) (l:=x) (by simpa using hf);simpa using this
   simp only[lB]at x1;simp only[dI]at c1 c2 hmu;simp[rq,MW,MX,MY,TA,TB,YE,ay qcp,KT,YG,dI,c1,c2,c3,hl1,hlt1,aS x1,hmu,hcut,qA hf,cR]
def aF(b:Bs):Nat×Nat×Bs:=
 bif decide (b.db.lim.live≤b.live.length)then(0,5,b)
 else(b.last+1,0,{b with last:=b.last+1,event:=b.event+1,live:=b.live++[⟨b.last+1,b.db.now,b.event+1,[],[]⟩]})
def Gr(h h' :List Uo)(l l' :List Nat):Prop:=h.length≤h'.length∧(∀ j,j<h.length→j ∉ l→h'[j]? =h[j]?)∧∀ j∈l',j∈l∨h.length≤j
theorem Fr.gr{h h' :List Uo}{l:List Nat}(hf:Fr h h' l):Gr h h' l l:=⟨by rw[hf.1];exact aq _,fun j _ hj=>hf.2 j hj,fun j hj=> .inl hj⟩
theorem t17{h:List Uo}{i s m o:Nat}{lv:List Lv}{b:Bs}{rc dn ks:U}(fl:Nat)(hf:fl≤h.length)(hb:dy h i s m o lv b rc dn ks)(hids:∀ t∈b.live,t.id≤b.last)(hls:b.last<small)(hev:b.event<small)(hli:b.db.lim.live<small):
  ∃ h' lv' fl',G 17 [.ptr i 0] h fl=some (.aV [.int .i64 ((aF b).1:Nat),.int .i64 ((aF b).2.1:Nat)],h',fl')∧dy h' i s m o lv' (aF b).2.2 rc dn ks∧Gr h h' (bZ i s m o lv) (bZ i s m o lv')∧fl≤fl'∧fl'≤h'.length∧((fl' =fl∧lv' =lv∧h'.length=h.length)∨fl' =h'.length):=by
 have hlt:=(bn.1 hb.row).1;have hl:decide (i<h.length)=true:=decide_eq_true hlt;have c1:=t54 fl hf hb.row;have hr:=hb.row;obtain⟨n1,n2,n3,n4,n5,n6,n7,n8⟩:=hb.ne;have hml:=hb.map.lt;obtain⟨hsl,hol⟩:=hb.st.lt;have hll:lv.length=b.live.length:=by rw[←hb.OM];simp
 unfold aF;have hlen:∀ (e:Env),CI ⟨e,h,fl⟩ 2 (.map m)=some (.int .i64 (b.live.length:Int),⟨e,h,fl⟩):=fun e=>by rw[←hll];unfold CI;rw[WV k8 (s:=⟨e,h,fl⟩) (m:=m) hb.map];rfl
 cases hfull:decide (b.db.lim.live≤b.live.length)with
 |true=>
  refine⟨h,lv,fl,?_,hb,(Fr.refl h _).gr,aq _,hf,.inl ⟨rfl,rfl,rfl⟩⟩;refine bL (fn:=v17) rfl rfl rfl ?_;simp only[dz]at hr;simp[ve,Ti,Tj,ay Tk,Fv,Yx,c1,hl,hr,hlen,hfull,aZ hf,cR]
 |false=>
  have hno:∀ l∈lv,l.tx.id≠b.last+1:=fun l hlm hh=>by have:=hids l.tx (hb.mem hlm);omega
  have hlk0:fK k8 ((b.last+1:Nat):Int) lv=none:=by
   refine List.find?_eq_none.2 fun l hlm=> ?_;have:=hno l hlm;simp only[decide_eq_true_eq];show ¬((l.tx.id:Int)=((b.last+1:Nat):Int));omega
  have hset0:lq k8 (⟨⟨b.last+1,b.db.now,b.event+1,[],[]⟩,h.length+1,h.length⟩:Lv) lv=lv++[⟨⟨b.last+1,b.db.now,b.event+1,[],[]⟩,h.length+1,h.length⟩]:=by
   unfold lq;have:fK k8 (k8.key (⟨⟨b.last+1,b.db.now,b.event+1,[],[]⟩,h.length+1,h.length⟩:Lv)) lv=none:=hlk0;rw[this];rfl
  obtain⟨o',m1,m2⟩:=map_set k8 hb.map (⟨⟨b.last+1,b.db.now,b.event+1,[],[]⟩,h.length+1,h.length⟩:Lv);rw[hset0]at m1;have hmu:∀ e X x,V1 .int m (.int .i64 ((b.last:Int)+1)) (.ptr (h.length+1) 0) ⟨e,h.set i X++x,fl⟩ (h.set i X++x)[m]? =some (.aV [],⟨e,(h.set i X).set m o'++x,(h.set i X++x).length⟩):=fun e X x=>by
   have:=m2 m ⟨e,h.set i X++x,fl⟩;have e2:(h.set i X).set m o'++x=(h.set i X++x).set m o' :=(List.set_append_left _ _ (by simpa using hml)).symm;have e3:(k8.val (⟨⟨b.last+1,b.db.now,b.event+1,[],[]⟩,h.length+1,h.length⟩:Lv)).low (m+1)=false:=by
    show Nat.blt (h.length+1) (m+1)=false;cases hq:Nat.blt (h.length+1) (m+1)with
    |false=>rfl
    |true=>have:=gu hq;omega
   rw[e3]at this;rw[cz (by simpa using hml),e2,List.getElem?_set_ne n2];exact this
  generalize hB:({b with last:=b.last+1,event:=b.event+1,live:=b.live++[⟨b.last+1,b.db.now,b.event+1,[],[]⟩]}:Bs)=B;have hrow:dz B s m rc dn=[.int .i64 b.db.lim.keys,.int .i64 b.db.lim.gA,.int .i64 b.db.lim.bytes,.int .i64 b.db.lim.marks,.int .i64 b.db.lim.records,.int .i64 b.db.lim.live,.int .u64 b.db.lim.last,.ptr s 0,.map m,rc,dn,.int .i64 ((b.last+1:Nat):Int),.int .i64 ((b.event+1:Nat):Int)]:=by rw[←hB];rfl
  have hH:dy ((h.set i (.row (dz B s m rc dn))).set m o'++[.map [] 0,.row [.int .i64 ((b.last+1:Nat):Int),.int .u64 (b.db.now:Int),.int .i64 ((b.event+1:Nat):Int),.sl 2 [],.map h.length]]) i s m o (lv++[⟨⟨b.last+1,b.db.now,b.event+1,[],[]⟩,h.length+1,h.length⟩]) B rc dn ks:=by
   have hle:((h.set i (.row (dz B s m rc dn))).set m o').length=h.length:=by simp
   have hdb:B.db=b.db:=by rw[←hB]
   have hold:∀ j,j<h.length→j≠i→j≠m→∀ x,((h.set i (.row (dz B s m rc dn))).set m o'++x)[j]? =h[j]? :=fun j hj a1 a2 x=>by
    rw[cz (by omega),List.getElem?_set_ne (Ne.symm a2),List.getElem?_set_ne (Ne.symm a1)]
   refine⟨?_,?_,?_,?_,fun l hlm=> ?_,?_⟩
   ·rw[cz (by omega),List.getElem?_set_ne (Ne.symm n2)];exact List.getElem?_set_self hlt
   ·rw[hdb];exact hb.st.same (hold s hsl (Ne.symm n1) n4 _) (hold o hol (Ne.symm n3) (Ne.symm n6) _)
   ·rw[cz (by omega),List.getElem?_set_self (by simpa using hml)];exact m1
   ·rw[←hB,List.map_append,hb.OM];rfl
   ·rcases gD.1 hlm with hlm|hlm
    ·have f:=n7 l hlm;obtain⟨x1,x2⟩:=hb.tx l hlm;rw[hold l.t (bn.1 x1).1 f.ti f.tm,hold l.p x2.lt f.pi f.pm];exact⟨x1,x2⟩
    ·simp only[dS,List.not_mem_nil,or_false]at hlm;subst hlm;refine⟨?_,?_⟩
     ·have:=at1 ((h.set i (.row (dz B s m rc dn))).set m o') [] (.map [] 0) (.row [.int .i64 ((b.last+1:Nat):Int),.int .u64 (b.db.now:Int),.int .i64 ((b.event+1:Nat):Int),.sl 2 [],.map h.length]);rw[hle]at this;exact this
     ·have:=VG ((h.set i (.row (dz B s m rc dn))).set m o') [.row [.int .i64 ((b.last+1:Nat):Int),.int .u64 (b.db.now:Int),.int .i64 ((b.event+1:Nat):Int),.sl 2 [],.map h.length]] (.map [] 0);rw[hle]at this;show jX nA (((h.set i (.row (dz B s m rc dn))).set m o')++_)[h.length]? [];rw[this];exact uz nA
   ·have hlv:∀ l∈lv,l.t<h.length∧l.p<h.length:=fun l hlm=>⟨(bn.1 (hb.tx l hlm).1).1,(hb.tx l hlm).2.lt⟩;have hfl:∀ j∈bZ i s m o lv,j<h.length:=by
     intro j hj;unfold bZ at hj;simp only[dS,List.mem_flatMap,List.not_mem_nil,or_false]at hj;rcases hj with rfl|rfl|rfl|rfl|⟨l,hlm,rfl|rfl⟩
     ·exact hlt
     ·exact hsl
     ·exact hml
     ·exact hol
     ·exact(hlv l hlm).1
     ·exact(hlv l hlm).2
    have:bZ i s m o (lv++[⟨⟨b.last+1,b.db.now,b.event+1,[],[]⟩,h.length+1,h.length⟩])=bZ i s m o lv++[h.length+1,h.length]:=by unfold bZ;simp
    rw[this];refine List.nodup_append.2 ⟨hb.nd,by simp,fun a ha c hc=> ?_⟩;have:=hfl a ha;simp at hc;omega
  refine⟨_,_,h.length+2,?_,hH,⟨by simp,fun j hj hn=> ?_,fun j hj=> ?_⟩,by omega,by simp,.inr (by simp)⟩
  ·refine bL (fn:=v17) rfl rfl rfl ?_;have w1:aI .i64 ((b.last:Int)+1)=((b.last+1:Nat):Int):=fD (by unfold small at hls;omega);have w2:aI .i64 ((b.event:Int)+1)=((b.event+1:Nat):Int):=fD (by unfold small at hev;omega);have hss:∀ X:Uo,(h.set i X)[i]? =some X:=fun X=>List.getElem?_set_self hlt;have hat:∀ X x,(h.set i X++x)[i]? =some X:=fun X x=>aS (hss X);have c2:∀ X x,G 55 [.ptr s 0] (h.set i X++x) fl=some (.int .u64 (b.db.now:Int),h.set i X++x,fl):=fun X x=>t55 (o:=o) (ks:=ks) fl (by simp;omega) (aS (by rw[List.getElem?_set_ne n1];exact hb.st.row));have hHi:∀ X x,((h.set i X).set m o'++x)[i]? =some X:=fun X x=>by
    rw[cz (by simpa using hlt),List.getElem?_set_ne (Ne.symm n2)];exact hss X
   simp only[dz]at hr;simp only[Int.natCast_add]at w1 w2;rw[hrow];simp[ve,Ti,Tj,ay Tk,Fv,Yy,Yz,ay qco,Tl,YB,c1,c2,hl,hr,hlen,hfull,w1,w2,hss,hat,hmu,hHi,cR];unfold cut;exact jU (by simp)
  ·have hjm:j≠m:=fun hh=>hn (by subst hh;unfold bZ;simp);have hji:j≠i:=fun hh=>hn (by subst hh;unfold bZ;simp);rw[cz (by simpa using hj),List.getElem?_set_ne (Ne.symm hjm),List.getElem?_set_ne (Ne.symm hji)]
  ·have:bZ i s m o (lv++[⟨⟨b.last+1,b.db.now,b.event+1,[],[]⟩,h.length+1,h.length⟩])=bZ i s m o lv++[h.length+1,h.length]:=by unfold bZ;simp
   rw[this]at hj;rcases gD.1 hj with hj|hj
   ·exact .inl hj
   ·right;simp at hj;omega
end Go.RE
namespace Go.RE
def nD(w:Nat)(u:U)(xs:List (List U)):Prop:=u=.bF w xs∨(u=.nl w∧xs=[])
theorem Jz(l:List Rc)(low:Nat)(hl:l.length<100000000)(hok:∀ r∈l,fL r):pE (l.map recC) [.int .u64 (low:Int)]=some (6,(bK l low).map recC):=AD l low hl hok
def qaf(b:Bs):List (By×By):=iO b.db [] [] b.db.now
theorem t23{h:List Uo}{i s m o:Nat}{lv:List Lv}{b:Bs}{rc dn ks:U}(fl:Nat)(hf:fl≤h.length)(hb:dy h i s m o lv b rc dn ks)(hks:nY ks b.db.keys)(hd:oV b.db):G 23 [.ptr i 0] h fl=some (.own .r 2 ((qaf b).map uF),h,fl):=by
 refine bL (fn:=v23) rfl rfl rfl ?_;have hl:decide (i<h.length)=true:=decide_eq_true (bn.1 hb.row).1;have c1:=t54 fl hf hb.row;have c2:=t55 fl hf hb.st.row;have c3:=t64 fl hf hb.st hks hd [] [] b.db.now;have hr:=hb.row;simp only[dz]at hr;simp[BY,YK,YL,ay qcq,Lg,c1,c2,c3,hl,hr,aZ hf,qaf,cR]
def Af(b:Bs):Int×Bs:=((b.db.sv:Int) - ((cK b.db (dR b)).sv:Int),{b with db:=cK b.db (dR b)})
theorem dy.db{h h' :List Uo}{i s m o:Nat}{lv:List Lv}{b:Bs}{rc dn ks ks' :U}(hb:dy h i s m o lv b rc dn ks){d:Db}(hlim:d.lim=b.db.lim)(hs:eW h' s o d ks')(hfr:Fr h h' [s,o]):dy h' i s m o lv {b with db:=d} rc dn ks' :=by
 obtain⟨n1,n2,n3,n4,n5,n6,n7,n8⟩:=hb.ne;have hsame:∀ j,j≠s→j≠o→h'[j]? =h[j]? :=fun j a b=>hfr.2 j (by simp[a,b]);refine⟨?_,hs,by rw[hsame m (Ne.symm n4) n6];exact hb.map,hb.OM,fun l hl=> ?_,hb.nd⟩
 ·rw[hsame i n1 n3,hb.row];simp only[dz,hlim]
 ·have f:=n7 l hl;rw[hsame l.t f.ts f.tO,hsame l.p f.ps f.pO];exact hb.tx l hl
theorem Fr.sub{h h' :List Uo}{l l' :List Nat}(hf:Fr h h' l)(hl:∀ j∈l,j∈l'):Fr h h' l' :=⟨hf.1,fun j hj=>hf.2 j (fun hh=>hj (hl j hh))⟩
theorem t50{h:List Uo}{i s m o:Nat}{lv:List Lv}{b:Bs}{rc dn ks:U}(fl:Nat)(hf:fl≤h.length)(hb:dy h i s m o lv b rc dn ks)(hks:nY ks b.db.keys){n:Nat}(hd:zU b.db n)(hw:I4 b.db)(hn:5000*n<small)(hz:I7 b.db):
  ∃ h' ks',G 50 [.ptr i 0] h fl=some (.int .i64 (Af b).1,h',fl)∧dy h' i s m o lv (Af b).2 rc dn ks'∧nY ks' (Af b).2.db.keys∧Fr h h' (bZ i s m o lv):=by
 have hl:decide (i<h.length)=true:=decide_eq_true (bn.1 hb.row).1;have c1:=t54 fl hf hb.row;have c2:=t27 fl hf hb;obtain⟨h',ks',c3,s1,s2,s3⟩:=t98 fl hf hb.st hks hd.ok hz (dR b);obtain⟨_,_,_,hlim,_,_⟩:=D6 hd hw hn (dR b);have hbb:=hb.db hlim s1 s3;refine⟨h',ks',?_,hbb,s2,s3.sub (by unfold bZ;simp)⟩;refine bL (fn:=v50) rfl rfl rfl ?_;have hr:=hb.row;have hcut:cut h.length fl h' =h' :=by rw[←s3.1];exact aZ (by rw[s3.1];exact hf)
 simp only[dz]at hr;simp[B6,Zb,Zc,ay qcz,Lo,c1,c2,c3,hl,hr,hcut,Af,cR]
end Go.RE
namespace Go.RE
def jJ(id:Int):List Tx→List Tx
 |[]=>[]
 |t::r=>bif decide ((t.id:Int)=id)then r else t::jJ id r
theorem Dc(id:Int):∀ lv:List Lv,(iY k8 id lv).map (·.tx)=jJ id (lv.map (·.tx))
 |[]=>rfl
 |l::r=>by
  have e:k8.key l=(l.tx.id:Int):=rfl;simp only[iY,List.map_cons,jJ,e];cases decide ((l.tx.id:Int)=id)with
  |true=>rfl
  |false=>simp only[cond_false,List.map_cons,Dc id r]
theorem jI{α κ:Type}[DecidableEq κ](F:Mk α κ)(k:κ):∀ l:List α,(iY F k l).Sublist l
 |[]=> .slnil
 |b::r=>by
  simp only[iY];cases decide (F.key b=k)with
  |true=>exact List.sublist_cons_self _ _
  |false=>exact(jI F k r).cons_cons b
def gM(b:Bs)(id:Int):Bs:={b with live:=jJ id b.live}
def kW(b:Bs)(id:Int):Bs:={gM b id with ah:=oB (ou b.db.lim.records) b.db.lim.marks (bK b.ah (dR (gM b id)))}
theorem oC{i s m o:Nat}{lv lv' :List Lv}(h:lv'.Sublist lv):(bZ i s m o lv').Sublist (bZ i s m o lv):=by
 unfold bZ;refine List.Sublist.cons_cons i (List.Sublist.cons_cons s (List.Sublist.cons_cons m (List.Sublist.cons_cons o ?_)))
 induction h with
 |slnil=>exact .slnil
 |cons a _ ih=>rw[List.flatMap_cons];exact ih.trans (List.sublist_append_right _ _)
 |cons_cons a _ ih=>rw[List.flatMap_cons,List.flatMap_cons];exact(List.Sublist.refl _).append ih
theorem dy.drop{h:List Uo}{i s m o:Nat}{lv:List Lv}{b:Bs}{rc dn ks:U}(hb:dy h i s m o lv b rc dn ks)(id:Int){o' :Uo}(ho:jX k8 (some o') (iY k8 id lv)):dy (h.set m o') i s m o (iY k8 id lv) (gM b id) rc dn ks:=by
 obtain⟨n1,n2,n3,n4,n5,n6,n7,n8⟩:=hb.ne;have hne:∀ j,j≠m→(h.set m o')[j]? =h[j]? :=fun j hj=>List.getElem?_set_ne (Ne.symm hj);refine⟨by rw[hne i n2];exact hb.row,hb.st.same (hne s n4) (hne o (Ne.symm n6)),by rw[List.getElem?_set_self hb.map.lt];exact ho,by rw[Dc,hb.OM];rfl,fun l hl=> ?_,List.Nodup.sublist (oC (jI k8 id lv)) hb.nd⟩;have hl' :=(jI k8 id lv).subset hl;have f:=n7 l hl';rw[hne l.t f.tm,hne l.p f.pm];exact hb.tx l hl'
theorem dy.cells{h:List Uo}{i s m o:Nat}{lv:List Lv}{b:Bs}{rc dn ks rc' dn' :U}(hb:dy h i s m o lv b rc dn ks){b' :Bs}(hdb:b'.db=b.db)(hlv:b'.live=b.live){h' :List Uo}(hr:h'[i]? =some (.row (dz b' s m rc' dn')))(hfr:∀ j,j≠i→h'[j]? =h[j]?):dy h' i s m o lv b' rc' dn' ks:=by
 obtain⟨n1,n2,n3,n4,n5,n6,n7,n8⟩:=hb.ne;refine⟨hr,by rw[hdb];exact hb.st.same (hfr s (Ne.symm n1)) (hfr o (Ne.symm n3)),by rw[hfr m (Ne.symm n2)];exact hb.map,by rw[hlv];exact hb.OM,fun l hl=> ?_,hb.nd⟩;have f:=n7 l hl;rw[hfr l.t f.ti,hfr l.p f.pi];exact hb.tx l hl
theorem sO(p:Rc→Bool):∀ l:List Rc,sU (l.filter p)≤sU l
 |[]=>aq _
 |r::l=>by
  have:=sO p l;rw[List.filter_cons];cases p r with
  |true=>simp only[if_true,sU];omega
  |false=>simp only[oS,if_false,sU];omega
theorem t60{h:List Uo}{i s m o:Nat}{lv:List Lv}{b:Bs}{rc dn ks:U}(fl:Nat)(hf:fl≤h.length)(hb:dy h i s m o lv b rc dn ks)(hrc:nD 6 rc (b.ah.map recC))(hrl:b.ah.length<100000000)(hw:sU b.ah<small / 8)(hlr:b.db.lim.records<small)(hlm:b.db.lim.marks<small)(id:Int):
  ∃ h',G 60 [.ptr i 0,.int .i64 id] h fl=some (.aV [],h',fl)∧dy h' i s m o (iY k8 id lv) (kW b id) (.bF 6 ((kW b id).ah.map recC)) dn ks∧Fr h h' (bZ i s m o lv):=by
 obtain⟨n1,n2,n3,n4,n5,n6,n7,n8⟩:=hb.ne;have hlt:=(bn.1 hb.row).1;have hml:=hb.map.lt;obtain⟨o',m1,m2⟩:=Ml k8 hb.map id;have hb1:=hb.drop id m1;have hdl:∀ e,Jm .int m (.int .i64 id) ⟨e,h,fl⟩ h[m]? =some (.aV [],⟨e,h.set m o',fl⟩):=fun e=>m2 m ⟨e,h,fl⟩ rfl;have hfl:(bK b.ah (dR (gM b id))).length≤b.ah.length:=List.length_filter_le _ _;have c3:=t104 (bK b.ah (dR (gM b id))) b.db.lim.records b.db.lim.marks (by unfold small;omega) (by have:=sO (fun r=>decide (dR (gM b id)<r.last)) b.ah;unfold bK;omega) hlr hlm;have hH1:(h.set m o').length=h.length:=by simp
 have hr1:(h.set m o')[i]? =some (.row (dz b s m rc dn)):=hb1.row;have hres:dy ((h.set m o').set i (.row (dz (kW b id) s m (.bF 6 ((kW b id).ah.map recC)) dn))) i s m o (iY k8 id lv) (kW b id) (.bF 6 ((kW b id).ah.map recC)) dn ks:=
  hb1.cells (b' :=kW b id) (rc' :=.bF 6 ((kW b id).ah.map recC)) (dn' :=dn) rfl rfl (List.getElem?_set_self (by simpa using hlt)) (fun j hj=>List.getElem?_set_ne (Ne.symm hj))
 refine⟨_,?_,hres,((Fr.refl h _).set (by unfold bZ;simp) o').set (by unfold bZ;simp) _⟩;refine bL (fn:=v60) rfl rfl rfl ?_;have hr:=hb.row;generalize hH:h.set m o' =H at*;have hss:∀ X:Uo,(H.set i X)[i]? =some X:=fun X=>List.getElem?_set_self (by omega);have hcut:∀ X:Uo,cut h.length fl (H.set i X)=H.set i X:=fun X=>by
  have:(H.set i X).length=h.length:=by simp[hH1]
  rw[←this];exact aZ (by rw[this];exact hf)
 have hself:H.set i (.row (dz b s m rc dn))=H:=EL hr1;have hbl:∀ u:U,dy (H.set i (.row (dz b s m u dn))) i s m o (iY k8 id lv) (gM b id) u dn ks:=fun u=>hb1.cells rfl rfl (hss _) (fun j hj=>List.getElem?_set_ne (Ne.symm hj));have c1:=t27 (h:=H.set i (.row (dz b s m .cZ dn))) fl (by simp;omega) (hbl .cZ);have hrow:∀ X,dz (kW b id) s m X dn=[.int .i64 b.db.lim.keys,.int .i64 b.db.lim.gA,.int .i64 b.db.lim.bytes,.int .i64 b.db.lim.marks,.int .i64 b.db.lim.records,.int .i64 b.db.lim.live,.int .u64 b.db.lim.last,.ptr s 0,.map m,X,dn,.int .i64 b.last,.int .i64 b.event]:=fun X=>rfl;have hrecs:(kW b id).ah=oB (ou b.db.lim.records) b.db.lim.marks (bK b.ah (dR (gM b id))):=rfl;rcases hrc with rfl|⟨rfl,hn⟩
 ·have c2:=Jz b.ah (dR (gM b id)) hrl (fun r hr=>Cw hw hr);simp only[dz]at hr hr1 c1 hself;rw[hrow,hrecs];generalize hL:dR (gM b id)=L at*;cases hfl2:U.kg ((oB (ou b.db.lim.records) b.db.lim.marks (bK b.ah L)).map recC)<;>
   simp[vO,U9,ay Va,Ly,hr,hr1,hdl,hss,c1,c2,c3,hcut,hself,hfl2,cR]
 ·have hn0:b.ah=[]:=by simpa using hn
  have c2:=t66 [] (dR (gM b id)) (by decide) (fun r hr=>(List.not_mem_nil hr).elim);rw[hn0]at c3 hrecs;have c1n:=t27 (h:=H) fl (by omega) hb1;have hnl:U.same (.nl 6) (.nl 6)=false:=rfl;simp only[List.map_nil]at c2;simp only[dz]at hr hr1 c1 hself;rw[hrow,hrecs];generalize hL:dR (gM b id)=L at*;cases hfl2:U.kg ((oB (ou b.db.lim.records) b.db.lim.marks (bK [] L)).map recC)<;>
   simp[vO,U9,ay Va,Ly,hr,hr1,hdl,hss,hnl,c1,c1n,c2,c3,hcut,hself,hfl2,cR]
end Go.RE
namespace Go.RE
structure RcB(b:Bs):Prop where
 len:b.ah.length<100000000
 wt:sU b.ah<small / 8
 lr:b.db.lim.records<small
 lm:b.db.lim.marks<small
def iH(b:Bs)(id:Int):Nat×Bs:=match eR b id with
 |none=>(4,b)
 |some _=>(0,kW b id)
theorem t53{h:List Uo}{i s m o:Nat}{lv:List Lv}{b:Bs}{rc dn ks:U}(fl:Nat)(hf:fl≤h.length)(hb:dy h i s m o lv b rc dn ks)(hrc:nD 6 rc (b.ah.map recC))(hR:RcB b)(id:Int):
  ∃ h' lv' rc',G 53 [.ptr i 0,.int .i64 id] h fl=some (.int .i64 ((iH b id).1:Nat),h',fl)∧dy h' i s m o lv' (iH b id).2 rc' dn ks∧nD 6 rc' ((iH b id).2.ah.map recC)∧Gr h h' (bZ i s m o lv) (bZ i s m o lv')∧h'.length=h.length:=by
 have hl:decide (i<h.length)=true:=decide_eq_true (bn.1 hb.row).1;have c1:=t56 fl hf hb id;unfold iH;rw[hb.find];cases hlv:fK k8 id lv with
 |none=>
  rw[hlv]at c1;simp only[j9]at c1;refine⟨h,lv,rc,?_,hb,hrc,(Fr.refl h _).gr,rfl⟩;refine bL (fn:=v53) rfl rfl rfl ?_;simp[vJ,UX,UY,UZ,U0,c1,hl,aZ hf]
 |some l=>
  rw[hlv]at c1;simp only[j9]at c1;obtain⟨h',c2,b2,f2⟩:=t60 fl hf hb hrc hR.len hR.wt hR.lr hR.lm id;have hlt:decide (l.t<h.length)=true:=decide_eq_true (bn.1 (hb.tx l (kR k8 hlv)).1).1;refine⟨h',_,_,?_,b2,.inl rfl,⟨by rw[f2.1];exact aq _,fun j _ hj=>f2.2 j hj,fun j hj=> .inl ((oC (jI k8 id lv)).subset hj)⟩,f2.1⟩;refine bL (fn:=v53) rfl rfl rfl ?_;have hcut:cut h.length fl h' =h' :=by rw[←f2.1];exact aZ (by rw[f2.1];exact hf)
  simp[vJ,UX,UY,UZ,Zq,U0,c1,c2,hl,hlt,hcut]
def tf(b:Bs)(t:Tx)(w:Wt):Bool:=decide (t.began<fm (chain b.db w.key))
def iX(b:Bs)(t:Tx):Bool:=t.bT.any (tf b t)
theorem qbQ{h:List Uo}{i s m o:Nat}{b:Bs}{rc dn ks:U}(fl:Nat)(hf:fl≤h.length)(hr:h[i]? =some (.row (dz b s m rc dn)))(hs:eW h s o b.db ks)(hd:oV b.db){t p:Nat}{tx:Tx}(ht:h[t]? =some (.row (lB tx p)))
  (lc:List (Wt×Nat)) (c:Nat) (hc:ue nA lc c) (hm:h[p]? =some (.map (lc.map (tD nA)) c)) (hlc:lc.map (·.1)=tx.bT):
  ∀ (j:Nat) (vis left:List (Wt×Nat)),left.length≤j→(vis++left).Perm lc→(∀ x∈vis,tf b tx x.1=false)→
  gL br mT qT pT Bm 0 zd (h.length+1) ⟨[(0,.ptr i 0),(1,.ptr t 0),(10,.ptr h.length 0)],h++[.iter (some p) c (vis.map (·.2)) c],fl⟩
   (gI br mT qT pT Bm (.seq (.region EZ) .ret) (kE h.length Bm (.bool (iX b tx),h,fl))):=by
 have hi1:decide (i<h.length+1)=true:=decide_eq_true (by have:=(bn.1 hr).1;omega);have ht1:decide (t<h.length+1)=true:=decide_eq_true (by have:=(bn.1 ht).1;omega);have hnone:∀ vis:List (Wt×Nat),vis.Perm lc→(∀ x∈vis,tf b tx x.1=false)→iX b tx=false:=by
  intro vis hv ha;unfold iX;rw[←hlc,List.any_eq_false];intro w hw;obtain⟨x,hx,rfl⟩:=eS.1 hw;have:=ha x (hv.symm.subset hx);rw[this];simp
 simp only[dz]at hr;simp only[lB]at ht;intro j
 induction j with
 |zero=>
  intro vis left hj hp ha;obtain rfl:left=[]:=jT (by omega);rw[List.append_nil]at hp;rw[ak zd.eq_1];simp[Kp];refine oE rfl hm (wm hc) (fun _=> ?_) (fun a ha' hn=> ?_)
  ·rw[hnone vis hp ha];simp[EZ,qA hf,kU hf]
  ·obtain⟨x,hx,rfl,_,h3⟩:=oJ (left:=[]) hc (by simpa using hp) ha' hn;simp at h3
 |succ j ih=>
  intro vis left hj hp ha;rw[ak zd.eq_1];simp[Kp];refine oE rfl hm (wm hc) (fun hall=> ?_) (fun a ha' hn=> ?_)
  ·have:=EI hc hp hall;subst this;rw[List.append_nil]at hp;rw[hnone vis hp ha];simp[EZ,qA hf,kU hf]
  ·obtain⟨x,hx,rfl,h2,h3⟩:=oJ hc hp ha' hn;have hent:∀ ev:Env,mF ⟨ev,h++[.iter (some p) c (vis.map (·.2)++[x.2]) c],fl⟩ h.length=some (.aV [.str x.1.key,.agg (dI x.1)]):=fun ev=>wA hm (D5 hc) ha';have c1:=t138 (h:=h++[.iter (some p) c (vis.map (·.2)++[x.2]) c]) fl (by simp;omega) hs.app hd x.1.key;cases hcl:tf b tx x.1 with
   |true=>
    have hcp:iX b tx=true:=by
     unfold iX;rw[←hlc,List.any_eq_true];exact⟨x.1,eS.2 ⟨x,hx,rfl⟩,hcl⟩
    rw[hcp];unfold tf at hcl;simp[tD,nA,Kq,ay MG,EY,Rb,hent,aS hr,aS ht,c1,hcl,qA hf,cR]
   |false=>
    have ih' :=ih (vis++[x]) (left.erase x) (by omega) h2 (fun y hy=>by
     rcases gD.1 hy with hy|hy
     ·exact ha y hy
     ·simp at hy;subst hy;exact hcl)
    unfold tf at hcl;simp[List.map_append]at ih';simp[tD,nA,Kq,ay MG,EY,hent,aS hr,aS ht,c1,hcl,hi1,ht1,qA hf,kU hf,cR];exact ih'
theorem t100{h:List Uo}{i s m o:Nat}{b:Bs}{rc dn ks:U}(fl:Nat)(hf:fl≤h.length)(hr:h[i]? =some (.row (dz b s m rc dn)))(hs:eW h s o b.db ks)(hd:oV b.db){t p:Nat}{tx:Tx}(ht:h[t]? =some (.row (lB tx p)))(hp:jX nA h[p]? tx.bT):
  G 100 [.ptr i 0,.ptr t 0] h fl=some (.bool (iX b tx),h,fl):=by
 refine bL (fn:=Bm) rfl rfl rfl ?_;obtain⟨lc,c,e1,e2,e3⟩:=hp;have a:=qbQ fl hf hr hs hd ht lc c e3 e2 e1 lc.length [] lc (aq _) (by simp) (by simp);have hi1:decide (i<h.length+1)=true:=decide_eq_true (by have:=(bn.1 hr).1;omega);have ht1:decide (t<h.length+1)=true:=decide_eq_true (by have:=(bn.1 ht).1;omega);simp only[lB]at ht;simp at a;simp[wT,Q8,Q9,ht,e2,hi1,ht1,kU hf];exact a
end Go.RE
namespace Go.RE
abbrev XF:=Tx×List Wt×List cA
def eY(b:Bs)(z:XF)(w:Wt):XF:=
 bif w.gone&&(pG (chain b.db w.key) z.1.began).isNone then(ez b z.1 (wK w.key),z.2.1,z.2.2)else(z.1,z.2.1++[w],z.2.2++[wK w.key])
theorem Qe(b:Bs)(z:XF)(w:Wt):(eY b z w).1.began=z.1.began∧(eY b z w).1.bT=z.1.bT∧(eY b z w).1.id=z.1.id∧(eY b z w).1.start=z.1.start:=by
 unfold eY;cases w.gone&&(pG (chain b.db w.key) z.1.began).isNone<;>exact⟨rfl,rfl,rfl,rfl⟩
theorem rZ(b:Bs)(t:Tx)(sp:cA):(ez b t sp).marks.length≤t.marks.length+1:=by
 have h1:=js t.marks [sp];have h2:=qD (DZ t.marks sp) b.db.lim.marks;unfold DZ at h2;simp at h1;show(tq (DZ t.marks sp) b.db.lim.marks).length≤_;unfold DZ;omega
theorem qfE{i s m o:Nat}{b:Bs}{rc dn ks:U}(fl n:Nat)(hf:fl≤n)(hd:oV b.db)(hlm:b.db.lim.marks<small){l:Lv}(L:List Wt)(hL:L.length<small / 32)(hok:∀ w∈L,lS w)(R:XF)(K:Ex→Vs→Prop)(H0:List Uo)(hn0:H0.length=n)(hlt:l.t<n)(hlti:l.t≠i)(hlts:l.t≠s)(hlto:l.t≠o)
  (hr0:H0[i]? =some (.row (dz b s m rc dn))) (hs0:eW H0 s o b.db ks) (hil:i<n)
  (hK:K .normal ⟨[(4,.ptr n 0),(0,.ptr i 0),(7,.own (.t 7) 3 (R.2.1.map dI)),(1,.ptr l.t 0),(8,.own (.t 8) 2 (R.2.2.map aQ))],H0.set l.t (.row (lB R.1 l.p))++[.row [.int .u64 0,.int .u64 0,.int .u64 0,.int .u64 0,.sl 2 [],.sl 2 []]],fl⟩):
  ∀ (j q:Nat) (z:XF),q+j=L.length→(L.drop q).foldl (eY b) z=R→z.2.1.length≤q→z.2.2.length≤q→z.1.marks.length<small / 16+q→
  gL br mT qT pT v59 0 zS (n+1) ⟨[(24,.int .i64 (q:Int)),(1,.ptr l.t 0),(0,.ptr i 0),(8,.own (.t 8) 2 (z.2.2.map aQ)),(7,.own (.t 7) 3 (z.2.1.map dI)),(22,.own (.t 22) 3 (L.map dI)),(4,.ptr n 0),(23,.int .i64 (L.length:Int))],H0.set l.t (.row (lB z.1 l.p))++[.row [.int .u64 0,.int .u64 0,.int .u64 0,.int .u64 0,.sl 2 [],.sl 2 []]],fl⟩ K:=by
 have hi1:decide (i<n+1)=true:=decide_eq_true (by omega);have ht1:decide (l.t<n+1)=true:=decide_eq_true (by omega);intro j
 induction j with
 |zero=>
  intro q z hij hR a1 a2 a3;obtain⟨h1,h2⟩:=nB hij;rw[h2]at hR;simp only[List.foldl_nil]at hR;subst hR;have hcut1:∀ (X a:Uo) (x:List Uo),cut (n+1) fl (H0.set l.t X++a::x)=H0.set l.t X++[a]:=fun X a x=>by
   have:=kU (fl:=fl) (h:=H0.set l.t X) (by simp;omega) a x;simpa[hn0]using this
  rw[ak zS.eq_1];simp[IN,h1,hi1,ht1,hcut1];exact hK
 |succ j ih=>
  intro q z hij hR a1 a2 a3;obtain⟨h1,e3,w,d1,g1⟩:=qn hij (by unfold small at*;omega);have e1:=g1 dI;have hq:q<L.length:=by omega
  have hw:lS w:=hok w (List.mem_of_mem_drop (i:=q) (by rw[d1];exact eU));rw[d1,List.foldl_cons]at hR;have ia:∀ s',qo s' 3 (some (.own (.t 22) 3 (L.map dI))) (some (.int .i64 (q:Int)))=some (.bD (.t 22) q 0,s'):=fun s' =>cT (by simpa using hq);have hlen:(L.map dI).length=L.length:=by simp
  simp only[dI]at e1;have e7:∀ hh:q<(L.map dI).length,(L.map dI)[q]=[.str w.key,.bool w.gone,.sl 1 (bE w.data)]:=fun hh=>by rw[bP hh]at e1;exact Option.some.inj e1
  have e8:∀ x:List Uo,∀ X,(H0.set l.t X++x)[l.t]? =some X:=fun x X=>aS (List.getElem?_set_self (by omega));have e9:∀ X x,(H0.set l.t X++x)[i]? =some (.row (dz b s m rc dn)):=fun X x=>aS (by rw[List.getElem?_set_ne hlti];exact hr0);have hcut1:∀ (X a:Uo) (x:List Uo),cut (n+1) fl (H0.set l.t X++a::x)=H0.set l.t X++[a]:=fun X a x=>by
   have:=kU (fl:=fl) (h:=H0.set l.t X) (by simp;omega) a x;simpa[hn0]using this
  have hset2:∀ Y X x,(H0.set l.t Y++x).set l.t X=H0.set l.t X++x:=fun Y X x=>by
   rw[List.set_append_left _ _ (by simp;omega),List.set_set]
  have hat1:∀ (X a c:Uo) (x:List Uo),(H0.set l.t X++a::c::x)[n+1]? =some c:=fun X a c x=>by
   have:=at1 (H0.set l.t X) x a c;simpa[hn0]using this
  have hst1:∀ (X a c y:Uo) (x:List Uo),(H0.set l.t X++a::c::x).set (n+1) y=H0.set l.t X++a::y::x:=fun X a c y x=>by
   have:=Xf (H0.set l.t X) x a c y;simpa[hn0]using this
  have hss:∀ X,eW (H0.set l.t X) s o b.db ks:=fun X=>hs0.same (List.getElem?_set_ne hlts) (List.getElem?_set_ne hlto);have c1:∀ X x,G 77 [.ptr s 0,.str w.key,.int .u64 (z.1.began:Int)] (H0.set l.t X++x) fl=some (sS (pG (chain b.db w.key) z.1.began),H0.set l.t X++x,fl):=fun X x=>t77 fl (by simp;omega) (hss X).app hd w.key z.1.began;have c2:=t76 w.key hw.1;have b1:(z.2.1.length+1)*48≤bp∧z.2.1.length+1≤bp:=by unfold small at hL;unfold bp;omega
  have b2:(z.2.2.length+1)*32≤bp∧z.2.2.length+1≤bp:=by unfold small at hL;unfold bp;omega
  have hrow:∀ t:Tx,Uo.row (lB t l.p)=.row [.int .i64 t.id,.int .u64 t.began,.int .i64 t.start,.sl 2 (t.marks.map aQ),.map l.p]:=fun _=>rfl;simp only[aQ]at c2;generalize hXX:L.map dI=XX at*;simp only[dz]at e9;rw[ak zS.eq_1];simp only[hrow]at ih⊢;cases hgn:w.gone&&(pG (chain b.db w.key) z.1.began).isNone with
  |true=>
   simp only[bC]at hgn;obtain⟨hg,hno⟩:=hgn;have hgv:pG (chain b.db w.key) z.1.began=none:=by
    cases hx:pG (chain b.db w.key) z.1.began with
    |none=>rfl
    |some y=>rw[hx]at hno;cases hno
   have hlc:eY b z w=(ez b z.1 (wK w.key),z.2.1,z.2.2):=by unfold eY;rw[hg,hgv];rfl
   rw[hlc]at hR;have hml:=rZ b z.1 (wK w.key);have ih' :=ih (q+1) _ (by omega) hR (by simp;omega) (by simp;omega) (by simp;omega);have c3:∀ x,G 75 [.ptr i 0,.ptr l.t 0,.agg (aQ (wK w.key))] (H0.set l.t (.row (lB z.1 l.p))++x) fl=some (.aV [],H0.set l.t (.row (lB (ez b z.1 (wK w.key)) l.p))++x,fl):=fun x=>by
    have:=t75 (h:=H0.set l.t (.row (lB z.1 l.p))++x) (i:=i) (s:=s) (m:=m) (t:=l.t) (p:=l.p) (b:=b) (tx:=z.1) (rc:=rc) (dn:=dn) fl (by simp;omega) (aS (by rw[List.getElem?_set_ne hlti];exact hr0)) (e8 x _) (by unfold small at*;omega) hlm (wK w.key);rw[hset2]at this;exact this
   rw[hg]at e1 e7;rw[hgv]at c1;simp only[sS]at c1;simp only[hrow,aQ,wK]at c3;simp only[wK]at ih';simp[IN,NA,ay Lx,Cc,NB,U8,Gm,h1,ia,e1,e7,e3,hlen,hq,e8,e9,hat1,hst1,c1,c2,c3,hi1,ht1,hcut1,hn0,dI,cR];simpa using ih'
  |false=>
   have hlc:eY b z w=(z.1,z.2.1++[w],z.2.2++[wK w.key]):=by unfold eY;rw[hgn];rfl
   rw[hlc]at hR;have ih' :=ih (q+1) _ (by omega) hR (by simp;omega) (by simp;omega) (by simp;omega);simp[aQ,dI,wK]at ih';cases hg:w.gone with
   |false=>
    rw[hg]at e1 e7 ih';simp only[sS]at c1;simp[IN,NA,ay Lx,Cc,NB,Lr,Ls,Gm,h1,ia,e1,e7,e3,hlen,hq,e8,e9,hat1,hst1,c1,c2,hi1,ht1,hcut1,hn0,b1,b2,dI,cR];simpa using ih'
   |true=>
    rw[hg]at e1 e7 ih' hgn;have hgs:(pG (chain b.db w.key) z.1.began).isSome=true:=by
     cases hx:pG (chain b.db w.key) z.1.began with
     |none=>rw[hx]at hgn;cases hgn
     |some y=>rfl
    simp only[sS,hgs]at c1;simp[IN,NA,ay Lx,Cc,NB,Lr,Ls,Gm,h1,ia,e1,e7,e3,hlen,hq,e8,e9,hat1,hst1,c1,c2,hi1,ht1,hcut1,hn0,b1,b2,dI,cR];simpa using ih'
theorem G7(low:Nat):∀ (ks:List By) (st:Db×List By),(ks.foldl (gT low) st).1.lim=st.1.lim∧(ks.foldl (gT low) st).1.now=st.1.now
 |[],_=>⟨rfl,rfl⟩
 |k::r,st=>by
  have h:=G7 low r (gT low st k);have h1:=C8 low st k;exact⟨h.1.trans h1.2.1,h.2.trans h1.2.2⟩
theorem mE(d:Db)(low:Nat):(cK d low).lim=d.lim∧(cK d low).now=d.now:=G7 low d.keys ({d with sk:=0,sv:=0,sb:=0},[])
theorem G8:∀ (l:List Wt) (d:Db),(l.foldl iJ d).lim=d.lim∧(l.foldl iJ d).now=d.now
 |[],_=>⟨rfl,rfl⟩
 |w::r,d=>by
  have h:=G8 r (iJ d w);exact⟨h.1,h.2⟩
theorem oA(d:Db)(c:List Wt×Sz):(iL d c).lim=d.lim∧(iL d c).now=d.now+1:=by
 have h:=G8 c.1 {d with now:=d.now+1};exact h
theorem qy(d:Db)(l:List Wt)(low:Nat):(bN d l low).2.2.lim=d.lim:=by
 unfold bN;cases !(eP none l==0)with
 |true=>rfl
 |false=>
  cases l.isEmpty with
  |true=>rfl
  |false=>
   cases decide (d.lim.last≤d.now)with
   |true=>rfl
   |false=>
    cases nH d (aT d l).2 with
    |true=>exact(oA _ _).1
    |false=>
     cases nH (cK d low) (aT (cK d low) l).2 with
     |true=>exact(oA _ _).1.trans (mE d low).1
     |false=>exact(mE d low).1
def nX:Rc:=⟨0,0,0,0,[],[]⟩
def aL(b:Bs)(t:Tx):XF:=(ov t).foldl (eY b) (t,[],[])
def tH(b:Bs)(t:Tx):Rc:=⟨0,0,t.began,0,(aL b t).1.marks,tq (aL b t).2.2 b.db.lim.marks⟩
def aM(b:Bs)(t:Tx):Rc×Nat×Nat×Bs:=
 bif iX b t then(nX,0,100,b)else
 match oe b.ah (tH b t)with
 |none=>(nX,0,101,aP b (aL b t).1)
 |some out=>bif(bN b.db (aL b t).2.1 (dR (aP b (aL b t).1))).2.1==0
  then({tH b t with first:=ou (bN b.db (aL b t).2.1 (dR (aP b (aL b t).1))).1,last:=ou (bN b.db (aL b t).2.1 (dR (aP b (aL b t).1))).1,out:=out},(bN b.db (aL b t).2.1 (dR (aP b (aL b t).1))).1,0,{aP b (aL b t).1 with db:=(bN b.db (aL b t).2.1 (dR (aP b (aL b t).1))).2.2})
  else(nX,0,(bN b.db (aL b t).2.1 (dR (aP b (aL b t).1))).2.1,{aP b (aL b t).1 with db:=(bN b.db (aL b t).2.1 (dR (aP b (aL b t).1))).2.2})
def VY(r:Rc×Nat×Nat×Bs):U:=.aV [.agg (recC r.1),.int .u64 (r.2.1:Int),.int .i64 (r.2.2.1:Int)]
theorem me(b:Bs):∀ (L:List Wt) (z:XF),(L.foldl (eY b) z).2.1.length≤z.2.1.length+L.length∧(L.foldl (eY b) z).2.2.length≤z.2.2.length+L.length∧(L.foldl (eY b) z).1.marks.length≤z.1.marks.length+L.length∧
  (L.foldl (eY b) z).1.began=z.1.began∧(L.foldl (eY b) z).1.bT=z.1.bT∧(L.foldl (eY b) z).1.id=z.1.id∧(L.foldl (eY b) z).1.start=z.1.start∧(∀ w∈(L.foldl (eY b) z).2.1,w∈z.2.1∨w∈L)
 |[],z=>⟨aq _,aq _,aq _,rfl,rfl,rfl,rfl,fun w hw=> .inl hw⟩
 |w::L,z=>by
  have h:=me b L (eY b z w);have h1:=Qe b z w;have h2:(eY b z w).2.1.length≤z.2.1.length+1∧(eY b z w).2.2.length≤z.2.2.length+1∧(eY b z w).1.marks.length≤z.1.marks.length+1∧∀ x∈(eY b z w).2.1,x∈z.2.1∨x=w:=by
   unfold eY;cases w.gone&&(pG (chain b.db w.key) z.1.began).isNone with
   |true=>exact⟨by simp,by simp,rZ b z.1 _,fun x hx=> .inl hx⟩
   |false=>exact⟨by simp,by simp,by simp,fun x hx=>by simpa using hx⟩
  obtain⟨a1,a2,a3,a4,a5,a6,a7,a8⟩:=h;rw[List.foldl_cons];refine⟨by simp only[List.length_cons];omega,by simp only[List.length_cons];omega,by simp only[List.length_cons];omega,a4.trans h1.1,a5.trans h1.2.1,a6.trans h1.2.2.1,a7.trans h1.2.2.2,fun x hx=> ?_⟩;rcases a8 x hx with h3|h3
  ·rcases h2.2.2.2 x h3 with h4|rfl
   ·exact .inl h4
   ·exact .inr eU
  ·exact .inr (gB _ h3)
theorem dy.app{h x:List Uo}{i s m o:Nat}{lv:List Lv}{b:Bs}{rc dn ks:U}(hb:dy h i s m o lv b rc dn ks):dy (h++x) i s m o lv b rc dn ks:=
 ⟨aS hb.row,hb.st.app,by rw[cz hb.map.lt];exact hb.map,hb.OM,fun l hl=>⟨aS (hb.tx l hl).1,by rw[cz (hb.tx l hl).2.lt];exact(hb.tx l hl).2⟩,hb.nd⟩
structure qab(b:Bs)(m:Nat):Prop where
 r:zU b.db m
 w:I4 b.db
 z:I7 b.db
 m5:5000*m<small
 now:b.db.now<small
 bT:∀ t∈b.live,t.bT.length≤m
 ok:qaa b m
 rc:RcB b
 wt2:∀ t∈b.live,sU b.ah+t.marks.length+2*m<small / 8
 qeI:b.ah.length+1<100000000
 dl:b.done.length+1<small
 ev:b.event+1<small
theorem t59{h:List Uo}{i s m o:Nat}{lv:List Lv}{b:Bs}{rc dn ks:U}(fl:Nat)(hf:fl≤h.length)(hb:dy h i s m o lv b rc dn ks)(hks:nY ks b.db.keys)(hrc:nD 6 rc (b.ah.map recC)){k:Nat}(hC:qab b k){l:Lv}(hlm:l∈lv):
  ∃ h' lv' ks',G 59 [.ptr i 0,.ptr l.t 0] h fl=some (VY (aM b l.tx),h',fl)∧dy h' i s m o lv' (aM b l.tx).2.2.2 rc dn ks'∧nY ks' (aM b l.tx).2.2.2.db.keys∧Fr h h' (bZ i s m o lv)∧bZ i s m o lv' =bZ i s m o lv∧∃ l'∈lv',l'.t=l.t∧l'.tx.id=l.tx.id∧l'.tx.began=l.tx.began∧l'.tx.start=l.tx.start:=by
 have hi:=(bn.1 hb.row).1;have hl:decide (i<h.length)=true:=decide_eq_true hi;have hl1:decide (i<h.length+1)=true:=decide_eq_true (by omega);obtain⟨x1,x2⟩:=hb.tx l hlm;have hlt:=(bn.1 x1).1;have hlt0:decide (l.t<h.length)=true:=decide_eq_true hlt;have hlt1:decide (l.t<h.length+1)=true:=decide_eq_true (by omega);have hft:=hb.ne.2.2.2.2.2.2.1 l hlm;have hdb:oV b.db:=hC.r.ok;have c1:=t100 (h:=h++[.row (recC nX)]) fl (by simp;omega) (aS hb.row) hb.st.app hdb (aS x1) (by rw[cz x2.lt];exact x2);unfold aM;cases hcl:iX b l.tx with
 |true=>
  rw[hcl]at c1;refine⟨h,lv,ks,?_,hb,hks,Fr.refl h _,rfl,l,hlm,rfl,rfl,rfl,rfl⟩;refine bL (fn:=v59) rfl rfl rfl ?_;simp only[recC,nX]at c1;simp at c1;simp[vN,U6,U7,ZC,c1,hl1,hlt1,VY,recC,nX,qA hf]
 |false=>
  rw[hcl]at c1;simp only[cond_false];have htm:=hb.mem hlm;have hpk:=hC.bT l.tx htm;have hmk:=hC.ok.marks l.tx htm;have hk5:=hC.m5;have hwl:(ov l.tx).length=l.tx.bT.length:=by unfold ov;rw[jj]
  have hwok:∀ w∈ov l.tx,lS w:=fun w hw=>hC.ok.wt l.tx htm w ((lu Wt.key l.tx.bT).subset hw);have c2:=t79 (h:=h++[.row (recC nX)]) fl (by simp;omega) (aS x1) (by rw[cz x2.lt];exact x2) (by unfold small at*;omega);obtain⟨q1,q2,q3,q4,q5,q6,q7,q8⟩:=me b (ov l.tx) (l.tx,[],[]);have hRdef:(ov l.tx).foldl (eY b) (l.tx,[],[])=aL b l.tx:=rfl;rw[hRdef]at q1 q2 q3 q4 q5 q6 q7 q8;dsimp only at q1 q2 q3 q4 q5 q6 q7 q8;have hself:h.set l.t (.row (lB l.tx l.p))=h:=EL x1;have hwk:∀ w∈(aL b l.tx).2.1,lS w:=fun w hw=>by
   rcases q8 w hw with h1|h1
   ·exact(List.not_mem_nil h1).elim
   ·exact hwok w h1
  have hrT:recC (tH b l.tx)=[.int .u64 0,.int .u64 0,.int .u64 (l.tx.began:Int),.int .u64 0,.sl 2 ((aL b l.tx).1.marks.map aQ),.sl 2 ((tq (aL b l.tx).2.2 b.db.lim.marks).map aQ)]:=rfl;have hbu:dy (h.set l.t (.row (lB (aL b l.tx).1 l.p))) i s m o (yI (aL b l.tx).1 lv) (aP b (aL b l.tx).1) rc dn ks:=
   hb.fB hlm (aL b l.tx).1 q6 _ (fun j hj _=>List.getElem?_set_ne (Ne.symm hj)) (List.getElem?_set_self hlt) (by rw[List.getElem?_set_ne hft.tp,q5];exact x2)
  have hFr:Fr h (h.set l.t (.row (lB (aL b l.tx).1 l.p))) (bZ i s m o lv):=(Fr.refl h _).set (by unfold bZ;simp only[dS,List.mem_flatMap];right;right;right;right;exact⟨l,hlm,by simp⟩) _;simp only[List.length_nil,Nat.zero_add]at q1 q2;have c5:=t101 (aL b l.tx).2.2 b.db.lim.marks (by unfold small at*;omega) hC.rc.lm;have hfl:=qD (aL b l.tx).2.2 b.db.lim.marks;have c6:=t102 b.ah (tH b l.tx) (by have:=hC.rc.len;unfold small;omega) (fun r hr=>Cw hC.rc.wt hr) ⟨by show(aL b l.tx).1.marks.length<small / 8;unfold small at*;omega,by show(tq (aL b l.tx).2.2 b.db.lim.marks).length<small / 8;unfold small at*;omega⟩;have hload:∀ x:List Uo,(h.set l.t (.row (lB (aL b l.tx).1 l.p))++x)[i]? =some (.row (dz b s m rc dn)):=fun x=>aS hbu.row;have htl:∀ x:List Uo,(h.set l.t (.row (lB (aL b l.tx).1 l.p))++x)[l.t]? =some (.row [.int .i64 l.tx.id,.int .u64 l.tx.began,.int .i64 l.tx.start,.sl 2 ((aL b l.tx).1.marks.map aQ),.map l.p]):=fun x=>by
   refine aS ?_;rw[List.getElem?_set_self hlt];simp only[lB,q4,q6,q7]
  have hHl:(h.set l.t (.row (lB (aL b l.tx).1 l.p))).length=h.length:=by simp
  have hmem:∃ l'∈yI (aL b l.tx).1 lv,l'.t=l.t∧l'.tx.id=l.tx.id∧l'.tx.began=l.tx.began∧l'.tx.start=l.tx.start:=
   ⟨{l with tx:=(aL b l.tx).1},by unfold yI;exact eS.2 ⟨l,hlm,by rw[if_pos q6.symm]⟩,rfl,q6,q4,q7⟩
  have main:∀ (R:U) (h' :List Uo),(gI br mT qT pT v59 (.seq (.draw Lt) (.seq (.draw Lu) (.seq (.seq (.region rD) (.cond (.t 91) (.seq (.region Gn) .ret) .skip)) (.seq (.draw Lw) (.seq (.seq (.region xS) (.cond (.t 106) (.seq (.region Gp) .ret) .skip)) (.seq (.region Gq) (.seq (.region Gs) .ret))))))) (kE h.length v59 (R,h',fl))) .normal
    ⟨[(4,.ptr h.length 0),(0,.ptr i 0),(7,.own (.t 7) 3 ((aL b l.tx).2.1.map dI)),(1,.ptr l.t 0),(8,.own (.t 8) 2 ((aL b l.tx).2.2.map aQ))],h.set l.t (.row (lB (aL b l.tx).1 l.p))++[.row [.int .u64 0,.int .u64 0,.int .u64 0,.int .u64 0,.sl 2 [],.sl 2 []]],fl⟩→G 59 [.ptr i 0,.ptr l.t 0] h fl=some (R,h',fl):=by
   intro R h' hK;refine bL (fn:=v59) rfl rfl rfl ?_;have a:=qfE fl h.length hf hdb hC.rc.lm (l:=l) (m:=m) (rc:=rc) (dn:=dn) (ks:=ks) (ov l.tx) (by unfold small at*;omega) hwok (aL b l.tx) _ h rfl hlt hft.ti hft.ts hft.tO hb.row hb.st hi hK (ov l.tx).length 0 (l.tx,[],[]) (by omega) rfl (by simp) (by simp) (by simp;omega);simp only[hself]at a;simp only[recC,nX]at c1 c2;simp at a c1 c2;simp[vN,U6,U7,ZD,ZE,ZF,c1,c2,hl1,hlt1,kU hf];exact a
  generalize hY:h.set l.t (.row (lB (aL b l.tx).1 l.p))=H at*;rw[hrT]at c6;have hn0:∀ (a:Uo) x,(H++a::x)[h.length]? =some a:=fun a x=>by rw[←hHl];exact VG H x a
  have hn1:∀ (a c:Uo) x,(H++a::c::x)[h.length+1]? =some c:=fun a c x=>by rw[←hHl];exact at1 H x a c
  have hs0:∀ (a y:Uo) x,(H++a::x).set h.length y=H++y::x:=fun a y x=>by rw[←hHl];exact Ib H x a y
  have hs1:∀ (a c y:Uo) x,(H++a::c::x).set (h.length+1) y=H++a::y::x:=fun a c y x=>by rw[←hHl];exact Xf H x a c y
  have hcut:∀ x:List Uo,cut h.length fl (H++x)=H:=fun x=>by rw[←hHl];exact gf (by omega)
  simp only[dz]at hload;cases hj:oe b.ah (tH b l.tx)with
  |none=>
   rw[hj]at c6;simp only[wE]at c6;refine⟨H,_,ks,?_,hbu,hks,hFr,mK _ _ _ _ _ _,hmem⟩;refine main _ _ ?_;rcases hrc with rfl|⟨rfl,hn⟩
   ·simp[ay sK,qc,ay sL,nW,rD,Gn,hload,htl,c5,c6,hHl,hn0,hn1,hs0,hs1,hcut,VY,recC,nX,cR]
   ·have hz0:b.ah.map recC=[]:=hn;rw[hz0]at c6;simp[ay sK,qc,ay sL,nW,rD,Gn,hload,htl,c5,c6,hHl,hn0,hn1,hs0,hs1,hcut,VY,recC,nX,cR]
  |some out=>
   rw[hj]at c6;simp only[wE]at c6;obtain⟨hsl,hol⟩:=hbu.st.lt;have c7:=t27 (h:=H++[.row [.int .u64 0,.int .u64 0,.int .u64 0,.int .u64 0,.sl 2 [],.sl 2 []],.row (recC (tH b l.tx))]) fl (by simp;omega) hbu.app;have hiH:i<H.length:=by omega
   have hset:∀ X x,(H++x).set i X=H.set i X++x:=fun X x=>List.set_append_left _ _ hiH;have hset2:∀ Y X x,(H.set i Y++x).set i X=H.set i X++x:=fun Y X x=>by
    rw[List.set_append_left _ _ (by simpa using hiH),List.set_set]
   have hat:∀ X x,(H.set i X++x)[i]? =some X:=fun X x=>aS (List.getElem?_set_self hiH);have hselfi:H.set i (.row (dz (aP b (aL b l.tx).1) s m rc dn))=H:=EL hbu.row;have hbl:dy (H.set i (.row (dz (aP b (aL b l.tx).1) s m .cZ dn))) i s m o (yI (aL b l.tx).1 lv) (aP b (aL b l.tx).1) .cZ dn ks:=hbu.cells rfl rfl (List.getElem?_set_self hiH) (fun j hj=>List.getElem?_set_ne (Ne.symm hj));have c7l:=t27 (h:=H.set i (.row (dz (aP b (aL b l.tx).1) s m .cZ dn))++[.row [.int .u64 0,.int .u64 0,.int .u64 0,.int .u64 0,.sl 2 [],.sl 2 []],.row (recC (tH b l.tx))]) fl (by simp;omega) hbl.app;have hbc:∀ X,dz (aP b (aL b l.tx).1) s m X dn=[.int .i64 b.db.lim.keys,.int .i64 b.db.lim.gA,.int .i64 b.db.lim.bytes,.int .i64 b.db.lim.marks,.int .i64 b.db.lim.records,.int .i64 b.db.lim.live,.int .u64 b.db.lim.last,.ptr s 0,.map m,X,dn,.int .i64 b.last,.int .i64 b.event]:=fun X=>rfl;rw[hbc]at c7l hselfi;obtain⟨h',ks',c8,d2,d3,d4⟩:=t103 (h:=H++[.row [.int .u64 0,.int .u64 0,.int .u64 0,.int .u64 0,.sl 2 [],.sl 2 []],.row (recC (tH b l.tx))]) fl (by simp;omega) hbu.st.app hks hC.r hC.w hC.z hC.now (aL b l.tx).2.1 (by omega) hC.m5 hwk (dR (aP b (aL b l.tx).1));obtain⟨h2,rfl,d5⟩:=d4.split (fun j hj=>by simp at hj;rcases hj with rfl|rfl<;>omega);have hlim:(bN b.db (aL b l.tx).2.1 (dR (aP b (aL b l.tx).1))).2.2.lim=b.db.lim:=qy _ _ _;have hb2:=hbu.db (d:=(bN b.db (aL b l.tx).2.1 (dR (aP b (aL b l.tx).1))).2.2) hlim (d2.DM (by rw[d5.1];exact hsl) (by rw[d5.1];exact hol)) d5;have hFr2:Fr h h2 (bZ i s m o lv):=hFr.trans (d5.sub (by unfold bZ;simp));have hdbe:(aP b (aL b l.tx).1).db=b.db:=rfl;rw[hdbe]at c8 d2 d3;rw[hrT]at c7 c7l c8;have hH2:h2.length=h.length:=by rw[d5.1,hHl]
   have hm0:∀ (a:Uo) x,(h2++a::x)[h.length]? =some a:=fun a x=>by rw[←hH2];exact VG h2 x a
   have hm1:∀ (a c:Uo) x,(h2++a::c::x)[h.length+1]? =some c:=fun a c x=>by rw[←hH2];exact at1 h2 x a c
   have ht0:∀ (a y:Uo) x,(h2++a::x).set h.length y=h2++y::x:=fun a y x=>by rw[←hH2];exact Ib h2 x a y
   have ht1:∀ (a c y:Uo) x,(h2++a::c::x).set (h.length+1) y=h2++a::y::x:=fun a c y x=>by rw[←hH2];exact Xf h2 x a c y
   have hcut2:∀ x:List Uo,cut h.length fl (h2++x)=h2:=fun x=>by rw[←hH2];exact gf (by omega)
   dsimp only;generalize hCC:bN b.db (aL b l.tx).2.1 (dR (aP b (aL b l.tx).1))=C at*;cases he:C.2.1==0 with
   |true=>
    have he' :C.2.1=0:=by simpa using he
    rw[he']at c8;simp only[cond_true];refine⟨h2,_,ks',?_,hb2,d3,hFr2,mK _ _ _ _ _ _,hmem⟩;refine main _ _ ?_;rcases hrc with rfl|⟨rfl,hn⟩
    ·simp[ay sK,qc,ay sL,nW,rD,ay zR,sM,xS,Gq,Gs,hload,htl,c5,c6,c7,c7l,hset,hset2,hat,hselfi,c8,hHl,hn0,hn1,hs0,hs1,hm0,hm1,ht0,ht1,hcut2,VY,recC,tH,cR]
    ·have hz0:b.ah.map recC=[]:=hn;rw[hz0]at c6;simp[ay sK,qc,ay sL,nW,rD,ay zR,sM,xS,Gq,Gs,hload,htl,c5,c6,c7,c7l,hset,hset2,hat,hselfi,c8,hHl,hn0,hn1,hs0,hs1,hm0,hm1,ht0,ht1,hcut2,VY,recC,tH,cR]
   |false=>
    have he' :¬(C.2.1=0):=by simpa using he
    have hei:(((C.2.1:Nat):Int) !=0)=true:=by simp;omega
    simp only[cond_false];refine⟨h2,_,ks',?_,hb2,d3,hFr2,mK _ _ _ _ _ _,hmem⟩;refine main _ _ ?_;rcases hrc with rfl|⟨rfl,hn⟩
    ·simp[ay sK,qc,ay sL,nW,rD,ay zR,sM,xS,Gp,hei,he',hload,htl,c5,c6,c7,c7l,hset,hset2,hat,hselfi,c8,hHl,hn0,hn1,hs0,hs1,hm0,hm1,ht0,ht1,hcut2,VY,recC,nX,cR]
    ·have hz0:b.ah.map recC=[]:=hn;rw[hz0]at c6;simp[ay sK,qc,ay sL,nW,rD,ay zR,sM,xS,Gp,hei,he',hload,htl,c5,c6,c7,c7l,hset,hset2,hat,hselfi,c8,hHl,hn0,hn1,hs0,hs1,hm0,hm1,ht0,ht1,hcut2,VY,recC,nX,cR]
end Go.RE
namespace Go.RE
theorem rT{h:List Uo}{i s m o:Nat}{lv:List Lv}{b:Bs}{rc dn ks:U}(hb:dy h i s m o lv b rc dn ks):∀ j∈bZ i s m o lv,j<h.length:=by
 intro j hj;unfold bZ at hj;simp only[dS,List.mem_flatMap,List.not_mem_nil,or_false]at hj;rcases hj with rfl|rfl|rfl|rfl|⟨l,hlm,rfl|rfl⟩
 ·exact(bn.1 hb.row).1
 ·exact hb.st.lt.1
 ·exact hb.map.lt
 ·exact hb.st.lt.2
 ·exact(bn.1 (hb.tx l hlm).1).1
 ·exact(hb.tx l hlm).2.lt
theorem dy.DM{h x:List Uo}{i s m o:Nat}{lv:List Lv}{b:Bs}{rc dn ks:U}(hb:dy (h++x) i s m o lv b rc dn ks)(hl:∀ j∈bZ i s m o lv,j<h.length):dy h i s m o lv b rc dn ks:=by
 have hi:i<h.length:=hl i (by unfold bZ;simp);have hs:s<h.length:=hl s (by unfold bZ;simp);have hm:m<h.length:=hl m (by unfold bZ;simp);have ho:o<h.length:=hl o (by unfold bZ;simp);refine⟨by have:=hb.row;rwa[cz hi]at this,hb.st.DM hs ho,by have:=hb.map;rwa[cz hm]at this,hb.OM,fun l hlm=> ?_,hb.nd⟩;have ht:l.t<h.length:=hl _ (by unfold bZ;simp only[dS,List.mem_flatMap];right;right;right;right;exact⟨l,hlm,by simp⟩);have hp:l.p<h.length:=hl _ (by unfold bZ;simp only[dS,List.mem_flatMap];right;right;right;right;exact⟨l,hlm,by simp⟩);have:=hb.tx l hlm;rwa[cz ht,cz hp]at this
def oa(t:Tx)(r:Rc)(n e:Nat):Don:=⟨t.id,t.began,n,t.start,e,r.reads,r.writes⟩
def iy(b:Bs)(t:Tx)(r:Rc)(n:Nat):Bs:=
 {b with event:=b.event+1,done:=b.done++[oa t r n (b.event+1)],ah:=b.ah++[r]}
def aU(b:Bs)(id:Int):Nat×Nat×Bs:=match eR b id with
 |none=>(0,4,b)
 |some t=>bif(aM b t).2.2.1==0 then((aM b t).2.1,0,kW (iy (aM b t).2.2.2 t (aM b t).1 (aM b t).2.1) id)else((aM b t).2.1,(aM b t).2.2.1,kW (aM b t).2.2.2 id)
theorem ug(b:Bs)(t:Tx):(aM b t).2.2.2.ah=b.ah∧(aM b t).2.2.2.done=b.done∧(aM b t).2.2.2.last=b.last∧(aM b t).2.2.2.event=b.event∧(aM b t).2.2.2.db.lim=b.db.lim:=by
 unfold aM;cases iX b t with
 |true=>exact⟨rfl,rfl,rfl,rfl,rfl⟩
 |false=>
  simp only[cond_false];cases oe b.ah (tH b t)with
  |none=>exact⟨rfl,rfl,rfl,rfl,rfl⟩
  |some out=>
   dsimp only;cases(bN b.db (aL b t).2.1 (dR (aP b (aL b t).1))).2.1==0 with
   |true=>exact⟨rfl,rfl,rfl,rfl,qy _ _ _⟩
   |false=>exact⟨rfl,rfl,rfl,rfl,qy _ _ _⟩
theorem Ai(b:Bs)(t:Tx):VD (aM b t).1≤t.marks.length+2*t.bT.length:=by
 have h:=me b (ov t) (t,[],[]);have hRdef:(ov t).foldl (eY b) (t,[],[])=aL b t:=rfl;rw[hRdef]at h;dsimp only at h;have hw:(ov t).length=t.bT.length:=by unfold ov;rw[jj]
 have h2:=qD (aL b t).2.2 b.db.lim.marks;simp only[List.length_nil,Nat.zero_add]at h;have hz:VD nX=0:=rfl;unfold aM;cases iX b t with
 |true=>simp only[cond_true,hz];omega
 |false=>
  simp only[cond_false];cases oe b.ah (tH b t)with
  |none=>simp only[hz];omega
  |some out=>
   dsimp only;cases(bN b.db (aL b t).2.1 (dR (aP b (aL b t).1))).2.1==0 with
   |true=>
    show(aL b t).1.marks.length+(tq (aL b t).2.2 b.db.lim.marks).length≤_;omega
   |false=>simp only[cond_false,hz];omega
theorem NH(l:List Rc)(r:Rc):sU (l++[r])=sU l+VD r:=by
 induction l with
 |nil=>simp[sU]
 |cons a l ih=>simp only[List.cons_append,sU,ih];omega
theorem t19{h:List Uo}{i s m o:Nat}{lv:List Lv}{b:Bs}{rc dn ks:U}(fl:Nat)(hf:fl≤h.length)(hb:dy h i s m o lv b rc dn ks)(hks:nY ks b.db.keys)(hrc:nD 6 rc (b.ah.map recC))(hdn:nD 7 dn (b.done.map wq)){k:Nat}(hC:qab b k)(id:Int):
  ∃ h' lv' rc' dn' ks',G 19 [.ptr i 0,.int .i64 id] h fl=some (.aV [.int .u64 ((aU b id).1:Nat),.int .i64 ((aU b id).2.1:Nat)],h',fl)∧dy h' i s m o lv' (aU b id).2.2 rc' dn' ks'∧nY ks' (aU b id).2.2.db.keys∧
   nD 6 rc' ((aU b id).2.2.ah.map recC)∧nD 7 dn' ((aU b id).2.2.done.map wq)∧Gr h h' (bZ i s m o lv) (bZ i s m o lv')∧h'.length=h.length:=by
 have hi:=(bn.1 hb.row).1;have hl:decide (i<h.length)=true:=decide_eq_true hi;have c1:=t56 fl hf hb id;unfold aU;rw[hb.find];cases hlv:fK k8 id lv with
 |none=>
  rw[hlv]at c1;simp only[j9]at c1;refine⟨h,lv,rc,dn,ks,?_,hb,hks,hrc,hdn,(Fr.refl h _).gr,rfl⟩;refine bL (fn:=v19) rfl rfl rfl ?_;simp[lD,BN,BO,BP,YH,c1,hl,aZ hf]
 |some l=>
  rw[hlv]at c1;simp only[j9]at c1;have hlm:=kR k8 hlv;have hid:((l.tx.id:Nat):Int)=id:=Md k8 hlv;have hlt0:decide (l.t<h.length)=true:=decide_eq_true (bn.1 (hb.tx l hlm).1).1;obtain⟨H,lv1,ks1,c2,B1,k1,f1,ft1,l1,m1,e1,e2,e3,e4⟩:=t59 fl hf hb hks hrc hC hlm;have hkp:=ug b l.tx;have hwt:=Ai b l.tx;simp only[Option.map_some];have hHl:=f1.1;have hiH:i<H.length:=by omega
  have x1:=(B1.tx l1 m1).1;rw[e1]at x1;generalize hct:aM b l.tx=C at*;obtain⟨r,n,e,b1⟩:=C;dsimp only at*;obtain⟨p1,p2,p3,p4,p5⟩:=hkp;cases he:e==0 with
  |false=>
   have he' :¬(e=0):=by simpa using he
   have hei:((e:Int)==0)=false:=by simp;omega
   obtain⟨h3,c3,B3,f3⟩:=t60 (h:=H++[.row (recC r)]) fl (by simp;omega) B1.app (by rw[p1];exact hrc) (by rw[p1];exact hC.rc.len) (by rw[p1];exact hC.rc.wt) (by rw[p5];exact hC.rc.lr) (by rw[p5];exact hC.rc.lm) id;have hfl1:=rT B1;obtain⟨h4,rfl,f4⟩:=f3.split hfl1;have hft4:∀ j∈bZ i s m o (iY k8 id lv1),j<h4.length:=fun j hj=>by rw[f4.1];exact hfl1 j ((oC (jI k8 id lv1)).subset hj)
   simp only[cond_false];refine⟨h4,_,_,dn,ks1,?_,B3.DM hft4,k1,.inl rfl,by show nD 7 dn (b1.done.map wq);rw[p2];exact hdn,?_,by rw[f4.1,hHl]⟩
   ·refine bL (fn:=v19) rfl rfl rfl ?_;have hcut:∀ x:List Uo,cut h.length fl (h4++x)=h4:=fun x=>by
     have:h4.length=h.length:=by rw[f4.1,hHl]
     rw[←this];exact gf (by omega)
    simp only[VY,recC]at c2;simp only[recC]at c3;simp[lD,BN,BO,BP,DO,DP,DQ,xM,c1,c2,c3,hl,hlt0,hei,he',hHl,hcut]
   ·refine⟨by rw[f4.1,hHl];exact aq _,fun j _ hj=> ?_,fun j hj=> .inl ?_⟩
    ·rw[f4.2 j (by rw[ft1];exact hj)];exact f1.2 j hj
    ·rw[←ft1];exact(oC (jI k8 id lv1)).subset hj
  |true=>
   have he' :e=0:=by simpa using he
   subst he';subst hid;simp only[cond_true];have hput:=hC.bT l.tx (hb.mem hlm);have hwt2:=hC.wt2 l.tx (hb.mem hlm);have hlim2:(iy b1 l.tx r n).db=b1.db:=rfl;have hre:(iy b1 l.tx r n).ah=b.ah++[r]:=by show b1.ah++[r]=_;rw[p1]
   have hde:(iy b1 l.tx r n).done=b.done++[oa l.tx r n (b.event+1)]:=by show b1.done++_=_;rw[p2,p4]
   have hrow:dz (iy b1 l.tx r n) s m (.bF 6 ((b.ah++[r]).map recC)) (.bF 7 ((b.done++[oa l.tx r n (b.event+1)]).map wq))=
     [.int .i64 b.db.lim.keys,.int .i64 b.db.lim.gA,.int .i64 b.db.lim.bytes,.int .i64 b.db.lim.marks,.int .i64 b.db.lim.records,.int .i64 b.db.lim.live,.int .u64 b.db.lim.last,.ptr s 0,.map m,.bF 6 ((b.ah++[r]).map recC),.bF 7 ((b.done++[oa l.tx r n (b.event+1)]).map wq),.int .i64 b1.last,.int .i64 ((b.event+1:Nat):Int)]:=by
    simp only[dz,iy,p4,p5]
   have B2:dy (H.set i (.row (dz (iy b1 l.tx r n) s m (.bF 6 ((b.ah++[r]).map recC)) (.bF 7 ((b.done++[oa l.tx r n (b.event+1)]).map wq))))) i s m o lv1 (iy b1 l.tx r n) (.bF 6 ((b.ah++[r]).map recC)) (.bF 7 ((b.done++[oa l.tx r n (b.event+1)]).map wq)) ks1:=
    B1.cells (b' :=iy b1 l.tx r n) (rc' :=.bF 6 ((b.ah++[r]).map recC)) (dn' :=.bF 7 ((b.done++[oa l.tx r n (b.event+1)]).map wq)) rfl rfl (List.getElem?_set_self hiH) (fun j hj=>List.getElem?_set_ne (Ne.symm hj))
   obtain⟨h3,c3,B3,f3⟩:=t60 (h:=H.set i (.row (dz (iy b1 l.tx r n) s m (.bF 6 ((b.ah++[r]).map recC)) (.bF 7 ((b.done++[oa l.tx r n (b.event+1)]).map wq))))++[.row (recC r)]) fl (by simp;omega) B2.app (by rw[hre];exact .inl rfl) (by rw[hre];simp;exact hC.qeI) (by rw[hre,NH];omega) (by rw[hlim2,p5];exact hC.rc.lr) (by rw[hlim2,p5];exact hC.rc.lm) ((l.tx.id:Nat):Int);have hfl1:=rT B2;obtain⟨h4,rfl,f4⟩:=f3.split hfl1;have hft4:∀ j∈bZ i s m o (iY k8 ((l.tx.id:Nat):Int) lv1),j<h4.length:=fun j hj=>by rw[f4.1];exact hfl1 j ((oC (jI k8 _ lv1)).subset hj)
   have hL4:h4.length=h.length:=by rw[f4.1];simp;exact hHl
   refine⟨h4,_,_,_,ks1,?_,B3.DM hft4,k1,.inl rfl,by
    show nD 7 _ ((iy b1 l.tx r n).done.map wq);rw[hde];exact .inl rfl,?_,hL4⟩
   ·refine bL (fn:=v19) rfl rfl rfl ?_;have hcut:∀ x:List Uo,cut h.length fl (h4++x)=h4:=fun x=>by
     rw[←hL4];exact gf (by omega)
    have hset:∀ X x,(H++x).set i X=H.set i X++x:=fun X x=>List.set_append_left _ _ hiH;have hset2:∀ Y X x,(H.set i Y++x).set i X=H.set i X++x:=fun Y X x=>by
     rw[List.set_append_left _ _ (by simpa using hiH),List.set_set]
    have hat:∀ X x,(H.set i X++x)[i]? =some X:=fun X x=>aS (List.getElem?_set_self hiH);have hlti:l.t≠i:=(hb.ne.2.2.2.2.2.2.1 l hlm).ti;have hxt:∀ x,(H++x)[l.t]? =some (.row [.int .i64 l.tx.id,.int .u64 l.tx.began,.int .i64 l.tx.start,.sl 2 (l1.tx.marks.map aQ),.map l1.p]):=fun x=>by
     refine aS ?_;rw[x1];simp only[lB,e2,e3,e4]
    have hxs:∀ X x,(H.set i X++x)[l.t]? =some (.row [.int .i64 l.tx.id,.int .u64 l.tx.began,.int .i64 l.tx.start,.sl 2 (l1.tx.marks.map aQ),.map l1.p]):=fun X x=>by
     refine aS ?_;rw[List.getElem?_set_ne (Ne.symm hlti),x1];simp only[lB,e2,e3,e4]
    have hrr:∀ x,(H++x)[i]? =some (.row [.int .i64 b.db.lim.keys,.int .i64 b.db.lim.gA,.int .i64 b.db.lim.bytes,.int .i64 b.db.lim.marks,.int .i64 b.db.lim.records,.int .i64 b.db.lim.live,.int .u64 b.db.lim.last,.ptr s 0,.map m,rc,dn,.int .i64 b1.last,.int .i64 (b.event:Int)]):=fun x=>by
     refine aS ?_;rw[B1.row];simp only[dz,p4,p5]
    have hat0:∀ (a:Uo) x,(H++a::x)[h.length]? =some a:=fun a x=>by rw[←hHl];exact VG H x a
    have hat1:∀ (X a:Uo) x,(H.set i X++a::x)[h.length]? =some a:=fun X a x=>by
     have:=VG (H.set i X) x a;simpa[hHl]using this
    have hst0:∀ (a y:Uo) x,(H++a::x).set h.length y=H++y::x:=fun a y x=>by rw[←hHl];exact Ib H x a y
    have w1:aI .i64 ((b.event:Int)+1)=((b.event+1:Nat):Int):=fD (by have:=hC.ev;unfold small at this;omega);rw[hrow]at c3;simp only[VY,recC]at c2;simp only[recC]at c3;simp only[Int.natCast_add]at w1;simp only[List.map_append,List.map_cons,List.map_nil,wq,oa,recC,Int.natCast_add,Int.natCast_one]at c3;have b7:(b.done.length+1)*88≤bp∧b.done.length+1≤bp:=by have:=hC.dl;unfold small at this;unfold bp;omega
    have b6:(b.ah.length+1)*80≤bp∧b.ah.length+1≤bp:=by have:=hC.qeI;unfold bp;omega
    have bz:88≤bp∧80≤bp∧1≤bp:=by unfold bp;omega
    rcases hrc with rfl|⟨rfl,hn1⟩
    ·rcases hdn with rfl|⟨rfl,hn2⟩
     ·simp[lD,BN,BO,BP,DO,DP,Iy,ay Fz,xN,ay FA,xO,DQ,xM,c1,c2,c3,hl,hlt0,hHl,hset,hset2,hat,hat0,hat1,hst0,hxt,hxs,hrr,hcut,w1,b6,b7,bz,cR]
     ·rw[hn2]at c3;simp only[List.nil_append]at c3;simp[lD,BN,BO,BP,DO,DP,Iy,ay Fz,xN,ay FA,xO,DQ,xM,c1,c2,c3,hl,hlt0,hHl,hset,hset2,hat,hat0,hat1,hst0,hxt,hxs,hrr,hcut,w1,b6,b7,bz,cR]
    ·rw[hn1]at c3;simp only[List.nil_append]at c3;rcases hdn with rfl|⟨rfl,hn2⟩
     ·simp[lD,BN,BO,BP,DO,DP,Iy,ay Fz,xN,ay FA,xO,DQ,xM,c1,c2,c3,hl,hlt0,hHl,hset,hset2,hat,hat0,hat1,hst0,hxt,hxs,hrr,hcut,w1,b6,b7,bz,cR]
     ·rw[hn2]at c3;simp only[List.nil_append]at c3;simp[lD,BN,BO,BP,DO,DP,Iy,ay Fz,xN,ay FA,xO,DQ,xM,c1,c2,c3,hl,hlt0,hHl,hset,hset2,hat,hat0,hat1,hst0,hxt,hxs,hrr,hcut,w1,b6,b7,bz,cR]
   ·refine⟨by rw[hL4];exact aq _,fun j _ hj=> ?_,fun j hj=> .inl ?_⟩
    ·have hji:i≠j:=fun hh=>hj (by rw[←hh];unfold bZ;simp);rw[f4.2 j (by rw[ft1];exact hj),List.getElem?_set_ne hji];exact f1.2 j hj
    ·rw[←ft1];exact(oC (jI k8 _ lv1)).subset hj
end Go.RE
namespace Go.RE
def XE(d:Don):Prop:=d.reads.length<small∧d.writes.length<small
def je(l:Lm):List U:=[.int .i64 l.keys,.int .i64 l.gA,.int .i64 l.bytes,.int .i64 l.marks,.int .i64 l.records,.int .i64 l.live,.int .u64 l.last]
structure GG(l:Lm):Prop where
 k:1≤l.keys∧l.keys≤1048576
 v:1≤l.gA∧l.gA≤1048576
 b:1≤l.bytes∧l.bytes≤1048576
 m:1≤l.marks∧l.marks≤1048576
 r:1≤l.records∧l.records≤1048576
 n:1≤l.live∧l.live≤64
 z:l.last≠0
def PA(l:Lm):Db:=⟨l,0,[],[],0,0,0⟩
def vU(l:Lm):Bs:=⟨PA l,[],[],[],0,0⟩
theorem AP{a:Nat}(h:1≤a∧a≤1048576):¬((a:Int)<1)∧¬((1048576:Int)<(a:Int)):=⟨by omega,by omega⟩
theorem t86(l:Lm)(hl:GG l):G 86 [.agg (je l)] [] 0=some (.aV [.ptr 2 0,.int .i64 0],[.row (je l),.map [] 0,.row (dG (PA l) 1 (.nl 1))],0):=by
 refine bL (fn:=ZY) rfl rfl rfl ?_;have a1:=AP hl.k;have a2:=AP hl.v;have a3:=AP hl.b;have hz:((l.last:Int)==0)=false:=by rw[beq_eq_false_iff_ne];have:=hl.z;omega
 have hz' :¬l.last=0:=hl.z;have e1:aI .i64 1=1:=rfl;have e2:aI .i64 2=2:=rfl;have e3:aI .i64 3=3:=rfl;simp[Cp,ZZ,Z0,je];rw[ak Co.eq_1];simp[IS,ND,NF,NG,a1,a2,a3,e1];rw[ak Co.eq_1];simp[IS,ND,NF,NG,a1,a2,a3,e2];rw[ak Co.eq_1];simp[IS,ND,NF,NG,a1,a2,a3,e3];rw[ak Co.eq_1];simp[IS,Z4,Vj,hz,hz',dG,PA]
theorem t41(l:Lm)(hl:GG l):G 41 [.agg (je l)] [] 0=some (.aV [.ptr 5 0,.int .i64 0],[.row (je l),.row (je l),.map [] 0,.row (dG (PA l) 2 (.nl 1)),.map [] 0,.row (dz (vU l) 3 4 (.nl 6) (.nl 7))],0):=by
 refine bL (fn:=v41) rfl rfl rfl ?_;have a1:=AP hl.m;have a2:=AP hl.r;have a3:¬((l.live:Int)<1)∧¬((64:Int)<(l.live:Int)):=by have:=hl.n;omega
 have e1:aI .i64 1=1:=rfl;have e2:aI .i64 2=2:=rfl;have c:=t86 l hl;simp only[je,dG]at c;simp[B5,Y7,Y8,Y9,Za,je,c,ji];rw[ak zP.eq_1];simp[Nz,UO,UP,UQ,a1,a2,a3,e1];rw[ak zP.eq_1];simp[Nz,UO,UP,UQ,a1,a2,a3,e2];rw[ak zP.eq_1];simp[Nz,UM,UN,a3,dG,PA,dz,vU]
theorem t14(l:Lm)(hl:GG l):G 14 [.agg (je l)] [] 0=some (.ptr 6 0,[.row (je l),.row (je l),.row (je l),.map [] 0,.row (dG (PA l) 3 (.nl 1)),.map [] 0,.row (dz (vU l) 4 5 (.nl 6) (.nl 7))],0):=by
 refine bL (fn:=v14) rfl rfl rfl ?_;have c:=t41 l hl;simp only[je,dG,dz]at c;simp[BF,Yl,Ym,Yn,Yo,je,c,dG,dz,ji]
def jZ:Lm:=⟨1000,100000,1048576,1000,1000,16,1099511627776⟩
theorem nF:GG jZ:=⟨by decide,by decide,by decide,by decide,by decide,by decide,by decide⟩
theorem t15:G 15 [] [] 0=some (.agg (je jZ),[],0):=by
 refine bL (fn:=v15) rfl rfl rfl ?_;simp[BG,Yp,Yq,je,jZ]
theorem t51(k d:By)(hd:d.length≤bp:=by decide):G 51 [.str k,.str d] [] 0=some (.agg (dI ⟨k,false,d⟩),[],0):=by
 refine bL (fn:=v51) rfl rfl rfl ?_;simp[B7,Ze,Zg,dI,hd]
theorem qdL(l:Lm):dy [.row (je l),.row (je l),.row (je l),.map [] 0,.row (dG (PA l) 3 (.nl 1)),.map [] 0,.row (dz (vU l) 4 5 (.nl 6) (.nl 7))] 6 4 5 3 [] (vU l) (.nl 6) (.nl 7) (.nl 1):=
 ⟨rfl,⟨rfl,uz kP⟩,uz k8,rfl,fun l hl=>(List.not_mem_nil hl).elim,by decide⟩
end Go.RE
namespace Go.RE
structure ta where
 dO:Int
 id:Int
 w:Wt
 hi:By
def dF(o:ta):List U:=[.int .i64 o.dO,.int .i64 o.id,.str o.w.key,.bool o.w.gone,.sl 1 (bE o.w.data),.str o.hi]
structure Cy(h:List Uo)(fl:Nat)(i s m o:Nat)(F:List Nat)(b:Bs):Prop where
 at_:∃ lv rc dn ks,dy h i s m o lv b rc dn ks∧nY ks b.db.keys∧nD 6 rc (b.ah.map recC)∧nD 7 dn (b.done.map wq)∧F=bZ i s m o lv
 fle:fl≤h.length
theorem dy.same{h h' :List Uo}{i s m o:Nat}{lv:List Lv}{b:Bs}{rc dn ks:U}(hb:dy h i s m o lv b rc dn ks)(hs:∀ j∈bZ i s m o lv,h'[j]? =h[j]?):dy h' i s m o lv b rc dn ks:=by
 have e1:=hs i (by unfold bZ;simp);have e2:=hs s (by unfold bZ;simp);have e3:=hs m (by unfold bZ;simp);have e4:=hs o (by unfold bZ;simp);refine⟨by rw[e1];exact hb.row,hb.st.same e2 e4,by rw[e3];exact hb.map,hb.OM,fun l hl=> ?_,hb.nd⟩;have e5:=hs l.t (by unfold bZ;simp only[dS,List.mem_flatMap];right;right;right;right;exact⟨l,hl,by simp⟩);have e6:=hs l.p (by unfold bZ;simp only[dS,List.mem_flatMap];right;right;right;right;exact⟨l,hl,by simp⟩);rw[e5,e6];exact hb.tx l hl
structure Left(h h' :List Uo)(fl fl' :Nat)(i s m o:Nat)(F F' :List Nat)(b' :Bs):Prop where
 at_:Cy h' fl' i s m o F' b'
 gr:Gr h h' F F'
 fll:fl≤fl'
 or:(fl' =fl∧h'.length=h.length∧∀ j∈F',j∈F)∨fl' =h'.length
theorem Left.fin{h x h' :List Uo}{fl fl' :Nat}{i s m o:Nat}{F F' :List Nat}{b' :Bs}(hf:fl≤h.length)(hF:∀ j∈F,j<h.length)(hl:Left (h++x) h' fl fl' i s m o F F' b'){k:Nat}(hk:h.length≤k)(hk2:k<h.length+x.length)(y:Uo):
  Left h (cut h.length fl' (h'.set k y)) fl fl' i s m o F F' b' :=by
 obtain⟨⟨⟨lv,rc,dn,ks,hb,r1,r2,r3,rfl⟩,hfl⟩,⟨g1,g2,g3⟩,h1,h2⟩:=hl;have hkF:∀ j∈bZ i s m o lv,j≠k:=fun j hj hh=>by
  subst hh;rcases g3 j hj with h|h
  ·have:=hF j h;omega
  ·simp at h;omega
 have hlt:=rT hb;simp only[lZ]at g1;have hmx:∀ j∈bZ i s m o lv,j<max h.length fl' :=by
  intro j hj;rcases h2 with⟨e,_,h3⟩|e
  ·have:=hF j (h3 j hj);omega
  ·have:=hlt j hj;omega
 have hget:∀ j,j<max h.length fl'→j≠k→(cut h.length fl' (h'.set k y))[j]? =h'[j]? :=fun j hj hn=>by
  unfold cut;rw[jN,if_pos hj,List.getElem?_set_ne (Ne.symm hn)]
 refine⟨⟨⟨lv,rc,dn,ks,hb.same (fun j hj=>hget j (hmx j hj) (hkF j hj)),r1,r2,r3,rfl⟩,?_⟩,⟨?_,fun j hj hn=> ?_,fun j hj=> ?_⟩,h1,?_⟩
 ·unfold cut;rw[List.length_take,List.length_set];omega
 ·unfold cut;rw[List.length_take,List.length_set];omega
 ·rw[hget j (by omega) (by omega),g2 j (by simp;omega) hn,cz hj]
 ·rcases g3 j hj with h|h
  ·exact .inl h
  ·right;simp at h;omega
 ·rcases h2 with⟨e,h3,h4⟩|e
  ·left;refine⟨e,?_,h4⟩;unfold cut;rw[List.length_take,List.length_set];simp at h3;omega
  ·right;unfold cut;rw[List.length_take,List.length_set,Nat.max_eq_right (by omega)];omega
structure Pre(b:Bs)(k:Nat):Prop where
 cm:qab b k
 ids:∀ t∈b.live,t.id≤b.last
 last:b.last<small
 li:b.db.lim.live<small
theorem Cy.app{h x:List Uo}{fl:Nat}{i s m o:Nat}{F:List Nat}{b:Bs}(hb:Cy h fl i s m o F b):Cy (h++x) fl i s m o F b:=by
 obtain⟨⟨lv,rc,dn,ks,hb,r1,r2,r3,r4⟩,h2⟩:=hb;exact⟨⟨lv,rc,dn,ks,hb.app,r1,r2,r3,r4⟩,by simp;omega⟩
theorem Cy.lt{h:List Uo}{fl:Nat}{i s m o:Nat}{F:List Nat}{b:Bs}(hb:Cy h fl i s m o F b):∀ j∈F,j<h.length:=by
 obtain⟨⟨lv,rc,dn,ks,hb,r1,r2,r3,rfl⟩,h2⟩:=hb;exact rT hb
theorem Left.WZ{h h' :List Uo}{fl:Nat}{i s m o:Nat}{lv lv' :List Lv}{b' :Bs}{rc dn ks:U}(hf:fl≤h.length)(hb:dy h' i s m o lv' b' rc dn ks)(r1:nY ks b'.db.keys)(r2:nD 6 rc (b'.ah.map recC))(r3:nD 7 dn (b'.done.map wq))(hfr:Fr h h' (bZ i s m o lv))(hft:bZ i s m o lv' =bZ i s m o lv):
  Left h h' fl fl i s m o (bZ i s m o lv) (bZ i s m o lv') b' :=
 ⟨⟨⟨lv',rc,dn,ks,hb,r1,r2,r3,rfl⟩,by rw[hfr.1];exact hf⟩,by rw[hft];exact hfr.gr,aq _,.inl ⟨rfl,hfr.1,fun j hj=>by rw[←hft];exact hj⟩⟩
theorem w17{h:List Uo}{fl:Nat}{i s m o:Nat}{F:List Nat}{b:Bs}{k:Nat}(hb:Cy h fl i s m o F b)(hp:Pre b k):
  ∃ h' fl' F',G 17 [.ptr i 0] h fl=some (.aV [.int .i64 ((aF b).1:Nat),.int .i64 ((aF b).2.1:Nat)],h',fl')∧Left h h' fl fl' i s m o F F' (aF b).2.2:=by
 obtain⟨⟨lv,rc,dn,ks,hb,r1,r2,r3,rfl⟩,h2⟩:=hb;obtain⟨h',lv',fl',c,hb',g,f1,f2,f3⟩:=t17 fl h2 hb hp.ids hp.last (by have:=hp.cm.ev;omega) hp.li;have hk:(aF b).2.2.db=b.db∧(aF b).2.2.ah=b.ah∧(aF b).2.2.done=b.done:=by
  unfold aF;cases decide (b.db.lim.live≤b.live.length)<;>exact⟨rfl,rfl,rfl⟩
 refine⟨h',fl',_,c,⟨⟨lv',rc,dn,ks,hb',by rw[hk.1];exact r1,by rw[hk.2.1];exact r2,by rw[hk.2.2];exact r3,rfl⟩,f2⟩,g,f1,?_⟩;rcases f3 with⟨e1,e2,e3⟩|e
 ·exact .inl ⟨e1,e3,fun j hj=>by rw[←e2];exact hj⟩
 ·exact .inr e
theorem w36{h:List Uo}{fl:Nat}{i s m o:Nat}{F:List Nat}{b:Bs}{k:Nat}(hb:Cy h fl i s m o F b)(hp:Pre b k)(id:Int)(key:By)(hkl:key.length<small):
  ∃ h' F',G 36 [.ptr i 0,.int .i64 id,.str key] h fl=some ((iF b id key).1,h',fl)∧Left h h' fl fl i s m o F F' (iF b id key).2:=by
 obtain⟨⟨lv,rc,dn,ks,hb,r1,r2,r3,rfl⟩,h2⟩:=hb;obtain⟨h',lv',c,hb',g,ft⟩:=t36 fl h2 hb hp.cm.ok id key hkl;have hk:(iF b id key).2.db=b.db∧(iF b id key).2.ah=b.ah∧(iF b id key).2.done=b.done:=by
  unfold iF;cases eR b id with
  |none=>exact⟨rfl,rfl,rfl⟩
  |some t=>dsimp only;cases fK nA key t.bT<;>exact⟨rfl,rfl,rfl⟩
 exact⟨h',_,c,Left.WZ h2 hb' (by rw[hk.1];exact r1) (by rw[hk.2.1];exact r2) (by rw[hk.2.2];exact r3) g ft⟩
theorem w37{h:List Uo}{fl:Nat}{i s m o:Nat}{F:List Nat}{b:Bs}{k:Nat}(hb:Cy h fl i s m o F b)(hp:Pre b k)(id:Int)(lo hi:By):
  ∃ h' F',G 37 [.ptr i 0,.int .i64 id,.str lo,.str hi] h fl=some ((jW b id (lo,hi)).1,h',fl)∧Left h h' fl fl i s m o F F' (jW b id (lo,hi)).2:=by
 obtain⟨⟨lv,rc,dn,ks,hb,r1,r2,r3,rfl⟩,h2⟩:=hb;obtain⟨h',lv',c,hb',g,ft⟩:=t37 fl h2 hb r1 hp.cm.ok id lo hi;have hk:(jW b id (lo,hi)).2.db=b.db∧(jW b id (lo,hi)).2.ah=b.ah∧(jW b id (lo,hi)).2.done=b.done:=by
  unfold jW;cases eR b id with
  |none=>exact⟨rfl,rfl,rfl⟩
  |some t=>dsimp only;cases dP (lo,hi)<;>exact⟨rfl,rfl,rfl⟩
 exact⟨h',_,c,Left.WZ h2 hb' (by rw[hk.1];exact r1) (by rw[hk.2.1];exact r2) (by rw[hk.2.2];exact r3) g ft⟩
theorem w18{h:List Uo}{fl:Nat}{i s m o:Nat}{F:List Nat}{b:Bs}(hb:Cy h fl i s m o F b)(id:Int)(w:Wt)(hw:lS w):
  ∃ h' F',G 18 [.ptr i 0,.int .i64 id,.agg (dI w)] h fl=some (.int .i64 ((bI b id w).1:Nat),h',fl)∧Left h h' fl fl i s m o F F' (bI b id w).2:=by
 obtain⟨⟨lv,rc,dn,ks,hb,r1,r2,r3,rfl⟩,h2⟩:=hb;obtain⟨h',lv',c,hb',g,ft⟩:=t18 fl h2 hb id w hw;have hk:(bI b id w).2.db=b.db∧(bI b id w).2.ah=b.ah∧(bI b id w).2.done=b.done:=by
  unfold bI;cases eR b id with
  |none=>exact⟨rfl,rfl,rfl⟩
  |some t=>dsimp only;cases fV none w==0<;>exact⟨rfl,rfl,rfl⟩
 exact⟨h',_,c,Left.WZ h2 hb' (by rw[hk.1];exact r1) (by rw[hk.2.1];exact r2) (by rw[hk.2.2];exact r3) g ft⟩
theorem Gr.sub{h h' :List Uo}{l l' :List Nat}(hg:Gr h h' l l')(hlen:h'.length=h.length)(hl:∀ j∈l',j<h'.length):∀ j∈l',j∈l:=fun j hj=>by
 rcases hg.2.2 j hj with h1|h1
 ·exact h1
 ·have:=hl j hj;omega
theorem w53{h:List Uo}{fl:Nat}{i s m o:Nat}{F:List Nat}{b:Bs}{k:Nat}(hb:Cy h fl i s m o F b)(hp:Pre b k)(id:Int):
  ∃ h' F',G 53 [.ptr i 0,.int .i64 id] h fl=some (.int .i64 ((iH b id).1:Nat),h',fl)∧Left h h' fl fl i s m o F F' (iH b id).2:=by
 obtain⟨⟨lv,rc,dn,ks,hb,r1,r2,r3,rfl⟩,h2⟩:=hb;obtain⟨h',lv',rc',c,hb',r4,g,gl⟩:=t53 fl h2 hb r2 hp.cm.rc id;have hk:(iH b id).2.db=b.db∧(iH b id).2.done=b.done:=by
  unfold iH;cases eR b id<;>exact⟨rfl,rfl⟩
 exact⟨h',_,c,⟨⟨⟨lv',rc',dn,ks,hb',by rw[hk.1];exact r1,r4,by rw[hk.2];exact r3,rfl⟩,by omega⟩,g,aq _,.inl ⟨rfl,gl,g.sub gl (rT hb')⟩⟩⟩
theorem w19{h:List Uo}{fl:Nat}{i s m o:Nat}{F:List Nat}{b:Bs}{k:Nat}(hb:Cy h fl i s m o F b)(hp:Pre b k)(id:Int):
  ∃ h' F',G 19 [.ptr i 0,.int .i64 id] h fl=some (.aV [.int .u64 ((aU b id).1:Nat),.int .i64 ((aU b id).2.1:Nat)],h',fl)∧Left h h' fl fl i s m o F F' (aU b id).2.2:=by
 obtain⟨⟨lv,rc,dn,ks,hb,r1,r2,r3,rfl⟩,h2⟩:=hb;obtain⟨h',lv',rc',dn',ks',c,hb',r4,r5,r6,g,gl⟩:=t19 fl h2 hb r1 r2 r3 hp.cm id;exact⟨h',_,c,⟨⟨⟨lv',rc',dn',ks',hb',r4,r5,r6,rfl⟩,by omega⟩,g,aq _,.inl ⟨rfl,gl,g.sub gl (rT hb')⟩⟩⟩
theorem w50{h:List Uo}{fl:Nat}{i s m o:Nat}{F:List Nat}{b:Bs}{k:Nat}(hb:Cy h fl i s m o F b)(hp:Pre b k):
  ∃ h' F',G 50 [.ptr i 0] h fl=some (.int .i64 (Af b).1,h',fl)∧Left h h' fl fl i s m o F F' (Af b).2:=by
 obtain⟨⟨lv,rc,dn,ks,hb,r1,r2,r3,rfl⟩,h2⟩:=hb;obtain⟨h',ks',c,hb',r4,g⟩:=t50 fl h2 hb r1 hp.cm.r hp.cm.w hp.cm.m5 hp.cm.z;exact⟨h',_,c,Left.WZ h2 hb' r4 r2 r3 g rfl⟩
end Go.RE
namespace Go.RE
open Go.Proofs
theorem Wl{H:Type}:GF (Go.Proofs.YtmpopachilfinaaGreat.Rows.uptoBulk (H:=H)):=by
 have part:∀ (l:List (DataW H)) d,d∈l→Go.Proofs.YtmpopachilfinaaGreat.Rows.uptoBulk d≤Go.Proofs.YtmpopachilfinaaGreat.Rows.uptoBulkAll l:=by
  intro l
  induction l with
  |nil=>intro d h;cases h
  |cons x r ih=>
   intro d h;simp only[Go.Proofs.YtmpopachilfinaaGreat.Rows.uptoBulkAll];rcases dS.1 h with rfl|h
   ·omega
   ·have:=ih d h;omega
 have one:∀ d:DataW H,1≤Go.Proofs.YtmpopachilfinaaGreat.Rows.uptoBulk d:=by
  intro d;cases d with
  |lit l=>cases l<;>simp[Go.Proofs.YtmpopachilfinaaGreat.Rows.uptoBulk]
  |_=>simp[Go.Proofs.YtmpopachilfinaaGreat.Rows.uptoBulk]
 have len:∀ l:List (DataW H),l.length≤Go.Proofs.YtmpopachilfinaaGreat.Rows.uptoBulkAll l:=by
  intro l
  induction l with
  |nil=>simp
  |cons x r ih=>have:=one x;simp only[Go.Proofs.YtmpopachilfinaaGreat.Rows.uptoBulkAll,List.length_cons];omega
 refine⟨fun b=>by simp[Go.Proofs.YtmpopachilfinaaGreat.Rows.uptoBulk],fun es sp=> ?_,fun es sp d hd=> ?_,fun ps d hd=> ?_⟩
 ·have:=len es;simp only[Go.Proofs.YtmpopachilfinaaGreat.Rows.uptoBulk];omega
 ·have:=part es d hd;simp only[Go.Proofs.YtmpopachilfinaaGreat.Rows.uptoBulk];omega
 ·have:=part ps d hd;simp only[Go.Proofs.YtmpopachilfinaaGreat.Rows.uptoBulk];omega
section
variable{H:Type}{enc:TypeId×Value→H}{w:World}{bk:DataW H→Nat}{B:Nat}
theorem LL.imp{P:Program}{t:TypeId}{S S' :List U→Prop}(h:LL enc P w bk B t S)(hs:∀ us,S us→S' us):LL enc P w bk B t S' :=fun fuel cs x hx hb=>by
 obtain⟨vs,us,h1,h2,h3⟩:=h fuel cs x hx hb;exact⟨vs,us,h1,hs us h2,h3⟩
theorem H8{α:Type}{f:α→List U}{S:List U→Prop}(h:∀ r,S r→∃ a,r=f a):∀ {rows:List (List U)},(∀ r∈rows,S r)→∃ l:List α,rows=l.map f:=by
 intro rows
 induction rows with
 |nil=>intro _;exact⟨[],rfl⟩
 |cons r rows ih=>
  intro hr;obtain⟨a,rfl⟩:=h r (hr r eU);obtain⟨l,rfl⟩:=ih fun x hx=>hr x (gB _ hx);exact⟨a::l,rfl⟩
theorem Mn(hk:GF bk):LL enc Tryz.prog w bk B 23 fun us=>∃ d:By,us=[.sl 1 (bE d)]∧d.length≤B:=by
 refine(Dx hk Tryz.underlying23 (c:=1) (by kernel_rfl) (by omega) (EA Tryz.underlying5)).imp fun us h=> ?_;obtain⟨rows,rfl,h1,h2,h3⟩:=h;obtain⟨d,rfl⟩:=H8 (f:=LM) (S:=fun r=>∃ n,r=[U.int .u8 n]∧(Lit.int IntKind.u8 n).wf=true) (fun r hr=>by
  obtain⟨n,rfl,hn⟩:=hr;have hb:0≤n∧n<256:=by
   simp[Lit.wf,IntKind.min,IntKind.max,IntKind.bits,IntKind.signed]at hn;omega
  refine⟨UInt8.ofNat n.toNat,?_⟩;have:((UInt8.ofNat n.toNat).toNat:Int)=n:=by
   have e1:(UInt8.ofNat n.toNat).toNat=n.toNat % 256:=UInt8.toNat_ofNat';rw[e1];omega
  simp only[LM,this]) fun r hr=>(h1 r hr).1
 exact⟨d,rfl,by simpa[bE]using h2⟩
theorem Mo(hk:GF bk):LL enc Tryz.prog w bk B 25 fun us=>∃ p:Wt,us=dI p:=by
 refine(A2 hk Tryz.underlying25 (Ss:=[_,_,_]) (by kernel_rfl) ⟨A1 hk Tryz.underlying9,Qw Tryz.underlying4,Mn hk,trivial⟩).imp fun us h=> ?_;obtain⟨a,b,rfl,⟨k,rfl,hk'⟩,a2,b2,rfl,⟨g,rfl⟩,a3,b3,rfl,⟨d,rfl,hd⟩,rfl⟩:=h;exact⟨⟨k,g,d⟩,rfl⟩
theorem qht(hk:GF bk):LL enc Tryz.prog w bk B 35 fun us=>∃ o:ta,us=dF o:=by
 refine(A2 hk Tryz.underlying35 (Ss:=[_,_,_,_]) (by kernel_rfl) ⟨EA Tryz.underlying3,EA Tryz.underlying3,Mo hk,A1 hk Tryz.underlying9,trivial⟩).imp fun us h=> ?_;obtain⟨_,_,rfl,⟨d,rfl,_⟩,_,_,rfl,⟨i,rfl,_⟩,_,_,rfl,⟨p,rfl⟩,_,_,rfl,⟨s,rfl,_⟩,rfl⟩:=h;exact⟨⟨d,i,p,s⟩,rfl⟩
theorem X4(hk:GF bk):LL enc Tryz.prog w bk B 22 fun us=>∃ l:List ta,us=[.sl 6 (l.map dF)]∧l.length≤B:=by
 refine(Dx hk Tryz.underlying22 (c:=6) (by kernel_rfl) (by omega) (qht hk)).imp fun us h=> ?_;obtain⟨rows,rfl,h1,h2,h3⟩:=h;obtain⟨l,rfl⟩:=H8 (f:=dF) (S:=fun us=>∃ o:ta,us=dF o) (fun r hr=>hr) fun r hr=>(h1 r hr).1;exact⟨l,rfl,by simpa using h2⟩
end
end Go.RE
