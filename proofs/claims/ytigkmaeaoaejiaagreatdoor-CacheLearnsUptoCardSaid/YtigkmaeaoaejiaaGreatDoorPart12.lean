/- Contracts: pairs, in the reference. -/
import Derived.Test.YtigkmaeaoaejiaaGreatDoorPart11
import Derived.Test.YtigkmaeaoaejiaaGreatDoorPart10
set_option linter.unusedVariables false
set_option linter.unusedSimpArgs false
namespace Go.RE
variable{M:eA}{Q:fq}{Pm:gU}
abbrev Pr:=By×By
abbrev aG(Pm:gU):Prop:=∀ f,f≠49→f≠97→Pm f=none
theorem bq{M:eA}{Q:fq}{Pm:gU}{fn:aA}{f:Nat}{us:List U}{h:List Uo}{fl:Nat}{R:U×List Uo×Nat}(hp:aG Pm)(hf:ah f=some fn)(ha:(Nat.beq f 49||Nat.beq f 97|| !Nat.ble us.length fn.ntmps)=false)(hR:gC ah M Q Pm fn fn.body ⟨su us 0,h,fl⟩ (kE h.length fn R)):gF ah M Q Pm f us h fl=some R:=by
 simp only[Bool.or_eq_false_iff,Bool.not_eq_false']at ha;exact Du (hp f (fun e=>by subst e;simp at ha) (fun e=>by subst e;simp at ha)) hf ha.2 hR
abbrev cI(Q:fq):Prop:=∀ f,f≠90→Q f=none
def fL(p:Pr):List U:=[.str p.1,.sl 1 (az p.2)]
theorem l5(b:By):eH (az b)=some b:=by
 induction b with
 |nil=>rfl
 |cons x b ih=>
  have h2:eH (az (x::b))=match qt (nZ x)with|some b' =>(match eH (az b)with|some bs=>some (b' ::bs)|none=>none)|none=>none:=rfl
  have h3:qt (nZ x)=some x:=by simp[nZ,qt]
  rw[h2,h3,ih]
@[simp] theorem qcO(s:Vs)(b:By):A7 s (.sl 1 (az b))=some (.str b,s):=by simp[A7,rowsOf,l5]
@[simp] theorem qe1(s:Vs)(g:Tg)(b:By):A7 s (.own g 1 (az b))=some (.str b,s):=by simp[A7,rowsOf,l5]
abbrev lt(a b:By):Bool:=Op.bytesLess a b
def right(lo hi:By):Bool:=hi==[]||lt lo hi
def has(lo hi k:By):Bool:= !lt k lo&&(hi==[]||lt k hi)
def small:Nat:=1000000000
theorem t57(h:Pm 57=none)(lo hi:By):gF ah M Q Pm 57 [.agg [.str lo,.str hi]] [] 0=some (.bool (right lo hi),[],0):=by
 refine Du (fn:=v57) h rfl rfl ?_;cases hh:hi==[]<;>simp[qn0,qp2,qp3,hh,right]
theorem t40(h:Pm 40=none)(k:By)(hk:k.length<small):gF ah M Q Pm 40 [.str k] [] 0=some (.agg [.str k,.str (k++[0])],[],0):=by
 refine Du (fn:=v40) h rfl rfl ?_;have hb:k.length+1≤aW:=by unfold small at hk;unfold aW;omega
 simp[qnY,qpY,qpZ,hb]
theorem t56(h:Pm 56=none)(k:By)(hk:k.length<small):gF ah M Q Pm 56 [.str k] [] 0=some (.agg [.str k,.str (k++[0])],[],0):=by
 refine Du (fn:=v56) h rfl rfl ?_;have hb:k.length+1≤aW:=by unfold small at hk;unfold aW;omega
 simp[qnZ,qp0,qp1,hb]
theorem t58(h:Pm 58=none)(lo hi k:By):gF ah M Q Pm 58 [.agg [.str lo,.str hi],.str k] [] 0=some (.bool (has lo hi k),[],0):=by
 refine Du (fn:=v58) h rfl rfl ?_;cases h1:lt k lo<;>cases h2:hi==[]<;>simp[zK,qa5,qaz,h1,h2,has]
theorem t23(h:Pm 23=none)(a b:By):gF ah M Q Pm 23 [.sl 1 (az a),.sl 1 (az b)] [] 0=some (.bool (a==b),[],0):=by
 refine Du (fn:=v23) h rfl rfl ?_;simp[Bb,qcs,qcd]
def rq(l:List Pr)(p:Pr):List Pr:=l.filter (fun x=>lt x.1 p.1)++[p]++l.filter (fun x=>lt p.1 x.1)
theorem GM(l:List Pr)(p:Pr):(rq l p).length≤l.length+1:=by
 have:∀ l:List Pr,(l.filter (fun x=>lt x.1 p.1)).length+(l.filter (fun x=>lt p.1 x.1)).length≤l.length:=by
  intro l
  induction l with
  |nil=>simp
  |cons x l ih=>
   rw[List.filter_cons,List.filter_cons];cases h1:lt x.1 p.1 with
   |true=>
    have h2:lt p.1 x.1=false:=BN h1;simp only[h2,if_true,mF,if_false,List.length_cons];omega
   |false=>
    cases h2:lt p.1 x.1 with
    |true=>simp only[if_true,mF,if_false,List.length_cons];omega
    |false=>simp only[mF,if_false,List.length_cons];omega
 have h:=this l;simp only[rq,oC,List.length_singleton];omega
def Bw(l:List Pr):List Pr:=l.foldl rq []
abbrev Wr:=By×Bool×By
def Qt(w:Wr):List U:=[.str w.1,.bool w.2.1,.sl 1 (az w.2.2)]
def Br(l:List Pr)(k:By):List Pr:=l.filter fun x=> !has k (k++[0]) x.1
def oa(l:List Pr)(w:Wr):List Pr:=if w.2.1=true then Br l w.1 else rq (Br l w.1) (w.1,w.2.2)
def xq(l:List Pr)(w:List Wr):List Pr:=w.foldl oa l
theorem VO(l:List Pr)(k:By):(Br l k).length≤l.length:=List.length_filter_le _ _
theorem J3(l:List Pr)(w:Wr):(oa l w).length≤l.length+1:=by
 unfold oa;have h1:=VO l w.1;have h2:=GM (Br l w.1) (w.1,w.2.2);split<;>omega
theorem bl{h l:List Uo}{i:Nat}{o:Uo}(hi:h[i]? =some o):(h++l)[i]? =some o:=by
 rw[gD (cz.1 hi).1];exact hi
@[simp] theorem Wp(h l:List Uo)(a:Uo):(h++a::l)[h.length]? =some a:=by simp
@[simp] theorem qf7(h l:List Uo)(a x:Uo):(h++a::l).set h.length x=h++x::l:=by simp
theorem ez{fl:Nat}{h:List Uo}(hf:fl≤h.length)(l:List Uo):cut h.length fl (h++l)=h:=N2 hf
theorem qB{fl:Nat}{h:List Uo}(hf:fl≤h.length)(a:Uo)(l:List Uo):cut (h.length+1) fl (h++a::l)=h++[a]:=by
 unfold cut;rw[Nat.max_eq_left (by omega),List.take_append,pI (by omega),show h.length+1 - h.length=1 by omega];rfl
@[simp] theorem qjD(h l:List Uo):EP h.length (h++l)=h++((l.dropLast.map fun _=>Uo.gone)++l.getLast?.toList):=by simp[EP]
@[simp] theorem qi2(h:List Uo):EP 0 h=(h.dropLast.map fun _=>Uo.gone)++h.getLast?.toList:=by simp[EP]
@[simp] theorem qdx(d:Nat)(r:U)(a:Uo)(as:List Uo)(fc:Nat)(e:Env)(h:List Uo)(fl:Nat):rF d r (a::as) fc ⟨e,h,fl⟩=dV d (r.shift h.length) ⟨e,h++(a::as).map (fW h.length),bif Nat.beq fc 0 then fl else h.length+fc⟩:=rfl
section
variable(k:Nat)
@[simp] theorem qfy(i o:Nat):U.shift k (.ptr i o)=.ptr (i+k) o:=by simp only[U.shift]
@[simp] theorem qf4(i:Nat):U.shift k (.map i)=.map (i+k):=by simp only[U.shift]
@[simp] theorem qdJ(b:Bool):U.shift k (.bool b)=.bool b:=by simp only[U.shift]
@[simp] theorem qe0(j:IntKind)(n:Int):U.shift k (.int j n)=.int j n:=by simp only[U.shift]
@[simp] theorem qf2(b:List UInt8):U.shift k (.str b)=.str b:=by simp only[U.shift]
@[simp] theorem qje(w:Nat)(xs:List (List U)):U.shift k (.sl w xs)=.sl w xs:=by simp only[U.shift]
@[simp] theorem qi9(w:Nat):U.shift k (.nl w)=.nl w:=by simp only[U.shift]
@[simp] theorem qb0(t:Nat)(v:U):U.shift k (.iface t v)=.iface t (v.shift k):=by simp only[U.shift]
@[simp] theorem qfZ(a:List U):U.shift k (.agg a)=.agg (U.fK k a):=by simp only[U.shift]
@[simp] theorem qem:U.fK k []=[]:=by simp only[U.fK]
@[simp] theorem qa2(a:U)(r:List U):U.fK k (a::r)=a.shift k::U.fK k r:=by simp only[U.fK]
@[simp] theorem qd6(cs:List U):fW k (.row cs)=.row (U.fK k cs):=rfl
theorem tX(es:List (U×U×Nat))(c:Nat):fW k (.map es c)=.map (es.map fun e=>(e.1.shift k,e.2.1.shift k,e.2.2)) c:=rfl
end
abbrev ZG:=By×By
def Qo(s:ZG):List U:=[.str s.1,.str s.2]
def qnR(a b:ZG):Bool:= !lt b.1 a.1&&(a.2==[]||(b.2 !=[]&& !lt a.2 b.2))
def inB(l:List ZG)(k:By):Bool:=l.any fun s=>has s.1 s.2 k
def E3(l:List Pr):Bool:=l.all (fun p=>decide (p.1.length≤300)&&decide (p.2.length≤300))&&decide (l.length≤100)
theorem qb(b:By):(az b).length=b.length:=by simp[az]
theorem qhO(l:List Pr)(hl:l.length≤9223372036854775807):∀ (j i:Nat),i+j=l.length→
  gL ah M Q Pm v12 0 DH 0 ⟨[(7,.int .i64 (i:Int)),(5,.sl 2 (l.map fL)),(0,.sl 2 (l.map fL)),(6,.int .i64 (l.length:Int))],[],0⟩ (l9 ah M Q Pm v12 (.seq (.region SJ) .ret) (kE 0 v12 (.bool ((l.drop i).all (fun p=>decide (p.1.length≤300)&&decide (p.2.length≤300))&&decide (l.length≤100)),[],0))):=by
 intro j
 induction j with
 |zero=>
  intro i hij;have h1:¬((i:Int)<(l.length:Int)):=by omega
  have h2:l.drop i=[]:=tN (by omega);rw[aq DH.eq_1,h2];simp[Gp,h1,SJ];omega
 |succ j ih=>
  intro i hij;have h1:((i:Int)<(l.length:Int)):=by omega
  have hi1:i<l.length:=by omega
  have e1:(l.map fL)[i]? =some (fL l[i]):=by simp[hi1]
  have e3:aD .i64 ((i:Int)+1)=((i+1:Nat):Int):=cj (by omega);have d1:l.drop i=l[i]::l.drop (i+1):=vT hi1;have ih' :=ih (i+1) (by omega);rw[aq DH.eq_1,d1,List.all_cons];by_cases hk:l[i].1.length≤300
  ·have hk' :¬(300:Int)<(l[i].1.length:Int):=by omega
   by_cases hk2:l[i].2.length≤300
   ·have hk2' :¬(300:Int)<(l[i].2.length:Int):=by omega
    simp at ih';simp[Gp,OL,OS,M8,qbR,h1,eC e1,fL,hk,hk',hk2,hk2',e3,qb];exact ih'
   ·have hk2' :(300:Int)<(l[i].2.length:Int):=by omega
    simp[Gp,OL,OS,M8,h1,eC e1,fL,hk,hk',hk2,hk2',qb]
  ·have hk' :(300:Int)<(l[i].1.length:Int):=by omega
   simp[Gp,OL,OS,M8,h1,eC e1,fL,hk,hk']
theorem t12(h:Pm 12=none)(l:List Pr)(hl:l.length≤9223372036854775807):gF ah M Q Pm 12 [.sl 2 (l.map fL)] [] 0=some (.bool (E3 l),[],0):=by
 refine Du (fn:=v12) h rfl rfl ?_;simp[AB,qbH,qaA];have:=qhO (M:=M) (Q:=Q) (Pm:=Pm) l hl l.length 0 (by omega);simpa[E3]using this
def Qc:List U:=[.bool false,.sl 1 [],.int .i64 0,.bool false,.str [],.str []]
def qnB(l:List ZG):U:=match l with
 |[]=> .nl 2
 |a::r=> .dD 2 ((a::r).map Qo)
structure dK where
 k:By
 d:By
 b:Nat
deriving DecidableEq,Inhabited
def fe(e:dK):U×U×Nat:=(.str e.k,.sl 1 (az e.d),e.b)
structure ju(es:List dK)(c:Nat):Prop where
 nodup:(es.map (·.b)).Nodup
 lt:∀ e∈es,e.b<c
 dat:∀ e∈es,e.d.length<small
theorem U1{es:List dK}(hn:(es.map (·.b)).Nodup){e:dK}(he:e∈es):(es.map fe).find? (fun x=>Nat.beq x.2.2 e.b)=some (fe e):=by
 induction es with
 |nil=>cases he
 |cons a r ih=>
  rw[List.map_cons,List.find?_cons];simp only[List.map_cons,List.nodup_cons]at hn;rcases eB.1 he with rfl|he
  ·simp[fe]
  ·have hne:a.b≠e.b:=fun hh=>hn.1 (by rw[hh];exact fh.2 ⟨e,he,rfl⟩);have:Nat.beq (fe a).2.2 e.b=false:=by simp[fe,hne]
   rw[this];exact ih hn.2 he
theorem Dn{es:List dK}{c:Nat}(h:ju es c){seen:List Nat}{x:Option (U×U×Nat)}(hx:x∈qk (es.map fe) c seen):
  (x=none∧∀ e∈es,e.b∈seen)∨∃ e∈es,e.b ∉ seen∧x=some (fe e):=by
 unfold qk at hx;simp only[ic]at hx;rcases hx with hx|hx
 ·left;cases hq:(List.filter (fun e=>Nat.blt e.2.2 c) (List.filter (fun e:U×U×Nat=> !seen.contains e.2.2) (es.map fe))).isEmpty with
  |false=>rw[hq]at hx;simp at hx
  |true=>
   rw[hq]at hx;simp at hx;refine⟨hx,fun e he=> ?_⟩;rw[List.isEmpty_iff]at hq;apply Classical.byContradiction;intro hne;have:fe e∈List.filter (fun e=>Nat.blt e.2.2 c) (List.filter (fun e:U×U×Nat=> !seen.contains e.2.2) (es.map fe)):=by
    rw[List.mem_filter,List.mem_filter];exact⟨⟨fh.2 ⟨e,he,rfl⟩,by simp[fe,hne]⟩,by simp[fe,h.lt e he]⟩
   rw[hq]at this;cases this
 ·right;rw[fh]at hx;obtain⟨y,hy,rfl⟩:=hx;rw[ic,List.mem_filter,List.mem_filter]at hy;have hm:y∈List.filter (fun e:U×U×Nat=> !seen.contains e.2.2) (es.map fe):=by
   rcases hy with hy|hy
   ·exact List.mem_filter.2 hy.1
   ·exact(List.mem_filter.1 hy).1
  rw[List.mem_filter,fh]at hm;obtain⟨⟨e,he,rfl⟩,hs⟩:=hm;exact⟨e,he,by simpa[fe]using hs,rfl⟩
def bA(k:By):List U:=[.str k]
theorem qdd(es:List dK)(c m:Nat)(hT:ju es c)(hl:es.length<small)(h:List Uo)(fl:Nat)(hf:fl≤h.length)(hm:h[m]? =some (.map (es.map fe) c))(K:Ex→Vs→Prop)(n:Nat)(hn:n=h.length+1)
  (hK:∀ vis:List dK,vis.Perm es→K .normal ⟨[(3,.own (.t 3) 1 (vis.map fun e=>bA e.k))],h++[.iter (some m) c (vis.map (·.b)) c],fl⟩):
  ∀ (j:Nat) (vis left:List dK),left.length≤j→(vis++left).Perm es→
  gL ah M Q Pm B2 0 yp n ⟨[(3,.own (.t 3) 1 (vis.map fun e=>bA e.k)),(11,.ptr h.length 0)],h++[.iter (some m) c (vis.map (·.b)) c],fl⟩ K:=by
 subst hn;intro j
 induction j with
 |zero=>
  intro vis left hj hp;obtain rfl:left=[]:=pQ (by omega);rw[List.append_nil]at hp;rw[aq yp.eq_1];simp[JE,gz,bl hm];refine⟨fun _ hne=> ?_,fun x hx=> ?_⟩
  ·obtain⟨e,he⟩:=List.exists_mem_of_ne_nil _ hne;exact⟨e,he,hT.lt e he⟩
  ·rcases Dn hT hx with⟨rfl,_⟩|⟨e,he,hb,rfl⟩
   ·have:=hK vis hp;simp[Bp,qB hf];simpa using this
   ·exact absurd (fh.2 ⟨e,hp.symm.subset he,rfl⟩) hb
 |succ j ih=>
  intro vis left hj hp;rw[aq yp.eq_1];simp[JE,gz,bl hm];have hnd:((vis++left).map (·.b)).Nodup:=(hp.map (·.b)).nodup_iff.2 hT.nodup;refine⟨fun _ hne=> ?_,fun x hx=> ?_⟩
  ·obtain⟨e,he⟩:=List.exists_mem_of_ne_nil _ hne;exact⟨e,he,hT.lt e he⟩
  ·rcases Dn hT hx with⟨rfl,hall⟩|⟨e,he,hb,rfl⟩
   ·have hl0:left=[]:=by
     cases left with
     |nil=>rfl
     |cons a r=>
      exfalso;have ha:a∈es:=hp.subset (by simp);have:=hall a ha;rw[List.map_append,List.nodup_append]at hnd;exact hnd.2.2 a.b this a.b (by simp) rfl
    subst hl0;rw[List.append_nil]at hp;have:=hK vis hp;simp[Bp,qB hf];simpa using this
   ·have hel:e∈left:=by
     have:=hp.symm.subset he;rcases ic.1 this with hv|hv
     ·exact absurd (fh.2 ⟨e,hv,rfl⟩) hb
     ·exact hv
    have hper:((vis++[e])++left.erase e).Perm es:=by
     refine List.Perm.trans ?_ hp;rw[ow];exact(List.perm_cons_erase hel).symm.append_left vis
    have hlen:(left.erase e).length≤j:=by
     have:=List.length_erase_of_mem hel;omega
    have ih' :=ih (vis++[e]) (left.erase e) hlen hper;have hvl:vis.length<small:=by
     have:=hp.length_eq;simp at this;omega
    obtain⟨f1,f2⟩:(vis.length+1)*16≤aW∧vis.length+1≤aW:=by unfold small at hvl;unfold aW;omega
    have hfe:=U1 hT.nodup he;simp[bA]at ih';have hent:∀ ev:Env,mH ⟨ev,h++[.iter (some m) c (vis.map (·.b)++[e.b]) c],fl⟩ h.length=some (.aP [.str e.k,.sl 1 (az e.d)]):=fun ev=>by
     simp only[mH,Wp,bl hm,List.getLast?_concat,nX,cond_true,hfe,fe]
    simp[Bp,fe,U0,WC,hent,bA,qB hf,f1,f2];exact ih'
def k8(a:By):List By→List By
 |[]=>[a]
 |x::l=>if lt x a=true then x::k8 a l else a::x::l
def dy(l:List By):List By:=l.foldr k8 []
theorem qhY{a b:By}(h1:lt a b=false)(h2:lt b a=false):a=b:=by
 rcases DJ a b with h|h|h
 ·rw[show lt a b=true from h]at h1;cases h1
 ·exact h
 ·rw[show lt b a=true from h]at h2;cases h2
theorem qaF{x a b:By}(h1:lt x b=false)(h2:lt x a=true):lt b a=true:=by
 rcases DJ b x with h|h|h
 ·exact NJ h h2
 ·subst h;exact h2
 ·rw[show lt x b=true from h]at h1;cases h1
theorem Xj(a b:By):∀ l,k8 a (k8 b l)=k8 b (k8 a l):=by
 have two:∀ l,(if lt b a=true then b::a::l else a::b::l)=(if lt a b=true then a::b::l else b::a::l):=by
  intro l;cases h1:lt b a with
  |true=>have h2:lt a b=false:=BN h1;simp[h2]
  |false=>
   cases h2:lt a b with
   |true=>simp
   |false=>have:=qhY h1 h2;subst this;simp
 intro l
 induction l with
 |nil=>simpa[k8]using two []
 |cons x l ih=>
  simp only[k8];cases hb:lt x b with
  |true=>
   cases ha:lt x a with
   |true=>simp[k8,ha,hb,ih]
   |false=>
    have h1:lt a b=true:=qaF ha hb;simp[k8,ha,hb,h1]
  |false=>
   cases ha:lt x a with
   |true=>
    have h1:lt b a=true:=qaF hb ha;simp[k8,ha,hb,h1]
   |false=>
    have:=two (x::l);simpa[k8,ha,hb]using this
theorem tC{l l' :List By}(h:l.Perm l'):dy l=dy l' :=by
 unfold dy
 induction h with
 |nil=>rfl
 |cons x _ ih=>simp only[List.foldr_cons,ih]
 |swap x y l=>simp only[List.foldr_cons];exact Xj y x _
 |trans _ _ ih1 ih2=>exact ih1.trans ih2
def A8:List (List U)→Option (List By)
 |[]=>some []
 |[.str k]::r=>match A8 r with
  |some l=>some (k::l)
  |none=>none
 |_=>none
theorem PS:∀ l:List By,A8 (l.map bA)=some l:=by
 intro l
 induction l with
 |nil=>rfl
 |cons k l ih=>simp only[List.map_cons,bA,A8]at ih⊢;rw[ih]
def nT:List (List U)→List U→Option (List (List U)):=fun xs rest=>match rest with
 |[]=>bif Nat.blt xs.length 4611686018427387904 then(match A8 xs with|some l=>some ((dy l).map bA)|none=>none)else none
 |_=>none
theorem Dh(l:List By)(hl:l.length<small):nT (l.map bA) []=some ((dy l).map bA):=by
 have:Nat.blt (l.map bA).length 4611686018427387904=true:=by
  simp only[Nat.blt,List.length_map];exact tD (by unfold small at hl;omega)
 simp only[nT,this,cond_true,PS]
theorem Aw{F:FU}(s:Vs)(d f:Nat)(g:Tg)(w:Nat)(xs ys:List (List U))(rest:List U){q:List (List U)→List U→Option (List (List U))}(hy:q xs rest=some ys):
  Cw F s d f (.own g w xs::rest) (some q)=bif(s.gI g).isSome then some (.aP [],s.mz g w ys)else none:=by simp only[Cw,hy]
theorem t101(hp:aG Pm)(hs:Q 90=some nT)(es:List dK)(c m i:Nat)(hT:ju es c)(hl:es.length<small)(h:List Uo)(fl:Nat)(hf:fl≤h.length)(hi:h[i]? =some (.row [.map m]))(hm:h[m]? =some (.map (es.map fe) c)):
  gF ah M Q Pm 101 [.ptr i 0] h fl=some (.own .r 1 ((dy (es.map (·.k))).map bA),h,fl):=by
 refine bq hp rfl rfl ?_;simp[xz,S8,WE,TH,Vz,hi,hm,qB hf];have a:=qdd (M:=M) (Q:=Q) (Pm:=Pm) es c m hT hl h fl hf hm (l9 ah M Q Pm B2 (.seq (.region JZ) (.seq (.region Jy) .ret)) (kE h.length B2 (.own .r 1 ((dy (es.map (·.k))).map bA),h,fl))) (h.length+1) rfl (fun vis hv=> ?_) es.length [] es (aM _) (by simp)
 ·simpa using a
 ·have hq:=Aw (F:=gF ah M Q Pm) ⟨[(20,.own (.t 3) 1 ((vis.map (·.k)).map bA)),(3,.own (.t 3) 1 ((vis.map (·.k)).map bA))],h++[.iter (some m) c (vis.map (·.b)) c],fl⟩ 21 90 (.t 3) 1 ((vis.map (·.k)).map bA) _ [] (Dh (vis.map (·.k)) (by have:=hv.length_eq;simp;omega));rw[tC (hv.map (·.k))]at hq;simp[Function.comp_def]at hq;simp[JZ,Jy,hs,hq,Function.comp_def,ez hf]
def bU:List U→List Uo→Nat→Option (U×List Uo×Nat):=fun us h fl=>match us with
 |[.sl w xs]=>bif Nat.beq w 1&&Nat.ble xs.length aW&&xs.all (fun r=>r.all U.aL&&U.bX 0 r&&Nat.beq r.length 1)then some (.own .r w xs,h,fl)else none
 |_=>none
theorem GZ(d:By):(az d).all (fun r=>r.all U.aL&&U.bX 0 r&&Nat.beq r.length 1)=true:=by
 rw[qd];intro r hr;obtain⟨b,_,rfl⟩:=fh.1 hr;rfl
theorem t49(hc:Pm 49=some bU)(d:By)(hd:d.length<small):gF ah M Q Pm 49 [.sl 1 (az d)] [] 0=some (.own .r 1 (az d),[],0):=by
 rw[On hc];have h1:Nat.ble (az d).length aW=true:=tD (by simp only[az,List.length_map];unfold small at hd;unfold aW;omega);show(bif Nat.beq 1 1&&Nat.ble (az d).length aW&&(az d).all (fun r=>r.all U.aL&&U.bX 0 r&&Nat.beq r.length 1)then _ else _)=_;rw[GZ,h1];rfl
theorem bH(b:By):U.rE (az b)=true:=by
 induction b with
 |nil=>rfl
 |cons x b ih=>show(U.tq (nZ x)&&U.rE (az b))=true;rw[ih];rfl
def dZ(k:By)(es:List dK):Option dK:=es.find? (fun e=>e.k==k)
theorem w6(k:By):∀ (es:List dK) (j:Nat),∃ r,jt .str (.str k) (es.map fe) j=some r∧(r=none↔dZ k es=none)∧∀ i v,r=some (i,v)→∃ e,dZ k es=some e∧v=.sl 1 (az e.d)∧j≤i∧es[i - j]? =some e:=by
 intro es
 induction es with
 |nil=>intro j;exact⟨none,rfl,by simp[dZ],fun i v h=>by cases h⟩
 |cons e es ih=>
  intro j;have hf:jt .str (.str k) ((e::es).map fe) j=(match some (k==e.k)with
   |some true=>some (some (j,.sl 1 (az e.d)))
   |some false=>jt .str (.str k) (es.map fe) (j+1)
   |none=>none):=rfl
  rw[hf];have hbe:(k==e.k)=(e.k==k):=by
   cases h1:e.k==k with
   |true=>rw[eq_of_beq h1];exact beq_self_eq_true k
   |false=>
    cases h2:k==e.k with
    |false=>rfl
    |true=>rw[eq_of_beq h2,beq_self_eq_true]at h1;cases h1
  cases hk:e.k==k with
  |true=>
   rw[hbe,hk];refine⟨_,rfl,by simp[dZ,List.find?_cons,hk],fun i v h=> ?_⟩;simp only[ay,aO]at h;obtain⟨rfl,rfl⟩:=h;exact⟨e,by simp[dZ,List.find?_cons,hk],rfl,aM _,by simp⟩
  |false=>
   rw[hbe,hk];obtain⟨r,r1,r2,r3⟩:=ih (j+1);have hfe:dZ k (e::es)=dZ k es:=by simp[dZ,List.find?_cons,hk]
   refine⟨r,r1,by rw[hfe];exact r2,fun i v h=> ?_⟩;obtain⟨e',k1,k2,k3,k4⟩:=r3 i v h;refine⟨e',by rw[hfe];exact k1,k2,by omega,?_⟩;rw[show i - j=(i - (j+1))+1 by omega];simpa using k4
def mV(k:By)(es:List dK):By:=((dZ k es).map (·.d)).getD []
theorem tU(k:By)(es:List dK)(c m:Nat)(s:Vs)(hm:s.h[m]? =some (.map (es.map fe) c)):
  fO s .str (.sl 1 []) true (.map m) (.str k)=some (.aP [.sl 1 (az (mV k es)),.bool (dZ k es).isSome])∧fO s .str (.sl 1 []) false (.map m) (.str k)=some (.sl 1 (az (mV k es))):=by
 obtain⟨r,r1,r2,r3⟩:=w6 k es 0;have hk:bR .str (.str k)=true:=rfl;simp only[fO,hm,hk,cond_true,r1];cases r with
 |none=>
  have:=r2.1 rfl;simp[mV,this,az]
 |some p=>
  obtain⟨i,v⟩:=p;obtain⟨e,e1,rfl,_⟩:=r3 i v rfl;simp[mV,e1]
theorem Cz{es:List dK}{c:Nat}(hT:ju es c)(k:By):(mV k es).length<small:=by
 unfold mV;cases he:dZ k es with
 |none=>simp[small]
 |some e=>exact hT.dat e (B8 he)
theorem t19(hp:aG Pm)(hq:cI Q)(hc:Pm 49=some bU)(es:List dK)(c m i:Nat)(hT:ju es c)(k:By)(h:List Uo)(fl:Nat)(hf:fl≤h.length)(hi:h[i]? =some (.row [.map m]))(hm:h[m]? =some (.map (es.map fe) c)):
  gF ah M Q Pm 19 [.ptr i 0,.str k] h fl=some (.aP [.sl 1 (az (mV k es)),.bool (dZ k es).isSome,.aK],h,fl):=by
 refine bq hp rfl rfl ?_;have hl:=fun s hs=>(tU k es c m s hs).1;have hz:V.HT (.aj [] 0 0 1)=some (.sl 1 []):=rfl;simp[AM,qbe,qca,qaU,qcp,hi,hm,hl,hz,hq,t49 hc _ (Cz hT k),bH,b9 hf]
theorem yO{s:Vs}{g:Tg}{w:Nat}{xs:List (List U)}{k:IntKind}{n:Nat}(hn:n<xs.length):Tf s w (some (.own g w xs)) (some (.int k n))=some (.cA g n 0,s):=by
 simp only[Tf,Int.toNat_natCast,nX,cond_true];rw[if_pos ⟨Int.natCast_nonneg n,by omega⟩]
def Pd(es:List dK)(lo hi:By)(ks:List By):List Pr:=(ks.filter (has lo hi)).map fun k=>(k,mV k es)
theorem qiC(hp:aG Pm)(hq:cI Q)(hc:Pm 49=some bU)(es:List dK)(c m i:Nat)(lo hi:By)(hT:ju es c)(h:List Uo)(fl:Nat)(hf:fl≤h.length)(hi0:h[i]? =some (.row [.map m]))(hm:h[m]? =some (.map (es.map fe) c))(ks:List By)(hl:ks.length<small)(n:Nat)(hn:n=h.length+1)(K:Ex→Vs→Prop):
  ∀ (j q:Nat) (out:List Pr),q+j=ks.length→out.length≤q→
  K .normal ⟨[(5,.own (.t 5) 2 ((out++Pd es lo hi (ks.drop q)).map fL))],h++[.row [.str lo,.str hi]],fl⟩→
  gL ah M Q Pm v46 0 FK n ⟨[(11,.int .i64 (q:Int)),(0,.ptr i 0),(5,.own (.t 5) 2 (out.map fL)),(3,.ptr h.length 0),(9,.own (.t 9) 1 (ks.map bA)),(10,.int .i64 (ks.length:Int))],h++[.row [.str lo,.str hi]],fl⟩ K:=by
 subst hn;have hlt:i<h.length:=(cz.1 hi0).1;have hd:decide (i<h.length+1)=true:=decide_eq_true (by omega);have hz:V.HT (.aj [] 0 0 1)=some (.sl 1 []):=rfl;intro j
 induction j with
 |zero=>
  intro q out hij ho hK;have h1:¬((q:Int)<(ks.length:Int)):=by omega
  have h2:ks.drop q=[]:=tN (by omega);rw[h2]at hK;rw[aq FK.eq_1];simp[ON,h1,Pd,qB hf]at hK⊢;exact hK
 |succ j ih=>
  intro q out hij ho hK;have h1:((q:Int)<(ks.length:Int)):=by omega
  have hi1:q<ks.length:=by omega
  have e1:(ks.map bA)[q]? =some (bA ks[q]):=by simp[hi1]
  have e2:q<(ks.map bA).length:=by simpa using hi1
  have e3:aD .i64 ((q:Int)+1)=((q+1:Nat):Int):=cj (by unfold small at hl;omega);have d1:ks.drop q=ks[q]::ks.drop (q+1):=vT hi1;have hI:Pd es lo hi (ks.drop q)=(if has lo hi ks[q]=true then[(ks[q],mV ks[q] es)]else[])++Pd es lo hi (ks.drop (q+1)):=by
   rw[d1];unfold Pd;rw[List.filter_cons];cases has lo hi ks[q]<;>simp
  rw[hI]at hK;rw[aq FK.eq_1];obtain⟨f1,f2⟩:(out.length+1)*40≤aW∧out.length+1≤aW:=by unfold small at hl;unfold aW;omega
  have hlk:=fun s hs=>(tU ks[q] es c m s hs).2;cases hk:has lo hi ks[q]with
  |false=>
   have ih' :=ih (q+1) out (by omega) (by omega);simp[hk,bA]at hK ih';simp[ON,Sn,XK,QE,h1,yO e2,hi1,bA,hk,e3,hq,t58 (hp 58 (by decide) (by decide)),hd,qB hf];exact ih' hK
  |true=>
   have ih' :=ih (q+1) (out++[(ks[q],mV ks[q] es)]) (by omega) (by simp;omega);simp[hk,fL,bA]at hK ih';simp[ON,Sn,XK,qa0,QE,h1,yO e2,hi1,bA,hk,e3,hq,t58 (hp 58 (by decide) (by decide)),hd,qB hf,bl hi0,hlk,bl hm,hz,t49 hc _ (Cz hT ks[q]),bH,f1,f2,fL];exact ih' hK
def oO(es:List dK):List By:=dy (es.map (·.k))
theorem Zj(a:By):∀ l,(k8 a l).length=l.length+1:=by
 intro l
 induction l with
 |nil=>rfl
 |cons x l ih=>simp only[k8];split<;>simp[ih]
theorem HY:∀ l:List By,(dy l).length=l.length:=by
 intro l
 induction l with
 |nil=>rfl
 |cons a l ih=>show(k8 a (dy l)).length=_;rw[Zj,ih];rfl
theorem t46(hp:aG Pm)(hq:cI Q)(hs:Q 90=some nT)(hc:Pm 49=some bU)(es:List dK)(c m i:Nat)(lo hi:By)(hT:ju es c)(hl:es.length<small)(h:List Uo)(fl:Nat)(hf:fl≤h.length)(hi0:h[i]? =some (.row [.map m]))(hm:h[m]? =some (.map (es.map fe) c)):
  gF ah M Q Pm 46 [.ptr i 0,.agg [.str lo,.str hi]] h fl=some (.own .r 2 ((Pd es lo hi (oO es)).map fL),h,fl):=by
 refine bq hp rfl rfl ?_;have hlt:i<h.length:=(cz.1 hi0).1;have hk:=t101 (M:=M) (Q:=Q) hp hs es c m i hT hl (h++[.row [.str lo,.str hi]]) fl (by simp;omega) (bl hi0) (bl hm);have hkl:(oO es).length<small:=by unfold oO;rw[HY];simpa using hl
 have hd:decide (i<h.length+1)=true:=decide_eq_true (by omega);have a:=qiC (M:=M) hp hq hc es c m i lo hi hT h fl hf hi0 hm (oO es) hkl (h.length+1) rfl (l9 ah M Q Pm v46 (.seq (.region Ta) .ret) (kE h.length v46 (.own .r 2 ((Pd es lo hi (oO es)).map fL),h,fl))) (oO es).length 0 [] (by omega) (by simp) (by simp[Ta,ez hf]);simp[oO]at a;simp[Bv,qcz,qaE,qaW,hq,hk,hd,qB hf];exact a
theorem t21(hp:aG Pm)(hq:cI Q)(hs:Q 90=some nT)(hc:Pm 49=some bU)(es:List dK)(c m i:Nat)(lo hi:By)(hT:ju es c)(hl:es.length<small)(h:List Uo)(fl:Nat)(hf:fl≤h.length)(hi0:h[i]? =some (.row [.map m]))(hm:h[m]? =some (.map (es.map fe) c)):
  gF ah M Q Pm 21 [.ptr i 0,.str lo,.str hi] h fl=some (.aP [.sl 2 ((Pd es lo hi (oO es)).map fL),.aK],h,fl):=by
 refine bq hp rfl rfl ?_;have hk:=t46 (M:=M) hp hq hs hc es c m i lo hi hT hl h fl hf hi0 hm;simp[Ap,qcl,qaR,hq,hk,b9 hf]
def muP(kk:fD)(i:Nat)(k v:U)(s:Vs):Option Uo→Option (U×Vs)
 |some (.map es clock)=>bif bR kk k then
      (let fl:=bif v.low (i+1)then s.fl else s.h.length
      match jt kk k es 0 with
      |some (some (j,_))=>some (.aP [],{s with h:=s.h.set i (.map (ox j (fun e=>(k,v,e.2.2)) es) clock),fl:=fl})
      |some none=>some (.aP [],{s with h:=s.h.set i (.map (es++[(k,v,clock)]) (clock+1)),fl:=fl})
      |none=>none)else none
 |_=>none
def muX(kk:fD)(i:Nat)(k:U):Option (U×Vs)→Option (U×Vs)
 |some (v,s)=>muP kk i k v s s.h[i]?
 |none=>none
@[simp] theorem qgK(kk:fD)(i:Nat)(k v:U)(s:Vs):muX kk i k (some (v,s))=muP kk i k v s s.h[i]? :=rfl
def muK(kk:fD)(i:Nat)(x:bB):Option (U×Vs)→Option (U×Vs)
 |some (k,s)=>muX kk i k (fC x s)
 |none=>none
@[simp] theorem qiQ(kk:fD)(i:Nat)(x:bB)(k:U)(s:Vs):muK kk i x (some (k,s))=muX kk i k (fC x s):=rfl
def muM(kk:fD)(k x:bB):Option (U×Vs)→Option (U×Vs)
 |some (.map i,s)=>muK kk i x (fC k s)
 |_=>none
@[simp] theorem qjb(kk:fD)(k x:bB)(i:Nat)(s:Vs):muM kk k x (some (.map i,s))=muK kk i x (fC k s):=rfl
@[simp] theorem X9(d:Nat)(s:Vs)(kk:fD)(m k x:bB):qm d s (.mapUpdate kk m k x)=muM kk k x (fC m s):=by
 simp only[qm];cases fC m s with
 |none=>rfl
 |some p=>
  obtain⟨u,s1⟩:=p;cases u with
  |map i=>
   simp only[muM];cases fC k s1 with
   |none=>rfl
   |some p=>
    obtain⟨k,s2⟩:=p;simp only[muK];cases fC x s2 with
    |none=>rfl
    |some p=>
     obtain⟨v,s3⟩:=p;simp only[muX];cases s3.h[i]? with
     |none=>rfl
     |some o=>cases o<;>rfl
  |_=>rfl
def YX(kk:fD)(i:Nat)(k:U)(s:Vs):Option Uo→Option (U×Vs)
 |some (.map es clock)=>bif bR kk k then(match jt kk k es 0 with
    |some (some (j,_))=>some (.aP [],{s with h:=s.h.set i (.map (gr j es) clock)})
    |some none=>some (.aP [],s)
    |none=>none)else none
 |_=>none
def qd9(s:Vs)(kk:fD):Option U→Option U→Option (U×Vs)
 |some .bK,some k=>bif bR kk k then some (.aP [],s)else none
 |some (.map i),some k=>YX kk i k s s.h[i]?
 |_,_=>none
@[simp] theorem qhK(s:Vs)(kk:fD)(i:Nat)(k:U):qd9 s kk (some (.map i)) (some k)=YX kk i k s s.h[i]? :=rfl
@[simp] theorem qcH(d:Nat)(s:Vs)(kk:fD)(m k:bB):qm d s (.delete kk m k)=qd9 s kk (ck s.e m) (ck s.e k):=by
 simp only[qm];cases ck s.e m with
 |none=>rfl
 |some u=>
  cases ck s.e k with
  |none=>cases u<;>rfl
  |some k=>
   cases u with
   |map i=>
    simp only[qd9];cases s.h[i]? with
    |none=>rfl
    |some o=>cases o<;>rfl
   |_=>rfl
def th(k d:By):List dK→List dK
 |[]=>[]
 |e::r=>if(e.k==k)=true then⟨k,d,e.b⟩::r else e::th k d r
def ya(k:By):List dK→List dK
 |[]=>[]
 |e::r=>if(e.k==k)=true then r else e::ya k r
theorem NL(a b:By):(a==b)=(b==a):=by
 cases h1:b==a with
 |true=>rw[eq_of_beq h1];exact beq_self_eq_true a
 |false=>
  cases h2:a==b with
  |false=>rfl
  |true=>rw[eq_of_beq h2,beq_self_eq_true]at h1;cases h1
theorem HD(k d:By):∀ (es:List dK) (j i:Nat) (v:U),jt .str (.str k) (es.map fe) j=some (some (i,v))→j≤i∧ox (i - j) (fun e=>(.str k,.sl 1 (az d),e.2.2)) (es.map fe)=(th k d es).map fe∧gr (i - j) (es.map fe)=(ya k es).map fe:=by
 intro es
 induction es with
 |nil=>intro j i v h;cases h
 |cons e es ih=>
  intro j i v h;have hf:jt .str (.str k) ((e::es).map fe) j=(match some (k==e.k)with
   |some true=>some (some (j,.sl 1 (az e.d)))
   |some false=>jt .str (.str k) (es.map fe) (j+1)
   |none=>none):=rfl
  rw[hf,NL k e.k]at h;cases hk:e.k==k with
  |true=>
   rw[hk]at h;simp only[ay,aO]at h;obtain⟨rfl,_⟩:=h;refine⟨aM _,?_,?_⟩
   ·simp[th,hk,ox,fe]
   ·simp[ya,hk,gr]
  |false=>
   rw[hk]at h;obtain⟨a,b,c⟩:=ih (j+1) i v h;have e1:i - j=(i - (j+1))+1:=by omega
   refine⟨by omega,?_,?_⟩
   ·rw[e1];simp only[List.map_cons,ox,th,hk];rw[b];simp
   ·rw[e1];simp only[List.map_cons,gr,ya,hk];rw[c];simp
def B7(k d:By)(c:Nat)(es:List dK):List dK:=if(dZ k es).isSome=true then th k d es else es++[⟨k,d,c⟩]
def JN(k:By)(c:Nat)(es:List dK):Nat:=if(dZ k es).isSome=true then c else c+1
theorem Nc(k d:By)(es:List dK)(c m:Nat)(s:Vs):muP .str m (.str k) (.sl 1 (az d)) s (some (.map (es.map fe) c))=some (.aP [],⟨s.e,s.h.set m (.map ((B7 k d c es).map fe) (JN k c es)),s.fl⟩):=by
 obtain⟨r,r1,r2,r3⟩:=w6 k es 0;have hk:bR .str (.str k)=true:=rfl;simp only[muP,hk,cond_true,r1,U.low];cases r with
 |none=>
  have:=r2.1 rfl;simp[B7,JN,this,fe]
 |some p=>
  obtain⟨i,v⟩:=p;obtain⟨e,e1,rfl,_⟩:=r3 i v rfl;obtain⟨a,b,_⟩:=HD k d es 0 i _ r1;simp only[Nat.sub_zero]at b;simp[B7,JN,e1,b]
theorem UB(k:By)(es:List dK)(c m:Nat)(s:Vs)(hm:s.h[m]? =some (.map (es.map fe) c)):YX .str m (.str k) s (some (.map (es.map fe) c))=some (.aP [],⟨s.e,s.h.set m (.map ((if(dZ k es).isSome=true then ya k es else es).map fe) c),s.fl⟩):=by
 obtain⟨r,r1,r2,r3⟩:=w6 k es 0;have hk:bR .str (.str k)=true:=rfl;simp only[YX,hk,cond_true,r1];cases r with
 |none=>
  have:=r2.1 rfl;have hset:s.h.set m (.map (es.map fe) c)=s.h:=by
   obtain⟨hlt,he⟩:=cz.1 hm;rw[←he];exact List.set_getElem_self hlt
  simp[this,hset]
 |some p=>
  obtain⟨i,v⟩:=p;obtain⟨e,e1,rfl,_⟩:=r3 i v rfl;obtain⟨a,_,b⟩:=HD k [] es 0 i _ r1;simp only[Nat.sub_zero]at b;simp[e1,b]
theorem dO{h l:List Uo}{m:Nat}{x o:Uo}(hm:h[m]? =some o):(h++l).set m x=h.set m x++l:=List.set_append_left _ _ (cz.1 hm).1
theorem kz{fl:Nat}{h:List Uo}(hf:fl≤h.length)(m:Nat)(x:Uo)(l:List Uo):cut h.length fl (h.set m x++l)=h.set m x:=by
 have:=N2 (fl:=fl) (h:=h.set m x) (l:=l) (by simpa using hf);simpa using this
def Cm(k:By)(gone:Bool)(d:By)(c:Nat)(es:List dK):List dK:=if gone=true then(if(dZ k es).isSome=true then ya k es else es)else B7 k d c es
def HU(k:By)(gone:Bool)(c:Nat)(es:List dK):Nat:=if gone=true then c else JN k c es
theorem t48(hp:aG Pm)(es:List dK)(c m i:Nat)(k d:By)(gone:Bool)(h:List Uo)(fl:Nat)(hf:fl≤h.length)(hi0:h[i]? =some (.row [.map m]))(hm:h[m]? =some (.map (es.map fe) c)):
  gF ah M Q Pm 48 [.ptr i 0,.str k,.agg [.bool gone,.sl 1 (az d)]] h fl=some (.aP [],h.set m (.map ((Cm k gone d c es).map fe) (HU k gone c es)),fl):=by
 refine bq hp rfl rfl ?_;have hu:=Nc k d es c m;have hdl:=fun s hs=>UB k es c m s hs;cases gone with
 |true=>simp[vh,Rs,Uk,qbq,bl hi0,bl hm,hdl,dO hm,kz hf,Cm,HU]
 |false=>simp[vh,Rs,Uk,bn qdj,We,bl hi0,bl hm,hu,dO hm,kz hf,Cm,HU,hY]
abbrev Tb:=List dK×Nat
def stepT(t:Tb)(x:Wr):Tb:=(Cm x.1 x.2.1 x.2.2 t.2 t.1,HU x.1 x.2.1 t.2 t.1)
def dX(t:Tb):Uo:=.map (t.1.map fe) t.2
@[simp] theorem qeH(k:Nat)(t:Tb):fW k (dX t)=dX t:=by
 simp only[dX,tX,List.map_map];congr 1
def n9(t:Tb)(p:Pr):Tb:=(B7 p.1 p.2 t.2 t.1,JN p.1 t.2 t.1)
theorem qgm(hp:aG Pm)(hq:cI Q)(hc:Pm 49=some bU)(l:List Pr)(hl:l.length<small)(hld:∀ p∈l,p.2.length<small)(K:Ex→Vs→Prop):
  ∀ (j q:Nat) (t:Tb),q+j=l.length→
  K .normal ⟨[(3,.ptr 1 0)],[dX ((l.drop q).foldl n9 t),.row [.map 0]],0⟩→
  gL ah M Q Pm XX 0 Ez 2 ⟨[(11,.int .i64 (q:Int)),(3,.ptr 1 0),(9,.sl 2 (l.map fL)),(10,.int .i64 (l.length:Int))],[dX t,.row [.map 0]],0⟩ K:=by
 intro j
 induction j with
 |zero=>
  intro q t hij hK;have h1:¬((q:Int)<(l.length:Int)):=by omega
  have h2:l.drop q=[]:=tN (by omega);rw[h2]at hK;rw[aq Ez.eq_1];simp[Ro,h1]at hK⊢;exact hK
 |succ j ih=>
  intro q t hij hK;have h1:((q:Int)<(l.length:Int)):=by omega
  have hi1:q<l.length:=by omega
  have e1:(l.map fL)[q]? =some (fL l[q]):=by simp[hi1]
  have e3:aD .i64 ((q:Int)+1)=((q+1:Nat):Int):=cj (by unfold small at hl;omega);have d1:l.drop q=l[q]::l.drop (q+1):=vT hi1;rw[d1,List.foldl_cons]at hK;have ih' :=ih (q+1) (n9 t l[q]) (by omega) hK;have hmu:=Nc l[q].1 l[q].2 t.1 t.2 0;have ep:fL l[q]=[.str l[q].1,.sl 1 (az l[q].2)]:=rfl;rw[aq Ez.eq_1];simp[dX,n9]at ih';simp[Ro,qby,qcq,h1,eC e1,ep,e3,dX,bn qc3,UK,hq,t49 hc _ (hld _ (List.getElem_mem hi1)),bH,hmu,hY];exact ih'
theorem t44(hp:aG Pm)(hq:cI Q)(hc:Pm 49=some bU)(l:List Pr)(hl:l.length<small)(hld:∀ p∈l,p.2.length<small):
  gF ah M Q Pm 44 [.sl 2 (l.map fL)] [] 0=some (.ptr 1 0,[dX (l.foldl n9 ([],0)),.row [.map 0]],0):=by
 refine bq hp rfl rfl ?_;have a:=qgm (M:=M) hp hq hc l hl hld (l9 ah M Q Pm XX (.seq (.region Rc) .ret) (kE 0 XX (.ptr 1 0,[dX (l.foldl n9 ([],0)),.row [.map 0]],0))) l.length 0 ([],0) (by omega) (by simp[Rc]);simp[dX]at a;simp[Ae,qaM,qaZ,qbb,dX];exact a
theorem t13(hp:aG Pm)(hq:cI Q)(hc:Pm 49=some bU)(l:List Pr)(hl:l.length<small)(hld:∀ p∈l,p.2.length<small):
  gF ah M Q Pm 13 [.sl 2 (l.map fL)] [] 0=some (.ptr 1 0,[dX (l.foldl n9 ([],0)),.row [.map 0]],0):=by
 refine bq hp rfl rfl ?_;simp[BH,qb4,qbJ,hq,t44 hp hq hc l hl hld]
def BX(s:Vs)(b:List UInt8)(n:Int):Option (U×Vs):=if 0≤n then(match b[n.toNat]? with|some c=>some (.int .u8 c.toNat,s)|none=>none)else none
def ixO(s:Vs):Option U→Option U→Option (U×Vs)
 |some (.str b),some (.int _ n)=>BX s b n
 |_,_=>none
@[simp] theorem qiD(s:Vs)(b:List UInt8)(k:IntKind)(n:Int):ixO s (some (.str b)) (some (.int k n))=BX s b n:=rfl
@[simp] theorem qfE(d:Nat)(s:Vs)(x i:bB):fA d s (.index x i)=ixO s (ck s.e x) (ck s.e i):=by
 simp only[fA];cases ck s.e x with
 |none=>rfl
 |some v=>
  cases v with
  |str b=>
   cases ck s.e i with
   |none=>rfl
   |some w=>cases w<;>rfl
  |_=>rfl
theorem cR{s:Vs}{b:List UInt8}{i:Nat}{c:UInt8}(h:b[i]? =some c):BX s b (i:Int)=some (.int .u8 c.toNat,s):=by
 unfold BX;rw[if_pos (Int.natCast_nonneg i),Int.toNat_natCast,h]
def ssS(s:Vs)(b:List UInt8)(h:Nat):Option Nat→Option (U×Vs)
 |some l=>some (.str ((b.take h).drop l),s)
 |none=>none
@[simp] theorem qiT(s:Vs)(b:List UInt8)(h l:Nat):ssS s b h (some l)=some (.str ((b.take h).drop l),s):=rfl
def ssH(s:Vs)(lo:Option bB)(b:List UInt8):Option Nat→Option (U×Vs)
 |some h=>ssS s b h (cD s.e lo 0 h)
 |none=>none
@[simp] theorem qis(s:Vs)(lo:Option bB)(b:List UInt8)(h:Nat):ssH s lo b (some h)=ssS s b h (cD s.e lo 0 h):=rfl
def ssV(s:Vs)(lo hi:Option bB):U→Option (U×Vs)
 | .str b=>ssH s lo b (cD s.e hi b.length b.length)
 |_=>none
@[simp] theorem qjZ(s:Vs)(lo hi:Option bB)(b:List UInt8):ssV s lo hi (.str b)=ssH s lo b (cD s.e hi b.length b.length):=rfl
@[simp] theorem Ys(d:Nat)(s:Vs)(x:bB)(lo hi:Option bB):fA d s (.jJ x lo hi)=(ck s.e x).bind (ssV s lo hi):=by
 simp only[fA];cases ck s.e x with
 |none=>rfl
 |some v=>
  cases v with
  |str b=>
   simp only[Option.bind,ssV,ssH];cases cD s.e hi b.length b.length with
   |none=>rfl
   |some h=>simp only;cases cD s.e lo 0 h<;>rfl
  |_=>rfl
@[simp] theorem ZP(e:Env)(d m:Nat):cD e none d m=some d:=rfl
def onV(most:Nat):Option U→Option Nat
 |some v=>gJ v most
 |none=>none
@[simp] theorem qgO(most:Nat)(v:U):onV most (some v)=gJ v most:=rfl
@[simp] theorem Zz(e:Env)(x:bB)(d m:Nat):cD e (some x) d m=onV m (ck e x):=by
 simp only[cD];cases ck e x<;>rfl
theorem nR{k:IntKind}{n m:Nat}(h:n≤m):gJ (.int k (n:Int)) m=some n:=by
 simp only[gJ,asNat];have h1:(0:Int)≤(n:Int):=Int.natCast_nonneg n;simp[h]
def iaA(s:Vs)(len w:Nat):Option U→Option U→Option (U×Vs)
 |some (.ptr j off),some (.int _ n)=>if 0≤n∧n<(len:Int)then some (.ptr j (off+n.toNat*w),s)else none
 |some (.dI row off),some (.int _ n)=>if 0≤n∧n<(len:Int)then some (.dI row (off+n.toNat*w),s)else none
 |_,_=>none
@[simp] theorem qjy(s:Vs)(len w j off:Nat)(k:IntKind)(n:Int):iaA s len w (some (.ptr j off)) (some (.int k n))=if 0≤n∧n<(len:Int)then some (.ptr j (off+n.toNat*w),s)else none:=rfl
@[simp] theorem qg9(s:Vs)(len w off:Nat)(row:List U)(k:IntKind)(n:Int):iaA s len w (some (.dI row off)) (some (.int k n))=if 0≤n∧n<(len:Int)then some (.dI row (off+n.toNat*w),s)else none:=rfl
@[simp] theorem qad(d:Nat)(s:Vs)(len w:Nat)(x i:bB):fA d s (.kM len w x i)=iaA s len w (ck s.e x) (ck s.e i):=by
 simp only[fA];cases ck s.e x with
 |none=>rfl
 |some v=>
  cases v<;>(first|rfl|(cases ck s.e i with
   |none=>rfl
   |some y=>cases y<;>rfl))
def mxO(f:U→U→Option U)(s:Vs):Option (List U)→Option (U×Vs)
 |some (v::vs)=>gY s (oW f v vs)
 |_=>none
@[simp] theorem qhr(f:U→U→Option U)(s:Vs)(v:U)(vs:List U):mxO f s (some (v::vs))=gY s (oW f v vs):=rfl
@[simp] theorem qjB(d:Nat)(s:Vs)(xs:List bB):fA d s (.max xs)=mxO (oZ Av) s (jE s.e xs):=by
 simp only[fA];cases jE s.e xs with
 |none=>rfl
 |some l=>
  cases l with
  |nil=>rfl
  |cons v vs=>simp only[mxO];cases oW (oZ Av) v vs<;>rfl
@[simp] theorem qjw(d:Nat)(s:Vs)(xs:List bB):fA d s (.min xs)=mxO (oZ zA) s (jE s.e xs):=by
 simp only[fA];cases jE s.e xs with
 |none=>rfl
 |some l=>
  cases l with
  |nil=>rfl
  |cons v vs=>simp only[mxO];cases oW (oZ zA) v vs<;>rfl
def fdO(f:U→U→Option U)(r:List U):Option U→Option U
 |some c=>oW f c r
 |none=>none
@[simp] theorem qiz(f:U→U→Option U)(r:List U)(c:U):fdO f r (some c)=oW f c r:=rfl
@[simp] theorem qf6(f:U→U→Option U)(a:U):oW f a []=some a:=rfl
def asV(t:Nat)(z:U)(s:Vs):U→Option (U×Vs)
 | .aK=>some (.aP [z,.bool false],s)
 | .iface u v=>some (if u=t then .aP [v,.bool true]else .aP [z,.bool false],s)
 |_=>none
@[simp] theorem qi0(t:Nat)(z:U)(s:Vs):asV t z s .aK=some (.aP [z,.bool false],s):=rfl
@[simp] theorem qfg(t u:Nat)(z v:U)(s:Vs):asV t z s (.iface u v)=some (if u=t then .aP [v,.bool true]else .aP [z,.bool false],s):=rfl
def asO(t:Nat)(s:Vs):Option U→Option U→Option (U×Vs)
 |some z,some x=>asV t z s x
 |_,_=>none
@[simp] theorem qgM(t:Nat)(s:Vs)(z x:U):asO t s (some z) (some x)=asV t z s x:=rfl
section
variable{M:eA}{Q:fq}{F:FU}
def inM(F:FU)(s:Vs)(d:Nat)(args:List U):Option Nat→Option (U×Vs)
 |some f=>mO F d f args s
 |none=>none
@[simp] theorem qig(s:Vs)(d f:Nat)(args:List U):inM F s d args (some f)=mO F d f args s:=rfl
def inO(M:eA)(F:FU)(s:Vs)(d:Nat)(name:String):Option U→Option (List U)→Option (U×Vs)
 |some (.iface t v),some vs=>inM F s d (v::vs) (M t name)
 |_,_=>none
@[simp] theorem qio(s:Vs)(d:Nat)(name:String)(t:Nat)(v:U)(vs:List U):inO M F s d name (some (.iface t v)) (some vs)=inM F s d (v::vs) (M t name):=rfl
@[simp] theorem qeU(s:Vs)(dst:Option Nat)(name:String)(x:bB)(args:List bB):lg M Q F s dst (.invoke name x args)=inO M F s (dst.getD 0) name (ck s.e x) (jE s.e args):=by
 simp only[lg];cases ck s.e x with
 |none=>rfl
 |some v=>
  cases v with
  |iface t v=>
   cases jE s.e args with
   |none=>rfl
   |some vs=>simp only[inO,inM];cases M t name<;>rfl
  |_=>rfl
end
@[simp] theorem qgX(s:Vs)(w w' :Nat)(g:Tg)(xs:List (List U))(k:IntKind)(n:Int):Tf s w (some (.own g w' xs)) (some (.int k n))=if 0≤n∧n<(xs.length:Int)then(bif Nat.beq w' w then some (.cA g n.toNat 0,s)else none)else none:=rfl
@[simp] theorem qjI(k:IntKind)(n:Int):(V.int k n).HT=some (.int k n):=rfl
@[simp] theorem qiB(b:Bool):(V.bool b).HT=some (.bool b):=rfl
@[simp] theorem qjX(b:List UInt8):(V.str b).HT=some (.str b):=rfl
@[simp] theorem qiG:V.aT.HT=some .aT:=rfl
@[simp] theorem qi3:V.aK.HT=some .aK:=rfl
@[simp] theorem qjC(w:Nat):(V.aj [] 0 0 w).HT=some (.sl w []):=rfl
@[simp] theorem qjG(cs:List V):(V.agg cs).HT=bif(V.cY cs).all U.aL then some (.agg (V.cY cs))else none:=by
 simp only[V.HT,V.mX];cases(V.cY cs).all U.aL<;>rfl
def fqO(neg:Bool):Option Bool→Option U
 |some b=>some (.bool (b !=neg))
 |none=>none
@[simp] theorem qhN(neg b:Bool):fqO neg (some b)=some (.bool (b !=neg)):=rfl
@[simp] theorem qcg(a b:List U):gN [] a b=some true:=rfl
def fqA(a:Bool):Option Bool→Option Bool
 |some b=>some (a&&b)
 |none=>bif a then none else some false
@[simp] theorem qgU(a b:Bool):fqA a (some b)=some (a&&b):=rfl
def fqP(r:List (Nat×fD))(xs ys:List U):Option Bool→Option Bool
 |some a=>fqA a (gN r xs ys)
 |none=>none
@[simp] theorem qgq(r:List (Nat×fD))(xs ys:List U)(a:Bool):fqP r xs ys (some a)=fqA a (gN r xs ys):=rfl
def fqC(k:fD)(r:List (Nat×fD))(xs ys:List U):Option U→Option U→Option Bool
 |some a,some b=>fqP r xs ys (fF k a b)
 |_,_=>none
@[simp] theorem qhG(k:fD)(r:List (Nat×fD))(xs ys:List U)(a b:U):fqC k r xs ys (some a) (some b)=fqP r xs ys (fF k a b):=rfl
@[simp] theorem Zi(o:Nat)(k:fD)(r:List (Nat×fD))(xs ys:List U):gN ((o,k)::r) xs ys=fqC k r xs ys xs[o]? ys[o]? :=by
 simp only[gN];cases xs[o]? with
 |none=>rfl
 |some a=>
  cases ys[o]? with
  |none=>rfl
  |some b=>
   simp only[fqC];cases fF k a b with
   |none=>rfl
   |some c=>
    cases c with
    |true=>simp only[fqP];cases gN r xs ys with
     |none=>rfl
     |some d=>rfl
    |false=>simp only[fqP];cases gN r xs ys<;>rfl
@[simp] theorem Y5(j:IntKind)(a b:Int):fF .int (.int j a) (.int j b)=some (a==b):=by simp[fF,U.Pz,jN]
@[simp] theorem YA(a b:List UInt8):fF .str (.str a) (.str b)=some (a==b):=rfl
@[simp] theorem XQ(a b:Bool):fF .bool (.bool a) (.bool b)=some (a==b):=rfl
def tbV(d:Nat)(s:Vs):U→Option (U×Vs)
 | .str b=>some (.own (.t d) 1 (az b),s.kill (.t d))
 |_=>none
@[simp] theorem qjH(d:Nat)(s:Vs)(b:List UInt8):tbV d s (.str b)=some (.own (.t d) 1 (az b),s.kill (.t d)):=rfl
theorem Ws(hp:aG Pm):gF ah M Q Pm 107 [.int .i64 0] [] 0=some (.aK,[],0):=by
 refine bq hp rfl rfl ?_;simp[sD,KJ,Mf,VC]
theorem t107(hp:aG Pm)(n:Int)(hn:n≠0):gF ah M Q Pm 107 [.int .i64 n] [] 0=some (.iface 43 (.int .i64 n),[],0):=by
 refine bq hp rfl rfl ?_;simp[sD,KJ,Mf,QF,hn]
theorem qeo(hp:aG Pm)(p:By):gF ah M Q Pm 167 [.str p,.aK] [] 0=some (.aK,[],0):=by
 refine bq hp rfl rfl ?_;simp[sX,KK,L4,Tz]
theorem t167(hp:aG Pm)(p:By)(t:Nat)(v:U)(hv:v.low 0=true):gF ah M Q Pm 167 [.str p,.iface t v] [] 0=some (.iface 191 (.ptr 0 0),[.row [.str p,.iface t v]],0):=by
 refine bq hp rfl rfl ?_;simp[sX,KK,L4,QV,hv]
theorem pJ(s:Vs)(g:Tg)(xs:List (List U)):A7 s (.own g 1 xs)=(eH xs).bind fun bs=>some (.str bs,s):=by simp[A7,rowsOf]
theorem YF(s:Vs)(xs:List (List U)):A7 s (.sl 1 xs)=(eH xs).bind fun bs=>some (.str bs,s):=by simp[A7,rowsOf]
theorem kr:eH []=some []:=rfl
theorem iQ(b:UInt8)(r:List (List U)):eH ([.int .u8 b.toNat]::r)=(eH r).bind fun bs=>some (b::bs):=by
 simp only[eH,qt];have:UInt8.ofNat (b.toNat:Int).toNat=b:=by simp
 rw[this];cases eH r<;>rfl
theorem SV(hp:aG Pm)(hq:cI Q)(b:UInt8):gF ah M Q Pm 106 [.int .u8 b.toNat,.aK] [] 0=some (.aK,[],0):=by
 refine bq hp rfl rfl ?_;simp[nv,Aq,Ah,hq,qeo hp,pJ,kr,iQ]
theorem t99(hp:aG Pm)(s:By):gF ah M Q Pm 99 [.str s] [] 0=some (.agg [.int .u8 105,.str [],.str [],.str [],.str s,.int .u64 0,.int .u64 0,.int .u64 0],[],0):=by
 refine bq hp rfl rfl ?_;simp[A1,qbE,qa3]
theorem qdw(hp:aG Pm):gF ah M Q Pm 171 [.int .u8 105] [] 0=some (.aP [.str [105],.bool true],[],0):=by
 refine bq hp rfl rfl ?_;simp[dH,jX,jP,jW,jU,j3,jQ,jO,kf,j0,ke,gu,gj,gh,gp,gl,gR]
def GC(b:UInt8):By:=if b=0 then[0,255]else[b]
def Cf(s:By):By:=s.flatMap GC
def hO(k:UInt8)(l:List By):By:=k::l.flatMap fun s=>Cf s++[0,1]
theorem eU(a b:By):az (a++b)=az a++az b:=by simp[az]
attribute [simp] qb
theorem bW(a:UInt8)(r:By):az (a::r)=[.int .u8 a.toNat]::az r:=rfl
theorem aB:az []=[]:=rfl
theorem O5(b:UInt8):(GC b).length≤2:=by unfold GC;split<;>simp
theorem qkq{n:Nat}(h:n<small):n+1≤aW∧n+2≤aW:=by unfold small at h;unfold aW;omega
theorem YG(b:UInt8):((b.toNat:Int)==0)=decide (b=0):=by
 cases h:decide (b=0)with
 |true=>have:=of_decide_eq_true h;subst this;rfl
 |false=>
  have hb:=of_decide_eq_false h;rw[beq_eq_false_iff_ne];intro hh;apply hb;exact UInt8.toNat_inj.1 (by simpa using hh)
theorem qeQ(s:By)(ps:List (List U))(n' i' :Int)(K:Ex→Vs→Prop)(hl:s.length<small):∀ (j i:Nat) (acc:By),i+j=s.length→acc.length+2*j<small→
  K .normal ⟨[(11,.sl 1 ps),(12,.int .i64 n'),(13,.int .i64 i'),(5,.own (.t 5) 1 (az (acc++Cf (s.drop i))))],[],0⟩→
  gL ah M Q Pm v227 2 uC 0 ⟨[(19,.int .i64 (i:Int)),(7,.str s),(5,.own (.t 5) 1 (az acc)),(11,.sl 1 ps),(12,.int .i64 n'),(13,.int .i64 i'),(18,.int .i64 (s.length:Int))],[],0⟩ K:=by
 intro j
 induction j with
 |zero=>
  intro i acc hi ho hK;have h1:¬((i:Int)<(s.length:Int)):=by omega
  have h2:s.drop i=[]:=tN (by omega);rw[h2]at hK;rw[aq uC.eq_1];simp[FH,h1,Cf]at hK⊢;exact hK
 |succ j ih=>
  intro i acc hi ho hK;have h1:((i:Int)<(s.length:Int)):=by omega
  have hi1:i<s.length:=by omega
  have e1:s[i]? =some s[i]:=by simp[hi1]
  have e3:aD .i64 ((i:Int)+1)=((i+1:Nat):Int):=cj (by unfold small at hl;omega);have d1:s.drop i=s[i]::s.drop (i+1):=vT hi1;obtain⟨f1,f2⟩:=qkq (n:=acc.length) (by omega);rw[d1]at hK;rw[aq uC.eq_1];generalize s[i]=b at*;cases hb:decide (b=0)with
  |true=>
   have:=of_decide_eq_true hb;subst this;have ih' :=ih (i+1) (acc++[0,255]) (by omega) (by simp;omega);simp[Cf,GC,eU,bW,aB]at hK ih';simp[FH,JS,K4,Lj,NZ,FT,h1,cR e1,e3,f1,f2];exact ih' hK
  |false=>
   have hb' :=of_decide_eq_false hb;have ih' :=ih (i+1) (acc++[b]) (by omega) (by simp;omega);simp[Cf,GC,eU,hb',bW,aB]at hK ih';simp[FH,JS,K4,Lj,FT,h1,cR e1,e3,f1,f2,YG,hb'];exact ih' hK
theorem Qm(k:UInt8)(l:List By)(s:By):hO k (l++[s])=hO k l++Cf s++[0,1]:=by simp[hO]
theorem Ji(k:UInt8)(a b:List By)(s:By):(hO k a).length≤(hO k (a++s::b)).length∧s.length≤((a++s::b).map List.length).sum:=by
 constructor
 ·simp[hO]
 ·simp;omega
theorem AJ(s:By):(Cf s).length≤2*s.length:=by
 unfold Cf
 induction s with
 |nil=>simp
 |cons b r ih=>have:=O5 b;simp at ih⊢;omega
theorem qd5(k:UInt8)(l:List By)(hl:l.length<small)(K:Ex→Vs→Prop):∀ (j i:Nat),i+j=l.length→(∀ s∈l,s.length<small)→
  (hO k l).length+2*(l.map List.length).sum<small→
  K .normal ⟨[(5,.own (.t 5) 1 (az (hO k l)))],[],0⟩→
  gL ah M Q Pm v227 0 vj 0 ⟨[(5,.own (.t 5) 1 (az (hO k (l.take i)))),(13,.int .i64 (i:Int)),(11,.sl 1 (l.map fun s=>[.str s])),(12,.int .i64 (l.length:Int))],[],0⟩ K:=by
 intro j
 induction j with
 |zero=>
  intro i hi hs hb hK;have h1:¬((i:Int)<(l.length:Int)):=by omega
  have h2:l.take i=l:=pI (by omega);rw[aq vj.eq_1,h2];simp[L6,h1]at hK⊢;exact hK
 |succ j ih=>
  intro i hi hs hb hK;have h1:((i:Int)<(l.length:Int)):=by omega
  have hi1:i<l.length:=by omega
  have e1:(l.map fun s=>[U.str s])[i]? =some [.str l[i]]:=by simp[hi1]
  have e3:aD .i64 ((i:Int)+1)=((i+1:Nat):Int):=cj (by unfold small at hl;omega);have ih' :=ih (i+1) (by omega) hs hb hK;have d2:l.take (i+1)=l.take i++[l[i]]:=by simp
  have hlen:(hO k (l.take i)).length+2*l[i].length<small:=by
   have a1:l.take i++l[i]::l.drop (i+1)=l:=by rw[←vT hi1,List.take_append_drop]
   have a2:=Ji k (l.take i) (l.drop (i+1)) l[i];rw[a1]at a2;omega
  have hlen2:(hO k (l.take i)).length+(Cf l[i]).length+2≤aW:=by
   have:=AJ l[i];unfold small at hlen;unfold aW;omega
  have hin:=qeQ (M:=M) (Q:=Q) (Pm:=Pm) l[i] (l.map fun s=>[.str s]) (l.length:Int) (i:Int);rw[d2,Qm]at ih';rw[aq vj.eq_1];simp[L6,Sf,Ts,h1,eC e1];refine hin _ (hs _ (List.getElem_mem hi1)) l[i].length 0 _ (by omega) (by omega) ?_;simp only[List.drop_zero];simp[eU,bW,aB]at ih';simp[Oj,Nz,e3,eU,bW,aB,hlen2];exact ih'
theorem t227(hp:aG Pm)(k:UInt8)(l:List By)(hl:l.length<small)(hs:∀ s∈l,s.length<small)(hb:(hO k l).length+2*(l.map List.length).sum<small):
  gF ah M Q Pm 227 [.int .u8 k.toNat,.sl 1 (l.map fun s=>[.str s])] [] 0=some (.str (hO k l),[],0):=by
 refine bq hp rfl rfl ?_;have h:=qd5 (M:=M) (Q:=Q) (Pm:=Pm) k l hl (l9 ah M Q Pm v227 (.seq (.region FF) .ret) (kE 0 v227 (.str (hO k l),[],0))) l.length 0 (by omega) hs hb (by simp[FF]);simp[hO,bW,aB]at h;simp[wg,QT,Xn,Sw];exact h
@[simp] theorem qga(h:List Uo)(fl:Nat):cut h.length fl h=h:=by unfold cut;exact pI (oE _ _)
theorem qdh(hp:aG Pm)(h:List Uo)(fl i:Nat)(hi:i<h.length):gF ah M Q Pm 172 [.ptr i 0,.int .u8 105] h fl=some (.ptr i 4,h,fl):=by
 refine bq hp rfl rfl ?_;have hi' :decide (i<h.length)=true:=decide_eq_true hi;simp[fV,pe,o8,o6,qz,r9,tW,KX,hi']
theorem RJ:aD .i64 1=1:=by decide
theorem qeC(hp:aG Pm)(hq:cI Q)(s:By):gF ah M Q Pm 168 [.agg [.int .u8 105,.str [],.str [],.str [],.str s,.int .u64 0,.int .u64 0,.int .u64 0]] [] 0=
  some (.aP [.sl 1 [[.str s]],.agg [.int .u8 105,.str [],.str [],.str [],.str [],.int .u64 0,.int .u64 0,.int .u64 0],.int .i64 0],[],0):=by
 refine bq hp rfl rfl ?_;simp[jd,rQ,q9,hq,qdw hp,rZ,tG,tV];rw[aq b8.eq_1];have h172:=qdh (M:=M) (Q:=Q) hp [.row [.int .u8 105,.str [],.str [],.str [],.str s,.int .u64 0,.int .u64 0,.int .u64 0],.row [.int .u8 0,.str [],.str [],.str [],.str [],.int .u64 0,.int .u64 0,.int .u64 0]] 0 0 (by simp);simp[dc,ej,eu,BX,hq,h172,eo,iR,jl,c9,aW];rw[aq b8.eq_1];simp[dc,bn p9,nE,RJ]
abbrev Zc(s:By):U:=.agg [.int .u8 105,.str [],.str [],.str [],.str s,.int .u64 0,.int .u64 0,.int .u64 0]
theorem qee(hp:aG Pm)(hq:cI Q)(s:By)(hs:s.length<1000):gF ah M Q Pm 166 [Zc s] [] 0=some (.aP [.str (hO 105 [s]),.int .i64 0],[],0):=by
 refine bq hp rfl rfl ?_;have hl:=AJ s;have h227:=t227 (M:=M) (Q:=Q) hp 105 [s] (by unfold small;simp) (by unfold small;simp;omega) (by unfold small;simp[hO];omega);simp at h227;simp[eW,mD,mB,hq,qeC hp hq,mM,nW,D8,h227]
theorem t104(hp:aG Pm)(hq:cI Q)(s:ZG)(k:By)(h:List Uo)(fl i:Nat)(hf:fl≤h.length)(hi:h[i]? =some (.row [.str k])):gF ah M Q Pm 104 [.agg (Qo s),.ptr i 0] h fl=some (.bool (has s.1 s.2 k),h,fl):=by
 refine bq hp rfl rfl ?_;have hlt:=(cz.1 hi).1;have e1:=bl (l:=[Uo.row [.str s.1,.str s.2]]) hi;simp[vV,Sy,Xt,Qo,hq,e1,t58 (hp 58 (by decide) (by decide)),ez hf]
def EJ(l:List ZG)(k:By)(i:Nat):Int:=match l with
 |[]=> -1
 |s::r=>if has s.1 s.2 k=true then(i:Int)else EJ r k (i+1)
theorem V9:∀ (l:List ZG) (k:By) (i:Nat),decide (0≤EJ l k i)=inB l k:=by
 intro l
 induction l with
 |nil=>intro k i;rfl
 |cons s r ih=>
  intro k i;have h1:inB (s::r) k=(has s.1 s.2 k||inB r k):=rfl;have h2:EJ (s::r) k i=if has s.1 s.2 k=true then(i:Int)else EJ r k (i+1):=rfl
  rw[h1,h2];by_cases hk:has s.1 s.2 k=true
  ·rw[if_pos hk,hk];simp
  ·rw[if_neg hk,ih k (i+1)];simp at hk;rw[hk];rfl
theorem qej(hp:aG Pm)(hq:cI Q)(l:List ZG)(k:By)(hl:l.length<small)(h:List Uo)(fl p:Nat)(hf:fl≤h.length)(hi:h[p]? =some (.row [.str k])):∀ (j i:Nat),i+j=l.length→
  gL ah M Q Pm Ci 0 yP h.length ⟨[(8,.int .i64 (i:Int)),(0,.sl 2 (l.map Qo)),(1,.func 104 [] [.ptr p 0]),(7,.int .i64 (l.length:Int))],h,fl⟩ (l9 ah M Q Pm Ci (.seq (.region Ao) .ret) (kE h.length Ci (.int .i64 (EJ (l.drop i) k i),h,fl))):=by
 have hlt:=(cz.1 hi).1;have hlt' :decide (p<h.length)=true:=decide_eq_true hlt;intro j
 induction j with
 |zero=>
  intro i hij;have h1:¬((i:Int)<(l.length:Int)):=by omega
  have h2:l.drop i=[]:=tN (by omega);rw[aq yP.eq_1,h2];simp[Ee,h1,Ao,EJ]
 |succ j ih=>
  intro i hij;have h1:((i:Int)<(l.length:Int)):=by omega
  have hi1:i<l.length:=by omega
  have e1:(l.map Qo)[i]? =some (Qo l[i]):=by simp[hi1]
  have e3:aD .i64 ((i:Int)+1)=((i+1:Nat):Int):=cj (by unfold small at hl;omega);have d1:l.drop i=l[i]::l.drop (i+1):=vT hi1;have ih' :=ih (i+1) (by omega);have c104:=t104 (M:=M) hp hq l[i] k h fl p hf hi;rw[aq yP.eq_1,d1];cases hk:has l[i].1 l[i].2 k with
  |true=>
   rw[hk]at c104;simp[Qo]at c104;simp[Ee,Kf,I0,RS,h1,eC e1,Qo,hq,c104,EJ,hk,hlt']
  |false=>
   rw[hk]at c104;simp[Qo]at c104;simp[Ao]at ih';simp[Ee,Kf,I0,Xk,h1,eC e1,Qo,hq,c104,EJ,hk,hlt',e3,Ao];exact ih'
theorem t165(hp:aG Pm)(hq:cI Q)(l:List ZG)(k:By)(hl:l.length<small)(h:List Uo)(fl p:Nat)(hf:fl≤h.length)(hi:h[p]? =some (.row [.str k])):
  gF ah M Q Pm 165 [.sl 2 (l.map Qo),.func 104 [] [.ptr p 0]] h fl=some (.int .i64 (EJ l k 0),h,fl):=by
 refine bq hp rfl rfl ?_;have h1:=qej (M:=M) hp hq l k hl h fl p hf hi l.length 0 (by omega);have hlt' :decide (p<h.length)=true:=decide_eq_true (cz.1 hi).1;simp only[List.drop_zero]at h1;simp[wX,Un,Vv,hlt'];exact h1
theorem t103(hp:aG Pm)(hq:cI Q)(l:List ZG)(k:By)(hl:l.length<small)(h:List Uo)(fl p:Nat)(hf:fl≤h.length)(hi:h[p]? =some (.row [.str k])):
  gF ah M Q Pm 103 [.sl 2 (l.map Qo),.func 104 [] [.ptr p 0]] h fl=some (.bool (inB l k),h,fl):=by
 refine bq hp rfl rfl ?_;have hlt' :decide (p<h.length)=true:=decide_eq_true (cz.1 hi).1;simp[wV,QK,Tw,hq,hlt',t165 hp hq l k hl h fl p hf hi];exact V9 l k 0
theorem t59(hp:aG Pm)(hq:cI Q)(l:List ZG)(k:By)(hl:l.length<small):gF ah M Q Pm 59 [.sl 2 (l.map Qo),.str k] [] 0=some (.bool (inB l k),[],0):=by
 refine bq hp rfl rfl ?_;simp[zm,qay,qbw,hq,t103 hp hq l k hl [.row [.str k]] 0 0 (by simp) rfl]
theorem t60(hp:aG Pm)(lo hi:By):gF ah M Q Pm 60 [.str lo,.str hi] [] 0=some (.iface 45 (.agg [.str lo,.str hi]),[],0):=by
 refine bq hp rfl rfl ?_;simp[AP,qcy,qa1]
def C3:List Uo:=[.map [] 0,.row [.map 0],.map [] 0,.row [.ptr 1 0,.map 2,.nl 2],.map [] 0,.row [.iface 58 (.ptr 3 0),.map 4]]
theorem t25(hp:aG Pm)(hq:cI Q)(hc:Pm 49=some bU):gF ah M Q Pm 25 [] [] 0=some (.ptr 3 0,[.map [] 0,.row [.map 0],.map [] 0,.row [.ptr 1 0,.map 2,.nl 2]],0):=by
 refine bq hp rfl rfl ?_;have h44:=t44 (M:=M) hp hq hc [] (by decide) (fun p hp=>by cases hp);simp[dX]at h44;simp[Aj,qbj,qcx,hq,h44,tX]
theorem t33(hp:aG Pm):gF ah M Q Pm 33 [.iface 58 (.ptr 3 0)] [.map [] 0,.row [.map 0],.map [] 0,.row [.ptr 1 0,.map 2,.nl 2]] 0=some (.ptr 5 0,C3,0):=by
 refine bq hp rfl rfl ?_;simp[uf,W4,W7,Rv,C3]
def zI:Uo:=.row [.str [],.int .u64 0,.int .i64 0,.str [],.int .u64 0]
def rI(s:By):Uo:=.row [.int .u8 105,.str [],.str [],.str [],.str s,.int .u64 0,.int .u64 0,.int .u64 0]
def Nu(s:By):List Uo:=[.map [] 0,.row [.map 0],.map [] 0,.row [.ptr 1 0,.map 2,.nl 2],.map [] 0,.row [.iface 58 (.ptr 3 0),.map 4],zI,rI s,zI,zI,rI s]
def Mi(s:By):List Uo:=[.map [] 0,.row [.map 0],.map [] 0,.row [.ptr 1 0,.map 2,.nl 2],.map [] 0,.row [.iface 58 (.ptr 3 0),.map 4],zI,rI s,zI,zI,rI s,.row [.bool false,.sl 1 []]]
def nN(s k:By):List Uo:=[.map [] 0,.row [.map 0],.map [] 0,.row [.ptr 1 0,.map 2,.nl 2],.map [] 0,.row [.iface 58 (.ptr 3 0),.map 4],zI,rI s,zI,zI,rI s,.row [.bool false,.sl 1 []],.row [.str [105],.iface 45 (.agg [.str k,.str k])]]
theorem qdN(hp:aG Pm)(hq:cI Q)(s:By)(hs:s.length<1000):gF ah M Q Pm 105 [.ptr 5 0,Zc s] (Nu s) 0=some (.aP [.str (hO 105 [s]),.aK],Nu s,0):=by
 refine bq hp rfl rfl ?_;have h106:=SV (M:=M) hp hq 105;simp at h106;simp[p8,EY,Fc,ET,Nu,zI,rI,hq,qee hp hq s hs,bn EC,yf,Ws hp,h106,hY];rfl
theorem qhg(hp:aG Pm)(hq:cI Q)(s k:By):gF ah M Q Pm 28 [.ptr 3 0,.str k] (Mi s) 0=some (.aP [.sl 1 [],.bool false,.iface 45 (.agg [.str k,.str k])],Mi s,0):=by
 refine bq hp rfl rfl ?_;have h59:=t59 (M:=M) hp hq [] k (by decide);simp[inB]at h59;simp[BF,qaD,qaO,qav,Mi,zI,rI,hq,h59,t60 hp,fO,jt,bR,U.Pz,plainKey];rfl
theorem qeN(hp:aG Pm)(hq:cI Q)(b:UInt8)(k:By):gF ah M Q Pm 106 [.int .u8 b.toNat,.iface 45 (.agg [.str k,.str k])] [] 0=some (.iface 191 (.ptr 0 0),[.row [.str [b],.iface 45 (.agg [.str k,.str k])]],0):=by
 refine bq hp rfl rfl ?_;simp[nv,Aq,Ah,hq,pJ,kr,iQ,t167 hp [b] 45 (.agg [.str k,.str k]) (by simp)]
theorem qgk(hp:aG Pm)(hq:cI Q)(hm:M 58 "Get" =some 28)(s:By)(hs:s.length<1000):gF ah M Q Pm 64 [.ptr 5 0,Zc s] [.map [] 0,.row [.map 0],.map [] 0,.row [.ptr 1 0,.map 2,.nl 2],.map [] 0,.row [.iface 58 (.ptr 3 0),.map 4],zI,rI s,zI,zI] 0=
  some (.aP [.sl 1 [],.bool false,.iface 191 (.ptr 12 0)],nN s (hO 105 [s]),0):=by
 refine bq hp rfl rfl ?_;have h105:=qdN (M:=M) hp hq s hs;have h28:=qhg (M:=M) hp hq s (hO 105 [s]);have h106:=qeN (M:=M) hp hq 105 (hO 105 [s]);simp[Nu,Mi,zI,rI]at h105 h28 h106;generalize hO 105 [s]=k at*;simp[mg,A0,zC,Bf,CF,CS,GR,Hg,Q0,nN,zI,rI,hq,hm,h105,h28,h106,fO,jt,bR,U.Pz,plainKey]
theorem qik(hp:aG Pm)(hq:cI Q)(hm:M 58 "Get" =some 28)(s:By)(hs:s.length<1000):gF ah M Q Pm 98 [.ptr 5 0,Zc s,.func 100 [] []] [.map [] 0,.row [.map 0],.map [] 0,.row [.ptr 1 0,.map 2,.nl 2],.map [] 0,.row [.iface 58 (.ptr 3 0),.map 4],zI] 0=
  some (.aP [.agg [.str [],.int .u64 0,.int .i64 0,.str [],.int .u64 0],.bool false,.iface 191 (.ptr 12 0)],nN s (hO 105 [s]),0):=by
 refine bq hp rfl rfl ?_;have h64:=qgk (M:=M) hp hq hm s hs;simp[nN,zI,rI]at h64;generalize hO 105 [s]=k at*;simp[og,Dz,CT,C8,DA,Oa,nN,zI,rI,hq,h64]
theorem qgt(hp:aG Pm)(hq:cI Q)(hm:M 58 "Get" =some 28)(s:By)(hs:s.length<1000):gF ah M Q Pm 42 [.ptr 5 0,.str s] C3 0=
  some (.aP [.agg [.str [],.int .u64 0,.int .i64 0,.str [],.int .u64 0],.bool false,.iface 191 (.ptr 12 0)],nN s (hO 105 [s]),0):=by
 refine bq hp rfl rfl ?_;have h98:=qik (M:=M) hp hq hm s hs;simp[nN,zI,rI]at h98;generalize hO 105 [s]=k at*;simp[p6,GD,GK,nN,zI,rI,C3,hq,t99 hp,h98]
def MF:Nat→U→Bool
 |45,.agg [.str _,.str _]=>true
 |43,.int .i64 _=>true
 |191,.ptr _ _=>true
 |_,_=>false
def gi(h:List Uo)(tt:Nat):Nat→U→Option (Option U)
 |0,_=>none
 |n+1,.iface t v=>bif Nat.beq t tt then(bif MF tt v then some (some v)else none)else
  bif Nat.beq t 43||Nat.beq t 45 then some none else
  bif Nat.beq t 191 then(match v with
   | .ptr i 0=>(match h[i]? with
    |some (.row [.str _,.aK])=>some none
    |some (.row [.str _,.iface t' v'])=>gi h tt n (.iface t' v')
    |_=>none)
   |_=>none)else none
 |_+1,_=>none
def asG(h:List Uo)(tt n:Nat):Option Uo→Option (Option U)
 |some (.row [.str _,.aK])=>some none
 |some (.row [.str _,.iface t' v'])=>gi h tt n (.iface t' v')
 |_=>none
section
variable{h:List Uo}{n:Nat}{v:U}{p:By}{t i:Nat}
@[simp] theorem qjt{tt:Nat}:asG h tt n (some (.row [.str p,.aK]))=some none:=rfl
@[simp] theorem qlb{tt:Nat}:asG h tt n (some (.row [.str p,.iface t v]))=gi h tt n (.iface t v):=rfl
@[simp] theorem qe3{o:Nat}:gi h 191 (n+1) (.iface 191 (.ptr i o))=some (some (.ptr i o)):=rfl
@[simp] theorem qeZ{q:By}:gi h 45 (n+1) (.iface 45 (.agg [.str p,.str q]))=some (some (.agg [.str p,.str q])):=rfl
@[simp] theorem qfN{k:Int}:gi h 43 (n+1) (.iface 43 (.int .i64 k))=some (some (.int .i64 k)):=rfl
@[simp] theorem qfH:gi h 191 (n+1) (.iface 45 v)=some none:=rfl
@[simp] theorem qfu:gi h 191 (n+1) (.iface 43 v)=some none:=rfl
@[simp] theorem qfK:gi h 45 (n+1) (.iface 43 v)=some none:=rfl
@[simp] theorem qfe:gi h 43 (n+1) (.iface 45 v)=some none:=rfl
@[simp] theorem qfR:gi h 45 (n+1) (.iface 191 (.ptr i 0))=asG h 45 n h[i]? :=rfl
@[simp] theorem qfG:gi h 43 (n+1) (.iface 191 (.ptr i 0))=asG h 43 n h[i]? :=rfl
end
def rR:Nat→Option Nat
 |187=>some 45
 |192=>some 191
 |197=>some 43
 |_=>none
@[simp] theorem qgg:rR 187=some 45:=rfl
@[simp] theorem qgY:rR 192=some 191:=rfl
@[simp] theorem qiy:rR 197=some 43:=rfl
def A9(h:List Uo)(fl j:Nat)(cs:List U):Option (Option U)→Option (U×List Uo×Nat)
 |some none=>some (.bool false,h,fl)
 |some (some v)=>bif Nat.beq v.cells.length cs.length&&v.cells.all U.aL then some (.bool true,h.set j (.row v.cells),bif v.low (j+1)then fl else h.length)else none
 |none=>none
@[simp] theorem qg6(h:List Uo)(fl j:Nat)(cs:List U):A9 h fl j cs (some none)=some (.bool false,h,fl):=rfl
@[simp] theorem qeb(h:List Uo)(fl j:Nat)(cs:List U)(v:U):A9 h fl j cs (some (some v))=bif Nat.beq v.cells.length cs.length&&v.cells.all U.aL then some (.bool true,h.set j (.row v.cells),bif v.low (j+1)then fl else h.length)else none:=rfl
def asT(h:List Uo)(fl j:Nat)(e:U):Option Uo→Option Nat→Option (U×List Uo×Nat)
 |some (.row cs),some tt=>A9 h fl j cs (gi h tt 64 e)
 |_,_=>none
@[simp] theorem qgW(h:List Uo)(fl j:Nat)(e:U)(cs:List U)(tt:Nat):asT h fl j e (some (.row cs)) (some tt)=A9 h fl j cs (gi h tt (63+1) e):=rfl
def pq:List U→List Uo→Nat→Option (U×List Uo×Nat)
 |[.aK,.iface _ _],h,fl=>some (.bool false,h,fl)
 |[.iface t v,.iface tp (.ptr j 0)],h,fl=>asT h fl j (.iface t v) h[j]? (rR tp)
 |_,_,_=>none
@[simp] theorem qjE(t:Nat)(v:U)(h:List Uo)(fl:Nat):pq [.aK,.iface t v] h fl=some (.bool false,h,fl):=rfl
@[simp] theorem ql2(t tp j:Nat)(v:U)(h:List Uo)(fl:Nat):pq [.iface t v,.iface tp (.ptr j 0)] h fl=asT h fl j (.iface t v) h[j]? (rR tp):=rfl
theorem t97(ha:Pm 97=some pq)(us:List U)(h:List Uo)(fl:Nat):gF ah M Q Pm 97 us h fl=pq us h fl:=by rw[On ha]
theorem qjl(hp:aG Pm)(hq:cI Q)(ha:Pm 97=some pq)(s k:By)(X:Uo):gF ah M Q Pm 41 [.iface 191 (.ptr 12 0)] (nN s k++[X]) 0=some (.aP [.agg [.str k,.str k],.bool true],nN s k++[X],0):=by
 refine bq hp rfl rfl ?_;simp[rW,MW,Oc,Nw,OG,nN,zI,rI,hq,t97 ha];rfl
theorem qhV(hp:aG Pm)(hq:cI Q)(ha:Pm 97=some pq)(s k:By)(X Y:Uo):gF ah M Q Pm 43 [.iface 191 (.ptr 12 0)] (nN s k++[X,Y]) 0=some (.own .r 1 [[.str [105]]],nN s k++[X,Y],0):=by
 refine bq hp rfl rfl ?_;simp[qY,Nh,NA,Nf,nN,zI,rI];rw[aq tP.eq_1];simp[BA,Mo,Ns,hq,t97 ha,aW,cut];rw[aq tP.eq_1];simp[BA,Ol,hq,t97 ha,cut]
theorem t11(hp:aG Pm)(hq:cI Q)(hc:Pm 49=some bU)(ha:Pm 97=some pq)(hm:M 58 "Get" =some 28):gF ah M Q Pm 11 [] [] 0=some (.bool true,[],0):=by
 refine bq hp rfl rfl ?_;have h42:=qgt (M:=M) hp hq hm [97] (by decide);have hk:hO 105 [[97]]=[105,97,0,1]:=by decide
 rw[hk]at h42;have h33:=t33 (M:=M) (Q:=Q) hp;have h41:=qjl (M:=M) hp hq ha [97] [105,97,0,1] zI;have h43:=qhV (M:=M) hp hq ha [97] [105,97,0,1] zI (.row [.str [105,97,0,1],.str [105,97,0,1]]);simp[nN,zI,rI,C3]at h42 h33 h41 h43;simp[zU,qa4,qcw,qbS,qbf,qcv,qbo,qbm,hq,t25 hp hq hc,h33,h42,h41,h43,C3,tX]
theorem aV(b:Bool):b=false∨b=true:=by cases b<;>simp
abbrev Les:=ZG×List Pr
theorem qjs(hp:aG Pm):gF ah M Q Pm 61 [.sl 1 [],.sl 1 []] [] 0=some (.bool true,[],0):=by
 refine bq hp rfl rfl ?_;simp[uY,Tc,Wb,Q8,BC];rw[aq D0.eq_1];simp[Mj,BC]
def sj:List (UInt8×By):=[(109,[110,107,105,116,111]),(115,[110,105,116,111]),(122,[97,105,116,111]),(97,[105,116,111]),(107,[110,105,116]),(116,[105,116]),(105,[105]),(118,[105,110]),(98,[110,107,100]),(101,[110,97]),(100,[110]),(99,[])]
def oq(k:UInt8):Option By:=(sj.find? fun x=>x.1==k).map (·.2)
theorem t171(hp:aG Pm)(k:UInt8):gF ah M Q Pm 171 [.int .u8 k.toNat] [] 0=some (.aP [.str ((oq k).getD []),.bool (oq k).isSome],[],0):=by
 by_cases h109:k=109
 ·subst h109;refine bq hp rfl rfl ?_;simp[dH,jX,jP,jW,jU,j3,jQ,jO,kf,j0,ke,gu,gj,gh,gp,gl,jc,jo,jb,iX,jr,jf,iU,jj,gR,jg,iZ,ji,iP,jh,gV,oq,sj,aW]
 by_cases h115:k=115
 ·subst h115;refine bq hp rfl rfl ?_;simp[dH,jX,jP,jW,jU,j3,jQ,jO,kf,j0,ke,gu,gj,gh,gp,gl,jc,jo,jb,iX,jr,jf,iU,jj,gR,jg,iZ,ji,iP,jh,gV,oq,sj,aW]
 by_cases h122:k=122
 ·subst h122;refine bq hp rfl rfl ?_;simp[dH,jX,jP,jW,jU,j3,jQ,jO,kf,j0,ke,gu,gj,gh,gp,gl,jc,jo,jb,iX,jr,jf,iU,jj,gR,jg,iZ,ji,iP,jh,gV,oq,sj,aW]
 by_cases h97:k=97
 ·subst h97;refine bq hp rfl rfl ?_;simp[dH,jX,jP,jW,jU,j3,jQ,jO,kf,j0,ke,gu,gj,gh,gp,gl,jc,jo,jb,iX,jr,jf,iU,jj,gR,jg,iZ,ji,iP,jh,gV,oq,sj,aW]
 by_cases h107:k=107
 ·subst h107;refine bq hp rfl rfl ?_;simp[dH,jX,jP,jW,jU,j3,jQ,jO,kf,j0,ke,gu,gj,gh,gp,gl,jc,jo,jb,iX,jr,jf,iU,jj,gR,jg,iZ,ji,iP,jh,gV,oq,sj,aW]
 by_cases h116:k=116
 ·subst h116;refine bq hp rfl rfl ?_;simp[dH,jX,jP,jW,jU,j3,jQ,jO,kf,j0,ke,gu,gj,gh,gp,gl,jc,jo,jb,iX,jr,jf,iU,jj,gR,jg,iZ,ji,iP,jh,gV,oq,sj,aW]
 by_cases h105:k=105
 ·subst h105;refine bq hp rfl rfl ?_;simp[dH,jX,jP,jW,jU,j3,jQ,jO,kf,j0,ke,gu,gj,gh,gp,gl,jc,jo,jb,iX,jr,jf,iU,jj,gR,jg,iZ,ji,iP,jh,gV,oq,sj,aW]
 by_cases h118:k=118
 ·subst h118;refine bq hp rfl rfl ?_;simp[dH,jX,jP,jW,jU,j3,jQ,jO,kf,j0,ke,gu,gj,gh,gp,gl,jc,jo,jb,iX,jr,jf,iU,jj,gR,jg,iZ,ji,iP,jh,gV,oq,sj,aW]
 by_cases h98:k=98
 ·subst h98;refine bq hp rfl rfl ?_;simp[dH,jX,jP,jW,jU,j3,jQ,jO,kf,j0,ke,gu,gj,gh,gp,gl,jc,jo,jb,iX,jr,jf,iU,jj,gR,jg,iZ,ji,iP,jh,gV,oq,sj,aW]
 by_cases h101:k=101
 ·subst h101;refine bq hp rfl rfl ?_;simp[dH,jX,jP,jW,jU,j3,jQ,jO,kf,j0,ke,gu,gj,gh,gp,gl,jc,jo,jb,iX,jr,jf,iU,jj,gR,jg,iZ,ji,iP,jh,gV,oq,sj,aW]
 by_cases h100:k=100
 ·subst h100;refine bq hp rfl rfl ?_;simp[dH,jX,jP,jW,jU,j3,jQ,jO,kf,j0,ke,gu,gj,gh,gp,gl,jc,jo,jb,iX,jr,jf,iU,jj,gR,jg,iZ,ji,iP,jh,gV,oq,sj,aW]
 by_cases h99:k=99
 ·subst h99;refine bq hp rfl rfl ?_;simp[dH,jX,jP,jW,jU,j3,jQ,jO,kf,j0,ke,gu,gj,gh,gp,gl,jc,jo,jb,iX,jr,jf,iU,jj,gR,jg,iZ,ji,iP,jh,gV,oq,sj,aW]
 have ne:∀ j:UInt8,k≠j→((k.toNat:Int)==(j.toNat:Int))=false:=fun j h=>by
  rw[beq_eq_false_iff_ne];intro hh;exact h (UInt8.toNat_inj.1 (Int.ofNat_inj.1 hh))
 have e109:=ne 109 h109;have e115:=ne 115 h115;have e122:=ne 122 h122;have e97:=ne 97 h97;have e107:=ne 107 h107;have e116:=ne 116 h116;have e105:=ne 105 h105;have e118:=ne 118 h118;have e98:=ne 98 h98;have e101:=ne 101 h101;have e100:=ne 100 h100;have e99:=ne 99 h99;simp at e109 e115 e122 e97 e107 e116 e105 e118 e98 e101 e100 e99;refine bq hp rfl rfl ?_;simp[dH,jX,jP,jW,jU,j3,jQ,jO,kf,j0,ke,gu,gj,gh,gp,gl,gV,oq,sj,e109,Ne.symm h109,e115,Ne.symm h115,e122,Ne.symm h122,e97,Ne.symm h97,e107,Ne.symm h107,e116,Ne.symm h116,e105,Ne.symm h105,e118,Ne.symm h118,e98,Ne.symm h98,e101,Ne.symm h101,e100,Ne.symm h100,e99,Ne.symm h99]
structure Rf where
 k:UInt8
 name:By
 key:By
 id:By
 inst:By
 tok:Int
 node:Int
 at_:Int
def vI(r:Rf):List U:=[.int .u8 r.k.toNat,.str r.name,.str r.key,.str r.id,.str r.inst,.int .u64 r.tok,.int .u64 r.node,.int .u64 r.at_]
theorem od(hp:aG Pm)(hq:cI Q)(b:UInt8)(n:Int):gF ah M Q Pm 106 [.int .u8 b.toNat,.iface 43 (.int .i64 n)] [] 0=some (.iface 191 (.ptr 0 0),[.row [.str [b],.iface 43 (.int .i64 n)]],0):=by
 refine bq hp rfl rfl ?_;simp[nv,Aq,Ah,hq,pJ,kr,iQ,t167 hp [b] 43 (.int .i64 n) (by simp)]
@[simp] theorem qjR(n k:Nat):decide (n+k<n)=false:=decide_eq_false (by omega)
@[simp] theorem qii(n k j:Nat):decide (n+k+j<n)=false:=decide_eq_false (by omega)
theorem l7{i:Nat}{h:List Uo}{o:Uo}(hi:h[i]? =some o)(k:Nat):decide (i<h.length+k)=true:=decide_eq_true (by have:=(cz.1 hi).1;omega)
def Kz(s:By)(t:Int):Rf:=⟨116,[],[],[],s,t,0,0⟩
def Ik(s:By)(t n:Int):Rf:=⟨97,[],[],[],s,t,n,0⟩
def Kg(s n:By):Rf:=⟨118,n,[],[],s,0,0,0⟩
def bt:List U:=[.str [],.int .u64 0,.int .i64 0,.str [],.int .u64 0]
def c8:List U:=[.int .i64 0,.int .u64 0,.int .i64 0]
def bP:List U:=[.int .i64 0,.str [],.str [],.int .u64 0]
def eD:List U:=[.int .i64 0,.int .i64 0,.str []]
theorem t113(hp:aG Pm)(s:By)(t:Int):gF ah M Q Pm 113 [.str s,.int .u64 t] [] 0=some (.agg (vI (Kz s t)),[],0):=by
 refine bq hp rfl rfl ?_;simp[xA,WM,Wc,vI,Kz]
theorem t116(hp:aG Pm)(s:By)(t n:Int):gF ah M Q Pm 116 [.str s,.int .u64 t,.int .u64 n] [] 0=some (.agg (vI (Ik s t n)),[],0):=by
 refine bq hp rfl rfl ?_;simp[we,SE,RB,vI,Ik]
theorem t119(hp:aG Pm)(s n:By):gF ah M Q Pm 119 [.str s,.str n] [] 0=some (.agg (vI (Kg s n)),[],0):=by
 refine bq hp rfl rfl ?_;simp[wF,Xf,Sh,vI,Kg]
structure Vr where
 name:By
 kind:Int
 n:Int
 s:By
def nG(x:Vr):List U:=[.str x.name,.int .i64 x.kind,.int .i64 x.n,.str x.s]
structure Ar where
 kind:Int
 name:By
 key:By
 due:Int
def bV(x:Ar):List U:=[.int .i64 x.kind,.str x.name,.str x.key,.int .u64 x.due]
def or8(x y:Int):Int:=aD .u8 (BitVec.ofInt 8 x|||BitVec.ofInt 8 y).toNat
@[simp] theorem qgz(ek:fD)(x y:Int):cU .or ek (.int .u8 x) (.int .u8 y)=some (.int .u8 (or8 x y)):=rfl
@[simp] theorem qfr(ek:fD)(n:Nat):cU .shr ek (.int .u64 (n:Int)) (.int .u64 7)=some (.int .u64 ((n / 128:Nat):Int)):=by
 have h1:cU .shr ek (.int .u64 (n:Int)) (.int .u64 7)=some (.int .u64 ((n:Int).fdiv 128)):=rfl;rw[h1,Int.fdiv_eq_ediv_of_nonneg _ (by decide)];rfl
def msV(d:Nat)(s:Vs)(w bytes:Nat)(zero:List V):Option U→Option U→Option (U×Vs)
 |some l,some c=>(match gJ c aW with
   |some c=>(match gJ l c with
    |some l=>bif Nat.ble (c*bytes) aW&&Nat.beq zero.length w&&U.bX 0 (V.cY zero)&&(V.cY zero).all U.aL then some (.own (.t d) w (jq (V.cY zero) l),s.kill (.t d))else none
    |none=>none)
   |none=>none)
 |_,_=>none
@[simp] theorem X4(d:Nat)(s:Vs)(w bytes:Nat)(zero:List V)(len cap:bB):yq d s (.makeSlice w bytes zero len cap)=msV d s w bytes zero (ck s.e len) (ck s.e cap):=by
 simp only[yq];cases ck s.e len with
 |none=>rfl
 |some l=>cases ck s.e cap<;>rfl
theorem qgH(d:Nat)(s:Vs)(n:Nat)(hn:n≤aW):msV d s 1 1 [.int .u8 0] (some (.int .i64 0)) (some (.int .i64 (n:Int)))=some (.own (.t d) 1 [],s.kill (.t d)):=by
 have h1:gJ (.int .i64 (n:Int)) aW=some n:=by
  show asNat (.int .i64 (n:Int)) aW=some n;simp only[asNat];rw[if_pos ⟨Int.natCast_nonneg n,Int.ofNat_le.2 hn⟩];rfl
 have h2:gJ (.int .i64 0) n=some 0:=by
  show asNat (.int .i64 0) n=some 0;simp only[asNat];rw[if_pos ⟨by decide,Int.natCast_nonneg n⟩];rfl
 simp only[msV,h1,h2,Nat.mul_one,tD hn,Bool.true_and];rfl
theorem qiK(d:Nat)(s:Vs):msV d s 1 1 [.int .u8 0] (some (.int .i64 0)) (some (.int .i64 10))=some (.own (.t d) 1 [],s.kill (.t d)):=qgH d s 10 (by decide)
theorem qa6(n:Int):aD .u8 n=n % 256:=by
 rw[gy];unfold IntKind.wrap;simp[IntKind.bits,IntKind.signed]
def byteOf(x:Int):UInt8:=UInt8.ofNat x.toNat
theorem xh{x:Int}(h0:0≤x)(h1:x<256):((byteOf x).toNat:Int)=x:=by
 unfold byteOf;have e1:(UInt8.ofNat x.toNat).toNat=x.toNat % 256:=UInt8.toNat_ofNat';rw[e1];omega
def Ab(n:Int):UInt8:=byteOf (aD .u8 n)
def hiB(n:Int):UInt8:=byteOf (or8 (aD .u8 n) 128)
theorem tY(n:Int):aD .u8 n=((Ab n).toNat:Int):=by
 unfold Ab;rw[xh]<;>rw[qa6]<;>omega
theorem qhL(n:Int):or8 (aD .u8 n) 128=((hiB n).toNat:Int):=by
 unfold hiB;rw[xh]<;>(unfold or8;rw[qa6];omega)
def preB:Nat→Nat→By×Nat
 |0,n=>([],n)
 |j+1,n=>if n<128 then([],n)else(hiB n::(preB j (n / 128)).1,(preB j (n / 128)).2)
def yb(n:Nat):By:=(preB 9 n).1++[Ab (preB 9 n).2]
theorem Nq:∀ j n,(preB j n).1.length≤j:=by
 intro j
 induction j with
 |zero=>intro n;simp[preB]
 |succ j ih=>intro n;simp only[preB];split<;>simp;exact ih _
theorem iT(n:Nat):(yb n).length≤10:=by have:=Nq 9 n;simp[yb];omega
theorem qeh(K:Ex→Vs→Prop):∀ (j n:Nat) (acc:By),n<128 ^ (j+1)→n<18446744073709551616→acc.length+j<100→
  K .normal ⟨[(0,.int .u64 ((preB j n).2:Int)),(3,.own (.t 3) 1 (az (acc++(preB j n).1)))],[],0⟩→
  gL ah M Q Pm B4 0 yA 0 ⟨[(0,.int .u64 (n:Int)),(3,.own (.t 3) 1 (az acc))],[],0⟩ K:=by
 intro j
 induction j with
 |zero=>
  intro n acc h1 h2 ha hK;have hg:¬(128:Int)≤(n:Int):=by omega
  rw[aq yA.eq_1];simp[preB]at hK;simp[EX,hg,hK]
 |succ j ih=>
  intro n acc h1 h2 ha hK;rw[aq yA.eq_1];by_cases hn:n<128
  ·have hg:¬(128:Int)≤(n:Int):=by omega
   simp[preB,hn]at hK;simp[EX,hg,hK]
  ·have hg:(128:Int)≤(n:Int):=by omega
   have hd:n / 128<128 ^ (j+1):=by
    rw[Nat.div_lt_iff_lt_mul (by omega)];rw[Nat.pow_succ]at h1;exact h1
   have ih' :=ih (n / 128) (acc++[hiB n]) hd (by omega) (by simp;omega) (by simp[preB,hn]at hK;simpa using hK);have hb:acc.length+1≤1099511627776:=by omega
   simp[eU,bW,aB]at ih';simp[EX,TW,WZ,hg,aW,qhL,hb];exact ih'
theorem t191(hp:aG Pm)(n:Nat)(hn:n<18446744073709551616):gF ah M Q Pm 191 [.int .u64 (n:Int)] [] 0=some (.own .r 1 (az (yb n)),[],0):=by
 refine bq hp rfl rfl ?_;have hl:=Nq 9 n;have hb:(preB 9 n).1.length+1≤1099511627776:=by omega
 have a:=qeh (M:=M) (Q:=Q) (Pm:=Pm) (l9 ah M Q Pm B4 (.seq (.region Jj) .ret) (kE 0 B4 (.own .r 1 (az (yb n)),[],0))) 9 n [] (by omega) hn (by simp) (by simp[Jj,tY,yb,eU,bW,aB,aW,hb]);simp[aB]at a;simp[wD,Q3,Ue,qiK];exact a
theorem GI(ek:fD)(n k:Nat)(hk:k≤64):cU .shr ek (.int .u64 (n:Int)) (.int .u64 (k:Int))=some (.int .u64 ((n / 2 ^ k:Nat):Int)):=by
 have h1:cU .shr ek (.int .u64 (n:Int)) (.int .u64 (k:Int))=some (.int .u64 ((n:Int).fdiv (2 ^ (min k 64)))):=by
  simp only[cU,xw,Int.toNat_natCast,IntKind.bits];rw[if_neg (by omega)]
 rw[h1,Nat.min_eq_left hk,Int.fdiv_eq_ediv_of_nonneg _ (by exact_mod_cast kN (2 ^ k))];simp
@[simp] theorem qhq(ek:fD)(k:IntKind)(x y:Int):cU .mul ek (.int k x) (.int k y)=some (.int k (aD k (x*y))):=by simp[cU,kW]
theorem Jf(ek:fD)(n:Nat)(hn:n<18446744073709551616):cU .and ek (.int .u64 (n:Int)) (.int .u64 15)=some (.int .u64 ((n % 16:Nat):Int)):=by
 have h1:cU .and ek (.int .u64 (n:Int)) (.int .u64 15)=some (.int .u64 (aD .u64 (BitVec.ofInt 64 (n:Int)&&&BitVec.ofInt 64 15).toNat)):=rfl;have h2:(BitVec.ofInt 64 (n:Int)&&&BitVec.ofInt 64 15).toNat=n % 16:=by
  rw[BitVec.toNat_and];have a:(BitVec.ofInt 64 (n:Int)).toNat=n:=by simp;omega
  have b:(BitVec.ofInt 64 15).toNat=2 ^ 4 - 1:=by decide
  rw[a,b,Nat.and_two_pow_sub_one_eq_mod]
 rw[h1,h2];congr 2;rw[gy,mZ]<;>simp[IntKind.signed,IntKind.bits]<;>omega
def qeF:By:=[48,49,50,51,52,53,54,55,56,57,97,98,99,100,101,102]
def qdK(d:Nat):UInt8:=qeF.getD d 0
theorem qea(n:Nat):qeF[n % 16]? =some (qdK (n % 16)):=by
 have h:n % 16<16:=Nat.mod_lt _ (by decide);have hl:qeF.length=16:=rfl;rw[dm (by rw[hl];exact h)];simp[qdK,List.getD_eq_getElem?_getD];rw[dm (by rw[hl];exact h)];rfl
def dgN(n k:Nat):Nat:=n / 2 ^ k % 16
def Gf(n k:Nat):Nat:=n / 2 ^ k
def rH(n k:Nat):UInt8:=qdK (dgN n k)
def qN(n:Nat):By:=[rH n 60,rH n 56,rH n 52,rH n 48,rH n 44,rH n 40,rH n 36,rH n 32,rH n 28,rH n 24,rH n 20,rH n 16,rH n 12,rH n 8,rH n 4,rH n 0]
theorem tf(n k:Nat)(hk:k≤64):cU .shr .no (.int .u64 (n:Int)) (.int .u64 (k:Int))=some (.int .u64 (Gf n k:Int)):=GI .no n k hk
theorem qkd(n k:Nat)(hn:n<18446744073709551616):cU .and .no (.int .u64 (Gf n k:Int)) (.int .u64 15)=some (.int .u64 (dgN n k:Int)):=Jf .no _ (Nat.lt_of_le_of_lt (Nat.div_le_self _ _) hn)
theorem tg(s:Vs)(n k:Nat):BX s [48,49,50,51,52,53,54,55,56,57,97,98,99,100,101,102] (dgN n k:Int)=some (.int .u8 ((rH n k).toNat:Int),s):=cR (s:=s) (qea (n / 2 ^ k))
set_option maxHeartbeats 4000000 in
set_option maxRecDepth 10000 in
theorem t228(hp:aG Pm)(n:Nat)(hn:n<18446744073709551616):gF ah M Q Pm 228 [.int .u64 (n:Int)] [] 0=some (.str (qN n),[],0):=by
 refine bq hp rfl rfl ?_;have an:=fun k=>qkd n k hn;have wi0:aD .i64 (0:Int)=0:=by decide
 have wi1:aD .i64 (1:Int)=1:=by decide
 have wi2:aD .i64 (2:Int)=2:=by decide
 have wi3:aD .i64 (3:Int)=3:=by decide
 have wi4:aD .i64 (4:Int)=4:=by decide
 have wi5:aD .i64 (5:Int)=5:=by decide
 have wi6:aD .i64 (6:Int)=6:=by decide
 have wi7:aD .i64 (7:Int)=7:=by decide
 have wi8:aD .i64 (8:Int)=8:=by decide
 have wi9:aD .i64 (9:Int)=9:=by decide
 have wi10:aD .i64 (10:Int)=10:=by decide
 have wi11:aD .i64 (11:Int)=11:=by decide
 have wi12:aD .i64 (12:Int)=12:=by decide
 have wi13:aD .i64 (13:Int)=13:=by decide
 have wi14:aD .i64 (14:Int)=14:=by decide
 have wi15:aD .i64 (15:Int)=15:=by decide
 have wi16:aD .i64 (16:Int)=16:=by decide
 have wi20:aD .i64 (20:Int)=20:=by decide
 have wi24:aD .i64 (24:Int)=24:=by decide
 have wi28:aD .i64 (28:Int)=28:=by decide
 have wi32:aD .i64 (32:Int)=32:=by decide
 have wi36:aD .i64 (36:Int)=36:=by decide
 have wi40:aD .i64 (40:Int)=40:=by decide
 have wi44:aD .i64 (44:Int)=44:=by decide
 have wi48:aD .i64 (48:Int)=48:=by decide
 have wi52:aD .i64 (52:Int)=52:=by decide
 have wi56:aD .i64 (56:Int)=56:=by decide
 have wi60:aD .i64 (60:Int)=60:=by decide
 have wu60:aD .u64 (60:Int)=60:=by decide
 have wu56:aD .u64 (56:Int)=56:=by decide
 have wu52:aD .u64 (52:Int)=52:=by decide
 have wu48:aD .u64 (48:Int)=48:=by decide
 have wu44:aD .u64 (44:Int)=44:=by decide
 have wu40:aD .u64 (40:Int)=40:=by decide
 have wu36:aD .u64 (36:Int)=36:=by decide
 have wu32:aD .u64 (32:Int)=32:=by decide
 have wu28:aD .u64 (28:Int)=28:=by decide
 have wu24:aD .u64 (24:Int)=24:=by decide
 have wu20:aD .u64 (20:Int)=20:=by decide
 have wu16:aD .u64 (16:Int)=16:=by decide
 have wu12:aD .u64 (12:Int)=12:=by decide
 have wu8:aD .u64 (8:Int)=8:=by decide
 have wu4:aD .u64 (4:Int)=4:=by decide
 have wu0:aD .u64 (0:Int)=0:=by decide
 have s60:cU .shr .no (.int .u64 (n:Int)) (.int .u64 (60:Int))=some (.int .u64 (Gf n 60:Int)):=tf n 60 (by decide);have s56:cU .shr .no (.int .u64 (n:Int)) (.int .u64 (56:Int))=some (.int .u64 (Gf n 56:Int)):=tf n 56 (by decide);have s52:cU .shr .no (.int .u64 (n:Int)) (.int .u64 (52:Int))=some (.int .u64 (Gf n 52:Int)):=tf n 52 (by decide);have s48:cU .shr .no (.int .u64 (n:Int)) (.int .u64 (48:Int))=some (.int .u64 (Gf n 48:Int)):=tf n 48 (by decide);have s44:cU .shr .no (.int .u64 (n:Int)) (.int .u64 (44:Int))=some (.int .u64 (Gf n 44:Int)):=tf n 44 (by decide);have s40:cU .shr .no (.int .u64 (n:Int)) (.int .u64 (40:Int))=some (.int .u64 (Gf n 40:Int)):=tf n 40 (by decide);have s36:cU .shr .no (.int .u64 (n:Int)) (.int .u64 (36:Int))=some (.int .u64 (Gf n 36:Int)):=tf n 36 (by decide);have s32:cU .shr .no (.int .u64 (n:Int)) (.int .u64 (32:Int))=some (.int .u64 (Gf n 32:Int)):=tf n 32 (by decide);have s28:cU .shr .no (.int .u64 (n:Int)) (.int .u64 (28:Int))=some (.int .u64 (Gf n 28:Int)):=tf n 28 (by decide);have s24:cU .shr .no (.int .u64 (n:Int)) (.int .u64 (24:Int))=some (.int .u64 (Gf n 24:Int)):=tf n 24 (by decide);have s20:cU .shr .no (.int .u64 (n:Int)) (.int .u64 (20:Int))=some (.int .u64 (Gf n 20:Int)):=tf n 20 (by decide);have s16:cU .shr .no (.int .u64 (n:Int)) (.int .u64 (16:Int))=some (.int .u64 (Gf n 16:Int)):=tf n 16 (by decide);have s12:cU .shr .no (.int .u64 (n:Int)) (.int .u64 (12:Int))=some (.int .u64 (Gf n 12:Int)):=tf n 12 (by decide);have s8:cU .shr .no (.int .u64 (n:Int)) (.int .u64 (8:Int))=some (.int .u64 (Gf n 8:Int)):=tf n 8 (by decide);have s4:cU .shr .no (.int .u64 (n:Int)) (.int .u64 (4:Int))=some (.int .u64 (Gf n 4:Int)):=tf n 4 (by decide);have s0:cU .shr .no (.int .u64 (n:Int)) (.int .u64 (0:Int))=some (.int .u64 (Gf n 0:Int)):=tf n 0 (by decide);simp[wR,WV,Wf,TF];rw[aq fz.eq_1];simp[gK,iD,iw,iK,s60,an,tg,wi0,wi1,wi60,wu60];rw[aq fz.eq_1];simp[gK,iD,iw,iK,s56,an,tg,wi2,wi4,wi56,wu56];rw[aq fz.eq_1];simp[gK,iD,iw,iK,s52,an,tg,wi3,wi52,wi8,wu52];rw[aq fz.eq_1];simp[gK,iD,iw,iK,s48,an,tg,wi12,wi4,wi48,wu48];rw[aq fz.eq_1];simp[gK,iD,iw,iK,s44,an,tg,wi16,wi44,wi5,wu44];rw[aq fz.eq_1];simp[gK,iD,iw,iK,s40,an,tg,wi20,wi40,wi6,wu40];rw[aq fz.eq_1];simp[gK,iD,iw,iK,s36,an,tg,wi24,wi36,wi7,wu36];rw[aq fz.eq_1];simp[gK,iD,iw,iK,s32,an,tg,wi28,wi32,wi8,wu32];rw[aq fz.eq_1];simp[gK,iD,iw,iK,s28,an,tg,wi28,wi32,wi9,wu28];rw[aq fz.eq_1];simp[gK,iD,iw,iK,s24,an,tg,wi10,wi24,wi36,wu24];rw[aq fz.eq_1];simp[gK,iD,iw,iK,s20,an,tg,wi11,wi20,wi40,wu20];rw[aq fz.eq_1];simp[gK,iD,iw,iK,s16,an,tg,wi12,wi16,wi44,wu16];rw[aq fz.eq_1];simp[gK,iD,iw,iK,s12,an,tg,wi12,wi13,wi48,wu12];rw[aq fz.eq_1];simp[gK,iD,iw,iK,s8,an,tg,wi14,wi52,wi8,wu8];rw[aq fz.eq_1];simp[gK,iD,iw,iK,s4,an,tg,wi15,wi4,wi56,wu4];rw[aq fz.eq_1];simp[gK,iD,iw,iK,s0,an,tg,wi0,wi16,wi60,wu0];rw[aq fz.eq_1];simp[gK,Tr,fA,cD,A7,rowsOf,iQ,kr,qN]
section
variable(h:List Uo)(fl i:Nat)
theorem zc(hp:aG Pm)(hi:i<h.length):gF ah M Q Pm 172 [.ptr i 0,.int .u8 110] h fl=some (.ptr i 1,h,fl):=by
 refine bq hp rfl rfl ?_;have hi' :decide (i<h.length)=true:=decide_eq_true hi;simp[fV,pe,o8,o6,Uz,hi']
theorem Ht(hp:aG Pm)(hi:i<h.length):gF ah M Q Pm 172 [.ptr i 0,.int .u8 107] h fl=some (.ptr i 2,h,fl):=by
 refine bq hp rfl rfl ?_;have hi' :decide (i<h.length)=true:=decide_eq_true hi;simp[fV,pe,o8,o6,qz,TN,hi']
theorem Q9(hp:aG Pm)(hi:i<h.length):gF ah M Q Pm 172 [.ptr i 0,.int .u8 100] h fl=some (.ptr i 3,h,fl):=by
 refine bq hp rfl rfl ?_;have hi' :decide (i<h.length)=true:=decide_eq_true hi;simp[fV,pe,o8,o6,qz,r9,Wi,hi']
theorem qP(hp:aG Pm)(hi:i<h.length):gF ah M Q Pm 172 [.ptr i 0,.int .u8 105] h fl=some (.ptr i 4,h,fl):=by
 refine bq hp rfl rfl ?_;have hi' :decide (i<h.length)=true:=decide_eq_true hi;simp[fV,pe,o8,o6,qz,r9,tW,KX,hi']
theorem uu(hp:aG Pm)(hi:i<h.length):gF ah M Q Pm 172 [.ptr i 0,.int .u8 116] h fl=some (.aT,h,fl):=by
 refine bq hp rfl rfl ?_;have hi' :decide (i<h.length)=true:=decide_eq_true hi;simp[fV,pe,o8,o6,qz,r9,tW,uB,hi']
theorem uE(hp:aG Pm)(hi:i<h.length):gF ah M Q Pm 172 [.ptr i 0,.int .u8 111] h fl=some (.aT,h,fl):=by
 refine bq hp rfl rfl ?_;have hi' :decide (i<h.length)=true:=decide_eq_true hi;simp[fV,pe,o8,o6,qz,r9,tW,uB,hi']
theorem qag(hp:aG Pm)(hi:i<h.length):gF ah M Q Pm 172 [.ptr i 0,.int .u8 97] h fl=some (.aT,h,fl):=by
 refine bq hp rfl rfl ?_;have hi' :decide (i<h.length)=true:=decide_eq_true hi;simp[fV,pe,o8,o6,qz,r9,tW,uB,hi']
theorem rM(hp:aG Pm)(hi:i<h.length):gF ah M Q Pm 174 [.ptr i 0,.int .u8 116] h fl=some (.ptr i 5,h,fl):=by
 refine bq hp rfl rfl ?_;have hi' :decide (i<h.length)=true:=decide_eq_true hi;simp[nC,Aa,Bt,zl,VV,hi']
theorem rJ(hp:aG Pm)(hi:i<h.length):gF ah M Q Pm 174 [.ptr i 0,.int .u8 111] h fl=some (.ptr i 6,h,fl):=by
 refine bq hp rfl rfl ?_;have hi' :decide (i<h.length)=true:=decide_eq_true hi;simp[nC,Aa,Bt,zl,Ei,Re,hi']
theorem ZN(hp:aG Pm)(hi:i<h.length):gF ah M Q Pm 174 [.ptr i 0,.int .u8 97] h fl=some (.ptr i 7,h,fl):=by
 refine bq hp rfl rfl ?_;have hi' :decide (i<h.length)=true:=decide_eq_true hi;simp[nC,Aa,Bt,zl,Ei,LB,hi']
end
end Go.RE
