/- What the second evaluator answers, every run of the model answers. -/
import Derived.Test.YtigkmaeaoaejiaaGreatDoorPart23
import Derived.Test.YtigkmaeaoaejiaaGreatDoorPart24
import Derived.Test.YtigkmaeaoaejiaaGreatDoorCards
import Derived.Test.YtigkmaeaoaejiaaGreatDoorTie
import Derived.WalkKit
import Derived.ProofKit
import Derived.OpenShut
import Derived.ChangeOld
import Derived.Below
import Derived.Deep.DeepHandedRow
import Derived.Lib.LaidTab
import Derived.LaidHandle
import Derived.Stop.Joined
import Derived.Test.YtigkmaeaoaejiaaGreatDoorPart15
import Derived.Test.YtigkmaeaoaejiaaGreatDoorPart16
set_option linter.unusedVariables false
set_option linter.unusedSimpArgs false
set_option linter.unnecessarySimpa false
set_option linter.constructorNameAsVariable false
namespace Go.RE
open Go.Proofs.YtigkmaeaoaejiaaGreatDoor
theorem IF(W:World):zE Go.Proofs.Tryz.prog W 90 1 xK:=
 Hl ⟨_,_,Go.Proofs.Tryz.func90,rfl,rfl⟩ (fun blk off cap ss w h1 h2 h3=>Go.Proofs.Tryz.slices_Sort_string blk off cap ss w h1 h2 h3) (fun p cap w=>Go.Proofs.Tryz.slices_Sort_string_none p cap w) W
theorem ok_none:Ok ⟨([]:List Uo).length,fun i=>i,gq (fun i=>i) (fun _=>none) ([]:List Uo).length,fun _=>none,E6,fun i=>([]:List Uo)[i]? =some .gone⟩ (fun i=>i) (fun _=>none) (fun _=>none) ⟨[],[],0⟩ .e E6:=
 ⟨fun t u hu=>by simp[look]at hu,fun i o ho=>by simp at ho,(fun b r hb=>by cases hb),(fun g I hI=>by cases hI),fun n _=>by simp[E6,St.get],fun i j hi=>by simp at hi,(fun g g' I I' hI=>by cases hI),fun i g I hi=>by simp at hi,fun i hi=>by simp at hi,(fun g I hI=>by cases hI),fun i hi=>by simp at hi,rfl,(fun i off I hI=>by cases hI),aM _,fun i hi=>rfl,fun b r hb=>hb,aM _,fun b hb _=>⟨rfl,fun i hi=>by simp at hi,(fun g I hI=>by cases hI),fun r hr=>hr⟩,fun i hi=>by simp at hi⟩
theorem qd7{W:World}(hg:kU W){f:Nat}{us:List U}{vs:List V}{args:Array Value}{h' :List Uo}{fl' :Nat}(hrun:gF ah CH muts xO f us [] 0=some (.bool true,h',fl'))(hu:gW us vs)(hl:aX W qM vs args.toList):
  Calls Go.Proofs.Tryz.prog f args W fun e W' =>e=.returned (.bool true)∧Kept W W' :=by
 obtain⟨N,hN⟩:=qg2 (C:=CJ) qk7 f us [] 0 _ h' fl' hrun (fun i=>i) (fun _=>none) (fun _=>none) E6 vs ok_none ⟨aM _,fun i o ho=>by simp at ho⟩ (fun _=>rfl) (hu _ _);have h2:ct CJ CH N f vs E6 fun v _=>v=.bool true:=n6 (aM _) (fun v st' hh=>by
  obtain⟨_,σ',Z',ω',_,_,hr⟩:=hh;cases hr;rfl) hN
 refine(Pt (qey hg (IF W)) qcN mixed hl h2).mono fun e W' h=> ?_;obtain⟨⟨x,ρ',rfl,hx⟩,hk⟩:=h;cases hx;exact⟨rfl,hk⟩
end Go.RE
namespace Go.RE
open Go.Proofs
section
variable{H:Type}{enc:TypeId×Value→H}{w:World}{bk:DataW H→Nat}{B:Nat}
theorem C2.imp{P:Program}{t:TypeId}{S S' :List U→Prop}(h:C2 enc P w bk B t S)(hs:∀ us,S us→S' us):C2 enc P w bk B t S' :=fun fuel cs x hx hb=>by
 obtain⟨vs,us,h1,h2,h3⟩:=h fuel cs x hx hb;exact⟨vs,us,h1,hs us h2,h3⟩
theorem Bj{α:Type}{f:α→List U}{S:List U→Prop}{D:α→Prop}(h:∀ r,S r→∃ a,r=f a∧D a):∀ {rows:List (List U)},(∀ r∈rows,S r)→∃ l:List α,rows=l.map f∧∀ a∈l,D a:=by
 intro rows
 induction rows with
 |nil=>intro _;exact⟨[],rfl,fun a ha=>by cases ha⟩
 |cons r rows ih=>
  intro hr;obtain⟨a,rfl,ha⟩:=h r (hr r k7);obtain⟨l,rfl,hl⟩:=ih fun x hx=>hr x (ki _ hx);exact⟨a::l,rfl,fun x hx=>by
   rcases eB.1 hx with rfl|hx
   ·exact ha
   ·exact hl x hx⟩
theorem Nj(hk:IQ bk):C2 enc Tryz.prog w bk B 37 fun us=>∃ d:By,us=[.sl 1 (az d)]∧d.length≤B:=by
 refine(vW hk Tryz.underlying37 (c:=1) (by kernel_rfl) (by omega) (fI Tryz.underlying5)).imp fun us h=> ?_;obtain⟨rows,rfl,h1,h2,h3⟩:=h;obtain⟨d,rfl,_⟩:=Bj (f:=nZ) (D:=fun _=>True) (S:=fun r=>∃ n,r=[U.int .u8 n]∧(Lit.int IntKind.u8 n).wf=true) (fun r hr=>by
  obtain⟨n,rfl,hn⟩:=hr;have hb:0≤n∧n<256:=by
   simp[Lit.wf,IntKind.min,IntKind.max,IntKind.bits,IntKind.signed]at hn;omega
  refine⟨UInt8.ofNat n.toNat,?_,trivial⟩;have:((UInt8.ofNat n.toNat).toNat:Int)=n:=by
   have e1:(UInt8.ofNat n.toNat).toNat=n.toNat % 256:=UInt8.toNat_ofNat';rw[e1];omega
  simp only[nZ,this]) fun r hr=>(h1 r hr).1
 exact⟨d,rfl,by simpa[az]using h2⟩
theorem qc2(hk:IQ bk):C2 enc Tryz.prog w bk B 115 fun us=>∃ p:Pr,us=fL p∧p.1.length≤B∧p.2.length≤B:=by
 refine(iF hk Tryz.underlying115 (Ss:=[_,_]) (by kernel_rfl) ⟨fk hk Tryz.underlying9,Nj hk,trivial⟩).imp fun us h=> ?_;obtain⟨a,b,rfl,⟨k,rfl,hk'⟩,a2,b2,rfl,⟨d,rfl,hd⟩,rfl⟩:=h;exact⟨(k,d),rfl,hk',hd⟩
theorem Zl(hk:IQ bk):C2 enc Tryz.prog w bk B 22 fun us=>∃ l:List Pr,us=[.sl 2 (l.map fL)]∧(∀ p∈l,p.1.length≤B∧p.2.length≤B)∧l.length≤B∧l.length≤maxLen:=by
 refine(vW hk Tryz.underlying22 (c:=2) (by kernel_rfl) (by omega) (qc2 hk)).imp fun us h=> ?_;obtain⟨rows,rfl,h1,h2,h3⟩:=h;obtain⟨l,rfl,hl⟩:=Bj (f:=fL) (D:=fun p=>p.1.length≤B∧p.2.length≤B) (S:=fun us=>∃ p:Pr,us=fL p∧p.1.length≤B∧p.2.length≤B) (fun r hr=>hr) fun r hr=>(h1 r hr).1;exact⟨l,rfl,hl,by simpa using h2,by simpa using h3⟩
end
end Go.RE
namespace Go.Proofs.YtigkmaeaoaejiaaGreatDoor.Ends
open Go.ChangeShapes Go.WideShapes Go.ChangeAt Go.RowKit Go.RE
theorem own:ownKnob Tryz.prog.godebug=Option.none:=by kernel_rfl
theorem laidOut:laidOutB Tryz.prog=true:=by kernel_rfl
theorem et:Tryz.prog.globalNamed "errors.errorType" =some 0:=by kernel_rfl
theorem rt:(Tryz.prog.cutTypes.find? (·.1== "internal/reflectlite.rtype")).map (·.2)=some 330:=by kernel_rfl
theorem qeq:((List.range 388).filter fun t=>Tryz.prog.rowNamed t [101,114,114,111,114])=[39]:=by kernel_rfl
theorem qjg:Tryz.prog.types.size=388:=by kernel_rfl
theorem qie{W:World}(h:laidMetH Tryz.prog [("errors.errorType",Rows.laid_errors_errorType)] W):kU W:=by
 have h' :laidMet Tryz.prog [] W∧handlesMet Tryz.prog [("errors.errorType",Rows.laid_errors_errorType)] W:=h;obtain⟨name,u,ty,e1,e2,e3,e4,e5⟩:=h'.2 _ (List.mem_singleton.2 rfl);have en:name=[101,114,114,111,114]:=(Option.some.inj e1).symm;subst en;obtain rfl:=Option.some.inj (rt.symm.trans e2);have hm:ty∈(List.range 388).filter fun t=>Tryz.prog.rowNamed t [101,114,114,111,114]:=List.mem_filter.2 ⟨List.mem_range.2 (by rw[←qjg];exact e3),e4⟩;rw[qeq]at hm;obtain rfl:=List.mem_singleton.1 hm;have hh:typeHandle Tryz.prog 39=.pointer (some ⟨1,39,Option.none⟩):=by kernel_rfl
 rw[hh]at e5;simpa using World.var?_cell et e5 0
noncomputable def xm(os:Os):World:=
 let w0:=World.holding Tryz.prog os ⟨#[],#[],[]⟩
 {w0 with heap:=w0.heap.modify 0 fun
   | .cells _ t frozen=> .cells #[.iface 330 (.agg #[.pointer (some ⟨1,39,Option.none⟩)])] t frozen
   |o=>o}
theorem p5{H:Type}:IQ (Rows.uptoBulk (H:=H)):=by
 have part:∀ (l:List (DataW H)) d,d∈l→Rows.uptoBulk d≤Rows.uptoBulkAll l:=by
  intro l
  induction l with
  |nil=>intro d h;cases h
  |cons x r ih=>
   intro d h;simp only[Rows.uptoBulkAll];rcases eB.1 h with rfl|h
   ·omega
   ·have:=ih d h;omega
 have one:∀ d:DataW H,1≤Rows.uptoBulk d:=by
  intro d;cases d with
  |lit l=>cases l<;>simp[Rows.uptoBulk]
  |_=>simp[Rows.uptoBulk]
 have len:∀ l:List (DataW H),l.length≤Rows.uptoBulkAll l:=by
  intro l
  induction l with
  |nil=>simp
  |cons x r ih=>have:=one x;simp only[Rows.uptoBulkAll,List.length_cons];omega
 refine⟨fun b=>by simp[Rows.uptoBulk],fun es sp=> ?_,fun es sp d hd=> ?_,fun ps d hd=> ?_⟩
 ·have:=len es;simp only[Rows.uptoBulk];omega
 ·have:=part es d hd;simp only[Rows.uptoBulk];omega
 ·have:=part ps d hd;simp only[Rows.uptoBulk];omega
theorem YR{H:Type}{l:List (DataW H)}(hk:Rows.uptoSmall H l=true):Rows.uptoBulkAll l≤1048576:=of_decide_eq_true hk
end Go.Proofs.YtigkmaeaoaejiaaGreatDoor.Ends
namespace Go.Proofs.YtigkmaeaoaejiaaGreatDoor.Ops
open Go.ChangeShapes Go.WideShapes Go.ChangeAt Go.RowKit Go.RE Go.Proofs.YtigkmaeaoaejiaaGreatDoor.Ends
theorem qx{n:Int}(h:(Lit.int IntKind.u64 n).wf=true):∃ m:Nat,n=(m:Int)∧m<18446744073709551616:=by
 have hb:0≤n∧n<18446744073709551616:=by
  simp[Lit.wf,IntKind.min,IntKind.max,IntKind.bits,IntKind.signed]at h;omega
 exact⟨n.toNat,by omega,by omega⟩
section
variable{H:Type}{enc:TypeId×Value→H}{w:World}{B:Nat}
theorem qjk:C2 enc Tryz.prog w Rows.uptoBulk B 75 fun us=>∃ r:Rn,us=bg r∧r.a.length≤B∧r.b.length≤B∧r.c.length≤B∧r.d.length≤B∧r.x<18446744073709551616∧r.y<18446744073709551616∧r.z<18446744073709551616:=by
 refine(iF p5 Tryz.underlying75 (Ss:=[_,_,_,_,_,_,_,_]) (by kernel_rfl) ⟨fI Tryz.underlying5,fk p5 Tryz.underlying9,fk p5 Tryz.underlying9,fk p5 Tryz.underlying9,fk p5 Tryz.underlying9,fI Tryz.underlying73,fI Tryz.underlying73,fI Tryz.underlying73,trivial⟩).imp fun us h=> ?_;obtain⟨_,_,rfl,⟨k,rfl,hk⟩,_,_,rfl,⟨s1,rfl,l1⟩,_,_,rfl,⟨s2,rfl,l2⟩,_,_,rfl,⟨s3,rfl,l3⟩,_,_,rfl,⟨s4,rfl,l4⟩,_,_,rfl,⟨n1,rfl,w1⟩,_,_,rfl,⟨n2,rfl,w2⟩,_,_,rfl,⟨n3,rfl,w3⟩,rfl⟩:=h;have hb:0≤k∧k<256:=by
  simp[Lit.wf,IntKind.min,IntKind.max,IntKind.bits,IntKind.signed]at hk;omega
 obtain⟨m1,rfl,b1⟩:=qx w1;obtain⟨m2,rfl,b2⟩:=qx w2;obtain⟨m3,rfl,b3⟩:=qx w3;refine⟨⟨Go.RE.byteOf k,s1,s2,s3,s4,m1,m2,m3⟩,?_,l1,l2,l3,l4,b1,b2,b3⟩;simp[bg,bJ,Go.RE.xh hb.1 hb.2]
theorem qlR:C2 enc Tryz.prog w Rows.uptoBulk B 77 fun us=>∃ x:In,us=kG x∧x.d.length≤B∧x.c.length≤B∧x.v<18446744073709551616∧x.nx<18446744073709551616:=by
 refine(iF p5 Tryz.underlying77 (Ss:=[_,_,_,_,_]) (by kernel_rfl) ⟨fk p5 Tryz.underlying9,fI Tryz.underlying73,fI Tryz.underlying3,fk p5 Tryz.underlying9,fI Tryz.underlying73,trivial⟩).imp fun us h=> ?_;obtain⟨_,_,rfl,⟨s1,rfl,l1⟩,_,_,rfl,⟨n1,rfl,w1⟩,_,_,rfl,⟨n2,rfl,_⟩,_,_,rfl,⟨s2,rfl,l2⟩,_,_,rfl,⟨n3,rfl,w3⟩,rfl⟩:=h;obtain⟨m1,rfl,b1⟩:=qx w1;obtain⟨m3,rfl,b3⟩:=qx w3;exact⟨⟨s1,m1,n2,s2,m3⟩,rfl,l1,l2,b1,b3⟩
theorem qku:C2 enc Tryz.prog w Rows.uptoBulk B 79 fun us=>∃ x:Tk,us=lI x∧x.sc<18446744073709551616:=by
 refine(iF p5 Tryz.underlying79 (Ss:=[_,_,_]) (by kernel_rfl) ⟨fI Tryz.underlying3,fI Tryz.underlying73,fI Tryz.underlying3,trivial⟩).imp fun us h=> ?_;obtain⟨_,_,rfl,⟨n1,rfl,_⟩,_,_,rfl,⟨n2,rfl,w2⟩,_,_,rfl,⟨n3,rfl,_⟩,rfl⟩:=h;obtain⟨m2,rfl,b2⟩:=qx w2;exact⟨⟨n1,m2,n3⟩,rfl,b2⟩
theorem qme:C2 enc Tryz.prog w Rows.uptoBulk B 81 fun us=>∃ x:Ar,us=bV x∧x.name.length≤B∧x.key.length≤B∧∃ d:Nat,x.due=(d:Int)∧d<18446744073709551616:=by
 refine(iF p5 Tryz.underlying81 (Ss:=[_,_,_,_]) (by kernel_rfl) ⟨fI Tryz.underlying3,fk p5 Tryz.underlying9,fk p5 Tryz.underlying9,fI Tryz.underlying73,trivial⟩).imp fun us h=> ?_;obtain⟨_,_,rfl,⟨n1,rfl,_⟩,_,_,rfl,⟨s1,rfl,l1⟩,_,_,rfl,⟨s2,rfl,l2⟩,_,_,rfl,⟨n2,rfl,w2⟩,rfl⟩:=h;exact⟨⟨n1,s1,s2,n2⟩,rfl,l1,l2,qx w2⟩
theorem qgs:C2 enc Tryz.prog w Rows.uptoBulk B 83 fun us=>∃ (k n:Int) (s:By),us=[.int .i64 k,.int .i64 n,.str s]∧s.length≤B:=by
 refine(iF p5 Tryz.underlying83 (Ss:=[_,_,_]) (by kernel_rfl) ⟨fI Tryz.underlying3,fI Tryz.underlying2,fk p5 Tryz.underlying9,trivial⟩).imp fun us h=> ?_;obtain⟨_,_,rfl,⟨n1,rfl,_⟩,_,_,rfl,⟨n2,rfl,_⟩,_,_,rfl,⟨s1,rfl,l1⟩,rfl⟩:=h;exact⟨n1,n2,s1,rfl,l1⟩
theorem qk8:C2 enc Tryz.prog w Rows.uptoBulk B 85 fun us=>∃ x:Vr,us=nG x∧x.name.length≤B∧x.s.length≤B:=by
 refine(iF p5 Tryz.underlying85 (Ss:=[_,_]) (by kernel_rfl) ⟨fk p5 Tryz.underlying9,qgs,trivial⟩).imp fun us h=> ?_;obtain⟨_,_,rfl,⟨s1,rfl,l1⟩,_,_,rfl,⟨k,n,s,rfl,l2⟩,rfl⟩:=h;exact⟨⟨s1,k,n,s⟩,rfl,l1,l2⟩
theorem qjm:C2 enc Tryz.prog w Rows.uptoBulk 1048576 87 fun us=>∃ o:nc,us=cJ o∧BU o:=by
 refine(iF p5 Tryz.underlying87 (Ss:=[_,_,_,_,_,_,_,_]) (by kernel_rfl) ⟨fI Tryz.underlying3,qjk,fI Tryz.underlying3,Nj p5,qlR,qku,qme,qk8,trivial⟩).imp fun us h=> ?_;obtain⟨_,_,rfl,⟨d,rfl,_⟩,_,_,rfl,⟨r,rfl,r1,r2,r3,r4,r5,r6,r7⟩,_,_,rfl,⟨n,rfl,_⟩,_,_,rfl,⟨b,rfl,hb⟩,_,_,rfl,⟨x,rfl,x1,x2,x3,x4⟩,_,_,rfl,⟨t,rfl,t1⟩,_,_,rfl,⟨a,rfl,a1,a2,a3⟩,_,_,rfl,⟨v,rfl,v1,v2⟩,rfl⟩:=h;exact⟨⟨d,r,n,b,x,t,a,v⟩,by simp[cJ],⟨r1,r2,r3,r4,r5,r6,r7,by show b.length<small;unfold small;omega,by show x.d.length<_;omega,by show x.c.length<_;omega,x3,x4,t1,a1,a2,a3,v1,by show v.s.length<_;omega⟩⟩
theorem qh4:C2 enc Tryz.prog w Rows.uptoBulk 1048576 66 fun us=>∃ l:List nc,us=[.sl 27 (l.map cJ)]∧(∀ o∈l,BU o)∧l.length≤1048576∧l.length≤maxLen:=by
 refine(vW p5 Tryz.underlying66 (c:=27) (by kernel_rfl) (by omega) qjm).imp fun us h=> ?_;obtain⟨rows,rfl,h1,h2,h3⟩:=h;obtain⟨l,rfl,hl⟩:=Bj (f:=cJ) (D:=BU) (S:=fun us=>∃ o:nc,us=cJ o∧BU o) (fun r hr=>hr) fun r hr=>(h1 r hr).1;exact⟨l,rfl,hl,by simpa using h2,by simpa using h3⟩
end
end Go.Proofs.YtigkmaeaoaejiaaGreatDoor.Ops
namespace Go.Proofs.YtigkmaeaoaejiaaGreatDoor.LearnsDone
open Go.ChangeShapes Go.WideShapes Go.ChangeAt Go.RowKit Go.RE Go.Proofs.YtigkmaeaoaejiaaGreatDoor.Ends Go.Proofs.YtigkmaeaoaejiaaGreatDoor.Ops
theorem WD(os:Os):laidMetH Tryz.prog Rows.cacheLearnsUptoRow.laid ((xm os).forCall (fun _ _=>0) ⟨#[],#[.slice Option.none 0 0,.slice Option.none 0 0],[]⟩).memory:=
 laidMetH_of_parts (laidMet_nil _ _) (by kernel_rfl)
theorem reads(os:Os){H:Type}(enc:TypeId×Value→H):∃ places,DataW.whole enc Tryz.prog ((xm os).forCall (fun _ _=>0) ⟨#[],#[.slice Option.none 0 0,.slice Option.none 0 0],[]⟩).memory Tryz.f9.params.toList Rows.cacheLearnsSpec.vars false #[Value.slice Option.none 0 0,.slice Option.none 0 0].toList 8=some ([.nil,.nil],[],places):=
 ⟨[],by kernel_rfl⟩
theorem walk{H:Type}{enc:TypeId×Value→H}{W:World}{v0 v1:Value}{d0 d1:DataW H}{p0 p1:List MemPlace}(hL:laidMetH Tryz.prog Rows.cacheLearnsUptoRow.laid W)(hc0:v0.cells.toList=[v0])(hc1:v1.cells.toList=[v1])
  (h0:DataW.Trod enc Tryz.prog W 0 (fun _=>true) true 22 v0 d0 p0) (h1:DataW.Trod enc Tryz.prog W 0 (fun _=>true) true 66 v1 d1 p1)
  (b0:Rows.uptoBulk d0≤1048576) (b1:Rows.uptoBulk d1≤1048576):
  Calls Tryz.prog 9 #[v0,v1] W fun e W' =>e=.returned (.bool true)∧Kept W W' :=by
 obtain⟨f0,k0⟩:=h0;obtain⟨f1,k1⟩:=h1;obtain⟨vs0,us0,l0,⟨l,rfl,hl,hll,_⟩,u0⟩:=Zl p5 f0 _ _ k0 b0;obtain⟨vs1,us1,l1,⟨S,rfl,hS,hSl,_⟩,u1⟩:=qh4 f1 _ _ k1 b1;rw[hc0]at l0;rw[hc1]at l1;have hl4:aX W qM (vs0++vs1) (#[v0,v1]:Array Value).toList:=l0.append l1;exact qd7 (qie hL) (qqF (M:=CH) (Q:=muts) (Pm:=xO) qmx noQ rfl rfl rfl rfl rfl rfl rfl l S hll hSl hS) (u0.append u1) hl4
set_option maxRecDepth 100000 in
theorem lifted(os:Os)(started:os.Started)(H:Type)(enc:TypeId×Value→H)(F:Stop.Interp):
  ReturnsInHanded {} Tryz.checked os 9 .any ((Rows.OpenSpec.upto Rows.cacheLearnsSpec).preRow enc Tryz.prog Tryz.f9 Rows.cacheLearnsUptoRow.domain false Rows.cacheLearnsUptoRow.laid) (((Rows.OpenSpec.upto Rows.cacheLearnsSpec).at F).post enc Tryz.prog Tryz.f9 false true false false):=by
 obtain⟨places,hx⟩:=reads os enc;refine returnsInHanded_of_row (C:=Tryz.checked) (s:=Rows.OpenSpec.upto Rows.cacheLearnsSpec) own started (by kernel_rfl) Tryz.func9
  (witness_row_at (enc:=enc) (C:=Tryz.checked) false (xm os) #[.slice Option.none 0 0,.slice Option.none 0 0] rfl (by kernel_rfl) (by kernel_rfl) (by kernel_rfl)
   (OpenSpec.preRow_of_cond 8 hx (by kernel_rfl) (fun k hk=>by cases hk;kernel_rfl) (by kernel_rfl) (WD os))) ?_
 intro W base args ds gs before hval0 hW _ hcond _ hL _ _;have hb:=YR (hcond _ rfl);have hval:∀ (j:Nat) t v,Tryz.f9.params[j]? =some t→args[j]? =some v→Value.okWide Tryz.prog W .any base t v:=hval0;have hW' :=hW;obtain⟨p,q,hA0,hV,rfl,hfz,hnd⟩:=hW;have hA:DataW.TrodAll enc Tryz.prog W 0 (fun _=>true) true Tryz.f9.params.toList args.toList ds p:=hA0;rw[Tryz.params9]at hA hval;obtain⟨v0,vs0,d0,ds0,p0,q0,hargs,rfl,rfl,h0,r0⟩:=trodAll_cons hA;obtain⟨v1,vs1,d1,ds1,p1,q1,rfl,rfl,rfl,h1,r1⟩:=trodAll_cons r0;obtain⟨rfl,rfl,rfl⟩:=trodAll_nil r1;obtain rfl:args= #[v0,v1]:=by cases args;simp_all
 obtain⟨rfl,rfl⟩:=trodVars_none hV;obtain⟨a0,len0,cap0,rfl⟩:=okWide_slice Tryz.underlying22 (hval 0 22 v0 rfl rfl);obtain⟨a1,len1,cap1,rfl⟩:=okWide_slice Tryz.underlying66 (hval 1 66 v1 rfl rfl);have k0:=h0;have lt0:∀ x∈p0,x.block<W.heap.size:=by obtain⟨m,hm⟩:=k0;exact DataW.trod_lt m _ _ _ hm
 have k1:=h1;have l7:∀ x∈p1,x.block<W.heap.size:=by obtain⟨m,hm⟩:=k1;exact DataW.trod_lt m _ _ _ hm
 clear hA0 hval0;simp only[List.append_nil,Rows.uptoBulkAll]at hb;refine(walk hL (by simp[Value.cells]) (by simp[Value.cells]) h0 h1 (by omega) (by omega)).mono fun e W' ⟨he,bel⟩=> ?_;subst he;exact⟨_,rfl,_,_,_,[],_,[],hW',trodAll_mk1 (shut_bool Tryz.underlying4 _),(trodAll_cons_mk (Kept.trod laidOut (by kernel_rfl) (of_decide_eq_true (by kernel_rfl)) k0 bel lt0) (trodAll_cons_mk (Kept.trod laidOut (by kernel_rfl) (of_decide_eq_true (by kernel_rfl)) k1 bel l7) trodAll_mk0)),rfl,bel.frame _,fun h=>by cases h⟩
end Go.Proofs.YtigkmaeaoaejiaaGreatDoor.LearnsDone
