/- slices.Sort of strings, by its contract: in the model, in the first evaluator, in the second. -/
import Derived.Test.YtigkmaeaoaejiaaGreatDoorPart12
import Derived.Sort.Walk0
import Derived.Sort.Grow
import Derived.Sort.EncStr
set_option linter.unusedVariables false
set_option linter.unusedSimpArgs false
namespace Go.RE
theorem HP(a b:By):(decide (a≤b)||decide (b≤a))=true:=by
 rcases List.le_total a b with h|h<;>simp[h]
theorem Z4{a:By}:∀ {l:List By},(∀ x∈l,a≤x)→k8 a l=a::l:=by
 intro l h;cases l with
 |nil=>rfl
 |cons x l=>
  have hx:=h x k7;have:lt x a=false:=by
   show Op.bytesLess x a=false;rw[Go.Proofs.bytesLess_eq];exact decide_eq_false (List.not_lt.2 hx)
  simp only[k8,this];rfl
theorem EM:∀ {l:List By},List.Pairwise (fun a b=>a≤b) l→dy l=l:=by
 intro l h
 induction h with
 |nil=>rfl
 |cons hx _ ih=>
  unfold dy at ih⊢;rw[List.foldr_cons,ih];exact Z4 hx
theorem YJ(l:List By):(l.mergeSort fun x y=>decide (x≤y))=dy l:=by
 have hp:=List.mergeSort_perm l fun x y=>decide (x≤y);have hs:=List.pairwise_mergeSort (le:=fun x y:By=>decide (x≤y)) (fun a b c h1 h2=>by
  simp only[decide_eq_true_eq]at h1 h2⊢;exact List.le_trans h1 h2) HP l
 have hs' :List.Pairwise (fun a b=>a≤b) (l.mergeSort fun x y=>decide (x≤y)):=hs.imp fun h=>by simpa using h
 rw[←EM hs',tC hp]
def xH:List V→Option (List By)
 |[]=>some []
 | .str k::r=>match xH r with
  |some l=>some (k::l)
  |none=>none
 |_=>none
theorem J0:∀ {vs:List V} {l:List By},xH vs=some l→vs=l.map .str:=by
 intro vs
 induction vs with
 |nil=>intro l h;simp[xH]at h;subst h;rfl
 |cons v vs ih=>
  intro l h;cases v<;>simp[xH]at h;rename_i k;split at h<;>simp at h;rename_i l' hl;subst h;rw[ih hl];rfl
theorem Py:∀ l:List By,xH (l.map .str)=some l:=by
 intro l
 induction l with
 |nil=>rfl
 |cons k l ih=>simp only[List.map_cons,xH,ih]
def xK:List V→St→Option (V×St):=fun vs s=>match vs with
 |[.bu]=>some (.aP [],s)
 |[.bQ]=>some (.aP [],s)
 |[.slice b off 0 cap sz ex]=>some (.aP [],s)
 |[.slice b off len cap 1 ex]=>(match s.row b with
  |some cs=>bif Nat.ble (off+len) cs.length&&Nat.blt len 4611686018427387904 then(match xH ((cs.drop off).take len)with
   |some l=>some (.aP [],s.put b (.row (kT cs off ((dy l).map .str))))
   |none=>none)else none
  |none=>none)
 |_=>none
theorem Bo{w0:World}{ρ:Ren}{s:St}{w:World}(h:Rel w0 ρ s w)(os:Array Obj):Rel w0 ρ s (Go.Sort.grow w os)∧kK ρ s w ρ s (Go.Sort.grow w os):=by
 have hget:∀ r,r<w.heap.size→(Go.Sort.grow w os).heap[r]? =w.heap[r]? :=fun r hr=>by
  show(w.heap++os)[r]? =_;rw[Array.getElem?_append_left hr]
 have hsz:w.heap.size≤(Go.Sort.grow w os).heap.size:=by simp[Go.Sort.grow]
 refine⟨⟨fun r hr=> ?_,Nat.le_trans h.size hsz,h.os,h.output,fun n r o lim e=> ?_,h.fresh,fun n r o lim e=> ?_,h.inj⟩,⟨aM _,Ren.le_refl _,(fun n x a b=>by rw[a]at b;cases b),hsz,fun _ _ _=>rfl,fun r hr hx=>⟨hget r hr,hx⟩⟩⟩
 ·rw[hget r (o4 hr h.size)];exact h.old r hr
 ·have:=h.dom n r o lim e;exact⟨this.1,this.2.1,o4 this.2.2 hsz⟩
 ·rw[hget r (h.dom n r o lim e).2.2];exact h.ob n r o lim e
theorem RU(a:By):∀ l,(k8 a l).length=l.length+1:=by
 intro l
 induction l with
 |nil=>rfl
 |cons x l ih=>simp only[k8];split<;>simp[ih]
theorem Dp:∀ l,(dy l).length=l.length:=by
 intro l
 induction l with
 |nil=>rfl
 |cons a l ih=>unfold dy at ih⊢;rw[List.foldr_cons,RU,ih];rfl
open Go.Sort Go.Proofs in
theorem Hl{P:Program}{f:Nat}(hfn:∃ fn b,P.funcs[f]? =some fn∧fn.body=some b∧(fn.name== "runtime.NumGoroutine")=false)
  (hS:∀ (blk off cap:Nat) (ss:List (List UInt8)) (w:World),Holds encStr w blk off ss.toArray→blk<w.heap.size→ss.length<4611686018427387904→
   Calls P f #[.slice (some ⟨blk,off,none⟩) ss.length cap] w fun e w' =>e=.returned (.tuple #[])∧∃ n os,w' =grow (putRow encStr (Sort.ahead w n) blk off (ss.mergeSort fun x y=>decide (x≤y)).toArray) os)
  (hN:∀ (p:Option Addr) (cap:Nat) (w:World),Calls P f #[.slice p 0 cap] w fun e w' =>e=.returned (.tuple #[])∧w' =w) (w0:World):zE P w0 f 1 xK:=by
 refine⟨hfn,?_⟩;intro args s v s' ρ w args' hl hp hR hA;have stay:∀ (p:Option Addr) (cap:Nat),Calls P f #[.slice p 0 cap] w fun e w' =>∃ ρ' x,e=.returned x∧Rel w0 ρ' s w'∧kK ρ s w ρ' s w'∧aE w0 ρ' (.aP []) x:=fun p cap=>by
  refine(hN p cap w).mono ?_;rintro e w' ⟨rfl,rfl⟩;exact⟨ρ,_,rfl,hR,kK.refl _ _ _,.aP rfl (fun i h=>by simp at h)⟩
 unfold xK at hp;split at hp<;>try (simp at hp;done)
 ·simp only[ay,aO]at hp;obtain⟨rfl,rfl⟩:=hp;obtain⟨x,xs,rfl,hx,hxs⟩:=hA.cq;obtain rfl:=hxs.eF;cases hx;exact stay _ _
 ·simp only[ay,aO]at hp;obtain⟨rfl,rfl⟩:=hp;obtain⟨x,xs,rfl,hx,hxs⟩:=hA.cq;obtain rfl:=hxs.eF;cases hx;exact stay _ _
 ·rename_i b off cap sz ex;simp only[ay,aO]at hp;obtain⟨rfl,rfl⟩:=hp;obtain⟨x,xs,rfl,hx,hxs⟩:=hA.cq;obtain rfl:=hxs.eF;cases hx;exact stay _ _
 ·rename_i b off len cap ex hz;split at hp<;>try (simp at hp;done)
  rename_i cs hcs;cases hb:(Nat.ble (off+len) cs.length&&Nat.blt len 4611686018427387904)with
  |false=>rw[hb]at hp;simp at hp
  |true=>
   rw[hb]at hp;simp only[cond_true]at hp;simp only[cm]at hb;have hle:=ja hb.1;have hlt:len<4611686018427387904:=by have:=hb.2;simp only[Nat.blt,jC]at this;omega
   split at hp<;>simp only[ay,aO,reduceCtorEq]at hp;rename_i l hul;obtain⟨rfl,rfl⟩:=hp;have hlm:=J0 hul;have hll:l.length=len:=by
    have:=congrArg List.length hlm;simp at this;omega
   obtain⟨x,xs,rfl,hx,hxs⟩:=hA.cq;obtain rfl:=hxs.eF;have hob:s.get b=some (.row cs):=by
    unfold St.row at hcs;split at hcs<;>simp at hcs;rename_i cs' hg;subst hcs;exact hg
   cases hx with
   |slice hρ h1 h2 h3 h4=>
   rename_i r o lim a cap';obtain⟨c,t,fr,q1,q2,q3,q4,q5⟩:kO w0 ρ o lim (some (.row cs)) w.heap[r]? :=by
    have:=hR.ob b r o lim hρ;rw[hob]at this;exact this
   have hdom:=hR.dom b r o lim hρ
   -- what is written back
   have key:∀ (w2:World) (d:List By),d.length=len→w2.os=w.os→w2.output=w.output→w2.heap=w.heap.modify r (onCells (putCells encStr (o+off) d.toArray))→∀ os:Array Obj,Rel w0 ρ (s.put b (.row (kT cs off (d.map .str)))) (grow w2 os)∧kK ρ s w ρ (s.put b (.row (kT cs off (d.map .str)))) (grow w2 os):=by
    intro w2 d hd ho hp' hh os;have hmod:w.heap.modify r (onCells (putCells encStr (o+off) d.toArray))=w.heap.setIfInBounds r (.cells (putCells encStr (o+off) d.toArray c) t fr):=by
     apply Array.ext_getElem?;intro k;rw[Array.getElem?_modify,BI];by_cases hk:r=k
     ·subst hk;rw[if_pos rfl,if_pos rfl,if_pos hdom.2.2,q1];rfl
     ·rw[if_neg hk,if_neg hk]
    have hobr:kO w0 ρ o lim (some (.row (kT cs off (d.map .str)))) (some (.cells (putCells encStr (o+off) d.toArray c) t fr)):=by
     refine⟨_,_,_,rfl,by simpa[putCells]using q2,?_,q4,fun i hi=> ?_⟩
     ·have:(kT cs off (d.map V.str)).length=cs.length:=by simp[kT];omega
      rw[this];exact q3
     ·have hlen:(kT cs off (d.map V.str)).length=cs.length:=by simp[kT];omega
      rw[hlen]at hi;obtain⟨v,e1,e2⟩:=q5 i hi;obtain⟨hc,hcv⟩:=Array.getElem?_eq_some_iff.1 e1;have e3:(putCells encStr (o+off) d.toArray c)[o+i]? =some (if o+off≤o+i∧o+i<o+off+d.toArray.size then encStr d.toArray[o+i - (o+off)]! else v):=by
       unfold putCells;rw[Array.getElem?_mapIdx,e1];rfl
      refine⟨_,e3,?_⟩;by_cases hin:off≤i∧i<off+len
      ·rw[if_pos (by simp[hd];omega)];have e4:o+i - (o+off)=i - off:=by omega
       have e5:(kT cs off (d.map V.str))[i]=.str (d[i - off]'(by omega)):=by
        have h5:(kT cs off (d.map V.str))[i]? =some (.str (d[i - off]'(by omega))):=by
         unfold kT;rw[ow,gf (by simp;omega)];have e6:(cs.take off).length=off:=by simp;omega
         rw[e6,gD (by simp;omega),List.getElem?_map,dm (by omega)];rfl
        rw[dm (by rw[hlen];exact hi)]at h5;exact Option.some.inj h5
       rw[e5,e4];have e7:d.toArray[i - off]! =d[i - off]'(by omega):=by
        rw[getElem!_pos _ _ (by simp;omega)];simp
       rw[e7];exact .str (by simp[encStr])
      ·rw[if_neg (by simp[hd];omega)];have e5:(kT cs off (d.map V.str))[i]'(by rw[hlen];exact hi)=cs[i]:=by
        have h5:(kT cs off (d.map V.str))[i]? =cs[i]? :=by
         unfold kT;by_cases hi2:i<off
         ·rw[ow,gD (by simp;omega),o3,if_pos hi2]
         ·rw[gf (by simp;omega),td];congr 1;simp;omega
        rw[dm (by rw[hlen];exact hi),dm hi]at h5;exact Option.some.inj h5
       rw[e5];exact e2
    obtain⟨k1,k2⟩:=hR.put hρ (by rw[hob];trivial) hobr;have hheap:w2.heap=({w with heap:=w.heap.setIfInBounds r (.cells (putCells encStr (o+off) d.toArray c) t fr)}:World).heap:=by rw[hh,hmod]
    have k3:=k1.same (w' :=w2) hheap ho hp';have k4:=k2.trans (kK.same (w' :=w2) hheap);obtain⟨k5,k6⟩:=Bo k3 os;exact⟨k5,k4.trans k6⟩
   have hz:len≠0:=fun hh=>hz hh;have ha:a=⟨r,o+off,none⟩:=by
    rcases h4 with h4|h4
    ·omega
    ·exact h4.1
   subst ha;have hH:Holds encStr w r (o+off) l.toArray:=by
    intro j hj;have hj' :j<len:=by simpa[hll]using hj
    have hoj:off+j<cs.length:=by omega
    obtain⟨v,e1,e2⟩:=q5 (off+j) hoj;have e3:cs[off+j]=.str (l[j]'(by omega)):=by
     have h5:((cs.drop off).take len)[j]? =some (.str (l[j]'(by omega))):=by
      rw[hlm,List.getElem?_map,dm (by omega)];rfl
     rw[o3,if_pos hj',td,dm hoj]at h5;exact Option.some.inj h5
    rw[e3]at e2;have hjl:off+j<off+len:=by omega
    have hlim:o+off+j<lim:=by omega
    refine⟨?_,?_⟩
    ·have e7:l.toArray[j]! =l[j]'(by omega):=by
      rw[getElem!_pos _ _ (by simpa using hj)];simp
     rw[e7];simp only[World.cell?,q1];cases e2 with
     |str hs=>
      rename_i sb;have:c[o+off+j]? =some (.string sb):=by rw[Nat.add_assoc];exact e1
      simp only[Option.isSome_none,mF,if_false,this];congr 1;show Value.string sb=Value.string ⟨(l[j]'(by omega)).toArray⟩;rw[←hs]
    ·simp only[World.frozen?,q1];have:=q4 (o+off+j) hlim;obtain⟨f1,f2⟩:=fr;simp only at this⊢;simpa using this
   have:=hS r (o+off) cap' l w hH hdom.2.2 (by omega);rw[hll]at this;refine this.mono ?_;rintro e w' ⟨rfl,n,os,rfl⟩;rw[YJ];obtain⟨k1,k2⟩:=key (putRow encStr (Sort.ahead w n) r (o+off) (dy l).toArray) (dy l) (by rw[Dp,hll]) rfl rfl rfl os;exact⟨ρ,_,rfl,k1,k2,.aP rfl (fun i h=>by simp at h)⟩
end Go.RE
