/- Without fuel: equations. -/
import Derived.Test.YtmpopachilfinaaGreatPart10
set_option linter.unusedVariables false
set_option linter.unusedSimpArgs false
set_option linter.constructorNameAsVariable false
namespace Go.RE
open Classical in
noncomputable def sup{α:Type}(a:Nat→Option α):Option α:=if h:∃ x n,a n=some x then some h.choose else none
def Up{α:Type}(a:Nat→Option α):Prop:=∀ n m x,n≤m→a n=some x→a m=some x
theorem Xl{α:Type}{a:Nat→Option α}(hm:Up a){x:α}:sup a=some x↔∃ n,a n=some x:=by
 unfold sup;constructor
 ·intro h;split at h
  ·rename_i hh;simp only[ai]at h;obtain⟨n,hn⟩:=hh.choose_spec;exact⟨n,by rw[←h];exact hn⟩
  ·cases h
 ·rintro⟨n,hn⟩;have hh:∃ x n,a n=some x:=⟨x,n,hn⟩;rw[dif_pos hh];obtain⟨m,h2⟩:=hh.choose_spec;have h3:=hm n (max n m) x (oU _ _) hn;have h4:=hm m (max n m) _ (Nat.le_max_right _ _) h2;rw[h3]at h4;exact h4.symm
def vV(F F' :FU):Prop:=∀ f us h fl R,F f us h fl=some R→F' f us h fl=some R
section
variable{M:oW}{Q:mA}{F F' :FU}{s:Vs}
theorem Ac(hF:vV F F'){ld:Bool}{d f:Nat}{args:List U}{x:U×Vs}(h:jG ld F d f args s=some x):jG ld F' d f args s=some x:=by
 unfold jG at h⊢;split at h
 ·rename_i us hus;simp only;cases hl:U.b8 0 us with
  |true=>
   rw[hl]at h;simp only[cond_true]at h⊢;cases hc:F f us [] 0 with
   |none=>rw[hc]at h;cases h
   |some R=>rw[hc]at h;rw[hF _ _ _ _ _ hc];exact h
  |false=>
   rw[hl]at h;simp only[cond_false]at h⊢;cases ld with
   |true=>
    simp only[cond_true]at h⊢;cases hc:F f us (eu (gP (aG args s).h (aG args s).e) (aG args s).h) (aG args s).fl with
    |none=>rw[hc]at h;cases h
    |some R=>rw[hc]at h;rw[hF _ _ _ _ _ hc];exact h
   |false=>
    simp only[cond_false]at h⊢;cases hc:F f us (aG args s).h (aG args s).fl with
    |none=>rw[hc]at h;cases h
    |some R=>rw[hc]at h;rw[hF _ _ _ _ _ hc];exact h
 ·cases h
theorem Wm(hF:vV F F'){d f:Nat}{args:List U}{x:U×Vs}(h:yB Q F s d f args=some x):yB Q F' s d f args=some x:=by
 unfold yB at h⊢;split at h
 ·split at h
  ·exact h
  ·exact Ac hF h
 ·exact Ac hF h
theorem wJ(hF:vV F F'){dst:Option Nat}{o:jE}{x:U×Vs}(h:kG M Q F s dst o=some x):kG M Q F' s dst o=some x:=by
 cases o with
 |call f args=>
  simp only[kG]at h⊢;split at h
  ·split at h
   ·rename_i q hq;(try simp only[hq]);exact h
   ·rename_i hq
    (try simp only[hq])
    split at h
    ·rename_i q hqa;(try simp only[hqa]);exact h
    ·rename_i hqa;(try simp only[hqa]);exact Wm hF h
  ·cases h
 |invoke name y args=>
  simp only[kG]at h⊢;split at h
  ·split at h
   ·rename_i q hq;(try simp only[hq]);exact Ac hF h
   ·cases h
  ·cases h
 |h o=>cases o<;>exact h
 |_=>exact h
theorem yW(hF:vV F F'):∀ {ops:List aD} {s s' :Vs},gy M Q F ops s=some s'→gy M Q F' ops s=some s' :=by
 intro ops
 induction ops with
 |nil=>intro s s' h;exact h
 |cons o r ih=>
  intro s s' h;simp only[gy]at h⊢;split at h
  ·split at h
   ·rename_i v s1 hc;rw[wJ hF hc];exact ih h
   ·cases h
  ·exact ih h
  ·cases h
theorem GO(hF:vV F F'){f:Nat}{args:List U}{hid:List Nat×List (Nat×Nat)}(h:lK F f args s hid=true):lK F' f args s hid=true:=by
 unfold lK at h⊢;split at h
 ·rename_i us hus
  try simp only
  split at h
  ·rename_i R hR;rw[hF _ _ _ _ _ hR];exact h
  ·cases h
 ·cases h
theorem Di(hF:vV F F'){t:Vs}{o:jE}{p:Nat}{ah:List (Nat×Rk)}(h:gH M Q F s t o p ah=true):gH M Q F' s t o p ah=true:=by
 unfold gH at h⊢;split at h
 ·rename_i hid hh
  try simp only[hh]
  split at h
  ·split at h
   ·split at h
    ·rename_i hq hqa
     (try simp only[hq,hqa])
     simp only[bC]at h⊢;exact⟨h.1,GO hF h.2⟩
    ·cases h
   ·cases h
  ·split at h
   ·split at h
    ·rename_i hm;(try simp only[hm]);exact GO hF h
    ·cases h
   ·cases h
  ·cases h
 ·cases h
theorem Pn{a b c:Bool}(hab:a=true→b=true)(h:(c||a)=true):(c||b)=true:=by
 cases c with
 |true=>rfl
 |false=>exact hab h
theorem wO(hF:vV F F'):∀ {l:List Step} {s s' :Vs} {ah:List (Nat×Rk)},bV M Q F l s ah=some s'→bV M Q F' l s ah=some s' :=by
 intro l
 induction l with
 |nil=>intro s s' ah h;exact h
 |cons x r ih=>
  intro s s' ah h;cases x with
  |small i o=>
   simp only[bV]at h⊢;split at h
   ·split at h
    ·rename_i v s1 hc;rw[wJ hF hc];simp only;split at h
     ·exact ih h
     ·exact ih h
     ·cases h
    ·cases h
   ·exact ih h
   ·cases h
  |bp i o=>
   simp only[bV]at h⊢;split at h
   ·split at h
    ·rename_i v s1 hc;rw[wJ hF hc];simp only;obtain⟨hb,h⟩:=aK h;rw[Pn (Di hF) hb];exact ih h
    ·cases h
   ·exact ih h
   ·cases h
structure zW(Fn:Nat→FU)(G:FU):Prop where
 up:∀ n m,n≤m→vV (Fn n) (Fn m)
 lim:∀ f us h fl R,G f us h fl=some R↔∃ n,Fn n f us h fl=some R
variable{Fn:Nat→FU}{G:FU}
theorem zW.le(hG:zW Fn G)(n:Nat):vV (Fn n) G:=fun f us h fl R hh=>(hG.lim f us h fl R).2 ⟨n,hh⟩
theorem wg(hG:zW Fn G){ld:Bool}{d f:Nat}{args:List U}{x:U×Vs}(h:jG ld G d f args s=some x):∃ n,jG ld (Fn n) d f args s=some x:=by
 unfold jG at h⊢;split at h
 ·rename_i us hus;simp only;cases hl:U.b8 0 us with
  |true=>
   rw[hl]at h;simp only[cond_true]at h⊢;cases hc:G f us [] 0 with
   |none=>rw[hc]at h;cases h
   |some R=>
    rw[hc]at h;obtain⟨n,hn⟩:=(hG.lim _ _ _ _ _).1 hc;exact⟨n,by rw[hn];exact h⟩
  |false=>
   rw[hl]at h;simp only[cond_false]at h⊢;cases ld with
   |true=>
    simp only[cond_true]at h⊢;cases hc:G f us (eu (gP (aG args s).h (aG args s).e) (aG args s).h) (aG args s).fl with
    |none=>rw[hc]at h;cases h
    |some R=>
     rw[hc]at h;obtain⟨n,hn⟩:=(hG.lim _ _ _ _ _).1 hc;exact⟨n,by rw[hn];exact h⟩
   |false=>
    simp only[cond_false]at h⊢;cases hc:G f us (aG args s).h (aG args s).fl with
    |none=>rw[hc]at h;cases h
    |some R=>
     rw[hc]at h;obtain⟨n,hn⟩:=(hG.lim _ _ _ _ _).1 hc;exact⟨n,by rw[hn];exact h⟩
 ·cases h
theorem Pk(hG:zW Fn G){d f:Nat}{args:List U}{x:U×Vs}(h:yB Q G s d f args=some x):∃ n,yB Q (Fn n) s d f args=some x:=by
 unfold yB at h⊢;split at h
 ·split at h
  ·exact⟨0,h⟩
  ·exact wg hG h
 ·exact wg hG h
theorem Ez(hG:zW Fn G){dst:Option Nat}{o:jE}{x:U×Vs}(h:kG M Q G s dst o=some x):∃ n,kG M Q (Fn n) s dst o=some x:=by
 cases o with
 |call f args=>
  simp only[kG]at h⊢;split at h
  ·split at h
   ·rename_i q hq;(try simp only[hq]);exact⟨0,h⟩
   ·rename_i hq
    (try simp only[hq])
    split at h
    ·rename_i q hqa;(try simp only[hqa]);exact⟨0,h⟩
    ·rename_i hqa;(try simp only[hqa]);exact Pk hG h
  ·cases h
 |invoke name y args=>
  simp only[kG]at h⊢;split at h
  ·split at h
   ·rename_i q hq;(try simp only[hq]);exact wg hG h
   ·cases h
  ·cases h
 |h o=>cases o<;>exact⟨0,h⟩
 |_=>exact⟨0,h⟩
theorem C3(hG:zW Fn G){f:Nat}{args:List U}{hid:List Nat×List (Nat×Nat)}(h:lK G f args s hid=true):∃ n,lK (Fn n) f args s hid=true:=by
 unfold lK at h⊢;split at h
 ·rename_i us hus
  try simp only
  split at h
  ·rename_i R hR;obtain⟨n,hn⟩:=(hG.lim _ _ _ _ _).1 hR;exact⟨n,by rw[hn];exact h⟩
  ·cases h
 ·cases h
theorem JA(hG:zW Fn G){t:Vs}{o:jE}{p:Nat}{ah:List (Nat×Rk)}(h:gH M Q G s t o p ah=true):∃ n,gH M Q (Fn n) s t o p ah=true:=by
 unfold gH at h⊢;split at h
 ·rename_i hid hh
  try simp only[hh]
  split at h
  ·split at h
   ·split at h
    ·rename_i hq hqa
     (try simp only[hq,hqa])
     simp only[bC]at h;obtain⟨n,hn⟩:=C3 hG h.2;exact⟨n,by simp only[bC];exact⟨h.1,hn⟩⟩
    ·cases h
   ·cases h
  ·split at h
   ·split at h
    ·rename_i hm;(try simp only[hm]);exact C3 hG h
    ·cases h
   ·cases h
  ·cases h
 ·cases h
theorem Wn(hG:zW Fn G){t:Vs}{o:jE}{p:Nat}{ah:List (Nat×Rk)}{c:Bool}(h:(c||gH M Q G s t o p ah)=true):∃ n,(c||gH M Q (Fn n) s t o p ah)=true:=by
 cases c with
 |true=>exact⟨0,rfl⟩
 |false=>exact JA hG h
theorem Qx(hG:zW Fn G):∀ {ops:List aD} {s s' :Vs},gy M Q G ops s=some s'→∃ n,gy M Q (Fn n) ops s=some s' :=by
 intro ops
 induction ops with
 |nil=>intro s s' h;exact⟨0,h⟩
 |cons o r ih=>
  intro s s' h;simp only[gy]at h⊢;split at h
  ·split at h
   ·rename_i v s1 hc;obtain⟨a,ha⟩:=Ez hG hc;obtain⟨b,hb⟩:=ih h;refine⟨max a b,?_⟩;rw[wJ (hG.up _ _ (oU a b)) ha];exact yW (hG.up _ _ (Nat.le_max_right a b)) hb
   ·cases h
  ·exact ih h
  ·cases h
theorem Kj(hG:zW Fn G):∀ {l:List Step} {s s' :Vs} {ah:List (Nat×Rk)},bV M Q G l s ah=some s'→∃ n,bV M Q (Fn n) l s ah=some s' :=by
 intro l
 induction l with
 |nil=>intro s s' ah h;exact⟨0,h⟩
 |cons x r ih=>
  intro s s' ah h;cases x with
  |small i o=>
   simp only[bV]at h⊢;split at h
   ·split at h
    ·rename_i v s1 hc;obtain⟨a,ha⟩:=Ez hG hc;have fin:∀ {s2:Vs} {ah:List (Nat×Rk)},bV M Q G r s2 ah=some s'→∃ n,kG M Q (Fn n) s o.dst o.op=some (v,s1)∧bV M Q (Fn n) r s2 ah=some s' :=fun h=>by
      obtain⟨b,hb⟩:=ih h;exact⟨max a b,wJ (hG.up _ _ (oU a b)) ha,wO (hG.up _ _ (Nat.le_max_right a b)) hb⟩
     split at h
     ·obtain⟨n,h1,h2⟩:=fin h;exact⟨n,by rw[h1];exact h2⟩
     ·obtain⟨n,h1,h2⟩:=fin h;exact⟨n,by rw[h1];exact h2⟩
     ·cases h
    ·cases h
   ·exact ih h
   ·cases h
  |bp i o=>
   simp only[bV]at h⊢;split at h
   ·split at h
    ·rename_i v s1 hc;obtain⟨hb,h⟩:=aK h;obtain⟨a,ha⟩:=Ez hG hc;obtain⟨b,hb2⟩:=ih h;obtain⟨c,hc2⟩:=Wn hG hb;refine⟨max (max a b) c,?_⟩;rw[wJ (hG.up _ _ (Nat.le_trans (oU a b) (oU (max a b) c))) ha];simp only[Pn (Di (hG.up _ _ (Nat.le_max_right (max a b) c))) hc2,cond_true];exact wO (hG.up _ _ (Nat.le_trans (Nat.le_max_right a b) (oU (max a b) c))) hb2
    ·cases h
   ·exact ih h
   ·cases h
end
section
variable{VF:Nat→Option aC}{M:oW}{Q:mA}{Pm:XG}
theorem si{K K' :Ex→Vs→Prop}(hK:∀ ex t,K ex t→K' ex t){o:Option Vs}(h:iq K o):iq K' o:=by
 cases o with
 |none=>exact h
 |some t=>exact hK _ _ h
theorem yZ{K:Ex→Vs→Prop}{o o' :Option Vs}(ho:∀ t,o=some t→o' =some t)(h:iq K o):iq K o' :=by
 cases o with
 |none=>exact h.elim
 |some t=>rw[ho t rfl];exact h
theorem AZ{s:Vs}{dst:Option Nat}{q j since:Nat}{seen:List Nat}{clock:Nat}{k k' :Vs→Prop}(hk:∀ t,k t→k' t){c:Option (U×U×Nat)}(h:HJ s dst q j since seen clock k c):HJ s dst q j since seen clock k' c:=by
 cases c<;>exact hk _ h
theorem mW{s:Vs}{dst:Option Nat}{x:bJ}{k k' :Vs→Prop}(hk:∀ t,k t→k' t)(h:ig s dst x k):ig s dst x k' :=by
 unfold ig at h⊢;split at h<;>try exact h.elim
 split at h<;>try exact h.elim
 ·exact hk _ h
 ·split at h<;>try exact h.elim
  exact⟨h.1,fun c hc=>AZ hk (h.2 c hc)⟩
theorem Ot{s:Vs}{dst:Option Nat}{x:bJ}{k k' :Vs→Prop}(h:ig s dst x k)(h' :ig s dst x k'):ig s dst x fun t=>k t∧k' t:=by
 unfold ig at h h'⊢;split at h<;>try exact h.elim
 rename_i q hx;simp only[hx]at h';split at h<;>try exact h.elim
 ·rename_i hq;simp only[hq]at h';exact⟨h,h'⟩
 ·rename_i hq;simp only[hq]at h';split at h<;>try exact h.elim
  rename_i hm;simp only[hm]at h';refine⟨h.1,fun c hc=> ?_⟩;have a:=h.2 c hc;have b:=h'.2 c hc;cases c<;>exact⟨a,b⟩
theorem Pr(es:List (U×U×Nat))(since:Nat)(seen:List Nat):∃ c,c∈td es since seen:=by
 unfold td;simp only;cases h:(List.filter (fun e=>Nat.blt e.2.2 since) (List.filter (fun e=> !seen.contains e.2.2) es))with
 |nil=>exact⟨none,by simp⟩
 |cons a r=>exact⟨some a,by simp⟩
theorem Qk{s:Vs}{dst:Option Nat}{x:bJ}{k:Vs→Prop}(h:ig s dst x k):∃ t,k t:=by
 unfold ig at h;split at h<;>try exact h.elim
 split at h<;>try exact h.elim
 ·exact⟨_,h⟩
 ·split at h<;>try exact h.elim
  rename_i j since seen last _ _ es clock _;obtain⟨c,hc⟩:=Pr es since seen;have:=h.2 c hc;cases c<;>exact⟨_,this⟩
theorem Qa{α:Type}{Q:α→Nat→Prop}(hm:∀ i a b,a≤b→Q i a→Q i b):∀ {l:List α},(∀ i∈l,∃ m,Q i m)→∃ m,∀ i∈l,Q i m:=by
 intro l
 induction l with
 |nil=>intro _;exact⟨0,fun i hi=>by cases hi⟩
 |cons a l ih=>
  intro h;obtain⟨m,h1⟩:=ih fun i hi=>h i (gB _ hi);obtain⟨k,h2⟩:=h a eU;refine⟨max m k,fun i hi=> ?_⟩;rcases dS.1 hi with rfl|hi
  ·exact hm _ _ _ (Nat.le_max_right _ _) h2
  ·exact hm _ _ _ (oU _ _) (h1 i hi)
theorem A0{s:Vs}{dst:Option Nat}{x:bJ}{k:Nat→Vs→Prop}(hk:∀ a b t,a≤b→k a t→k b t)(h:ig s dst x fun t=>∃ m,k m t):∃ m,ig s dst x (k m):=by
 unfold ig at h;split at h<;>try exact h.elim
 rename_i q hx;split at h<;>try exact h.elim
 ·rename_i since seen last hq;obtain⟨m,hm⟩:=h;exact⟨m,by unfold ig;simp only[hx,hq];exact hm⟩
 ·rename_i j since seen last hq;split at h<;>try exact h.elim
  rename_i es clock hj;obtain⟨h1,h2⟩:=h;obtain⟨m,hm⟩:=Qa (Q:=fun c m=>HJ s dst q j since seen clock (k m) c) (fun c a b hab hh=>AZ (fun t ht=>hk a b t hab ht) hh) (fun c hc=>by
   have:=h2 c hc;cases c with
   |none=>exact this
   |some e=>exact this)
  exact⟨m,by unfold ig;simp only[hx,hq,hj];exact⟨h1,hm⟩⟩
theorem y7{F F' :FU}(hF:vV F F'){K K' :Ex→Vs→Prop}(hK:∀ ex t,K ex t→K' ex t){s:Vs}{ops:List aD}(h:jS M Q F s K ops):jS M Q F' s K' ops:=by
 unfold jS at h⊢;split at h
 ·exact mW (fun t ht=>si hK (yZ (fun t h=>yW hF h) ht)) h
 ·exact si hK (yZ (fun t h=>yW hF h) h)
theorem uh{F F' :FU}(hF:vV F F'){K K' :Ex→Vs→Prop}(hK:∀ ex t,K ex t→K' ex t){s:Vs}{l:Option (List Step)}(h:kV M Q F s K l):kV M Q F' s K' l:=by
 cases l with
 |none=>exact h.elim
 |some l=>exact si hK (yZ (fun t h=>wO hF h) h)
theorem nJ{fn:aC}{id n:Nat}{K K' :Ex→Vs→Prop}(hK:∀ ex t,K ex t→K' ex t){ex:Ex}{t:Vs}(h:kB fn id n K ex t):kB fn id n K' ex t:=by
 cases ex with
 |normal=>exact hK _ _ h
 |ret=>exact hK _ _ h
 |exit i=>
  simp only[kB]at h⊢;cases hb:Nat.beq i id with
  |true=>rw[hb]at h;exact hK _ _ h
  |false=>rw[hb]at h;exact hK _ _ h
theorem JI{fn:aC}{id n:Nat}{K K' :Ex→Vs→Prop}{ex:Ex}{t:Vs}(h:kB fn id n K ex t)(h' :kB fn id n K' ex t):kB fn id n (fun ex t=>K ex t∧K' ex t) ex t:=by
 cases ex with
 |normal=>exact⟨h,h'⟩
 |ret=>exact⟨h,h'⟩
 |exit i=>
  simp only[kB]at h h'⊢;cases hb:Nat.beq i id with
  |true=>rw[hb]at h h';exact⟨h,h'⟩
  |false=>rw[hb]at h h';exact⟨h,h'⟩
theorem P0{fn:aC}{id n:Nat}{K:Ex→Vs→Prop}{ex:Ex}{t:Vs}(h:kB fn id n K ex t):∃ ex t,K ex t:=by
 cases ex with
 |normal=>exact⟨_,_,h⟩
 |ret=>exact⟨_,_,h⟩
 |exit i=>
  simp only[kB]at h;cases hb:Nat.beq i id with
  |true=>rw[hb]at h;exact⟨_,_,h⟩
  |false=>rw[hb]at h;exact⟨_,_,h⟩
theorem PZ{fn:aC}{id n:Nat}{K:Nat→Ex→Vs→Prop}{ex:Ex}{t:Vs}(h:kB fn id n (fun ex t=>∃ m,K m ex t) ex t):∃ m,kB fn id n (K m) ex t:=by
 cases ex with
 |normal=>exact h
 |ret=>exact h
 |exit i=>
  simp only[kB]at h⊢;cases hb:Nat.beq i id with
  |true=>rw[hb]at h;exact h
  |false=>rw[hb]at h;exact h
theorem QE{F:FU}{K K' :Ex→Vs→Prop}{s:Vs}{ops:List aD}(h:jS M Q F s K ops)(h' :jS M Q F s K' ops):jS M Q F s (fun ex t=>K ex t∧K' ex t) ops:=by
 have key:∀ o:Option Vs,iq K o→iq K' o→iq (fun ex t=>K ex t∧K' ex t) o:=fun o h h' =>by
  cases o with
  |none=>exact h.elim
  |some u=>exact⟨h,h'⟩
 cases ops with
 |nil=>exact key (gy M Q F [] s) h h'
 |cons o r=>
  obtain⟨dst,op,g,p⟩:=o;cases op with
  |next x=>
   cases g with
   |none=>
    have h1:ig s dst x fun t=>iq K (gy M Q F r t):=h;have h2:ig s dst x fun t=>iq K' (gy M Q F r t):=h';have h3:ig s dst x fun t=>iq (fun ex t=>K ex t∧K' ex t) (gy M Q F r t):=mW (fun t ht=>key _ ht.1 ht.2) (Ot h1 h2);exact h3
   |some g=>exact key _ h h'
  |_=>exact key _ h h'
theorem jl:∀ n,(∀ {fn:aC} {c:aj} {s:Vs} {K K' :Ex→Vs→Prop},(∀ ex t,K ex t→K' ex t)→vC VF M Q Pm n fn c s K→vC VF M Q Pm n fn c s K')∧
  ∀ {fn:aC} {id:Nat} {b:aj} {m:Nat} {s:Vs} {K K' :Ex→Vs→Prop},(∀ ex t,K ex t→K' ex t)→vL VF M Q Pm n fn id b m s K→vL VF M Q Pm n fn id b m s K' :=by
 intro n
 induction n with
 |zero=>exact⟨fun _ h=>by simp[vC]at h,fun _ h=>by simp[vL]at h⟩
 |succ n ih=>
  obtain⟨ihC,ihL⟩:=ih;refine⟨fun {fn c s K K'} hK h=> ?_,fun {fn id b m s K K'} hK h=> ?_⟩
  ·cases c with
   |skip=>exact hK _ _ h
   |ret=>exact hK _ _ h
   |exit i=>exact hK _ _ h
   |region ops=>exact y7 (fun _ _ _ _ _ h=>h) hK h
   |draw ops=>exact uh (fun _ _ _ _ _ h=>h) hK h
   |seq a b=>
    simp only[vC]at h⊢;refine ihC (fun ex t ht=> ?_) h;cases ex with
    |normal=>exact ihC hK ht
    |ret=>exact hK _ _ ht
    |exit i=>exact hK _ _ ht
   |cond x a b=>
    simp only[vC]at h⊢;split at h<;>try exact h.elim
    ·rename_i hx;(try simp only[hx]);exact ihC hK h
    ·rename_i hx;(try simp only[hx]);exact ihC hK h
   |block id b=>
    cases b with
    |loop b=>simp only[vC]at h⊢;exact ihL hK h
    |_=>simp only[vC]at h⊢;exact ihC (fun ex t ht=>nJ hK ht) h
   |loop b=>simp[vC]at h
   |bad=>simp[vC]at h
   |uG a b=>simp[vC]at h
  ·simp only[vL]at h⊢;refine ihC (fun ex t ht=> ?_) h;cases ex with
   |normal=>exact ihL hK ht
   |ret=>exact nJ hK ht
   |exit i=>exact nJ hK ht
theorem qgf:∀ n,(∀ {fn:aC} {c:aj} {s:Vs} {K K' :Ex→Vs→Prop},vC VF M Q Pm n fn c s K→vC VF M Q Pm n fn c s K'→vC VF M Q Pm n fn c s fun ex t=>K ex t∧K' ex t)∧
  ∀ {fn:aC} {id:Nat} {b:aj} {m:Nat} {s:Vs} {K K' :Ex→Vs→Prop},vL VF M Q Pm n fn id b m s K→vL VF M Q Pm n fn id b m s K'→vL VF M Q Pm n fn id b m s fun ex t=>K ex t∧K' ex t:=by
 intro n
 induction n with
 |zero=>exact⟨fun h _=>by simp[vC]at h,fun h _=>by simp[vL]at h⟩
 |succ n ih=>
  obtain⟨ihC,ihL⟩:=ih;have mC:=fun {fn c s K K'}=>(jl (VF:=VF) (M:=M) (Q:=Q) (Pm:=Pm) n).1 (fn:=fn) (c:=c) (s:=s) (K:=K) (K' :=K');refine⟨fun {fn c s K K'} h h' => ?_,fun {fn id b m s K K'} h h' => ?_⟩
  ·cases c with
   |skip=>exact⟨h,h'⟩
   |ret=>exact⟨h,h'⟩
   |exit i=>exact⟨h,h'⟩
   |region ops=>
    have h:jS M Q (vF VF M Q Pm n) s K ops:=h;have h' :jS M Q (vF VF M Q Pm n) s K' ops:=h';exact QE h h'
   |draw ops=>
    have h:kV M Q (vF VF M Q Pm n) s K (sched (ops.length+1) (bq ops 0) 0):=h;have h' :kV M Q (vF VF M Q Pm n) s K' (sched (ops.length+1) (bq ops 0) 0):=h';show kV M Q (vF VF M Q Pm n) s _ (sched (ops.length+1) (bq ops 0) 0);generalize sched (ops.length+1) (bq ops 0) 0=l at h h'⊢;cases l with
    |none=>exact h.elim
    |some l=>
     simp only[kV]at h h'⊢;generalize bV M Q (vF VF M Q Pm n) l s []=o at h h'⊢;cases o with
     |none=>exact h.elim
     |some u=>exact⟨h,h'⟩
   |seq a b=>
    simp only[vC]at h h'⊢;refine mC (fun ex t ht=> ?_) (ihC h h');cases ex with
    |normal=>exact ihC ht.1 ht.2
    |ret=>exact ht
    |exit i=>exact ht
   |cond x a b=>
    simp only[vC]at h h'⊢;split at h<;>try exact h.elim
    ·rename_i hx;(try simp only[hx]at h');(try simp only[hx]);exact ihC h h'
    ·rename_i hx;(try simp only[hx]at h');(try simp only[hx]);exact ihC h h'
   |block id b=>
    cases b with
    |loop b=>simp only[vC]at h h'⊢;exact ihL h h'
    |_=>simp only[vC]at h h'⊢;exact mC (fun ex t ht=>JI ht.1 ht.2) (ihC h h')
   |loop b=>simp[vC]at h
   |bad=>simp[vC]at h
   |uG a b=>simp[vC]at h
  ·simp only[vL]at h h'⊢;refine mC (fun ex t ht=> ?_) (ihC h h');cases ex with
   |normal=>exact ihL ht.1 ht.2
   |ret=>exact JI ht.1 ht.2
   |exit i=>exact JI ht.1 ht.2
theorem qiy:∀ n,(∀ {fn:aC} {c:aj} {s:Vs} {K:Ex→Vs→Prop},vC VF M Q Pm n fn c s K→∃ ex t,K ex t)∧
  ∀ {fn:aC} {id:Nat} {b:aj} {m:Nat} {s:Vs} {K:Ex→Vs→Prop},vL VF M Q Pm n fn id b m s K→∃ ex t,K ex t:=by
 intro n
 induction n with
 |zero=>exact⟨fun h=>by simp[vC]at h,fun h=>by simp[vL]at h⟩
 |succ n ih=>
  obtain⟨ihC,ihL⟩:=ih;have reg:∀ {K:Ex→Vs→Prop} {o:Option Vs},iq K o→∃ ex t,K ex t:=fun {K o} h=>by
   cases o with
   |none=>exact h.elim
   |some u=>exact⟨_,_,h⟩
  refine⟨fun {fn c s K} h=> ?_,fun {fn id b m s K} h=> ?_⟩
  ·cases c with
   |skip=>exact⟨_,_,h⟩
   |ret=>exact⟨_,_,h⟩
   |exit i=>exact⟨_,_,h⟩
   |region ops=>
    have h:jS M Q (vF VF M Q Pm n) s K ops:=h;unfold jS at h;split at h
    ·obtain⟨t,ht⟩:=Qk h;exact reg ht
    ·exact reg h
   |draw ops=>
    have h:kV M Q (vF VF M Q Pm n) s K (sched (ops.length+1) (bq ops 0) 0):=h;generalize sched (ops.length+1) (bq ops 0) 0=l at h;cases l with
    |none=>exact h.elim
    |some l=>exact reg h
   |seq a b=>
    simp only[vC]at h;obtain⟨ex,t,ht⟩:=ihC h;cases ex with
    |normal=>exact ihC ht
    |ret=>exact⟨_,_,ht⟩
    |exit i=>exact⟨_,_,ht⟩
   |cond x a b=>
    simp only[vC]at h;split at h<;>try exact h.elim
    ·exact ihC h
    ·exact ihC h
   |block id b=>
    cases b with
    |loop b=>simp only[vC]at h;exact ihL h
    |_=>simp only[vC]at h;obtain⟨ex,t,ht⟩:=ihC h;exact P0 ht
   |loop b=>simp[vC]at h
   |bad=>simp[vC]at h
   |uG a b=>simp[vC]at h
  ·simp only[vL]at h;obtain⟨ex,t,ht⟩:=ihC h;cases ex with
   |normal=>exact ihL ht
   |ret=>exact P0 ht
   |exit i=>exact P0 ht
theorem Vz{n:Nat}{fn:aC}{c:aj}{s:Vs}{k:Nat}{R R' :U×List Uo×Nat}(h:vC VF M Q Pm n fn c s (kE k fn R))(h' :vC VF M Q Pm n fn c s (kE k fn R')):R=R' :=by
 obtain⟨ex,t,h1,h2⟩:=(qiy n).1 ((qgf n).1 h h');cases ex with
 |exit i=>exact h1.elim
 |normal=>simp only[kE]at h1 h2;rw[h1]at h2;simpa using h2
 |ret=>simp only[kE]at h1 h2;rw[h1]at h2;simpa using h2
theorem Mq{α:Type}{P:α→Prop}{x:α}(hx:P x)(hu:∀ y,P y→x=y):pick P=some x:=by
 unfold pick;have hh:∃ x,P x:=⟨x,hx⟩;rw[dif_pos hh];exact congrArg some (hu _ hh.choose_spec).symm
theorem LF:∀ n,vV (vF VF M Q Pm n) (vF VF M Q Pm (n+1))∧(∀ {fn:aC} {c:aj} {s:Vs} {K:Ex→Vs→Prop},vC VF M Q Pm n fn c s K→vC VF M Q Pm (n+1) fn c s K)∧
  ∀ {fn:aC} {id:Nat} {b:aj} {m:Nat} {s:Vs} {K:Ex→Vs→Prop},vL VF M Q Pm n fn id b m s K→vL VF M Q Pm (n+1) fn id b m s K:=by
 intro n
 induction n with
 |zero=>exact⟨fun f us h fl R hh=>by simp[vF]at hh,fun h=>by simp[vC]at h,fun h=>by simp[vL]at h⟩
 |succ n ih=>
  obtain⟨ihF,ihC,ihL⟩:=ih;refine⟨fun f us h fl R hh=> ?_,fun {fn c s K} h=> ?_,fun {fn id b m s K} h=> ?_⟩
  ·rw[vF]at hh⊢;split at hh
   ·rename_i p hp;(try simp only[hp]);exact hh
   ·rename_i hp
    (try simp only[hp])
    split at hh
    ·cases hh
    ·rename_i fn hfn
     (try simp only[hfn])
     obtain⟨hb,hh⟩:=aK hh;rw[hb];simp only[cond_true];have h1:=ihC (Dz (P:=fun R=>vC VF M Q Pm n fn fn.body ⟨lM us 0,h,fl⟩ (kE h.length fn R)) hh);exact Mq h1 fun y hy=>Vz h1 hy
  ·cases c with
   |skip=>exact h
   |ret=>exact h
   |exit i=>exact h
   |region ops=>exact y7 ihF (fun _ _ h=>h) h
   |draw ops=>exact uh ihF (fun _ _ h=>h) h
   |seq a b=>
    rw[vC]at h⊢;refine ihC ((jl n).1 (fun ex t ht=> ?_) h);cases ex with
    |normal=>exact ihC ht
    |ret=>exact ht
    |exit i=>exact ht
   |cond x a b=>
    rw[vC]at h⊢;split at h<;>try exact h.elim
    ·rename_i hx;(try simp only[hx]);exact ihC h
    ·rename_i hx;(try simp only[hx]);exact ihC h
   |block id b=>
    cases b with
    |loop b=>simp only[vC]at h⊢;exact ihL h
    |_=>simp only[vC]at h;first|(simp only[vC]at h⊢;exact ihC h)|exact ihC h
   |loop b=>simp[vC]at h
   |bad=>simp[vC]at h
   |uG a b=>simp[vC]at h
  ·rw[vL]at h⊢;refine ihC ((jl n).1 (fun ex t ht=> ?_) h);cases ex with
   |normal=>exact ihL ht
   |ret=>exact ht
   |exit i=>exact ht
theorem IV{n m:Nat}(h:n≤m):vV (vF VF M Q Pm n) (vF VF M Q Pm m):=by
 induction h with
 |refl=>exact fun _ _ _ _ _ h=>h
 |step _ ih=>exact fun f us h fl R hh=>(LF _).1 _ _ _ _ _ (ih _ _ _ _ _ hh)
theorem Z7{n m:Nat}(h:n≤m){fn:aC}{c:aj}{s:Vs}{K:Ex→Vs→Prop}(hx:vC VF M Q Pm n fn c s K):vC VF M Q Pm m fn c s K:=by
 induction h with
 |refl=>exact hx
 |step _ ih=>exact(LF _).2.1 ih
theorem Z8{n m:Nat}(h:n≤m){fn:aC}{id:Nat}{b:aj}{k:Nat}{s:Vs}{K:Ex→Vs→Prop}(hx:vL VF M Q Pm n fn id b k s K):vL VF M Q Pm m fn id b k s K:=by
 induction h with
 |refl=>exact hx
 |step _ ih=>exact(LF _).2.2 ih
theorem VA:∀ n,(∀ {fn:aC} {c:aj} {s:Vs} {K:Nat→Ex→Vs→Prop},(∀ a b ex t,a≤b→K a ex t→K b ex t)→vC VF M Q Pm n fn c s (fun ex t=>∃ m,K m ex t)→∃ m,n≤m∧vC VF M Q Pm m fn c s (K m))∧
  ∀ {fn:aC} {id:Nat} {b:aj} {k:Nat} {s:Vs} {K:Nat→Ex→Vs→Prop},(∀ a b ex t,a≤b→K a ex t→K b ex t)→vL VF M Q Pm n fn id b k s (fun ex t=>∃ m,K m ex t)→∃ m,n≤m∧vL VF M Q Pm m fn id b k s (K m):=by
 intro n
 induction n with
 |zero=>exact⟨fun _ h=>by simp[vC]at h,fun _ h=>by simp[vL]at h⟩
 |succ n ih=>
  obtain⟨ihC,ihL⟩:=ih;refine⟨fun {fn c s K} hK h=> ?_,fun {fn id b k s K} hK h=> ?_⟩
  ·have up:∀ {m:Nat},n≤m→vC VF M Q Pm (m+1) fn c s (K m)→∃ m,n+1≤m∧vC VF M Q Pm m fn c s (K m):=fun {m} hm h=>
    ⟨m+1,by omega,(jl _).1 (fun ex t ht=>hK _ _ _ _ (Nat.le_succ _) ht) h⟩
   have now:∀ {ex t},(∃ m,K m ex t)→∃ m,n≤m∧K m ex t:=fun⟨m,hm⟩=>⟨max n m,oU _ _,hK _ _ _ _ (Nat.le_max_right _ _) hm⟩;have reg:∀ {o:Option Vs},iq (fun ex t=>∃ m,K m ex t) o→∃ m,n≤m∧iq (K m) o:=fun {o} h=>by
    cases o with
    |none=>exact h.elim
    |some u=>exact now h
   have regm:∀ a b (o:Option Vs),a≤b→iq (K a) o→iq (K b) o:=fun a b o hab h=>si (fun ex t ht=>hK a b ex t hab ht) h;cases c with
   |skip=>obtain⟨m,h1,h2⟩:=now h;exact up h1 h2
   |ret=>obtain⟨m,h1,h2⟩:=now h;exact up h1 h2
   |exit i=>obtain⟨m,h1,h2⟩:=now h;exact up h1 h2
   |region ops=>
    have h:jS M Q (vF VF M Q Pm n) s (fun ex t=>∃ m,K m ex t) ops:=h;have key:∃ m,n≤m∧jS M Q (vF VF M Q Pm n) s (K m) ops:=by
     unfold jS at h⊢;split at h
     ·obtain⟨m,hm⟩:=A0 (k:=fun m t=>iq (K m) (gy M Q (vF VF M Q Pm n) _ t)) (fun a b t hab ht=>regm a b _ hab ht) (mW (fun t ht=>let⟨m,_,hm⟩:=reg ht;⟨m,hm⟩) h);exact⟨max n m,oU _ _,mW (fun t ht=>regm _ _ _ (Nat.le_max_right _ _) ht) hm⟩
     ·rename_i hno;obtain⟨m,h1,h2⟩:=reg h;exact⟨m,h1,h2⟩
    obtain⟨m,h1,h2⟩:=key;exact up h1 (y7 (IV h1) (fun _ _ h=>h) h2)
   |draw ops=>
    have h:kV M Q (vF VF M Q Pm n) s (fun ex t=>∃ m,K m ex t) (sched (ops.length+1) (bq ops 0) 0):=h;have key:∃ m,n≤m∧kV M Q (vF VF M Q Pm n) s (K m) (sched (ops.length+1) (bq ops 0) 0):=by
     generalize sched (ops.length+1) (bq ops 0) 0=l at h⊢;cases l with
     |none=>exact h.elim
     |some l=>exact reg h
    obtain⟨m,h1,h2⟩:=key;exact up h1 (uh (IV h1) (fun _ _ h=>h) h2)
   |seq a b=>
    rw[vC]at h;obtain⟨m,h1,h2⟩:=ihC (K:=fun m ex t=>match ex with| .normal=>vC VF M Q Pm m fn b t (K m)|ex=>K m ex t) (fun x y ex t hxy ht=>by
     cases ex with
     |normal=>exact(jl _).1 (fun ex t ht=>hK _ _ _ _ hxy ht) (Z7 hxy ht)
     |ret=>exact hK _ _ _ _ hxy ht
     |exit i=>exact hK _ _ _ _ hxy ht) ((jl n).1 (fun ex t ht=>by
     cases ex with
     |normal=>obtain⟨m,_,hm⟩:=ihC hK ht;exact⟨m,hm⟩
     |ret=>exact ht
     |exit i=>exact ht) h)
    exact up h1 (by rw[vC];exact h2)
   |cond x a b=>
    rw[vC]at h;split at h<;>try exact h.elim
    ·rename_i hx;obtain⟨m,h1,h2⟩:=ihC hK h;exact up h1 (by rw[vC];simp only[hx];exact h2)
    ·rename_i hx;obtain⟨m,h1,h2⟩:=ihC hK h;exact up h1 (by rw[vC];simp only[hx];exact h2)
   |block id b=>
    have blk:∀ {b:aj},vC VF M Q Pm n fn b s (kB fn id s.h.length fun ex t=>∃ m,K m ex t)→∃ m,n≤m∧vC VF M Q Pm m fn b s (kB fn id s.h.length (K m)):=fun {b} h=>
     ihC (K:=fun m=>kB fn id s.h.length (K m)) (fun x y ex t hxy ht=>nJ (fun ex t ht=>hK _ _ _ _ hxy ht) ht) ((jl n).1 (fun ex t ht=>PZ ht) h)
    cases b with
    |loop b=>simp only[vC]at h;obtain⟨m,h1,h2⟩:=ihL hK h;exact up h1 (by simp only[vC];exact h2)
    |_=>simp only[vC]at h;obtain⟨m,h1,h2⟩:=blk h;exact up h1 (by simp only[vC];exact h2)
   |loop b=>simp[vC]at h
   |bad=>simp[vC]at h
   |uG a b=>simp[vC]at h
  ·rw[vL]at h;obtain⟨m,h1,h2⟩:=ihC (K:=fun m ex t=>match ex with| .normal=>vL VF M Q Pm m fn id b k (keep (fn.head id) k t) (K m)|ex=>kB fn id k (K m) ex t) (fun x y ex t hxy ht=>by
    cases ex with
    |normal=>exact(jl _).2 (fun ex t ht=>hK _ _ _ _ hxy ht) (Z8 hxy ht)
    |ret=>exact nJ (fun ex t ht=>hK _ _ _ _ hxy ht) ht
    |exit i=>exact nJ (fun ex t ht=>hK _ _ _ _ hxy ht) ht) ((jl n).1 (fun ex t ht=>by
    cases ex with
    |normal=>obtain⟨m,_,hm⟩:=ihL hK ht;exact⟨m,hm⟩
    |ret=>exact PZ ht
    |exit i=>exact PZ ht) h)
   exact⟨m+1,by omega,by rw[vL];exact(jl _).1 (fun ex t ht=>by
    cases ex with
    |normal=>exact(jl _).2 (fun ex t ht=>hK _ _ _ _ (Nat.le_succ _) ht) ht
    |ret=>exact nJ (fun ex t ht=>hK _ _ _ _ (Nat.le_succ _) ht) ht
    |exit i=>exact nJ (fun ex t ht=>hK _ _ _ _ (Nat.le_succ _) ht) ht) h2⟩
variable(VF M Q Pm)
noncomputable def gF:FU:=fun f us h fl=>sup fun n=>vF VF M Q Pm n f us h fl
def gC(fn:aC)(c:aj)(s:Vs)(K:Ex→Vs→Prop):Prop:=∃ n,vC VF M Q Pm n fn c s K
def gL(fn:aC)(id:Nat)(b:aj)(k:Nat)(s:Vs)(K:Ex→Vs→Prop):Prop:=∃ n,vL VF M Q Pm n fn id b k s K
variable{VF M Q Pm}
theorem Hg:zW (vF VF M Q Pm) (gF VF M Q Pm):=⟨fun n m h=>IV h,fun f us h fl R=>Xl (fun n m x hnm hx=>IV hnm _ _ _ _ _ hx)⟩
theorem XQ{C:Nat→Option ck}(T:lR C M VF Q Pm):VE (dA C M) (gF VF M Q Pm):=by
 intro f us h fl r h' fl' hh;obtain⟨n,hn⟩:=(Hg.lim _ _ _ _ _).1 hh;exact(sound T n).1 f us h fl r h' fl' hn
variable{fn:aC}{s:Vs}{K:Ex→Vs→Prop}
@[simp] theorem qgv:gC VF M Q Pm fn .skip s K=K .normal s:=propext ⟨fun⟨n,h⟩=>by cases n with|zero=>simp[vC]at h|succ n=>exact h,fun h=>⟨1,h⟩⟩
@[simp] theorem qhk:gC VF M Q Pm fn .ret s K=K .ret s:=propext ⟨fun⟨n,h⟩=>by cases n with|zero=>simp[vC]at h|succ n=>exact h,fun h=>⟨1,h⟩⟩
@[simp] theorem qgu{i:Nat}:gC VF M Q Pm fn (.exit i) s K=K (.exit i) s:=propext ⟨fun⟨n,h⟩=>by cases n with|zero=>simp[vC]at h|succ n=>exact h,fun h=>⟨1,h⟩⟩
theorem HV{ops:List aD}(h:iq K (gy M Q (gF VF M Q Pm) ops s)):∃ n,iq K (gy M Q (vF VF M Q Pm n) ops s):=by
 cases ho:gy M Q (gF VF M Q Pm) ops s with
 |none=>rw[ho]at h;exact h.elim
 |some t=>rw[ho]at h;obtain⟨n,hn⟩:=Qx Hg ho;exact⟨n,by rw[hn];exact h⟩
theorem Od{ops:List aD}:gC VF M Q Pm fn (.region ops) s K=jS M Q (gF VF M Q Pm) s K ops:=by
 refine propext ⟨fun⟨n,h⟩=> ?_,fun h=> ?_⟩
 ·cases n with
  |zero=>simp[vC]at h
  |succ n=>exact y7 (Hg.le n) (fun _ _ h=>h) h
 ·have key:∃ n,jS M Q (vF VF M Q Pm n) s K ops:=by
   unfold jS at h⊢;split at h
   ·exact A0 (k:=fun m t=>iq K (gy M Q (vF VF M Q Pm m) _ t)) (fun a b t hab ht=>yZ (fun t h=>yW (IV hab) h) ht) (mW (fun t ht=>HV ht) h)
   ·exact HV h
  obtain⟨n,hn⟩:=key;exact⟨n+1,hn⟩
theorem WG{ops:List aD}:gC VF M Q Pm fn (.draw ops) s K=kV M Q (gF VF M Q Pm) s K (sched (ops.length+1) (bq ops 0) 0):=by
 refine propext ⟨fun⟨n,h⟩=> ?_,fun h=> ?_⟩
 ·cases n with
  |zero=>simp[vC]at h
  |succ n=>exact uh (Hg.le n) (fun _ _ h=>h) h
 ·have key:∃ n,kV M Q (vF VF M Q Pm n) s K (sched (ops.length+1) (bq ops 0) 0):=by
   generalize sched (ops.length+1) (bq ops 0) 0=l at h⊢;cases l with
   |none=>exact h.elim
   |some l=>
    simp only[kV]at h⊢;cases ho:bV M Q (gF VF M Q Pm) l s []with
    |none=>rw[ho]at h;exact h.elim
    |some t=>rw[ho]at h;obtain⟨n,hn⟩:=Kj Hg ho;exact⟨n,by rw[hn];exact h⟩
  obtain⟨n,hn⟩:=key;exact⟨n+1,hn⟩
variable(VF M Q Pm)in
def gI(fn:aC)(b:aj)(K:Ex→Vs→Prop)(ex:Ex)(t:Vs):Prop:=
 match ex with
 | .normal=>gC VF M Q Pm fn b t K
 |ex=>K ex t
theorem qaP{a b:aj}:gC VF M Q Pm fn (.seq a b) s K=gC VF M Q Pm fn a s (gI VF M Q Pm fn b K):=by
 refine propext ⟨fun⟨n,h⟩=> ?_,fun⟨n,h⟩=> ?_⟩
 ·cases n with
  |zero=>simp[vC]at h
  |succ n=>
   rw[vC]at h;refine⟨n,(jl n).1 (fun ex t ht=> ?_) h⟩;cases ex with
   |normal=>exact⟨n,ht⟩
   |ret=>exact ht
   |exit i=>exact ht
 ·obtain⟨m,_,hm⟩:=(VA n).1 (K:=fun m ex t=>match ex with| .normal=>vC VF M Q Pm m fn b t K|ex=>K ex t) (fun x y ex t hxy ht=>by
   cases ex with
   |normal=>exact Z7 hxy ht
   |ret=>exact ht
   |exit i=>exact ht) ((jl n).1 (fun ex t ht=>by
   cases ex with
   |normal=>exact ht
   |ret=>exact⟨0,ht⟩
   |exit i=>exact⟨0,ht⟩) h)
  exact⟨m+1,by rw[vC];exact hm⟩
variable(VF M Q Pm)in
def Pw(fn:aC)(a b:aj)(s:Vs)(K:Ex→Vs→Prop):Option U→Prop
 |some (.bool true)=>gC VF M Q Pm fn a s K
 |some (.bool false)=>gC VF M Q Pm fn b s K
 |_=>False
theorem WE{x:bJ}{a b:aj}:gC VF M Q Pm fn (.cond x a b) s K=Pw VF M Q Pm fn a b s K (cq s.e x):=by
 refine propext ⟨fun⟨n,h⟩=> ?_,fun h=> ?_⟩
 ·cases n with
  |zero=>simp[vC]at h
  |succ n=>
   rw[vC]at h;split at h<;>try exact h.elim
   ·rename_i hx;(try rw[hx]);exact⟨n,h⟩
   ·rename_i hx;(try rw[hx]);exact⟨n,h⟩
 ·unfold Pw at h;split at h<;>try exact h.elim
  ·rename_i hx;obtain⟨n,h⟩:=h;exact⟨n+1,by rw[vC];(try simp only[hx]);exact h⟩
  ·rename_i hx;obtain⟨n,h⟩:=h;exact⟨n+1,by rw[vC];(try simp only[hx]);exact h⟩
theorem WH{id:Nat}{b:aj}:gC VF M Q Pm fn (.block id (.loop b)) s K=gL VF M Q Pm fn id b s.h.length (keep (fn.head id) s.h.length s) K:=by
 refine propext ⟨fun⟨n,h⟩=> ?_,fun⟨n,h⟩=>⟨n+1,by simp only[vC];exact h⟩⟩;cases n with
 |zero=>simp[vC]at h
 |succ n=>simp only[vC]at h;exact⟨n,h⟩
def aj.JG:aj→Bool
 | .loop _=>true
 |_=>false
theorem IU{n id:Nat}{b:aj}(hb:b.JG=false):vC VF M Q Pm (n+1) fn (.block id b) s K=vC VF M Q Pm n fn b s (kB fn id s.h.length K):=by
 cases b with
 |loop b=>simp[aj.JG]at hb
 |_=>simp only[vC]
theorem AE{id:Nat}{b:aj}(hb:b.JG=false):gC VF M Q Pm fn (.block id b) s K=gC VF M Q Pm fn b s (kB fn id s.h.length K):=by
 refine propext ⟨fun⟨n,h⟩=> ?_,fun⟨n,h⟩=>⟨n+1,by rw[IU hb];exact h⟩⟩;cases n with
 |zero=>simp[vC]at h
 |succ n=>rw[IU hb]at h;exact⟨n,h⟩
variable(VF M Q Pm)in
def Xa(fn:aC)(id:Nat)(b:aj)(k:Nat)(K:Ex→Vs→Prop)(ex:Ex)(t:Vs):Prop:=
 match ex with
 | .normal=>gL VF M Q Pm fn id b k (keep (fn.head id) k t) K
 |ex=>kB fn id k K ex t
theorem ak{id k:Nat}{b b' :aj}(hb:b=b'):gL VF M Q Pm fn id b k s K=gC VF M Q Pm fn b' s (Xa VF M Q Pm fn id b k K):=by
 subst hb;refine propext ⟨fun⟨n,h⟩=> ?_,fun⟨n,h⟩=> ?_⟩
 ·cases n with
  |zero=>simp[vL]at h
  |succ n=>
   rw[vL]at h;refine⟨n,(jl n).1 (fun ex t ht=> ?_) h⟩;cases ex with
   |normal=>exact⟨n,ht⟩
   |ret=>exact ht
   |exit i=>exact ht
 ·obtain⟨m,_,hm⟩:=(VA n).1 (K:=fun m ex t=>match ex with| .normal=>vL VF M Q Pm m fn id b k (keep (fn.head id) k t) K|ex=>kB fn id k K ex t) (fun x y ex t hxy ht=>by
   cases ex with
   |normal=>exact Z8 hxy ht
   |ret=>exact ht
   |exit i=>exact ht) ((jl n).1 (fun ex t ht=>by
   cases ex with
   |normal=>exact ht
   |ret=>exact⟨0,ht⟩
   |exit i=>exact⟨0,ht⟩) h)
  exact⟨m+1,by rw[vL];exact hm⟩
theorem Hf{f:Nat}{us:List U}{h:List Uo}{fl:Nat}{R:U×List Uo×Nat}(hp:Pm f=none)(hf:VF f=some fn)(ha:Nat.ble us.length fn.ntmps=true)(hR:gC VF M Q Pm fn fn.body ⟨lM us 0,h,fl⟩ (kE h.length fn R)):gF VF M Q Pm f us h fl=some R:=by
 obtain⟨n,hn⟩:=hR;refine(Hg.lim _ _ _ _ _).2 ⟨n+1,?_⟩;rw[vF,hp];simp only[hf,ha,cond_true];exact Mq hn fun y hy=>Vz hn hy
theorem El{f:Nat}{us:List U}{h:List Uo}{fl:Nat}{p:List U→List Uo→Nat→Option (U×List Uo×Nat)}(hp:Pm f=some p):gF VF M Q Pm f us h fl=p us h fl:=by
 ext x;constructor
 ·intro hh;obtain⟨n,hn⟩:=(Hg.lim _ _ _ _ _).1 hh;cases n with
  |zero=>simp[vF]at hn
  |succ n=>rw[vF,hp]at hn;exact hn
 ·intro hh;exact(Hg.lim _ _ _ _ _).2 ⟨1,by rw[vF,hp];exact hh⟩
end
end Go.RE
namespace Go.RE
def gQ(s:Vs):Option U→Option (U×Vs)
 |some v=>some (v,s)
 |none=>none
@[simp] theorem qbl{s:Vs}{v:U}:gQ s (some v)=some (v,s):=rfl
@[simp] theorem qeQ(t:Nat):look [] t=none:=rfl
@[simp] theorem qdb(k t:Nat)(v:U)(r:Env):look ((k,v)::r) t=if k=t then some v else look r t:=by
 simp only[look];by_cases h:k=t
 ·subst h;simp
 ·rw[if_neg h];have:Nat.beq k t=false:=by
   cases hb:Nat.beq k t with
   |false=>rfl
   |true=>exact absurd (bR hb) h
  rw[this];rfl
@[simp] theorem qdn(d:Nat)(v:U)(e:Env):iN (some d) v e=(d,v)::e:=rfl
@[simp] theorem qdm(v:U)(e:Env):iN none v e=e:=rfl
@[simp] theorem qiF(e:Env)(n:Nat):cq e (.t n)=look e n:=rfl
@[simp] theorem qiE(e:Env)(v:V):cq e (.c v)=some v.mq:=rfl
@[simp] theorem qej(e:Env):jy e []=some []:=rfl
def Aj:Option U→Option (List U)→Option (List U)
 |some v,some vs=>some (v::vs)
 |_,_=>none
@[simp] theorem qax(v:U)(vs:List U):Aj (some v) (some vs)=some (v::vs):=rfl
@[simp] theorem qcR(e:Env)(x:bJ)(r:List bJ):jy e (x::r)=Aj (cq e x) (jy e r):=by
 simp only[jy];cases cq e x<;>simp only[Aj];cases jy e r<;>simp only[Aj]
attribute [simp] V.mq V.dc lM
@[simp] theorem Env.qeH(g:Tg):Env.kill g []=[]:=rfl
@[simp] theorem Env.qc5(g:Tg)(k:Nat)(v:U)(r:Env):Env.kill g ((k,v)::r)=(k,v.kill g)::Env.kill g r:=rfl
@[simp] theorem Env.qgt(g:Tg):Env.lT g []=[]:=rfl
@[simp] theorem Env.qex(g:Tg)(k:Nat)(v:U)(r:Env):Env.lT g ((k,v)::r)=(k,v.lT g)::Env.lT g r:=rfl
@[simp] theorem Env.qdu(g g2:Tg):Env.iG g g2 []=[]:=rfl
@[simp] theorem Env.qbu(g g2:Tg)(k:Nat)(v:U)(r:Env):Env.iG g g2 ((k,v)::r)=(k,v.iG g g2)::Env.iG g g2 r:=rfl
@[simp] theorem Env.qgY(g:Tg)(ys:List (List U)):Env.fB g ys []=[]:=rfl
@[simp] theorem Env.qfV(g:Tg)(ys:List (List U))(k:Nat)(v:U)(r:Env):Env.fB g ys ((k,v)::r)=(k,v.fB g ys)::Env.fB g ys r:=rfl
@[simp] theorem Env.qaY(p:Tg→Bool):Env.bS p []=[]:=rfl
@[simp] theorem Env.XZ(p:Tg→Bool)(k:Nat)(v:U)(r:Env):Env.bS p ((k,v)::r)=(k,v.bS p)::Env.bS p r:=rfl
attribute [simp] U.kill U.lT U.iG U.fB U.bS Tg.PX Tg.isC
@[simp] theorem Vs.qhq(d:Nat)(e:Env)(h:List Uo)(fl:Nat):Vs.kill (.t d) ⟨e,h,fl⟩=⟨Env.kill (.t d) e,h,fl⟩:=rfl
@[simp] theorem Vs.qhp(e:Env)(h:List Uo)(fl:Nat):Vs.kill .r ⟨e,h,fl⟩=⟨Env.kill .r e,h,fl⟩:=rfl
@[simp] theorem Vs.qho(i off:Nat)(e:Env)(h:List Uo)(fl:Nat):Vs.kill (.c i off) ⟨e,h,fl⟩=⟨Env.kill (.c i off) e,setCell h i off .bad,fl⟩:=rfl
@[simp] theorem Vs.qiH(d:Nat)(e:Env)(h:List Uo)(fl:Nat):Vs.lT (.t d) ⟨e,h,fl⟩=⟨Env.lT (.t d) e,h,fl⟩:=rfl
@[simp] theorem Vs.qiG(e:Env)(h:List Uo)(fl:Nat):Vs.lT .r ⟨e,h,fl⟩=⟨Env.lT .r e,h,fl⟩:=rfl
@[simp] theorem Vs.qiQ(d w:Nat)(ys:List (List U))(e:Env)(h:List Uo)(fl:Nat):Vs.fB (.t d) w ys ⟨e,h,fl⟩=⟨Env.fB (.t d) ys e,h,fl⟩:=rfl
@[simp] theorem Vs.qiP(i off w:Nat)(ys:List (List U))(e:Env)(h:List Uo)(fl:Nat):Vs.fB (.c i off) w ys ⟨e,h,fl⟩=⟨Env.fB (.c i off) ys e,setCell h i off (.bF w ys),fl⟩:=rfl
@[simp] theorem Vs.qhw(d:Nat)(e:Env)(h:List Uo)(fl:Nat):Vs.cc (.t d) ⟨e,h,fl⟩=Env.cc (.t d) e e:=rfl
@[simp] theorem Vs.qhv(i off:Nat)(e:Env)(h:List Uo)(fl:Nat):Vs.cc (.c i off) ⟨e,h,fl⟩=(match h[i]? with
  |some (.row cs)=>(match cs[off]? with
   |some (.bF w xs)=>some (w,xs)
   |_=>none)
  |_=>none):=rfl
attribute [simp] Env.cc
attribute [simp] esc
def qei(s:Vs):Option U→Option (U×Vs)
 |some v=>esc v s
 |none=>none
@[simp] theorem qcN(s:Vs)(v:U):qei s (some v)=esc v s:=rfl
@[simp] theorem qgr(x:bJ)(s:Vs):fN x s=qei s (cq s.e x):=by unfold fN;cases cq s.e x<;>rfl
@[simp] theorem qcO(s:Vs):fW [] s=some ([],s):=rfl
def qaE(v:U):Option (List U×Vs)→Option (List U×Vs)
 |some (vs,s)=>some (v::vs,s)
 |none=>none
@[simp] theorem qcP(v:U)(vs:List U)(s:Vs):qaE v (some (vs,s))=some (v::vs,s):=rfl
def qaF(r:List bJ):Option (U×Vs)→Option (List U×Vs)
 |some (v,s)=>qaE v (fW r s)
 |none=>none
@[simp] theorem qcQ(r:List bJ)(v:U)(s:Vs):qaF r (some (v,s))=qaE v (fW r s):=rfl
@[simp] theorem qaD(x:bJ)(r:List bJ)(s:Vs):fW (x::r) s=qaF r (fN x s):=by
 simp only[fW];cases fN x s with
 |none=>rfl
 |some p=>obtain⟨v,s⟩:=p;simp only[qaF];cases fW r s<;>rfl
@[simp] theorem qcS(cells:List U)(s:Vs):jV [] cells s=some (cells,s):=rfl
def XM(off size:Nat)(rest:List (Nat×Nat×bJ))(cells:List U):Option (U×Vs)→Option (List U×Vs)
 |some (v,s)=>bif Nat.beq v.cells.length size&&Nat.ble (off+v.cells.length) cells.length then jV rest (gh cells off v.cells) s else none
 |none=>none
@[simp] theorem qaH(off size:Nat)(rest:List (Nat×Nat×bJ))(cells:List U)(v:U)(s:Vs):XM off size rest cells (some (v,s))=bif Nat.beq v.cells.length size&&Nat.ble (off+v.cells.length) cells.length then jV rest (gh cells off v.cells) s else none:=rfl
@[simp] theorem qaI(off size:Nat)(x:bJ)(rest:List (Nat×Nat×bJ))(cells:List U)(s:Vs):jV ((off,size,x)::rest) cells s=XM off size rest cells (fN x s):=by
 simp only[jV];cases fN x s<;>rfl
attribute [simp] U.cells gh U.aH U.uB U.oc U.low U.b8
def qeR(d:Nat)(s:Vs):U→Option (U×Vs)
 | .own .r w xs=>some (.own (.t d) w xs,s.kill (.t d))
 |v=>some (v,s)
attribute [simp] qeR
@[simp] theorem qgL(d:Nat)(s:Vs)(x:bJ):fR d s (.bt x)=(cq s.e x).bind (qeR d s):=by
 simp only[fR];cases cq s.e x with
 |none=>rfl
 |some v=>
  cases v with
  |own g w xs=>cases g<;>rfl
  |_=>rfl
def Mp(s:Vs)(a b:bJ):U→Option (U×Vs)
 | .bool true=>gQ s (cq s.e a)
 | .bool false=>gQ s (cq s.e b)
 |_=>none
@[simp] theorem qbm(s:Vs)(a b:bJ):Mp s a b (.bool true)=gQ s (cq s.e a):=rfl
@[simp] theorem X7(s:Vs)(a b:bJ):Mp s a b (.bool false)=gQ s (cq s.e b):=rfl
@[simp] theorem qe3(d:Nat)(s:Vs)(c a b:bJ):fR d s (.pick c a b)=(cq s.e c).bind (Mp s a b):=by
 simp only[fR];cases cq s.e c with
 |none=>rfl
 |some v=>
  cases v with
  |bool t=>cases t<;>simp only[Option.bind,Mp]<;>(first|(cases cq s.e a<;>rfl)|(cases cq s.e b<;>rfl))
  |_=>rfl
def Me(s:Vs)(n:Option Nat)(i off:Nat):Uo→Option (U×Vs)
 | .row cs=>gQ s (lN i n cs off)
 |_=>none
@[simp] theorem qda(s:Vs)(n:Option Nat)(i off:Nat)(cs:List U):Me s n i off (.row cs)=gQ s (lN i n cs off):=rfl
def Mf(s:Vs)(n:Option Nat)(i f:Nat):Nat×List (List U)→Option (U×Vs)
 |(_,xs)=>(xs[i]?).bind fun r=>gQ s (iE n r f)
@[simp] theorem qeP(s:Vs)(n:Option Nat)(i f w:Nat)(xs:List (List U)):Mf s n i f (w,xs)=(xs[i]?).bind fun r=>gQ s (iE n r f):=rfl
def AS(s:Vs)(n:Option Nat):U→Option (U×Vs)
 | .ptr i off=>(s.h[i]?).bind (Me s n i off)
 | .eD row off=>gQ s (iE n row off)
 | .bD g i f=>(s.cc g).bind (Mf s n i f)
 |_=>none
@[simp] theorem qc9(s:Vs)(n:Option Nat)(i off:Nat):AS s n (.ptr i off)=(s.h[i]?).bind (Me s n i off):=rfl
@[simp] theorem qa7(s:Vs)(n:Option Nat)(row:List U)(off:Nat):AS s n (.eD row off)=gQ s (iE n row off):=rfl
@[simp] theorem qa8(s:Vs)(n:Option Nat)(g:Tg)(i f:Nat):AS s n (.bD g i f)=(s.cc g).bind (Mf s n i f):=rfl
@[simp] theorem qe2(d:Nat)(s:Vs)(n:Option Nat)(x:bJ):fR d s (.load n x)=(cq s.e x).bind (AS s n):=by
 simp only[fR];cases cq s.e x with
 |none=>rfl
 |some v=>
  cases v with
  |ptr i off=>
   simp only[Option.bind,AS];cases s.h[i]? with
   |none=>rfl
   |some o=>
    cases o with
    |row cs=>simp only[Option.bind,Me];cases lN i n cs off<;>rfl
    |_=>rfl
  |eD row off=>simp only[Option.bind,AS];cases iE n row off<;>rfl
  |bD g i f=>
   simp only[Option.bind,AS];cases s.cc g with
   |none=>rfl
   |some p=>
    obtain⟨w,xs⟩:=p;simp only[Mf,Option.bind];cases xs[i]? with
    |none=>rfl
    |some r=>simp only;cases iE n r f<;>rfl
  |_=>rfl
def qeX(s:Vs):U→Option (U×Vs)
 | .ptr i o=>some (.ptr i o,s)
 | .eD r o=>some (.eD r o,s)
 | .bD g i o=>some (.bD g i o,s)
 | .func f a b=>some (.func f a b,s)
 | .iface t v=>some (.iface t v,s)
 |_=>none
attribute [simp] qeX
@[simp] theorem W1(d:Nat)(s:Vs)(x:bJ):fR d s (.nilCheck x)=(cq s.e x).bind (qeX s):=by
 simp only[fR];cases cq s.e x with
 |none=>rfl
 |some v=>cases v<;>rfl
def qak(s:Vs)(op:BinOp)(ek:gR):Option U→Option U→Option (U×Vs)
 |some a,some b=>gQ s (iW op ek a b)
 |_,_=>none
@[simp] theorem qcF(s:Vs)(op:BinOp)(ek:gR)(a b:U):qak s op ek (some a) (some b)=gQ s (iW op ek a b):=rfl
@[simp] theorem qgH(d:Nat)(s:Vs)(op:BinOp)(ek:gR)(x y:bJ):fR d s (.bin op ek x y)=qak s op ek (cq s.e x) (cq s.e y):=by
 simp only[fR];cases cq s.e x with
 |none=>rfl
 |some a=>
  cases cq s.e y with
  |none=>rfl
  |some b=>simp only[qak];cases iW op ek a b<;>rfl
@[simp] theorem qhu(d:Nat)(s:Vs)(op:UnOp)(x:bJ):fR d s (.un op x)=(cq s.e x).bind fun a=>gQ s (unU op a):=by
 simp only[fR];cases cq s.e x with
 |none=>rfl
 |some a=>simp only[Option.bind];cases unU op a<;>rfl
def XK(k:IntKind)(s:Vs):U→Option (U×Vs)
 | .int _ n=>some (.int k (aI k n),s)
 |_=>none
attribute [simp] XK
@[simp] theorem X5(d:Nat)(s:Vs)(k:IntKind)(x:bJ):fR d s (.eO k x)=(cq s.e x).bind (XK k s):=by
 simp only[fR];cases cq s.e x with
 |none=>rfl
 |some v=>cases v<;>rfl
def qeb(s:Vs):U→Option (U×Vs)
 | .str b=>some (.str b,s)
 |_=>none
attribute [simp] qeb
def qbO(s:Vs)(v:U):Option (U×Vs):=(rowsOf s 1 v).bind fun xs=>(nU xs).bind fun bs=>some (.str bs,s)
@[simp] theorem qdk(d:Nat)(s:Vs)(x:bJ):fR d s (.toStr x)=(cq s.e x).bind (qbO s):=by
 simp only[fR];cases cq s.e x with
 |none=>rfl
 |some v=>
  simp only[Option.bind,qbO];cases rowsOf s 1 v with
  |none=>rfl
  |some xs=>simp only;cases nU xs<;>rfl
def qaM(f:Nat)(a:List U):Option (List U×Vs)→Option (U×Vs)
 |some (b,s)=>some (.func f a b,s)
 |none=>none
def fnV(f:Nat)(captured:List bJ):Option (List U×Vs)→Option (U×Vs)
 |some (a,s)=>qaM f a (fW captured s)
 |none=>none
@[simp] theorem qcT(f:Nat)(a b:List U)(s:Vs):qaM f a (some (b,s))=some (.func f a b,s):=rfl
@[simp] theorem qer(f:Nat)(captured:List bJ)(a:List U)(s:Vs):fnV f captured (some (a,s))=qaM f a (fW captured s):=rfl
@[simp] theorem qbk(d:Nat)(s:Vs)(f:Nat)(a b:List bJ):fR d s (.jf f a b)=fnV f b (fW a s):=by
 simp only[fR];cases fW a s with
 |none=>rfl
 |some p=>obtain⟨v,s⟩:=p;simp only[fnV];cases fW b s<;>rfl
def Po:Option (List U×Vs)→Option (U×Vs)
 |some (cs,s)=>some (.agg cs,s)
 |none=>none
@[simp] theorem XH(cs:List U)(s:Vs):Po (some (cs,s))=some (.agg cs,s):=rfl
@[simp] theorem qdh(d:Nat)(s:Vs)(z:List V)(ps:List (Nat×Nat×bJ)):fR d s (.build z ps)=bif(V.dc z).all U.aH then Po (jV ps (V.dc z) s)else none:=by
 simp only[fR];cases jV ps (V.dc z) s<;>rfl
def faV(s:Vs)(off:Nat):U→Option (U×Vs)
 | .ptr i o=>some (.ptr i (o+off),s)
 | .eD row o=>some (.eD row (o+off),s)
 | .bD g i o=>some (.bD g i (o+off),s)
 |_=>none
attribute [simp] faV
@[simp] theorem V5(d:Nat)(s:Vs)(off:Nat)(x:bJ):fR d s (.fieldAddr off x)=(cq s.e x).bind (faV s off):=by
 simp only[fR];cases cq s.e x with
 |none=>rfl
 |some v=>cases v<;>rfl
def qo(s:Vs)(w:Nat):Option U→Option U→Option (U×Vs)
 |some (.sl w' xs),some (.int _ n)=>if 0≤n then(match xs[n.toNat]? with|some r=>bif Nat.beq w' w then some (.eD r 0,s)else none|none=>none)else none
 |some (.own g w' xs),some (.int _ n)=>if 0≤n∧n<(xs.length:Int)then(bif Nat.beq w' w then some (.bD g n.toNat 0,s)else none)else none
 |some (.xU j off len w'),some (.int _ n)=>if 0≤n∧n<(len:Int)then(bif Nat.beq w' w then some (.ptr j (off+n.toNat*w),s)else none)else none
 |some (.view g lo len w'),some (.int _ n)=>if 0≤n∧n<(len:Int)then(bif Nat.beq w' w then some (.bD g (lo+n.toNat) 0,s)else none)else none
 |_,_=>none
theorem PW{s:Vs}{w:Nat}{g:Tg}{lo len:Nat}{k:IntKind}{n:Nat}(hn:n<len):qo s w (some (.view g lo len w)) (some (.int k n))=some (.bD g (lo+n) 0,s):=by
 simp only[qo,Int.toNat_natCast,jC,cond_true,if_pos (⟨Int.natCast_nonneg n,by omega⟩:(0:Int)≤n∧(n:Int)<len)]
theorem cT{s:Vs}{w:Nat}{g:Tg}{xs:List (List U)}{k:IntKind}{n:Nat}(hn:n<xs.length):qo s w (some (.own g w xs)) (some (.int k n))=some (.bD g n 0,s):=by
 simp only[qo,Int.toNat_natCast,jC,cond_true,if_pos (⟨Int.natCast_nonneg n,by omega⟩:(0:Int)≤n∧(n:Int)<xs.length)]
theorem bg{s:Vs}{w:Nat}{xs:List (List U)}{k:IntKind}{n:Nat}{r:List U}(hr:xs[n]? =some r):qo s w (some (.sl w xs)) (some (.int k n))=some (.eD r 0,s):=by
 simp only[qo,Int.toNat_natCast,hr,jC,cond_true,if_pos (Int.natCast_nonneg n)]
@[simp] theorem V6(d:Nat)(s:Vs)(w:Nat)(x i:bJ):fR d s (.indexAddr w x i)=qo s w (cq s.e x) (cq s.e i):=by
 simp only[fR];cases cq s.e x with
 |none=>rfl
 |some v=>cases cq s.e i<;>cases v<;>rfl
def CI(s:Vs)(k:Nat)(v:U):Option (U×Vs):=(Oj s k v).bind fun n=>some (.int .i64 n,s)
@[simp] theorem qeK(s:Vs)(b:List UInt8):CI s 0 (.str b)=some (.int .i64 b.length,s):=rfl
@[simp] theorem qgB(s:Vs)(w:Nat)(xs:List (List U)):CI s 1 (.sl w xs)=some (.int .i64 xs.length,s):=rfl
@[simp] theorem qc7(s:Vs)(g:Tg)(lo len w:Nat):CI s 1 (.view g lo len w)=some (.int .i64 len,s):=rfl
@[simp] theorem qgA(s:Vs)(w:Nat):CI s 1 (.nl w)=some (.int .i64 0,s):=rfl
@[simp] theorem qeJ(s:Vs)(g:Tg)(w:Nat)(xs:List (List U)):CI s 1 (.own g w xs)=some (.int .i64 xs.length,s):=rfl
@[simp] theorem qgI(d:Nat)(s:Vs)(k:Nat)(x:bJ):fR d s (.len k x)=(cq s.e x).bind (CI s k):=by
 simp only[fR];cases cq s.e x with
 |none=>rfl
 |some v=>simp only[Option.bind,CI];cases Oj s k v<;>rfl
def qaG(s:Vs)(i:Nat):U→Option (U×Vs)
 | .aV vs=>gQ s vs[i]?
 |_=>none
@[simp] theorem qel(s:Vs)(i:Nat)(vs:List U):qaG s i (.aV vs)=gQ s vs[i]? :=rfl
@[simp] theorem X6(d:Nat)(s:Vs)(i:Nat)(x:bJ):fR d s (.extract i x)=(cq s.e x).bind (qaG s i):=by
 simp only[fR];cases cq s.e x with
 |none=>rfl
 |some v=>
  cases v with
  |aV vs=>simp only[Option.bind,qaG];cases vs[i]? <;>rfl
  |_=>rfl
def lkO(s:Vs)(kk:gR)(ok:Bool)(z:Option U):Option U→Option U→Option (U×Vs)
 |some m,some k=>z.bind fun z=>gQ s (fH s kk z ok m k)
 |_,_=>none
@[simp] theorem qeL(s:Vs)(kk:gR)(ok:Bool)(z m k:U):lkO s kk ok (some z) (some m) (some k)=gQ s (fH s kk z ok m k):=rfl
@[simp] theorem qbj(d:Nat)(s:Vs)(kk:gR)(z:V)(ok:Bool)(x i:bJ):fR d s (.lookup kk z ok x i)=lkO s kk ok z.EV (cq s.e x) (cq s.e i):=by
 simp only[fR];cases z.EV with
 |none=>cases cq s.e x<;>cases cq s.e i<;>rfl
 |some z=>
  cases cq s.e x with
  |none=>rfl
  |some m=>
   cases cq s.e i with
   |none=>rfl
   |some k=>simp only[lkO,Option.bind];cases fH s kk z ok m k<;>rfl
@[simp] theorem qdj(d:Nat)(s:Vs)(w:Nat)(x:bJ)(lo hi mx:Option bJ):fR d s (.slice w x lo hi mx)=(cq s.e x).bind fun v=>ir d w lo hi mx v s:=by
 simp only[fR];cases cq s.e x<;>rfl
def qaB(s:Vs):U→Option (U×Vs)
 | .ptr q 0=>gQ s (mF s q)
 |_=>none
@[simp] theorem qeg(s:Vs)(q:Nat):qaB s (.ptr q 0)=gQ s (mF s q):=rfl
@[simp] theorem qdi(d:Nat)(s:Vs)(x:bJ):fR d s (.entry x)=(cq s.e x).bind (qaB s):=by
 simp only[fR];cases cq s.e x with
 |none=>rfl
 |some v=>
  cases v with
  |ptr q o=>
   cases o with
   |zero=>simp only[Option.bind,qaB];cases mF s q<;>rfl
   |succ o=>rfl
  |_=>rfl
@[simp] theorem qdg(d:Nat)(e:Env)(h:List Uo)(fl:Nat)(z:List V):yg d ⟨e,h,fl⟩ (.alloc z)=bif(V.dc z).all (fun u=>u.aH||u.oc)then some (.ptr h.length 0,⟨e,h++[.row (V.dc z)],fl⟩)else none:=rfl
def qd3(e:Env)(h:List Uo)(fl:Nat):U→Option (U×Vs)
 | .own (.c _ _) _ _=>none
 | .own .a _ _=>none
 | .own g w xs=>some (.ptr h.length 0,⟨Env.iG g (.c h.length 0) e,h++[.row [.bF w xs]],fl⟩)
 |v=>bif v.cells.all U.aH then some (.ptr h.length 0,⟨e,h++[.row v.cells],fl⟩)else none
attribute [simp] qd3
@[simp] theorem qgG(d:Nat)(e:Env)(h:List Uo)(fl:Nat)(x:bJ):yg d ⟨e,h,fl⟩ (.box x)=(cq e x).bind (qd3 e h fl):=by
 simp only[yg];cases cq e x with
 |none=>rfl
 |some v=>
  cases v with
  |own g w xs=>cases g<;>rfl
  |_=>rfl
def qam(d w len:Nat):Option (List U×Vs)→Option (U×Vs)
 |some (cs,s)=>bif cs.all U.aH&&U.b8 0 cs&&Nat.beq cs.length (len*w)then some (.own (.t d) w (chunks w len cs),s.kill (.t d))else none
 |none=>none
@[simp] theorem qcK(d w len:Nat)(cs:List U)(s:Vs):qam d w len (some (cs,s))=bif cs.all U.aH&&U.b8 0 cs&&Nat.beq cs.length (len*w)then some (.own (.t d) w (chunks w len cs),s.kill (.t d))else none:=rfl
@[simp] theorem Qq(d:Nat)(s:Vs)(w len:Nat)(z:List V)(ps:List (Nat×Nat×bJ)):yg d s (.buildSlice w len z ps)=qam d w len (bif(V.dc z).all U.aH then jV ps (J8 (V.dc z) len) s else none):=by
 simp only[yg];generalize (bif(V.dc z).all U.aH then jV ps (J8 (V.dc z) len) s else none)=q;cases q<;>rfl
@[simp] theorem X0(d:Nat)(e:Env)(h:List Uo)(fl:Nat):yg d ⟨e,h,fl⟩ .makeMap=some (.map h.length,⟨e,h++[.map [] 0],fl⟩):=rfl
attribute [simp] J8 chunks
def stV(n:Nat):Option Vs→Option (U×Vs)
 |some s=>some (.aV [],s)
 |none=>none
@[simp] theorem qfw(n:Nat)(s:Vs):stV n (some s)=some (.aV [],s):=rfl
def stR(n i off:Nat):U×Vs→Option (U×Vs)
 |(v,s)=>(s.h[i]?).bind fun o=>match o with| .row cs=>stV n (pU s n i off v cs)|_=>none
@[simp] theorem qhI(n i off:Nat)(v:U)(s:Vs):stR n i off (v,s)=(s.h[i]?).bind fun o=>match o with| .row cs=>stV n (pU s n i off v cs)|_=>none:=rfl
theorem CK{d:Nat}{s:Vs}{n:Nat}{a x:bJ}{i off:Nat}{v:U}{cs:List U}(ha:cq s.e a=some (.ptr i off))(hx:cq s.e x=some v)(hi:s.h[i]? =some (.row cs)):
  pM d s (.store n a x)=stR n i off (jg s off v cs):=by
 simp only[pM,ha,hx,hi];obtain⟨v2,s2⟩:=jg s off v cs;simp only[stR];cases s2.h[i]? with
 |none=>rfl
 |some o=>
  cases o with
  |row cs=>simp only[Option.bind];cases pU s2 n i off v2 cs<;>rfl
  |_=>rfl
def stO(d:Nat)(s:Vs)(n:Nat):U→U→Option (U×Vs)
 | .ptr i off,v=>(s.h[i]?).bind fun o=>match o with| .row cs=>stR n i off (jg s off v cs)|_=>none
 | .bD g i f,v=>(match esc v s with
   |some (v,s)=>(match s.cc g with
    |some (w,xs)=>(match xs[i]? with
     |some r=>bif Nat.beq v.cells.length n&&Nat.ble (f+n) r.length&&v.cells.all U.aH&&v.low 0 then some (.aV [],s.fB g w (xs.set i (gh r f v.cells)))else none
     |none=>none)
    |none=>none)
   |none=>none)
 |_,_=>none
@[simp] theorem qgQ(d:Nat)(s:Vs)(n i off:Nat)(v:U):stO d s n (.ptr i off) v=(s.h[i]?).bind fun o=>match o with| .row cs=>stR n i off (jg s off v cs)|_=>none:=rfl
def stB(d:Nat)(s:Vs)(n:Nat):Option U→Option U→Option (U×Vs)
 |some a,some v=>stO d s n a v
 |_,_=>none
@[simp] theorem qfu(d:Nat)(s:Vs)(n:Nat)(a v:U):stB d s n (some a) (some v)=stO d s n a v:=rfl
@[simp] theorem qdf(d:Nat)(s:Vs)(n:Nat)(a x:bJ):pM d s (.store n a x)=stB d s n (cq s.e a) (cq s.e x):=by
 cases ha:cq s.e a with
 |none=>simp only[pM,ha];rfl
 |some va=>
  cases hx:cq s.e x with
  |none=>simp only[pM,ha,hx];cases va<;>rfl
  |some v=>
   cases va with
   |ptr i off=>
    simp only[stB,stO];cases hi:s.h[i]? with
    |none=>simp only[pM,ha,hx,hi];rfl
    |some o=>
     cases o with
     |row cs=>rw[CK ha hx hi];rfl
     |_=>simp only[pM,ha,hx,hi];rfl
   |bD g i f=>simp only[pM,ha,hx];rfl
   |_=>simp only[pM,ha,hx];rfl
attribute [simp] jg pU setCell
def apV(d:Nat)(s:Vs)(w bytes:Nat)(ys:List (List U)):U→Option (U×Vs)
 | .own g w' xs=>bif !(decide (g=.a))&&Nat.beq w' w&&Nat.ble ((xs.length+ys.length)*bytes) bp&&Nat.ble (xs.length+ys.length) bp&&ys.all (fun r=>r.all U.aH&&U.b8 0 r&&Nat.beq r.length w)then
      some (.own (.t d) w (xs++ys),(s.kill g).kill (.t d))else none
 | .nl w' =>bif Nat.beq w' w&&Nat.ble (ys.length*bytes) bp&&Nat.ble ys.length bp&&ys.all (fun r=>r.all U.aH&&U.b8 0 r&&Nat.beq r.length w)then some (.own (.t d) w ys,(s.kill .r).kill (.t d))else none
 | .sl w' xs=>bif Nat.beq w' w&&ys.isEmpty&&Nat.ble (xs.length*bytes) bp&&Nat.ble xs.length bp then some (.sl w xs,s)else none
 |_=>none
def apO(d:Nat)(s:Vs)(w bytes:Nat)(str:Bool):Option U→Option U→Option (U×Vs)
 |some a,some x=>(yG s w str x).bind fun ys=>apV d s w bytes ys a
 |_,_=>none
@[simp] theorem qdK(d:Nat)(s:Vs)(w bytes:Nat)(str:Bool)(a x:U):apO d s w bytes str (some a) (some x)=(yG s w str x).bind fun ys=>apV d s w bytes ys a:=rfl
@[simp] theorem qbg(d:Nat)(s:Vs)(w bytes:Nat)(str:Bool)(a x:bJ):pM d s (.append w bytes str a x)=apO d s w bytes str (cq s.e a) (cq s.e x):=by
 simp only[pM];cases cq s.e a with
 |none=>rfl
 |some va=>
  cases cq s.e x with
  |none=>rfl
  |some vx=>
   simp only[apO];cases yG s w str vx with
   |none=>rfl
   |some ys=>simp only[Option.bind,apV];cases va<;>rfl
attribute [simp] sP gK qt aG U.L7 U.qaT
section
variable{M:oW}{Q:mA}{F:FU}
@[simp] theorem qiJ(s:Vs)(dst:Option Nat)(o:fS):kG M Q F s dst (.s o)=fR (dst.getD 0) s o:=rfl
@[simp] theorem qiI(s:Vs)(dst:Option Nat)(o:GB):kG M Q F s dst (.m o)=yg (dst.getD 0) s o:=rfl
@[simp] theorem qde(s:Vs)(dst:Option Nat)(n:Nat)(a x:bJ):kG M Q F s dst (.h (.store n a x))=pM (dst.getD 0) s (.store n a x):=rfl
@[simp] theorem V2(s:Vs)(dst:Option Nat)(kk:gR)(m k x:bJ):kG M Q F s dst (.h (.mapUpdate kk m k x))=pM (dst.getD 0) s (.mapUpdate kk m k x):=rfl
@[simp] theorem qbf(s:Vs)(dst:Option Nat)(kk:gR)(m k:bJ):kG M Q F s dst (.h (.delete kk m k))=pM (dst.getD 0) s (.delete kk m k):=rfl
@[simp] theorem qbe(s:Vs)(dst:Option Nat)(w b:Nat)(t:Bool)(a x:bJ):kG M Q F s dst (.h (.append w b t a x))=pM (dst.getD 0) s (.append w b t a x):=rfl
@[simp] theorem qe0(s:Vs)(dst:Option Nat)(w:Nat)(t:Bool)(a x:bJ):kG M Q F s dst (.h (.copy w t a x))=pM (dst.getD 0) s (.copy w t a x):=rfl
@[simp] theorem qdc(s:Vs)(dst:Option Nat)(w:Nat)(z:List V)(x:bJ):kG M Q F s dst (.h (.clear w z x))=pM (dst.getD 0) s (.clear w z x):=rfl
def qfb(e:Env)(h:List Uo)(fl:Nat):U→Option (U×Vs)
 | .bQ=>some (.ptr h.length 0,⟨e,h++[.iter none 0 [] 0],fl⟩)
 | .map m=>(match h[m]? with
   |some (.map _ clock)=>some (.ptr h.length 0,⟨e,h++[.iter (some m) clock [] clock],fl⟩)
   |_=>none)
 |_=>none
attribute [simp] qfb
@[simp] theorem qdd(e:Env)(h:List Uo)(fl:Nat)(dst:Option Nat)(x:bJ):kG M Q F ⟨e,h,fl⟩ dst (.h (.range x))=(cq e x).bind (qfb e h fl):=by
 simp only[kG];cases cq e x with
 |none=>rfl
 |some v=>cases v<;>rfl
def NP(Q:mA)(F:FU)(s:Vs)(d f:Nat)(args:List U):Option (List (List U)→List U→Option (Nat×List (List U)))→Option (U×Vs)
 |some q=>(match args with
  | .own g w xs::rest=>(match q xs rest with
   |some (w',ys)=>some (.own (.t d) w' ys,s.kill (.t d))
   |none=>none)
  |_=>jG (Q.ld f) F d f args s)
 |none=>jG (Q.ld f) F d f args s
@[simp] theorem qgl(Q:mA)(F:FU)(s:Vs)(d f:Nat)(args:List U):yB Q F s d f args=NP Q F s d f args (Q.Jb f):=by
 unfold yB;cases Q.Jb f<;>rfl
@[simp] theorem qcI(Q:mA)(F:FU)(s:Vs)(d f:Nat)(args:List U):NP Q F s d f args none=jG (Q.ld f) F d f args s:=rfl
def qd2(s:Vs)(d:Nat):Option (Nat×List (List U))→Option (U×Vs)
 |some (w',ys)=>some (.own (.t d) w' ys,s.kill (.t d))
 |none=>none
@[simp] theorem qcJ(s:Vs)(d w' :Nat)(ys:List (List U)):qd2 s d (some (w',ys))=some (.own (.t d) w' ys,s.kill (.t d)):=rfl
@[simp] theorem qd1(Q:mA)(F:FU)(s:Vs)(d f:Nat)(g:Tg)(w:Nat)(xs:List (List U))(rest:List U)(q:List (List U)→List U→Option (Nat×List (List U))):
  NP Q F s d f (.own g w xs::rest) (some q)=qd2 s d (q xs rest):=by
 simp only[NP];cases q xs rest<;>rfl
@[simp] theorem qgn(Q:mA)(F:FU)(s:Vs)(d f:Nat)(w:Nat)(xs:List (List U))(rest:List U)(q:List (List U)→List U→Option (Nat×List (List U))):
  NP Q F s d f (.sl w xs::rest) (some q)=jG (Q.ld f) F d f (.sl w xs::rest) s:=rfl
@[simp] theorem qgm(Q:mA)(F:FU)(s:Vs)(d f:Nat)(w:Nat)(rest:List U)(q:List (List U)→List U→Option (Nat×List (List U))):
  NP Q F s d f (.nl w::rest) (some q)=jG (Q.ld f) F d f (.nl w::rest) s:=rfl
attribute [simp] uA
@[simp] theorem qdw(w:Nat):lP w []=true:=rfl
@[simp] theorem qby(w:Nat)(r:List U)(ys:List (List U)):lP w (r::ys)=(Nat.beq r.length w&&lP w ys):=rfl
theorem OD{α:Type}{w:Nat}{f:α→List U}(hf:∀ a,Nat.beq (f a).length w=true)(l:List α):lP w (l.map f)=true:=by
 simp only[lP,List.all_map,jD];intro x _;exact hf x
def xX(Q:mA)(F:FU)(s:Vs)(d f:Nat)(args:List U):Option (List (List U)→List U→Option (List (List U)))→Option (U×Vs)
 |some q=>(match args with
    | .own g w xs::rest=>(match q xs rest with
     |some ys=>bif !(decide (g=.a))&&lP w ys&&uA g rest then some (.own (.t d) w ys,(s.kill g).kill (.t d))else none
     |none=>none)
    | .nl w::rest=>(match q [] rest with
     |some ys=>bif lP w ys&&uA .r rest then some (.own (.t d) w ys,(s.kill .r).kill (.t d))else none
     |none=>none)
    |_=>none)
 |none=>yB Q F s d f args
@[simp] theorem qao(s:Vs)(d f:Nat)(args:List U):xX Q F s d f args none=yB Q F s d f args:=rfl
def C6(Q:mA)(F:FU)(s:Vs)(d f:Nat)(args:List U):Option (List (List U)→List U→Option (List (List U)))→Option (U×Vs)
 |some q=>(match args with
    | .own g w xs::rest=>(match q xs rest with
     |some ys=>bif(s.cc g).isSome then some (.aV [],s.fB g w ys)else none
     |none=>none)
    |_=>none)
 |none=>xX Q F s d f args (Q.app f)
@[simp] theorem qas(s:Vs)(d f:Nat)(args:List U):C6 Q F s d f args none=xX Q F s d f args (Q.app f):=rfl
def Pp(Q:mA)(F:FU)(s:Vs)(d:Nat):Option U→Option (List U)→Option (U×Vs)
 |some (.func f first captured),some vs=>C6 Q F s d f (first++vs++captured) (Q.q f)
 |_,_=>none
@[simp] theorem qar(s:Vs)(d f:Nat)(a b vs:List U):Pp Q F s d (some (.func f a b)) (some vs)=C6 Q F s d f (a++vs++b) (Q.q f):=rfl
@[simp] theorem qeZ(s:Vs)(dst:Option Nat)(f:bJ)(args:List bJ):kG M Q F s dst (.call f args)=Pp Q F s (dst.getD 0) (cq s.e f) (jy s.e args):=by
 simp only[kG];cases cq s.e f with
 |none=>rfl
 |some v=>
  cases v with
  |func f a b=>
   cases jy s.e args with
   |none=>rfl
   |some vs=>simp only[Pp,C6,xX];cases Q.q f<;>first|rfl|(cases Q.app f<;>rfl)
  |_=>rfl
def O2(d:Nat)(args:List U)(s:Vs):Option (U×List Uo×Nat)→Option (U×Vs)
 |some (r,hc,fc)=>some (qK d r hc fc (bif qt args&& !(r.flat&&hc.isEmpty)then aG args s else s))
 |none=>none
@[simp] theorem qag(d:Nat)(args:List U)(s:Vs)(r:U)(hc:List Uo)(fc:Nat):O2 d args s (some (r,hc,fc))=some (qK d r hc fc (bif qt args&& !(r.flat&&hc.isEmpty)then aG args s else s)):=rfl
def O5(d:Nat)(e:Env):Option (U×List Uo×Nat)→Option (U×Vs)
 |some (r,h,fl)=>some (dJ d r ⟨Env.bS Tg.isC e,h,fl⟩)
 |none=>none
@[simp] theorem qai(d:Nat)(e:Env)(r:U)(h:List Uo)(fl:Nat):O5 d e (some (r,h,fl))=some (dJ d r ⟨Env.bS Tg.isC e,h,fl⟩):=rfl
def O3(d:Nat)(s:Vs)(L:List (Nat×Nat)):Option (U×List Uo×Nat)→Option (U×Vs)
 |some (r,h,fl)=>bif L.all (lF h)then some (dJ d r ⟨Env.bS (fk L) s.e,iC s.h L h,fl⟩)else none
 |none=>none
@[simp] theorem qah(d:Nat)(s:Vs)(L:List (Nat×Nat))(r:U)(h:List Uo)(fl:Nat):O3 d s L (some (r,h,fl))=bif L.all (lF h)then some (dJ d r ⟨Env.bS (fk L) s.e,iC s.h L h,fl⟩)else none:=rfl
def C4(F:FU)(d f:Nat)(us:List U)(s:Vs):Bool→Option (U×Vs)
 |true=>O3 d s (gP s.h s.e) (F f us (eu (gP s.h s.e) s.h) s.fl)
 |false=>O5 d s.e (F f us s.h s.fl)
@[simp] theorem qaq(d f:Nat)(us:List U)(s:Vs):C4 F d f us s true=O3 d s (gP s.h s.e) (F f us (eu (gP s.h s.e) s.h) s.fl):=rfl
@[simp] theorem XJ(d f:Nat)(us:List U)(s:Vs):C4 F d f us s false=O5 d s.e (F f us s.h s.fl):=rfl
def GN(ld:Bool)(F:FU)(d f:Nat)(args us:List U)(s:Vs):Bool→Option (U×Vs)
 |true=>O2 d args s (F f us [] 0)
 |false=>C4 F d f us (aG args s) ld
@[simp] theorem qap(ld:Bool)(d f:Nat)(args us:List U)(s:Vs):GN ld F d f args us s true=O2 d args s (F f us [] 0):=rfl
@[simp] theorem XI(ld:Bool)(d f:Nat)(args us:List U)(s:Vs):GN ld F d f args us s false=C4 F d f us (aG args s) ld:=rfl
@[simp] theorem qd6(ld:Bool)(d f:Nat)(args:List U)(s:Vs):jG ld F d f args s=(gK args).bind fun us=>GN ld F d f args us s (U.b8 0 us):=by
 unfold jG;cases gK args with
 |none=>rfl
 |some us=>
  simp only[Option.bind];cases U.b8 0 us with
  |true=>simp only[cond_true,GN];cases F f us [] 0<;>rfl
  |false=>
   simp only[cond_false,GN];cases ld with
   |true=>
    simp only[cond_true,C4];cases F f us (eu (gP (aG args s).h (aG args s).e) (aG args s).h) (aG args s).fl<;>rfl
   |false=>
    simp only[cond_false,C4];cases F f us (aG args s).h (aG args s).fl<;>rfl
attribute [simp] U.Ws eu lF cellAt iC fk
def lnL(h:List Uo)(i off:Nat)(r:Env):U→List (Nat×Nat)
 | .bF _ _=>(i,off)::gP h r
 |_=>gP h r
@[simp] theorem qeM(h:List Uo)(i off:Nat)(r:Env)(w:Nat)(xs:List (List U)):lnL h i off r (.bF w xs)=(i,off)::gP h r:=rfl
def lnT(h:List Uo)(r:Env):Option (Nat×Nat)→List (Nat×Nat)
 |some (i,off)=>lnL h i off r (cellAt h i off)
 |none=>gP h r
@[simp] theorem qeO(h:List Uo)(r:Env)(i off:Nat):lnT h r (some (i,off))=lnL h i off r (cellAt h i off):=rfl
@[simp] theorem qeN(h:List Uo)(r:Env):lnT h r none=gP h r:=rfl
@[simp] theorem qc8(h:List Uo):gP h []=[]:=rfl
@[simp] theorem qa2(h:List Uo)(k:Nat)(v:U)(r:Env):gP h ((k,v)::r)=lnT h r v.Ws:=by
 simp only[gP];cases v.Ws with
 |none=>rfl
 |some x=>
  obtain⟨i,off⟩:=x;simp only[lnT,cellAt];cases h[i]? with
  |none=>rfl
  |some o=>
   cases o with
   |row cs=>
    simp only;cases cs[off]? with
    |none=>rfl
    |some u=>cases u<;>rfl
   |_=>rfl
@[simp] theorem qc6(d:Nat)(r:U)(fc:Nat)(s:Vs):qK d r [] fc s=dJ d r s:=rfl
attribute [simp] dJ U.flat U.ur U.kg
def nO(M:oW)(Q:mA)(F:FU)(r:List aD)(dst:Option Nat):Option (U×Vs)→Option Vs
 |some (v,s)=>gy M Q F r ⟨iN dst v s.e,s.h,s.fl⟩
 |none=>none
@[simp] theorem qgF(r:List aD)(dst:Option Nat)(v:U)(s:Vs):nO M Q F r dst (some (v,s))=gy M Q F r ⟨iN dst v s.e,s.h,s.fl⟩:=rfl
def gO(M:oW)(Q:mA)(F:FU)(dst:Option Nat)(op:jE)(r:List aD)(s:Vs):Option Bool→Option Vs
 |some true=>nO M Q F r dst (kG M Q F s dst op)
 |some false=>gy M Q F r ⟨iN dst (.aV []) s.e,s.h,s.fl⟩
 |none=>none
@[simp] theorem qgw(dst:Option Nat)(op:jE)(r:List aD)(s:Vs):gO M Q F dst op r s (some true)=nO M Q F r dst (kG M Q F s dst op):=rfl
@[simp] theorem qey(dst:Option Nat)(op:jE)(r:List aD)(s:Vs):gO M Q F dst op r s (some false)=gy M Q F r ⟨iN dst (.aV []) s.e,s.h,s.fl⟩:=rfl
@[simp] theorem qe4(s:Vs):gy M Q F [] s=some s:=rfl
@[simp] theorem qdl(dst:Option Nat)(op:jE)(g:Option (Nat×Bool))(p:Nat)(r:List aD)(s:Vs):gy M Q F (⟨dst,op,g,p⟩::r) s=gO M Q F dst op r s (hU g s.e):=by
 simp only[gy];cases hU g s.e with
 |none=>rfl
 |some b=>
  cases b with
  |false=>rfl
  |true=>simp only[gO];cases kG M Q F s dst op<;>rfl
@[simp] theorem XS(e:Env):hU none e=some true:=rfl
def qeA(want:Bool):U→Option Bool
 | .bool b=>some (b==want)
 | .aV _=>some false
 |_=>none
attribute [simp] qeA
@[simp] theorem XT(t:Nat)(want:Bool)(e:Env):hU (some (t,want)) e=(look e t).bind (qeA want):=by
 simp only[hU];cases look e t with
 |none=>rfl
 |some v=>cases v<;>rfl
end
end Go.RE
