/- errors.As at three targets: whatever chain comes. Printed by wip/x/genas3.py. -/
import Derived.Test.YtigkmaeaoaejiaaGreatDoorPart18
import Derived.Test.YtigkmaeaoaejiaaGreatDoorPart19
set_option linter.unusedVariables false
set_option linter.unusedSimpArgs false
namespace Go.Proofs.YtigkmaeaoaejiaaGreatDoor
open Go.RowKit Go.Extern.Stop Go.Stop Go.Extern Go.RE
set_option maxRecDepth 10000
def dS:Nat→V→Bool
 |45,.agg [.str _,.str _]=>true
 |43,.int .i64 _=>true
 |191,.ptr _ _=>true
 |_,_=>false
def aQ(s:St)(tt:Nat):Nat→V→Option (Option V)
 |0,_=>none
 |n+1,.iface t v=>bif Nat.beq t tt then(bif dS tt v then some (some v)else none)else
  bif Nat.beq t 43||Nat.beq t 45 then some none else
  bif Nat.beq t 191 then(match v with
   | .ptr b 0=>(match s.row b with
    |some [_,.aK]=>some none
    |some [_,.iface t' v']=>aQ s tt n (.iface t' v')
    |_=>none)
   |_=>none)else none
 |_+1,_=>none
theorem CG{w0:World}{ρ:RE.Ren}{s:St}{w:World}(hR:Rel w0 ρ s w){b r o lim:Nat}{c0 c1:V}(hρ:ρ b=some (r,o,lim))(hs:s.row b=some [c0,c1]):∃ x,w.cell? ⟨r,o+1,none⟩=some x∧aE w0 ρ c1 x:=
 hR.cells hρ hs 1 c1 rfl
theorem DV{w0:World}{ρ:RE.Ren}{s:St}{W:World}(hR:Rel w0 ρ s W)(b:Value)(t:Addr){v' :V}:∀ (n:Nat) (v:V) (x:Value),aE w0 ρ v x→aQ s 45 n v=some (some v')→
  ∃ xv,aE w0 ρ v' xv∧dS 45 v' =true∧∃ k,∀ Q:Exit→Act→World→Prop,(∀ j2 j4 j5 j7 j8 j9 j10 j11 j12 j13 j14 j15 j16 j17 j18 j19 j20 j21 j22 j23 j24 j25 j26 j27 j28 j29 j30 j31 j32 j33 j34 j35 j36 j37 j38 j39 j40 j41 j42 j43 j44 j45 j46 j47 j48 j49 j50 j51 j52 j53 j54 j55 j56 j57 j58 j59 j60 j61:Value,Code.rounds Tryz.prog dr Q 1 ⟨#[.iface 45 xv,.iface 187 (.pointer (some t)),j2,.iface 330 (.agg #[.pointer (some ⟨1,45,none⟩)]),j4,j5,b,j7,j8,j9,j10,j11,j12,j13,j14,j15,j16,j17,j18,j19,j20,j21,j22,j23,j24,j25,j26,j27,j28,j29,j30,j31,j32,j33,j34,j35,j36,j37,j38,j39,j40,j41,j42,j43,j44,j45,j46,j47,j48,j49,j50,j51,j52,j53,j54,j55,j56,j57,j58,j59,j60,j61],[]⟩ W)→∀ j2 j4 j5 j7 j8 j9 j10 j11 j12 j13 j14 j15 j16 j17 j18 j19 j20 j21 j22 j23 j24 j25 j26 j27 j28 j29 j30 j31 j32 j33 j34 j35 j36 j37 j38 j39 j40 j41 j42 j43 j44 j45 j46 j47 j48 j49 j50 j51 j52 j53 j54 j55 j56 j57 j58 j59 j60 j61:Value,Code.rounds Tryz.prog dr Q k ⟨#[x,.iface 187 (.pointer (some t)),j2,.iface 330 (.agg #[.pointer (some ⟨1,45,none⟩)]),j4,j5,b,j7,j8,j9,j10,j11,j12,j13,j14,j15,j16,j17,j18,j19,j20,j21,j22,j23,j24,j25,j26,j27,j28,j29,j30,j31,j32,j33,j34,j35,j36,j37,j38,j39,j40,j41,j42,j43,j44,j45,j46,j47,j48,j49,j50,j51,j52,j53,j54,j55,j56,j57,j58,j59,j60,j61],[]⟩ W:=by
 intro n
 induction n with
 |zero=>intro v x hv h;simp[aQ]at h
 |succ n ih=>
  intro v x hv h;cases v with
  |iface tt u=>
   cases hv with
   |iface hu=>
   rename_i xu;simp only[aQ]at h;cases h1:Nat.beq tt 45 with
   |true=>
    rw[h1]at h;simp only[cond_true]at h;have:=bS h1;subst this;cases h2:dS 45 u with
    |false=>rw[h2]at h;simp at h
    |true=>
     rw[h2]at h;simp only[cond_true,ay]at h;subst h;exact⟨xu,hu,h2,1,fun Q hQ=>hQ⟩
   |false=>
    rw[h1]at h;simp only[cond_false,Bool.or_false,Bool.false_or]at h;cases h3:Nat.beq tt 43 with
    |true=>
     rw[h3]at h;simp at h
    |false=>
     rw[h3]at h;simp only[cond_false]at h;cases h4:Nat.beq tt 191 with
     |false=>rw[h4]at h;simp at h
     |true=>
      rw[h4]at h;simp only[cond_true]at h;have:=bS h4;subst this;split at h<;>try (simp at h;done)
      rename_i pb;cases hu with
      |ptr hρ=>
      rename_i r o lim;split at h<;>try (simp at h;done)
      ·rename_i c0 t2 v2 hrow;obtain⟨y,e1,e2⟩:=CG hR hρ hrow;cases e2 with
       |iface e3=>
       rename_i y2;obtain⟨xv,k1,k2,k,k3⟩:=ih (.iface t2 v2) (.iface t2 y2) (.iface e3) h;exact⟨xv,k1,k2,k+1,fun Q hQ j2 j4 j5 j7 j8 j9 j10 j11 j12 j13 j14 j15 j16 j17 j18 j19 j20 j21 j22 j23 j24 j25 j26 j27 j28 j29 j30 j31 j32 j33 j34 j35 j36 j37 j38 j39 j40 j41 j42 j43 j44 j45 j46 j47 j48 j49 j50 j51 j52 j53 j54 j55 j56 j57 j58 j59 j60 j61=>Nk r o t2 y2 b t W Q j2 j4 j5 j7 j8 j9 j10 j11 j12 j13 j14 j15 j16 j17 j18 j19 j20 j21 j22 j23 j24 j25 j26 j27 j28 j29 j30 j31 j32 j33 j34 j35 j36 j37 j38 j39 j40 j41 j42 j43 j44 j45 j46 j47 j48 j49 j50 j51 j52 j53 j54 j55 j56 j57 j58 j59 j60 j61 e1 k (k3 Q hQ)⟩
  |_=>simp[aQ]at h
theorem Ck{w0:World}{ρ:RE.Ren}{s:St}{W:World}(hR:Rel w0 ρ s W)(b:Value)(t:Addr):∀ (n:Nat) (v:V) (x:Value),aE w0 ρ v x→aQ s 45 n v=some none→
  ∃ k,∀ Q:Exit→Act→World→Prop,(∀ a:Act,a.tmps[8]? =some (.bool false)→a.defers=[]→Q .ret a W)→∀ j2 j4 j5 j7 j8 j9 j10 j11 j12 j13 j14 j15 j16 j17 j18 j19 j20 j21 j22 j23 j24 j25 j26 j27 j28 j29 j30 j31 j32 j33 j34 j35 j36 j37 j38 j39 j40 j41 j42 j43 j44 j45 j46 j47 j48 j49 j50 j51 j52 j53 j54 j55 j56 j57 j58 j59 j60 j61:Value,Code.rounds Tryz.prog dr Q k ⟨#[x,.iface 187 (.pointer (some t)),j2,.iface 330 (.agg #[.pointer (some ⟨1,45,none⟩)]),j4,j5,b,j7,j8,j9,j10,j11,j12,j13,j14,j15,j16,j17,j18,j19,j20,j21,j22,j23,j24,j25,j26,j27,j28,j29,j30,j31,j32,j33,j34,j35,j36,j37,j38,j39,j40,j41,j42,j43,j44,j45,j46,j47,j48,j49,j50,j51,j52,j53,j54,j55,j56,j57,j58,j59,j60,j61],[]⟩ W:=by
 intro n
 induction n with
 |zero=>intro v x hv h;simp[aQ]at h
 |succ n ih=>
  intro v x hv h;cases v with
  |iface tt u=>
   cases hv with
   |iface hu=>
   rename_i xu;simp only[aQ]at h;cases h1:Nat.beq tt 45 with
   |true=>
    rw[h1]at h;simp only[cond_true]at h;have:=bS h1;subst this;cases h2:dS 45 u with
    |false=>rw[h2]at h;simp at h
    |true=>
     rw[h2]at h;simp at h
   |false=>
    rw[h1]at h;simp only[cond_false,Bool.or_false,Bool.false_or]at h;cases h3:Nat.beq tt 43 with
    |true=>
     rw[h3]at h;have ht:tt=43:=bS h3;subst ht;exact⟨1,fun Q hQ j2 j4 j5 j7 j8 j9 j10 j11 j12 j13 j14 j15 j16 j17 j18 j19 j20 j21 j22 j23 j24 j25 j26 j27 j28 j29 j30 j31 j32 j33 j34 j35 j36 j37 j38 j39 j40 j41 j42 j43 j44 j45 j46 j47 j48 j49 j50 j51 j52 j53 j54 j55 j56 j57 j58 j59 j60 j61=>Pk xu b t W Q j2 j4 j5 j7 j8 j9 j10 j11 j12 j13 j14 j15 j16 j17 j18 j19 j20 j21 j22 j23 j24 j25 j26 j27 j28 j29 j30 j31 j32 j33 j34 j35 j36 j37 j38 j39 j40 j41 j42 j43 j44 j45 j46 j47 j48 j49 j50 j51 j52 j53 j54 j55 j56 j57 j58 j59 j60 j61 hQ⟩
    |false=>
     rw[h3]at h;simp only[cond_false]at h;cases h4:Nat.beq tt 191 with
     |false=>rw[h4]at h;simp at h
     |true=>
      rw[h4]at h;simp only[cond_true]at h;have:=bS h4;subst this;split at h<;>try (simp at h;done)
      rename_i pb;cases hu with
      |ptr hρ=>
      rename_i r o lim;split at h<;>try (simp at h;done)
      ·rename_i c0 hrow;obtain⟨y,e1,e2⟩:=CG hR hρ hrow;cases e2;exact⟨1,fun Q hQ j2 j4 j5 j7 j8 j9 j10 j11 j12 j13 j14 j15 j16 j17 j18 j19 j20 j21 j22 j23 j24 j25 j26 j27 j28 j29 j30 j31 j32 j33 j34 j35 j36 j37 j38 j39 j40 j41 j42 j43 j44 j45 j46 j47 j48 j49 j50 j51 j52 j53 j54 j55 j56 j57 j58 j59 j60 j61=>qdf r o b t W Q j2 j4 j5 j7 j8 j9 j10 j11 j12 j13 j14 j15 j16 j17 j18 j19 j20 j21 j22 j23 j24 j25 j26 j27 j28 j29 j30 j31 j32 j33 j34 j35 j36 j37 j38 j39 j40 j41 j42 j43 j44 j45 j46 j47 j48 j49 j50 j51 j52 j53 j54 j55 j56 j57 j58 j59 j60 j61 e1 hQ⟩
      ·rename_i c0 t2 v2 hrow;obtain⟨y,e1,e2⟩:=CG hR hρ hrow;cases e2 with
       |iface e3=>
       rename_i y2;obtain⟨k,k3⟩:=ih (.iface t2 v2) (.iface t2 y2) (.iface e3) h;exact⟨k+1,fun Q hQ j2 j4 j5 j7 j8 j9 j10 j11 j12 j13 j14 j15 j16 j17 j18 j19 j20 j21 j22 j23 j24 j25 j26 j27 j28 j29 j30 j31 j32 j33 j34 j35 j36 j37 j38 j39 j40 j41 j42 j43 j44 j45 j46 j47 j48 j49 j50 j51 j52 j53 j54 j55 j56 j57 j58 j59 j60 j61=>Nk r o t2 y2 b t W Q j2 j4 j5 j7 j8 j9 j10 j11 j12 j13 j14 j15 j16 j17 j18 j19 j20 j21 j22 j23 j24 j25 j26 j27 j28 j29 j30 j31 j32 j33 j34 j35 j36 j37 j38 j39 j40 j41 j42 j43 j44 j45 j46 j47 j48 j49 j50 j51 j52 j53 j54 j55 j56 j57 j58 j59 j60 j61 e1 k (k3 Q hQ)⟩
  |_=>simp[aQ]at h
theorem D4{w0:World}{ρ:RE.Ren}{s:St}{W:World}(hR:Rel w0 ρ s W)(b:Value)(t:Addr){v' :V}:∀ (n:Nat) (v:V) (x:Value),aE w0 ρ v x→aQ s 43 n v=some (some v')→
  ∃ xv,aE w0 ρ v' xv∧dS 43 v' =true∧∃ k,∀ Q:Exit→Act→World→Prop,(∀ j2 j4 j5 j7 j8 j9 j10 j11 j12 j13 j14 j15 j16 j17 j18 j19 j20 j21 j22 j23 j24 j25 j26 j27 j28 j29 j30 j31 j32 j33 j34 j35 j36 j37 j38 j39 j40 j41 j42 j43 j44 j45 j46 j47 j48 j49 j50 j51 j52 j53 j54 j55 j56 j57 j58 j59 j60 j61:Value,Code.rounds Tryz.prog dr Q 1 ⟨#[.iface 43 xv,.iface 197 (.pointer (some t)),j2,.iface 330 (.agg #[.pointer (some ⟨1,43,none⟩)]),j4,j5,b,j7,j8,j9,j10,j11,j12,j13,j14,j15,j16,j17,j18,j19,j20,j21,j22,j23,j24,j25,j26,j27,j28,j29,j30,j31,j32,j33,j34,j35,j36,j37,j38,j39,j40,j41,j42,j43,j44,j45,j46,j47,j48,j49,j50,j51,j52,j53,j54,j55,j56,j57,j58,j59,j60,j61],[]⟩ W)→∀ j2 j4 j5 j7 j8 j9 j10 j11 j12 j13 j14 j15 j16 j17 j18 j19 j20 j21 j22 j23 j24 j25 j26 j27 j28 j29 j30 j31 j32 j33 j34 j35 j36 j37 j38 j39 j40 j41 j42 j43 j44 j45 j46 j47 j48 j49 j50 j51 j52 j53 j54 j55 j56 j57 j58 j59 j60 j61:Value,Code.rounds Tryz.prog dr Q k ⟨#[x,.iface 197 (.pointer (some t)),j2,.iface 330 (.agg #[.pointer (some ⟨1,43,none⟩)]),j4,j5,b,j7,j8,j9,j10,j11,j12,j13,j14,j15,j16,j17,j18,j19,j20,j21,j22,j23,j24,j25,j26,j27,j28,j29,j30,j31,j32,j33,j34,j35,j36,j37,j38,j39,j40,j41,j42,j43,j44,j45,j46,j47,j48,j49,j50,j51,j52,j53,j54,j55,j56,j57,j58,j59,j60,j61],[]⟩ W:=by
 intro n
 induction n with
 |zero=>intro v x hv h;simp[aQ]at h
 |succ n ih=>
  intro v x hv h;cases v with
  |iface tt u=>
   cases hv with
   |iface hu=>
   rename_i xu;simp only[aQ]at h;cases h1:Nat.beq tt 43 with
   |true=>
    rw[h1]at h;simp only[cond_true]at h;have:=bS h1;subst this;cases h2:dS 43 u with
    |false=>rw[h2]at h;simp at h
    |true=>
     rw[h2]at h;simp only[cond_true,ay]at h;subst h;exact⟨xu,hu,h2,1,fun Q hQ=>hQ⟩
   |false=>
    rw[h1]at h;simp only[cond_false,Bool.or_false,Bool.false_or]at h;cases h3:Nat.beq tt 45 with
    |true=>
     rw[h3]at h;simp at h
    |false=>
     rw[h3]at h;simp only[cond_false]at h;cases h4:Nat.beq tt 191 with
     |false=>rw[h4]at h;simp at h
     |true=>
      rw[h4]at h;simp only[cond_true]at h;have:=bS h4;subst this;split at h<;>try (simp at h;done)
      rename_i pb;cases hu with
      |ptr hρ=>
      rename_i r o lim;split at h<;>try (simp at h;done)
      ·rename_i c0 t2 v2 hrow;obtain⟨y,e1,e2⟩:=CG hR hρ hrow;cases e2 with
       |iface e3=>
       rename_i y2;obtain⟨xv,k1,k2,k,k3⟩:=ih (.iface t2 v2) (.iface t2 y2) (.iface e3) h;exact⟨xv,k1,k2,k+1,fun Q hQ j2 j4 j5 j7 j8 j9 j10 j11 j12 j13 j14 j15 j16 j17 j18 j19 j20 j21 j22 j23 j24 j25 j26 j27 j28 j29 j30 j31 j32 j33 j34 j35 j36 j37 j38 j39 j40 j41 j42 j43 j44 j45 j46 j47 j48 j49 j50 j51 j52 j53 j54 j55 j56 j57 j58 j59 j60 j61=>MG r o t2 y2 b t W Q j2 j4 j5 j7 j8 j9 j10 j11 j12 j13 j14 j15 j16 j17 j18 j19 j20 j21 j22 j23 j24 j25 j26 j27 j28 j29 j30 j31 j32 j33 j34 j35 j36 j37 j38 j39 j40 j41 j42 j43 j44 j45 j46 j47 j48 j49 j50 j51 j52 j53 j54 j55 j56 j57 j58 j59 j60 j61 e1 k (k3 Q hQ)⟩
  |_=>simp[aQ]at h
theorem B6{w0:World}{ρ:RE.Ren}{s:St}{W:World}(hR:Rel w0 ρ s W)(b:Value)(t:Addr):∀ (n:Nat) (v:V) (x:Value),aE w0 ρ v x→aQ s 43 n v=some none→
  ∃ k,∀ Q:Exit→Act→World→Prop,(∀ a:Act,a.tmps[8]? =some (.bool false)→a.defers=[]→Q .ret a W)→∀ j2 j4 j5 j7 j8 j9 j10 j11 j12 j13 j14 j15 j16 j17 j18 j19 j20 j21 j22 j23 j24 j25 j26 j27 j28 j29 j30 j31 j32 j33 j34 j35 j36 j37 j38 j39 j40 j41 j42 j43 j44 j45 j46 j47 j48 j49 j50 j51 j52 j53 j54 j55 j56 j57 j58 j59 j60 j61:Value,Code.rounds Tryz.prog dr Q k ⟨#[x,.iface 197 (.pointer (some t)),j2,.iface 330 (.agg #[.pointer (some ⟨1,43,none⟩)]),j4,j5,b,j7,j8,j9,j10,j11,j12,j13,j14,j15,j16,j17,j18,j19,j20,j21,j22,j23,j24,j25,j26,j27,j28,j29,j30,j31,j32,j33,j34,j35,j36,j37,j38,j39,j40,j41,j42,j43,j44,j45,j46,j47,j48,j49,j50,j51,j52,j53,j54,j55,j56,j57,j58,j59,j60,j61],[]⟩ W:=by
 intro n
 induction n with
 |zero=>intro v x hv h;simp[aQ]at h
 |succ n ih=>
  intro v x hv h;cases v with
  |iface tt u=>
   cases hv with
   |iface hu=>
   rename_i xu;simp only[aQ]at h;cases h1:Nat.beq tt 43 with
   |true=>
    rw[h1]at h;simp only[cond_true]at h;have:=bS h1;subst this;cases h2:dS 43 u with
    |false=>rw[h2]at h;simp at h
    |true=>
     rw[h2]at h;simp at h
   |false=>
    rw[h1]at h;simp only[cond_false,Bool.or_false,Bool.false_or]at h;cases h3:Nat.beq tt 45 with
    |true=>
     rw[h3]at h;have ht:tt=45:=bS h3;subst ht;exact⟨1,fun Q hQ j2 j4 j5 j7 j8 j9 j10 j11 j12 j13 j14 j15 j16 j17 j18 j19 j20 j21 j22 j23 j24 j25 j26 j27 j28 j29 j30 j31 j32 j33 j34 j35 j36 j37 j38 j39 j40 j41 j42 j43 j44 j45 j46 j47 j48 j49 j50 j51 j52 j53 j54 j55 j56 j57 j58 j59 j60 j61=>PD xu b t W Q j2 j4 j5 j7 j8 j9 j10 j11 j12 j13 j14 j15 j16 j17 j18 j19 j20 j21 j22 j23 j24 j25 j26 j27 j28 j29 j30 j31 j32 j33 j34 j35 j36 j37 j38 j39 j40 j41 j42 j43 j44 j45 j46 j47 j48 j49 j50 j51 j52 j53 j54 j55 j56 j57 j58 j59 j60 j61 hQ⟩
    |false=>
     rw[h3]at h;simp only[cond_false]at h;cases h4:Nat.beq tt 191 with
     |false=>rw[h4]at h;simp at h
     |true=>
      rw[h4]at h;simp only[cond_true]at h;have:=bS h4;subst this;split at h<;>try (simp at h;done)
      rename_i pb;cases hu with
      |ptr hρ=>
      rename_i r o lim;split at h<;>try (simp at h;done)
      ·rename_i c0 hrow;obtain⟨y,e1,e2⟩:=CG hR hρ hrow;cases e2;exact⟨1,fun Q hQ j2 j4 j5 j7 j8 j9 j10 j11 j12 j13 j14 j15 j16 j17 j18 j19 j20 j21 j22 j23 j24 j25 j26 j27 j28 j29 j30 j31 j32 j33 j34 j35 j36 j37 j38 j39 j40 j41 j42 j43 j44 j45 j46 j47 j48 j49 j50 j51 j52 j53 j54 j55 j56 j57 j58 j59 j60 j61=>qcL r o b t W Q j2 j4 j5 j7 j8 j9 j10 j11 j12 j13 j14 j15 j16 j17 j18 j19 j20 j21 j22 j23 j24 j25 j26 j27 j28 j29 j30 j31 j32 j33 j34 j35 j36 j37 j38 j39 j40 j41 j42 j43 j44 j45 j46 j47 j48 j49 j50 j51 j52 j53 j54 j55 j56 j57 j58 j59 j60 j61 e1 hQ⟩
      ·rename_i c0 t2 v2 hrow;obtain⟨y,e1,e2⟩:=CG hR hρ hrow;cases e2 with
       |iface e3=>
       rename_i y2;obtain⟨k,k3⟩:=ih (.iface t2 v2) (.iface t2 y2) (.iface e3) h;exact⟨k+1,fun Q hQ j2 j4 j5 j7 j8 j9 j10 j11 j12 j13 j14 j15 j16 j17 j18 j19 j20 j21 j22 j23 j24 j25 j26 j27 j28 j29 j30 j31 j32 j33 j34 j35 j36 j37 j38 j39 j40 j41 j42 j43 j44 j45 j46 j47 j48 j49 j50 j51 j52 j53 j54 j55 j56 j57 j58 j59 j60 j61=>MG r o t2 y2 b t W Q j2 j4 j5 j7 j8 j9 j10 j11 j12 j13 j14 j15 j16 j17 j18 j19 j20 j21 j22 j23 j24 j25 j26 j27 j28 j29 j30 j31 j32 j33 j34 j35 j36 j37 j38 j39 j40 j41 j42 j43 j44 j45 j46 j47 j48 j49 j50 j51 j52 j53 j54 j55 j56 j57 j58 j59 j60 j61 e1 k (k3 Q hQ)⟩
  |_=>simp[aQ]at h
end Go.Proofs.YtigkmaeaoaejiaaGreatDoor
