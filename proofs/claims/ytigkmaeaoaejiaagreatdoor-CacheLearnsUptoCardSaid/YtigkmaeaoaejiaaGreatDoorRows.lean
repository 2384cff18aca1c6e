/-
  NARROWER THAN 'FOR EVERY INPUT', by the rows' own cells (each row's printed sentence says how): CacheTables: laid · CacheKnows: laid · CacheDoes: laid · CacheWritten: laid · CacheIndexes: laid · CacheAsks: laid · CacheLearns: laid · CacheNone: laid.
  DERIVED. THE GIVEN ROWS OF THIS SEAT. 8 by the template 'for every input the law returns true; each argument reads behind the call as it read before'; 0 by the template 'total and deterministic' (their statements: YtigkmaeaoaejiaaGreatDoorTotals.lean).
  GIVEN WITH THE SEED: the statements are not yours to turn. If you find one false, say at which input.
  Laid BY PROGRAM, IN A SANDBOX (cutbox-rows.mjs): the forced cells as the released guide's own fill.sh prints them over the translation 0421f3e423530154… (all of the seat's roots in one cut). By AI agents, Wed Nov 11 2026. No macro, syntax, notation, axiom, sorry.
-/
import Derived.Test.YtigkmaeaoaejiaaGreatDoorChecked
import GoSem.Claim
import GoSem.ClaimJoined
import GoSem.ClaimMapViews
import Derived.JoinedTies
import Derived.KernelRfl
namespace Go.Proofs.YtigkmaeaoaejiaaGreatDoor
/- THE CELL 'sum', in the pinned program and in every row, IS THE sha256 OF THE DUMP (.gsa) THAT YtigkmaeaoaejiaaGreatDoorProg.lean LOADS. Nothing in Lean hashes anything: it is a label: what it is worth is what the hold of that sum in a sandbox is worth. -/
noncomputable def Tryz.pinned : Pinned := { name := "ytigkmaeaoaejiaagreatdoor", sum := "0421f3e42353015458b322093995ff4ec2b03740b5ddd901d94eb23a2c7af4a4", checked := Tryz.checked }
namespace Rows
def none {H : Type} : Left H := { results := [], args := [] }

/- WHAT THE LISTED PACKAGE-LEVEL VARIABLES READ AS WHEN THE CALL BEGINS. Each datum BY PROGRAM (the guide's laid-datum.mjs) off the statement by which the dump's own 'gosem.cut.vars' lays the variable. In a bare row this is a premise. The card (YtigkmaeaoaejiaaGreatDoorCards.lean) ties it to the program's text. -/
def laid_errors_errorType {H : Type} : DataW H := .iface "internal/reflectlite.rtype" (.agg [.ptr (.lit (.string [101, 114, 114, 111, 114]))])

/-- 'conductorlaw16.CacheTables': WHATEVER THE INPUT: true; the input reads as it did. -/
def cacheTablesSpec : ChangeSpec := { name := "cacheTables", fn := fun _ => fun
  | [d1, d2, d3, d4] => { results := [.lit (.bool true)], args := [d1, d2, d3, d4] }
  | _ => none }
def cacheTablesRow : OpenClaim := { program := "ytigkmaeaoaejiaagreatdoor", sum := "0421f3e42353015458b322093995ff4ec2b03740b5ddd901d94eb23a2c7af4a4", func := "conductor/conductorlaw16.CacheTables", spec := "cacheTables", inPlace := ["internal/reflectlite.ValueOf", "(internal/reflectlite.Value).Type", "(internal/reflectlite.Value).IsNil", "internal/reflectlite.TypeOf", "(internal/reflectlite.Value).Elem", "(internal/reflectlite.Value).Set"], unfollowed := true, recurses := true, named := ["errors.errorType"], apart := false, laid := [("errors.errorType", laid_errors_errorType)] }
def CacheTablesSaid : Prop := cacheTablesRow.holds Tryz.pinned (OpenSpec.ofChange cacheTablesSpec)

/-- ITS FALSE NEIGHBOUR: 'it returns false'. Refute it at one input. -/
def cacheTablesWrong : ChangeSpec := { name := "cacheTables", fn := fun _ => fun
  | [d1, d2, d3, d4] => { results := [.lit (.bool false)], args := [d1, d2, d3, d4] }
  | _ => none }
def CacheTablesWrongFalsely : Prop := cacheTablesRow.holds Tryz.pinned (OpenSpec.ofChange cacheTablesWrong)

/-- 'conductorlaw16.CacheKnows': WHATEVER THE INPUT: true; the input reads as it did. -/
def cacheKnowsSpec : ChangeSpec := { name := "cacheKnows", fn := fun _ => fun
  | [d1, d2, d3] => { results := [.lit (.bool true)], args := [d1, d2, d3] }
  | _ => none }
def cacheKnowsRow : OpenClaim := { program := "ytigkmaeaoaejiaagreatdoor", sum := "0421f3e42353015458b322093995ff4ec2b03740b5ddd901d94eb23a2c7af4a4", func := "conductor/conductorlaw16.CacheKnows", spec := "cacheKnows", inPlace := ["internal/reflectlite.ValueOf", "(internal/reflectlite.Value).Type", "(internal/reflectlite.Value).IsNil", "internal/reflectlite.TypeOf", "(internal/reflectlite.Value).Elem", "(internal/reflectlite.Value).Set"], unfollowed := true, recurses := true, named := ["errors.errorType"], apart := false, laid := [("errors.errorType", laid_errors_errorType)] }
def CacheKnowsSaid : Prop := cacheKnowsRow.holds Tryz.pinned (OpenSpec.ofChange cacheKnowsSpec)

/-- ITS FALSE NEIGHBOUR: 'it returns false'. Refute it at one input. -/
def cacheKnowsWrong : ChangeSpec := { name := "cacheKnows", fn := fun _ => fun
  | [d1, d2, d3] => { results := [.lit (.bool false)], args := [d1, d2, d3] }
  | _ => none }
def CacheKnowsWrongFalsely : Prop := cacheKnowsRow.holds Tryz.pinned (OpenSpec.ofChange cacheKnowsWrong)

/-- 'conductorlaw16.CacheDoes': WHATEVER THE INPUT: true; the input reads as it did. -/
def cacheDoesSpec : ChangeSpec := { name := "cacheDoes", fn := fun _ => fun
  | [d1, d2] => { results := [.lit (.bool true)], args := [d1, d2] }
  | _ => none }
def cacheDoesRow : OpenClaim := { program := "ytigkmaeaoaejiaagreatdoor", sum := "0421f3e42353015458b322093995ff4ec2b03740b5ddd901d94eb23a2c7af4a4", func := "conductor/conductorlaw16.CacheDoes", spec := "cacheDoes", inPlace := ["internal/reflectlite.ValueOf", "(internal/reflectlite.Value).Type", "(internal/reflectlite.Value).IsNil", "internal/reflectlite.TypeOf", "(internal/reflectlite.Value).Elem", "(internal/reflectlite.Value).Set"], unfollowed := true, recurses := true, named := ["errors.errorType"], apart := false, laid := [("errors.errorType", laid_errors_errorType)] }
def CacheDoesSaid : Prop := cacheDoesRow.holds Tryz.pinned (OpenSpec.ofChange cacheDoesSpec)

/-- ITS FALSE NEIGHBOUR: 'it returns false'. Refute it at one input. -/
def cacheDoesWrong : ChangeSpec := { name := "cacheDoes", fn := fun _ => fun
  | [d1, d2] => { results := [.lit (.bool false)], args := [d1, d2] }
  | _ => none }
def CacheDoesWrongFalsely : Prop := cacheDoesRow.holds Tryz.pinned (OpenSpec.ofChange cacheDoesWrong)

/-- 'conductorlaw16.CacheWritten': WHATEVER THE INPUT: true; the input reads as it did. -/
def cacheWrittenSpec : ChangeSpec := { name := "cacheWritten", fn := fun _ => fun
  | [d1, d2, d3] => { results := [.lit (.bool true)], args := [d1, d2, d3] }
  | _ => none }
def cacheWrittenRow : OpenClaim := { program := "ytigkmaeaoaejiaagreatdoor", sum := "0421f3e42353015458b322093995ff4ec2b03740b5ddd901d94eb23a2c7af4a4", func := "conductor/conductorlaw16.CacheWritten", spec := "cacheWritten", inPlace := ["internal/reflectlite.ValueOf", "(internal/reflectlite.Value).Type", "(internal/reflectlite.Value).IsNil", "internal/reflectlite.TypeOf", "(internal/reflectlite.Value).Elem", "(internal/reflectlite.Value).Set"], unfollowed := true, recurses := true, named := ["errors.errorType"], apart := false, laid := [("errors.errorType", laid_errors_errorType)] }
def CacheWrittenSaid : Prop := cacheWrittenRow.holds Tryz.pinned (OpenSpec.ofChange cacheWrittenSpec)

/-- ITS FALSE NEIGHBOUR: 'it returns false'. Refute it at one input. -/
def cacheWrittenWrong : ChangeSpec := { name := "cacheWritten", fn := fun _ => fun
  | [d1, d2, d3] => { results := [.lit (.bool false)], args := [d1, d2, d3] }
  | _ => none }
def CacheWrittenWrongFalsely : Prop := cacheWrittenRow.holds Tryz.pinned (OpenSpec.ofChange cacheWrittenWrong)

/-- 'conductorlaw16.CacheIndexes': WHATEVER THE INPUT: true; the input reads as it did. -/
def cacheIndexesSpec : ChangeSpec := { name := "cacheIndexes", fn := fun _ => fun
  | [d1, d2] => { results := [.lit (.bool true)], args := [d1, d2] }
  | _ => none }
def cacheIndexesRow : OpenClaim := { program := "ytigkmaeaoaejiaagreatdoor", sum := "0421f3e42353015458b322093995ff4ec2b03740b5ddd901d94eb23a2c7af4a4", func := "conductor/conductorlaw16.CacheIndexes", spec := "cacheIndexes", inPlace := ["internal/reflectlite.ValueOf", "(internal/reflectlite.Value).Type", "(internal/reflectlite.Value).IsNil", "internal/reflectlite.TypeOf", "(internal/reflectlite.Value).Elem", "(internal/reflectlite.Value).Set"], unfollowed := true, recurses := true, named := ["errors.errorType"], apart := false, laid := [("errors.errorType", laid_errors_errorType)] }
def CacheIndexesSaid : Prop := cacheIndexesRow.holds Tryz.pinned (OpenSpec.ofChange cacheIndexesSpec)

/-- ITS FALSE NEIGHBOUR: 'it returns false'. Refute it at one input. -/
def cacheIndexesWrong : ChangeSpec := { name := "cacheIndexes", fn := fun _ => fun
  | [d1, d2] => { results := [.lit (.bool false)], args := [d1, d2] }
  | _ => none }
def CacheIndexesWrongFalsely : Prop := cacheIndexesRow.holds Tryz.pinned (OpenSpec.ofChange cacheIndexesWrong)

/-- 'conductorlaw16.CacheAsks': WHATEVER THE INPUT: true; the input reads as it did. -/
def cacheAsksSpec : ChangeSpec := { name := "cacheAsks", fn := fun _ => fun
  | [d1, d2] => { results := [.lit (.bool true)], args := [d1, d2] }
  | _ => none }
def cacheAsksRow : OpenClaim := { program := "ytigkmaeaoaejiaagreatdoor", sum := "0421f3e42353015458b322093995ff4ec2b03740b5ddd901d94eb23a2c7af4a4", func := "conductor/conductorlaw16.CacheAsks", spec := "cacheAsks", inPlace := ["internal/reflectlite.ValueOf", "(internal/reflectlite.Value).Type", "(internal/reflectlite.Value).IsNil", "internal/reflectlite.TypeOf", "(internal/reflectlite.Value).Elem", "(internal/reflectlite.Value).Set"], unfollowed := true, recurses := true, named := ["errors.errorType"], apart := false, laid := [("errors.errorType", laid_errors_errorType)] }
def CacheAsksSaid : Prop := cacheAsksRow.holds Tryz.pinned (OpenSpec.ofChange cacheAsksSpec)

/-- ITS FALSE NEIGHBOUR: 'it returns false'. Refute it at one input. -/
def cacheAsksWrong : ChangeSpec := { name := "cacheAsks", fn := fun _ => fun
  | [d1, d2] => { results := [.lit (.bool false)], args := [d1, d2] }
  | _ => none }
def CacheAsksWrongFalsely : Prop := cacheAsksRow.holds Tryz.pinned (OpenSpec.ofChange cacheAsksWrong)

/-- 'conductorlaw16.CacheLearns': WHATEVER THE INPUT: true; the input reads as it did. -/
def cacheLearnsSpec : ChangeSpec := { name := "cacheLearns", fn := fun _ => fun
  | [d1, d2] => { results := [.lit (.bool true)], args := [d1, d2] }
  | _ => none }
def cacheLearnsRow : OpenClaim := { program := "ytigkmaeaoaejiaagreatdoor", sum := "0421f3e42353015458b322093995ff4ec2b03740b5ddd901d94eb23a2c7af4a4", func := "conductor/conductorlaw16.CacheLearns", spec := "cacheLearns", inPlace := ["internal/reflectlite.ValueOf", "(internal/reflectlite.Value).Type", "(internal/reflectlite.Value).IsNil", "internal/reflectlite.TypeOf", "(internal/reflectlite.Value).Elem", "(internal/reflectlite.Value).Set"], unfollowed := true, recurses := true, named := ["errors.errorType"], apart := false, laid := [("errors.errorType", laid_errors_errorType)] }
def CacheLearnsSaid : Prop := cacheLearnsRow.holds Tryz.pinned (OpenSpec.ofChange cacheLearnsSpec)

/-- ITS FALSE NEIGHBOUR: 'it returns false'. Refute it at one input. -/
def cacheLearnsWrong : ChangeSpec := { name := "cacheLearns", fn := fun _ => fun
  | [d1, d2] => { results := [.lit (.bool false)], args := [d1, d2] }
  | _ => none }
def CacheLearnsWrongFalsely : Prop := cacheLearnsRow.holds Tryz.pinned (OpenSpec.ofChange cacheLearnsWrong)

/-- 'conductorlaw16.CacheNone': WHATEVER THE INPUT: true; the input reads as it did. -/
def cacheNoneSpec : ChangeSpec := { name := "cacheNone", fn := fun _ => fun
  | [d1, d2, d3] => { results := [.lit (.bool true)], args := [d1, d2, d3] }
  | _ => none }
def cacheNoneRow : OpenClaim := { program := "ytigkmaeaoaejiaagreatdoor", sum := "0421f3e42353015458b322093995ff4ec2b03740b5ddd901d94eb23a2c7af4a4", func := "conductor/conductorlaw16.CacheNone", spec := "cacheNone", inPlace := ["internal/reflectlite.ValueOf", "(internal/reflectlite.Value).Type", "(internal/reflectlite.Value).IsNil", "internal/reflectlite.TypeOf", "(internal/reflectlite.Value).Elem", "(internal/reflectlite.Value).Set"], unfollowed := true, recurses := true, named := ["errors.errorType"], apart := false, laid := [("errors.errorType", laid_errors_errorType)] }
def CacheNoneSaid : Prop := cacheNoneRow.holds Tryz.pinned (OpenSpec.ofChange cacheNoneSpec)

/-- ITS FALSE NEIGHBOUR: 'it returns false'. Refute it at one input. -/
def cacheNoneWrong : ChangeSpec := { name := "cacheNone", fn := fun _ => fun
  | [d1, d2, d3] => { results := [.lit (.bool false)], args := [d1, d2, d3] }
  | _ => none }
def CacheNoneWrongFalsely : Prop := cacheNoneRow.holds Tryz.pinned (OpenSpec.ofChange cacheNoneWrong)

/- THE SECOND FORM. 'bulk': how many values and letters a reading holds, each counted each time it is reached (what is shared counts as often as it is met; a slice's spare places count too). A statement '..UptoSaid' is the law's where the arguments, and the package variables that the reading takes, are together of bulk at most 1048576: NARROWER than '..Said'. Prove '..Said' where nothing that the law and all that it calls make is longer than what came in: it says more and counts as full. Else prove '..UptoSaid'. A law counts once. -/
mutual
def uptoBulk {H : Type} : DataW H → Nat
  | .lit (.string bytes) => bytes.length + 1
  | .lit _ => 1
  | .nil => 1
  | .ptr d => uptoBulk d + 1
  | .slice elems spare => uptoBulkAll elems + uptoBulkAll spare + 1
  | .agg parts => uptoBulkAll parts + 1
  | .iface _ d => uptoBulk d + 1
  | .map entries => uptoBulkEntries entries + 1
  | .held _ => 1
def uptoBulkAll {H : Type} : List (DataW H) → Nat
  | [] => 0
  | d :: r => uptoBulk d + uptoBulkAll r
def uptoBulkEntries {H : Type} : List (Lit × DataW H) → Nat
  | [] => 0
  | x :: r => uptoBulkEntry x + uptoBulkEntries r
def uptoBulkEntry {H : Type} : Lit × DataW H → Nat
  | (.string bytes, d) => bytes.length + uptoBulk d + 1
  | (_, d) => uptoBulk d + 1
 end
def uptoSmall : (H : Type) → List (DataW H) → Bool := fun _ ds => decide (uptoBulkAll ds ≤ 1048576)
def OpenSpec.upto (s : _root_.Go.ChangeSpec) : _root_.Go.OpenSpec := { _root_.Go.OpenSpec.ofChange s with cond := some uptoSmall }

/-- 'conductorlaw16.CacheTables', WHERE WHAT IT READS IS OF BULK AT MOST 1048576: true; the input reads as it did. -/
def cacheTablesUptoRow : OpenClaim := { program := "ytigkmaeaoaejiaagreatdoor", sum := "0421f3e42353015458b322093995ff4ec2b03740b5ddd901d94eb23a2c7af4a4", func := "conductor/conductorlaw16.CacheTables", spec := "cacheTables", inPlace := ["internal/reflectlite.ValueOf", "(internal/reflectlite.Value).Type", "(internal/reflectlite.Value).IsNil", "internal/reflectlite.TypeOf", "(internal/reflectlite.Value).Elem", "(internal/reflectlite.Value).Set"], unfollowed := true, recurses := true, named := ["errors.errorType"], apart := false, laid := [("errors.errorType", laid_errors_errorType)], narrowed := true }
def CacheTablesUptoSaid : Prop := cacheTablesUptoRow.holds Tryz.pinned (OpenSpec.upto cacheTablesSpec)

/-- 'conductorlaw16.CacheKnows', WHERE WHAT IT READS IS OF BULK AT MOST 1048576: true; the input reads as it did. -/
def cacheKnowsUptoRow : OpenClaim := { program := "ytigkmaeaoaejiaagreatdoor", sum := "0421f3e42353015458b322093995ff4ec2b03740b5ddd901d94eb23a2c7af4a4", func := "conductor/conductorlaw16.CacheKnows", spec := "cacheKnows", inPlace := ["internal/reflectlite.ValueOf", "(internal/reflectlite.Value).Type", "(internal/reflectlite.Value).IsNil", "internal/reflectlite.TypeOf", "(internal/reflectlite.Value).Elem", "(internal/reflectlite.Value).Set"], unfollowed := true, recurses := true, named := ["errors.errorType"], apart := false, laid := [("errors.errorType", laid_errors_errorType)], narrowed := true }
def CacheKnowsUptoSaid : Prop := cacheKnowsUptoRow.holds Tryz.pinned (OpenSpec.upto cacheKnowsSpec)

/-- 'conductorlaw16.CacheDoes', WHERE WHAT IT READS IS OF BULK AT MOST 1048576: true; the input reads as it did. -/
def cacheDoesUptoRow : OpenClaim := { program := "ytigkmaeaoaejiaagreatdoor", sum := "0421f3e42353015458b322093995ff4ec2b03740b5ddd901d94eb23a2c7af4a4", func := "conductor/conductorlaw16.CacheDoes", spec := "cacheDoes", inPlace := ["internal/reflectlite.ValueOf", "(internal/reflectlite.Value).Type", "(internal/reflectlite.Value).IsNil", "internal/reflectlite.TypeOf", "(internal/reflectlite.Value).Elem", "(internal/reflectlite.Value).Set"], unfollowed := true, recurses := true, named := ["errors.errorType"], apart := false, laid := [("errors.errorType", laid_errors_errorType)], narrowed := true }
def CacheDoesUptoSaid : Prop := cacheDoesUptoRow.holds Tryz.pinned (OpenSpec.upto cacheDoesSpec)

/-- 'conductorlaw16.CacheWritten', WHERE WHAT IT READS IS OF BULK AT MOST 1048576: true; the input reads as it did. -/
def cacheWrittenUptoRow : OpenClaim := { program := "ytigkmaeaoaejiaagreatdoor", sum := "0421f3e42353015458b322093995ff4ec2b03740b5ddd901d94eb23a2c7af4a4", func := "conductor/conductorlaw16.CacheWritten", spec := "cacheWritten", inPlace := ["internal/reflectlite.ValueOf", "(internal/reflectlite.Value).Type", "(internal/reflectlite.Value).IsNil", "internal/reflectlite.TypeOf", "(internal/reflectlite.Value).Elem", "(internal/reflectlite.Value).Set"], unfollowed := true, recurses := true, named := ["errors.errorType"], apart := false, laid := [("errors.errorType", laid_errors_errorType)], narrowed := true }
def CacheWrittenUptoSaid : Prop := cacheWrittenUptoRow.holds Tryz.pinned (OpenSpec.upto cacheWrittenSpec)

/-- 'conductorlaw16.CacheIndexes', WHERE WHAT IT READS IS OF BULK AT MOST 1048576: true; the input reads as it did. -/
def cacheIndexesUptoRow : OpenClaim := { program := "ytigkmaeaoaejiaagreatdoor", sum := "0421f3e42353015458b322093995ff4ec2b03740b5ddd901d94eb23a2c7af4a4", func := "conductor/conductorlaw16.CacheIndexes", spec := "cacheIndexes", inPlace := ["internal/reflectlite.ValueOf", "(internal/reflectlite.Value).Type", "(internal/reflectlite.Value).IsNil", "internal/reflectlite.TypeOf", "(internal/reflectlite.Value).Elem", "(internal/reflectlite.Value).Set"], unfollowed := true, recurses := true, named := ["errors.errorType"], apart := false, laid := [("errors.errorType", laid_errors_errorType)], narrowed := true }
def CacheIndexesUptoSaid : Prop := cacheIndexesUptoRow.holds Tryz.pinned (OpenSpec.upto cacheIndexesSpec)

/-- 'conductorlaw16.CacheAsks', WHERE WHAT IT READS IS OF BULK AT MOST 1048576: true; the input reads as it did. -/
def cacheAsksUptoRow : OpenClaim := { program := "ytigkmaeaoaejiaagreatdoor", sum := "0421f3e42353015458b322093995ff4ec2b03740b5ddd901d94eb23a2c7af4a4", func := "conductor/conductorlaw16.CacheAsks", spec := "cacheAsks", inPlace := ["internal/reflectlite.ValueOf", "(internal/reflectlite.Value).Type", "(internal/reflectlite.Value).IsNil", "internal/reflectlite.TypeOf", "(internal/reflectlite.Value).Elem", "(internal/reflectlite.Value).Set"], unfollowed := true, recurses := true, named := ["errors.errorType"], apart := false, laid := [("errors.errorType", laid_errors_errorType)], narrowed := true }
def CacheAsksUptoSaid : Prop := cacheAsksUptoRow.holds Tryz.pinned (OpenSpec.upto cacheAsksSpec)

/-- 'conductorlaw16.CacheLearns', WHERE WHAT IT READS IS OF BULK AT MOST 1048576: true; the input reads as it did. -/
def cacheLearnsUptoRow : OpenClaim := { program := "ytigkmaeaoaejiaagreatdoor", sum := "0421f3e42353015458b322093995ff4ec2b03740b5ddd901d94eb23a2c7af4a4", func := "conductor/conductorlaw16.CacheLearns", spec := "cacheLearns", inPlace := ["internal/reflectlite.ValueOf", "(internal/reflectlite.Value).Type", "(internal/reflectlite.Value).IsNil", "internal/reflectlite.TypeOf", "(internal/reflectlite.Value).Elem", "(internal/reflectlite.Value).Set"], unfollowed := true, recurses := true, named := ["errors.errorType"], apart := false, laid := [("errors.errorType", laid_errors_errorType)], narrowed := true }
def CacheLearnsUptoSaid : Prop := cacheLearnsUptoRow.holds Tryz.pinned (OpenSpec.upto cacheLearnsSpec)

/-- 'conductorlaw16.CacheNone', WHERE WHAT IT READS IS OF BULK AT MOST 1048576: true; the input reads as it did. -/
def cacheNoneUptoRow : OpenClaim := { program := "ytigkmaeaoaejiaagreatdoor", sum := "0421f3e42353015458b322093995ff4ec2b03740b5ddd901d94eb23a2c7af4a4", func := "conductor/conductorlaw16.CacheNone", spec := "cacheNone", inPlace := ["internal/reflectlite.ValueOf", "(internal/reflectlite.Value).Type", "(internal/reflectlite.Value).IsNil", "internal/reflectlite.TypeOf", "(internal/reflectlite.Value).Elem", "(internal/reflectlite.Value).Set"], unfollowed := true, recurses := true, named := ["errors.errorType"], apart := false, laid := [("errors.errorType", laid_errors_errorType)], narrowed := true }
def CacheNoneUptoSaid : Prop := cacheNoneUptoRow.holds Tryz.pinned (OpenSpec.upto cacheNoneSpec)

end Rows
end Go.Proofs.YtigkmaeaoaejiaaGreatDoor
