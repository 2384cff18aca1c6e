/-
  DERIVED. GIVEN WITH THE SEED: THE CARDS: each row of YtigkmaeaoaejiaaGreatDoorRows.lean that lists a variable, with what it lists TIED to the program's text (the seventh form; the later family's looks); each row that meets fmt, with fmt's text TOLD by the authors' own Lean function (tested against real Go, not proved from fmt's source: count such statements apart). THE CARD IS WHAT COUNTS. Prove the row's statement (the work); the ties are given (YtigkmaeaoaejiaaGreatDoorTie.lean); close each card by the builder's one call (the guide's Derived/Test/ToyasCard.lean, 'card_holds'). Laid BY PROGRAM, IN A SANDBOX (cutbox-door.mjs). By AI agents, Wed Nov 11 2026. No macro, syntax, notation, axiom, sorry.
-/
import Derived.Test.YtigkmaeaoaejiaaGreatDoorRows
import GoSem.ClaimSeven
namespace Go.Proofs.YtigkmaeaoaejiaaGreatDoor
namespace Rows

/-- THE TIED CARD OF 'conductorlaw16.CacheTables'. -/
def cacheTablesCard : Claim7 := { stood := { row := cacheTablesRow, standIns := [], harness := (true, "a11d01df90f8189e0c85ad1c88da4595f767d19153b92ce6d52eee9d3927c065"), looks := true }, kinds := [], alts := [], laidByText := true, laidKinds := [.handle], laidTests := true, laidLooks := .later }
def CacheTablesCardSaid : Prop := Claim7.holds Tryz.pinned (.plain (OpenSpec.ofChange cacheTablesSpec)) cacheTablesCard

/-- THE TIED CARD OF 'conductorlaw16.CacheKnows'. -/
def cacheKnowsCard : Claim7 := { stood := { row := cacheKnowsRow, standIns := [], harness := (true, "a11d01df90f8189e0c85ad1c88da4595f767d19153b92ce6d52eee9d3927c065"), looks := true }, kinds := [], alts := [], laidByText := true, laidKinds := [.handle], laidTests := true, laidLooks := .later }
def CacheKnowsCardSaid : Prop := Claim7.holds Tryz.pinned (.plain (OpenSpec.ofChange cacheKnowsSpec)) cacheKnowsCard

/-- THE TIED CARD OF 'conductorlaw16.CacheDoes'. -/
def cacheDoesCard : Claim7 := { stood := { row := cacheDoesRow, standIns := [], harness := (true, "a11d01df90f8189e0c85ad1c88da4595f767d19153b92ce6d52eee9d3927c065"), looks := true }, kinds := [], alts := [], laidByText := true, laidKinds := [.handle], laidTests := true, laidLooks := .later }
def CacheDoesCardSaid : Prop := Claim7.holds Tryz.pinned (.plain (OpenSpec.ofChange cacheDoesSpec)) cacheDoesCard

/-- THE TIED CARD OF 'conductorlaw16.CacheWritten'. -/
def cacheWrittenCard : Claim7 := { stood := { row := cacheWrittenRow, standIns := [], harness := (true, "a11d01df90f8189e0c85ad1c88da4595f767d19153b92ce6d52eee9d3927c065"), looks := true }, kinds := [], alts := [], laidByText := true, laidKinds := [.handle], laidTests := true, laidLooks := .later }
def CacheWrittenCardSaid : Prop := Claim7.holds Tryz.pinned (.plain (OpenSpec.ofChange cacheWrittenSpec)) cacheWrittenCard

/-- THE TIED CARD OF 'conductorlaw16.CacheIndexes'. -/
def cacheIndexesCard : Claim7 := { stood := { row := cacheIndexesRow, standIns := [], harness := (true, "a11d01df90f8189e0c85ad1c88da4595f767d19153b92ce6d52eee9d3927c065"), looks := true }, kinds := [], alts := [], laidByText := true, laidKinds := [.handle], laidTests := true, laidLooks := .later }
def CacheIndexesCardSaid : Prop := Claim7.holds Tryz.pinned (.plain (OpenSpec.ofChange cacheIndexesSpec)) cacheIndexesCard

/-- THE TIED CARD OF 'conductorlaw16.CacheAsks'. -/
def cacheAsksCard : Claim7 := { stood := { row := cacheAsksRow, standIns := [], harness := (true, "a11d01df90f8189e0c85ad1c88da4595f767d19153b92ce6d52eee9d3927c065"), looks := true }, kinds := [], alts := [], laidByText := true, laidKinds := [.handle], laidTests := true, laidLooks := .later }
def CacheAsksCardSaid : Prop := Claim7.holds Tryz.pinned (.plain (OpenSpec.ofChange cacheAsksSpec)) cacheAsksCard

/-- THE TIED CARD OF 'conductorlaw16.CacheLearns'. -/
def cacheLearnsCard : Claim7 := { stood := { row := cacheLearnsRow, standIns := [], harness := (true, "a11d01df90f8189e0c85ad1c88da4595f767d19153b92ce6d52eee9d3927c065"), looks := true }, kinds := [], alts := [], laidByText := true, laidKinds := [.handle], laidTests := true, laidLooks := .later }
def CacheLearnsCardSaid : Prop := Claim7.holds Tryz.pinned (.plain (OpenSpec.ofChange cacheLearnsSpec)) cacheLearnsCard

/-- THE TIED CARD OF 'conductorlaw16.CacheNone'. -/
def cacheNoneCard : Claim7 := { stood := { row := cacheNoneRow, standIns := [], harness := (true, "a11d01df90f8189e0c85ad1c88da4595f767d19153b92ce6d52eee9d3927c065"), looks := true }, kinds := [], alts := [], laidByText := true, laidKinds := [.handle], laidTests := true, laidLooks := .later }
def CacheNoneCardSaid : Prop := Claim7.holds Tryz.pinned (.plain (OpenSpec.ofChange cacheNoneSpec)) cacheNoneCard

/-- THE SECOND FORM's CARD OF 'conductorlaw16.CacheTables'. -/
def cacheTablesUptoCard : Claim7 := { stood := { row := cacheTablesUptoRow, standIns := [], harness := (true, "a11d01df90f8189e0c85ad1c88da4595f767d19153b92ce6d52eee9d3927c065"), looks := true }, kinds := [], alts := [], laidByText := true, laidKinds := [.handle], laidTests := true, laidLooks := .later }
def CacheTablesUptoCardSaid : Prop := Claim7.holds Tryz.pinned (.plain (OpenSpec.upto cacheTablesSpec)) cacheTablesUptoCard

/-- THE SECOND FORM's CARD OF 'conductorlaw16.CacheKnows'. -/
def cacheKnowsUptoCard : Claim7 := { stood := { row := cacheKnowsUptoRow, standIns := [], harness := (true, "a11d01df90f8189e0c85ad1c88da4595f767d19153b92ce6d52eee9d3927c065"), looks := true }, kinds := [], alts := [], laidByText := true, laidKinds := [.handle], laidTests := true, laidLooks := .later }
def CacheKnowsUptoCardSaid : Prop := Claim7.holds Tryz.pinned (.plain (OpenSpec.upto cacheKnowsSpec)) cacheKnowsUptoCard

/-- THE SECOND FORM's CARD OF 'conductorlaw16.CacheDoes'. -/
def cacheDoesUptoCard : Claim7 := { stood := { row := cacheDoesUptoRow, standIns := [], harness := (true, "a11d01df90f8189e0c85ad1c88da4595f767d19153b92ce6d52eee9d3927c065"), looks := true }, kinds := [], alts := [], laidByText := true, laidKinds := [.handle], laidTests := true, laidLooks := .later }
def CacheDoesUptoCardSaid : Prop := Claim7.holds Tryz.pinned (.plain (OpenSpec.upto cacheDoesSpec)) cacheDoesUptoCard

/-- THE SECOND FORM's CARD OF 'conductorlaw16.CacheWritten'. -/
def cacheWrittenUptoCard : Claim7 := { stood := { row := cacheWrittenUptoRow, standIns := [], harness := (true, "a11d01df90f8189e0c85ad1c88da4595f767d19153b92ce6d52eee9d3927c065"), looks := true }, kinds := [], alts := [], laidByText := true, laidKinds := [.handle], laidTests := true, laidLooks := .later }
def CacheWrittenUptoCardSaid : Prop := Claim7.holds Tryz.pinned (.plain (OpenSpec.upto cacheWrittenSpec)) cacheWrittenUptoCard

/-- THE SECOND FORM's CARD OF 'conductorlaw16.CacheIndexes'. -/
def cacheIndexesUptoCard : Claim7 := { stood := { row := cacheIndexesUptoRow, standIns := [], harness := (true, "a11d01df90f8189e0c85ad1c88da4595f767d19153b92ce6d52eee9d3927c065"), looks := true }, kinds := [], alts := [], laidByText := true, laidKinds := [.handle], laidTests := true, laidLooks := .later }
def CacheIndexesUptoCardSaid : Prop := Claim7.holds Tryz.pinned (.plain (OpenSpec.upto cacheIndexesSpec)) cacheIndexesUptoCard

/-- THE SECOND FORM's CARD OF 'conductorlaw16.CacheAsks'. -/
def cacheAsksUptoCard : Claim7 := { stood := { row := cacheAsksUptoRow, standIns := [], harness := (true, "a11d01df90f8189e0c85ad1c88da4595f767d19153b92ce6d52eee9d3927c065"), looks := true }, kinds := [], alts := [], laidByText := true, laidKinds := [.handle], laidTests := true, laidLooks := .later }
def CacheAsksUptoCardSaid : Prop := Claim7.holds Tryz.pinned (.plain (OpenSpec.upto cacheAsksSpec)) cacheAsksUptoCard

/-- THE SECOND FORM's CARD OF 'conductorlaw16.CacheLearns'. -/
def cacheLearnsUptoCard : Claim7 := { stood := { row := cacheLearnsUptoRow, standIns := [], harness := (true, "a11d01df90f8189e0c85ad1c88da4595f767d19153b92ce6d52eee9d3927c065"), looks := true }, kinds := [], alts := [], laidByText := true, laidKinds := [.handle], laidTests := true, laidLooks := .later }
def CacheLearnsUptoCardSaid : Prop := Claim7.holds Tryz.pinned (.plain (OpenSpec.upto cacheLearnsSpec)) cacheLearnsUptoCard

/-- THE SECOND FORM's CARD OF 'conductorlaw16.CacheNone'. -/
def cacheNoneUptoCard : Claim7 := { stood := { row := cacheNoneUptoRow, standIns := [], harness := (true, "a11d01df90f8189e0c85ad1c88da4595f767d19153b92ce6d52eee9d3927c065"), looks := true }, kinds := [], alts := [], laidByText := true, laidKinds := [.handle], laidTests := true, laidLooks := .later }
def CacheNoneUptoCardSaid : Prop := Claim7.holds Tryz.pinned (.plain (OpenSpec.upto cacheNoneSpec)) cacheNoneUptoCard
end Rows
end Go.Proofs.YtigkmaeaoaejiaaGreatDoor
