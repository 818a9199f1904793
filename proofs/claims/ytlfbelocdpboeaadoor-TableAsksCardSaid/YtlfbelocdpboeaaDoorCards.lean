/-
  DERIVED. GIVEN WITH THE SEED: THE CARDS: each row of YtlfbelocdpboeaaDoorRows.lean that lists a variable, with what it lists TIED to the program's text (the seventh form; the later family's looks); each row that meets fmt, with fmt's text TOLD by the authors' own Lean function (tested against real Go, not proved from fmt's source: count such statements apart). THE CARD IS WHAT COUNTS. Prove the row's statement (the work); the ties are given (YtlfbelocdpboeaaDoorTie.lean); close each card by the builder's one call (the guide's Derived/Test/ToyasCard.lean, 'card_holds'). Laid BY PROGRAM, IN A SANDBOX (cutbox-door.mjs). By AI agents, Wed Nov 11 2026. No macro, syntax, notation, axiom, sorry.
-/
import Derived.Test.YtlfbelocdpboeaaDoorRows
import GoSem.ClaimSeven
namespace Go.Proofs.YtlfbelocdpboeaaDoor
namespace Rows

/-- THE TIED CARD OF 'assartlaw14.TableSpoils'. -/
def tableSpoilsCard : Claim7 := { stood := { row := tableSpoilsRow, standIns := [], harness := (true, "12e7f88f2a0079a1371404b16f26d04939fd5c1adcf5d8b6fb930e72366a54c9"), looks := false }, kinds := [], alts := [], laidByText := true, laidKinds := [.data, .pinned], laidTests := true, laidLooks := .later }
def TableSpoilsCardSaid : Prop := Claim7.holds Tryd.pinned (.plain (OpenSpec.ofChange tableSpoilsSpec)) tableSpoilsCard

/-- THE TIED CARD OF 'assartlaw14.TableSizes'. -/
def tableSizesCard : Claim7 := { stood := { row := tableSizesRow, standIns := [], harness := (true, "12e7f88f2a0079a1371404b16f26d04939fd5c1adcf5d8b6fb930e72366a54c9"), looks := false }, kinds := [], alts := [], laidByText := true, laidKinds := [.data, .pinned], laidTests := true, laidLooks := .later }
def TableSizesCardSaid : Prop := Claim7.holds Tryd.pinned (.plain (OpenSpec.ofChange tableSizesSpec)) tableSizesCard

/-- THE TIED CARD OF 'assartlaw14.TableAsks'. -/
def tableAsksCard : Claim7 := { stood := { row := tableAsksRow, standIns := [], harness := (true, "12e7f88f2a0079a1371404b16f26d04939fd5c1adcf5d8b6fb930e72366a54c9"), looks := false }, kinds := [], alts := [], laidByText := true, laidKinds := [.data, .pinned], laidTests := true, laidLooks := .later }
def TableAsksCardSaid : Prop := Claim7.holds Tryd.pinned (.plain (OpenSpec.ofChange tableAsksSpec)) tableAsksCard

/-- THE TIED CARD OF 'assartlaw14.TableParts'. -/
def tablePartsCard : Claim7 := { stood := { row := tablePartsRow, standIns := [], harness := (true, "12e7f88f2a0079a1371404b16f26d04939fd5c1adcf5d8b6fb930e72366a54c9"), looks := false }, kinds := [], alts := [], laidByText := true, laidKinds := [.data, .pinned], laidTests := true, laidLooks := .later }
def TablePartsCardSaid : Prop := Claim7.holds Tryd.pinned (.plain (OpenSpec.ofChange tablePartsSpec)) tablePartsCard

/-- THE SECOND FORM's CARD OF 'assartlaw14.TableSpoils'. -/
def tableSpoilsUptoCard : Claim7 := { stood := { row := tableSpoilsUptoRow, standIns := [], harness := (true, "12e7f88f2a0079a1371404b16f26d04939fd5c1adcf5d8b6fb930e72366a54c9"), looks := false }, kinds := [], alts := [], laidByText := true, laidKinds := [.data, .pinned], laidTests := true, laidLooks := .later }
def TableSpoilsUptoCardSaid : Prop := Claim7.holds Tryd.pinned (.plain (OpenSpec.upto tableSpoilsSpec)) tableSpoilsUptoCard

/-- THE SECOND FORM's CARD OF 'assartlaw14.TableSizes'. -/
def tableSizesUptoCard : Claim7 := { stood := { row := tableSizesUptoRow, standIns := [], harness := (true, "12e7f88f2a0079a1371404b16f26d04939fd5c1adcf5d8b6fb930e72366a54c9"), looks := false }, kinds := [], alts := [], laidByText := true, laidKinds := [.data, .pinned], laidTests := true, laidLooks := .later }
def TableSizesUptoCardSaid : Prop := Claim7.holds Tryd.pinned (.plain (OpenSpec.upto tableSizesSpec)) tableSizesUptoCard

/-- THE SECOND FORM's CARD OF 'assartlaw14.TableAsks'. -/
def tableAsksUptoCard : Claim7 := { stood := { row := tableAsksUptoRow, standIns := [], harness := (true, "12e7f88f2a0079a1371404b16f26d04939fd5c1adcf5d8b6fb930e72366a54c9"), looks := false }, kinds := [], alts := [], laidByText := true, laidKinds := [.data, .pinned], laidTests := true, laidLooks := .later }
def TableAsksUptoCardSaid : Prop := Claim7.holds Tryd.pinned (.plain (OpenSpec.upto tableAsksSpec)) tableAsksUptoCard

/-- THE SECOND FORM's CARD OF 'assartlaw14.TableParts'. -/
def tablePartsUptoCard : Claim7 := { stood := { row := tablePartsUptoRow, standIns := [], harness := (true, "12e7f88f2a0079a1371404b16f26d04939fd5c1adcf5d8b6fb930e72366a54c9"), looks := false }, kinds := [], alts := [], laidByText := true, laidKinds := [.data, .pinned], laidTests := true, laidLooks := .later }
def TablePartsUptoCardSaid : Prop := Claim7.holds Tryd.pinned (.plain (OpenSpec.upto tablePartsSpec)) tablePartsUptoCard
end Rows
end Go.Proofs.YtlfbelocdpboeaaDoor
