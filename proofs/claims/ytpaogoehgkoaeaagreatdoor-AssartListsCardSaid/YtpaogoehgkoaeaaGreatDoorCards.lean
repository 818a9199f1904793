/-
  DERIVED. GIVEN WITH THE SEED: THE CARDS: each row of YtpaogoehgkoaeaaGreatDoorRows.lean that lists a variable, with what it lists TIED to the program's text (the seventh form; the later family's looks); each row that meets fmt, with fmt's text TOLD by the authors' own Lean function (tested against real Go, not proved from fmt's source: count such statements apart). THE CARD IS WHAT COUNTS. Prove the row's statement (the work); the ties are given (YtpaogoehgkoaeaaGreatDoorTie.lean); close each card by the builder's one call (the guide's Derived/Test/ToyasCard.lean, 'card_holds'). Laid BY PROGRAM, IN A SANDBOX (cutbox-door.mjs). By AI agents, Wed Nov 11 2026. No macro, syntax, notation, axiom, sorry.
-/
import Derived.Test.YtpaogoehgkoaeaaGreatDoorRows
import GoSem.ClaimSeven
namespace Go.Proofs.YtpaogoehgkoaeaaGreatDoor
namespace Rows

/-- THE TIED CARD OF 'assarttop.AssartPieces'. -/
def assartPiecesCard : Claim7 := { stood := { row := assartPiecesRow, standIns := [], harness := (true, "b507ad9d1d0008d9da580c033d96c196c6fcde3d5977dcb8dbc1459284ccb4ed"), looks := false }, kinds := [], alts := [], laidByText := true, laidKinds := [.data, .pinned], laidTests := true, laidLooks := .later }
def AssartPiecesCardSaid : Prop := Claim7.holds Tryz.pinned (.plain (OpenSpec.ofChange assartPiecesSpec)) assartPiecesCard

/-- THE TIED CARD OF 'assarttop.AssartLists'. -/
def assartListsCard : Claim7 := { stood := { row := assartListsRow, standIns := [], harness := (true, "b507ad9d1d0008d9da580c033d96c196c6fcde3d5977dcb8dbc1459284ccb4ed"), looks := false }, kinds := [], alts := [], laidByText := true, laidKinds := [.data, .pinned], laidTests := true, laidLooks := .later }
def AssartListsCardSaid : Prop := Claim7.holds Tryz.pinned (.plain (OpenSpec.ofChange assartListsSpec)) assartListsCard

/-- THE TIED CARD OF 'assarttop.AssartViews'. -/
def assartViewsCard : Claim7 := { stood := { row := assartViewsRow, standIns := [], harness := (true, "b507ad9d1d0008d9da580c033d96c196c6fcde3d5977dcb8dbc1459284ccb4ed"), looks := false }, kinds := [], alts := [], laidByText := true, laidKinds := [.data, .pinned], laidTests := true, laidLooks := .later }
def AssartViewsCardSaid : Prop := Claim7.holds Tryz.pinned (.plain (OpenSpec.ofChange assartViewsSpec)) assartViewsCard

/-- THE SECOND FORM's CARD OF 'assarttop.AssartPieces'. -/
def assartPiecesUptoCard : Claim7 := { stood := { row := assartPiecesUptoRow, standIns := [], harness := (true, "b507ad9d1d0008d9da580c033d96c196c6fcde3d5977dcb8dbc1459284ccb4ed"), looks := false }, kinds := [], alts := [], laidByText := true, laidKinds := [.data, .pinned], laidTests := true, laidLooks := .later }
def AssartPiecesUptoCardSaid : Prop := Claim7.holds Tryz.pinned (.plain (OpenSpec.upto assartPiecesSpec)) assartPiecesUptoCard

/-- THE SECOND FORM's CARD OF 'assarttop.AssartLists'. -/
def assartListsUptoCard : Claim7 := { stood := { row := assartListsUptoRow, standIns := [], harness := (true, "b507ad9d1d0008d9da580c033d96c196c6fcde3d5977dcb8dbc1459284ccb4ed"), looks := false }, kinds := [], alts := [], laidByText := true, laidKinds := [.data, .pinned], laidTests := true, laidLooks := .later }
def AssartListsUptoCardSaid : Prop := Claim7.holds Tryz.pinned (.plain (OpenSpec.upto assartListsSpec)) assartListsUptoCard

/-- THE SECOND FORM's CARD OF 'assarttop.AssartViews'. -/
def assartViewsUptoCard : Claim7 := { stood := { row := assartViewsUptoRow, standIns := [], harness := (true, "b507ad9d1d0008d9da580c033d96c196c6fcde3d5977dcb8dbc1459284ccb4ed"), looks := false }, kinds := [], alts := [], laidByText := true, laidKinds := [.data, .pinned], laidTests := true, laidLooks := .later }
def AssartViewsUptoCardSaid : Prop := Claim7.holds Tryz.pinned (.plain (OpenSpec.upto assartViewsSpec)) assartViewsUptoCard
end Rows
end Go.Proofs.YtpaogoehgkoaeaaGreatDoor
