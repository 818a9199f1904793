/-
  DERIVED. GIVEN WITH THE SEED: THE CARDS: each row of YtnjnehegfdimaaaDoorRows.lean that lists a variable, with what it lists TIED to the program's text (the seventh form; the later family's looks); each row that meets fmt, with fmt's text TOLD by the authors' own Lean function (tested against real Go, not proved from fmt's source: count such statements apart). THE CARD IS WHAT COUNTS. Prove the row's statement (the work); the ties are given (YtnjnehegfdimaaaDoorTie.lean); close each card by the builder's one call (the guide's Derived/Test/ToyasCard.lean, 'card_holds'). Laid BY PROGRAM, IN A SANDBOX (cutbox-door.mjs). By AI agents, Wed Nov 11 2026. No macro, syntax, notation, axiom, sorry.
-/
import Derived.Test.YtnjnehegfdimaaaDoorRows
import GoSem.ClaimSeven
namespace Go.Proofs.YtnjnehegfdimaaaDoor
namespace Rows

/-- THE TIED CARD OF 'assartlaw05.IkeyOrders'. -/
def ikeyOrdersCard : Claim7 := { stood := { row := ikeyOrdersRow, standIns := [], harness := (true, "0e5502c94e462784b43274f0ec9801a4606debc7ade1e032c00ea662736b48fd"), looks := false }, kinds := [], alts := [], laidByText := true, laidKinds := [.data, .pinned], laidTests := true, laidLooks := .later }
def IkeyOrdersCardSaid : Prop := Claim7.holds Tryd.pinned (.plain (OpenSpec.ofChange ikeyOrdersSpec)) ikeyOrdersCard

/-- THE TIED CARD OF 'assartlaw05.IkeyTwins'. -/
def ikeyTwinsCard : Claim7 := { stood := { row := ikeyTwinsRow, standIns := [], harness := (true, "0e5502c94e462784b43274f0ec9801a4606debc7ade1e032c00ea662736b48fd"), looks := false }, kinds := [], alts := [], laidByText := true, laidKinds := [.data, .pinned], laidTests := true, laidLooks := .later }
def IkeyTwinsCardSaid : Prop := Claim7.holds Tryd.pinned (.plain (OpenSpec.ofChange ikeyTwinsSpec)) ikeyTwinsCard

/-- THE TIED CARD OF 'assartlaw05.IkeySorts'. -/
def ikeySortsCard : Claim7 := { stood := { row := ikeySortsRow, standIns := [], harness := (true, "0e5502c94e462784b43274f0ec9801a4606debc7ade1e032c00ea662736b48fd"), looks := false }, kinds := [], alts := [], laidByText := true, laidKinds := [.data, .pinned], laidTests := true, laidLooks := .later }
def IkeySortsCardSaid : Prop := Claim7.holds Tryd.pinned (.plain (OpenSpec.ofChange ikeySortsSpec)) ikeySortsCard

/-- THE TIED CARD OF 'assartlaw05.IkeyBack'. -/
def ikeyBackCard : Claim7 := { stood := { row := ikeyBackRow, standIns := [], harness := (true, "0e5502c94e462784b43274f0ec9801a4606debc7ade1e032c00ea662736b48fd"), looks := false }, kinds := [], alts := [], laidByText := true, laidKinds := [.data, .pinned], laidTests := true, laidLooks := .later }
def IkeyBackCardSaid : Prop := Claim7.holds Tryd.pinned (.plain (OpenSpec.ofChange ikeyBackSpec)) ikeyBackCard

/-- THE SECOND FORM's CARD OF 'assartlaw05.IkeyOrders'. -/
def ikeyOrdersUptoCard : Claim7 := { stood := { row := ikeyOrdersUptoRow, standIns := [], harness := (true, "0e5502c94e462784b43274f0ec9801a4606debc7ade1e032c00ea662736b48fd"), looks := false }, kinds := [], alts := [], laidByText := true, laidKinds := [.data, .pinned], laidTests := true, laidLooks := .later }
def IkeyOrdersUptoCardSaid : Prop := Claim7.holds Tryd.pinned (.plain (OpenSpec.upto ikeyOrdersSpec)) ikeyOrdersUptoCard

/-- THE SECOND FORM's CARD OF 'assartlaw05.IkeyTwins'. -/
def ikeyTwinsUptoCard : Claim7 := { stood := { row := ikeyTwinsUptoRow, standIns := [], harness := (true, "0e5502c94e462784b43274f0ec9801a4606debc7ade1e032c00ea662736b48fd"), looks := false }, kinds := [], alts := [], laidByText := true, laidKinds := [.data, .pinned], laidTests := true, laidLooks := .later }
def IkeyTwinsUptoCardSaid : Prop := Claim7.holds Tryd.pinned (.plain (OpenSpec.upto ikeyTwinsSpec)) ikeyTwinsUptoCard

/-- THE SECOND FORM's CARD OF 'assartlaw05.IkeySorts'. -/
def ikeySortsUptoCard : Claim7 := { stood := { row := ikeySortsUptoRow, standIns := [], harness := (true, "0e5502c94e462784b43274f0ec9801a4606debc7ade1e032c00ea662736b48fd"), looks := false }, kinds := [], alts := [], laidByText := true, laidKinds := [.data, .pinned], laidTests := true, laidLooks := .later }
def IkeySortsUptoCardSaid : Prop := Claim7.holds Tryd.pinned (.plain (OpenSpec.upto ikeySortsSpec)) ikeySortsUptoCard

/-- THE SECOND FORM's CARD OF 'assartlaw05.IkeyBack'. -/
def ikeyBackUptoCard : Claim7 := { stood := { row := ikeyBackUptoRow, standIns := [], harness := (true, "0e5502c94e462784b43274f0ec9801a4606debc7ade1e032c00ea662736b48fd"), looks := false }, kinds := [], alts := [], laidByText := true, laidKinds := [.data, .pinned], laidTests := true, laidLooks := .later }
def IkeyBackUptoCardSaid : Prop := Claim7.holds Tryd.pinned (.plain (OpenSpec.upto ikeyBackSpec)) ikeyBackUptoCard
end Rows
end Go.Proofs.YtnjnehegfdimaaaDoor
