/-
  NARROWER THAN 'FOR EVERY INPUT', by the rows' own cells (each row's printed sentence says how): AssartPieces: laid · AssartLists: laid · AssartViews: laid.
  DERIVED. THE GIVEN ROWS OF THIS SEAT. 3 by the template 'for every input the law returns true; each argument reads behind the call as it read before'; 0 by the template 'total and deterministic' (their statements: YtpaogoehgkoaeaaGreatDoorTotals.lean).
  GIVEN WITH THE SEED: the statements are not yours to turn. If you find one false, say at which input.
  Laid BY PROGRAM, IN A SANDBOX (cutbox-rows.mjs): the forced cells as the released guide's own fill.sh prints them over the translation 04332cfc1ad401b3… (all of the seat's roots in one cut). By AI agents, Wed Nov 11 2026. No macro, syntax, notation, axiom, sorry.
-/
import Derived.Test.YtpaogoehgkoaeaaGreatDoorChecked
import GoSem.PinnedTables
import GoSem.Claim
import GoSem.ClaimJoined
import GoSem.ClaimMapViews
import Derived.JoinedTies
import Derived.KernelRfl
namespace Go.Proofs.YtpaogoehgkoaeaaGreatDoor
/- THE CELL 'sum', in the pinned program and in every row, IS THE sha256 OF THE DUMP (.gsa) THAT YtpaogoehgkoaeaaGreatDoorProg.lean LOADS. Nothing in Lean hashes anything: it is a label: what it is worth is what the hold of that sum in a sandbox is worth. -/
noncomputable def Tryz.pinned : Pinned := { name := "ytpaogoehgkoaeaagreatdoor", sum := "04332cfc1ad401b31dd5d98533d0171fe5ca287a8b381ae0ddae1b07a5742e5d", checked := Tryz.checked }
namespace Rows
def none {H : Type} : Left H := { results := [], args := [] }

/- WHAT THE LISTED PACKAGE-LEVEL VARIABLES READ AS WHEN THE CALL BEGINS. Each datum BY PROGRAM (the guide's laid-datum.mjs) off the statement by which the dump's own 'gosem.cut.vars' lays the variable. In a bare row this is a premise. The card (YtpaogoehgkoaeaaGreatDoorCards.lean) ties it to the program's text. -/
def laid_unicode_utf8_acceptRanges {H : Type} : DataW H := .agg [.agg [.lit (.int .u8 128), .lit (.int .u8 191)], .agg [.lit (.int .u8 160), .lit (.int .u8 191)], .agg [.lit (.int .u8 128), .lit (.int .u8 159)], .agg [.lit (.int .u8 144), .lit (.int .u8 191)], .agg [.lit (.int .u8 128), .lit (.int .u8 143)], .agg [.lit (.int .u8 0), .lit (.int .u8 0)], .agg [.lit (.int .u8 0), .lit (.int .u8 0)], .agg [.lit (.int .u8 0), .lit (.int .u8 0)], .agg [.lit (.int .u8 0), .lit (.int .u8 0)], .agg [.lit (.int .u8 0), .lit (.int .u8 0)], .agg [.lit (.int .u8 0), .lit (.int .u8 0)], .agg [.lit (.int .u8 0), .lit (.int .u8 0)], .agg [.lit (.int .u8 0), .lit (.int .u8 0)], .agg [.lit (.int .u8 0), .lit (.int .u8 0)], .agg [.lit (.int .u8 0), .lit (.int .u8 0)], .agg [.lit (.int .u8 0), .lit (.int .u8 0)]]
/-- One of Go's own tables, pinned by name: the form's constant. -/
def laid_unicode_utf8_first : DataW Unit := Go.Pinned.utf8First

/-- 'assarttop.AssartPieces': WHATEVER THE INPUT: true; the input reads as it did. -/
def assartPiecesSpec : ChangeSpec := { name := "assartPieces", fn := fun _ => fun
  | [d1, d2, d3] => { results := [.lit (.bool true)], args := [d1, d2, d3] }
  | _ => none }
def assartPiecesRow : OpenClaim := { program := "ytpaogoehgkoaeaagreatdoor", sum := "04332cfc1ad401b31dd5d98533d0171fe5ca287a8b381ae0ddae1b07a5742e5d", func := "assart/assarttop.AssartPieces", spec := "assartPieces", inPlace := ["internal/bytealg.abigen_runtime_cmpstring", "internal/bytealg.Count", "internal/bytealg.IndexByte", "internal/bytealg.Index"], unfollowed := true, recurses := true, named := ["internal/bytealg.MaxLen", "unicode/utf8.first", "unicode/utf8.acceptRanges"], plainKeys := false, apart := false, laid := [("unicode/utf8.acceptRanges", laid_unicode_utf8_acceptRanges), ("unicode/utf8.first", laid_unicode_utf8_first)] }
def AssartPiecesSaid : Prop := assartPiecesRow.holds Tryz.pinned (OpenSpec.ofChange assartPiecesSpec)

/-- ITS FALSE NEIGHBOUR: 'it returns false'. Refute it at one input. -/
def assartPiecesWrong : ChangeSpec := { name := "assartPieces", fn := fun _ => fun
  | [d1, d2, d3] => { results := [.lit (.bool false)], args := [d1, d2, d3] }
  | _ => none }
def AssartPiecesWrongFalsely : Prop := assartPiecesRow.holds Tryz.pinned (OpenSpec.ofChange assartPiecesWrong)

/-- 'assarttop.AssartLists': WHATEVER THE INPUT: true; the input reads as it did. -/
def assartListsSpec : ChangeSpec := { name := "assartLists", fn := fun _ => fun
  | [d1, d2, d3] => { results := [.lit (.bool true)], args := [d1, d2, d3] }
  | _ => none }
def assartListsRow : OpenClaim := { program := "ytpaogoehgkoaeaagreatdoor", sum := "04332cfc1ad401b31dd5d98533d0171fe5ca287a8b381ae0ddae1b07a5742e5d", func := "assart/assarttop.AssartLists", spec := "assartLists", inPlace := ["internal/bytealg.abigen_runtime_cmpstring", "internal/bytealg.Count", "internal/bytealg.IndexByte", "internal/bytealg.Index"], unfollowed := true, recurses := true, named := ["internal/bytealg.MaxLen", "unicode/utf8.first", "unicode/utf8.acceptRanges"], plainKeys := false, apart := false, laid := [("unicode/utf8.acceptRanges", laid_unicode_utf8_acceptRanges), ("unicode/utf8.first", laid_unicode_utf8_first)] }
def AssartListsSaid : Prop := assartListsRow.holds Tryz.pinned (OpenSpec.ofChange assartListsSpec)

/-- ITS FALSE NEIGHBOUR: 'it returns false'. Refute it at one input. -/
def assartListsWrong : ChangeSpec := { name := "assartLists", fn := fun _ => fun
  | [d1, d2, d3] => { results := [.lit (.bool false)], args := [d1, d2, d3] }
  | _ => none }
def AssartListsWrongFalsely : Prop := assartListsRow.holds Tryz.pinned (OpenSpec.ofChange assartListsWrong)

/-- 'assarttop.AssartViews': WHATEVER THE INPUT: true; the input reads as it did. -/
def assartViewsSpec : ChangeSpec := { name := "assartViews", fn := fun _ => fun
  | [d1, d2, d3] => { results := [.lit (.bool true)], args := [d1, d2, d3] }
  | _ => none }
def assartViewsRow : OpenClaim := { program := "ytpaogoehgkoaeaagreatdoor", sum := "04332cfc1ad401b31dd5d98533d0171fe5ca287a8b381ae0ddae1b07a5742e5d", func := "assart/assarttop.AssartViews", spec := "assartViews", inPlace := ["internal/bytealg.abigen_runtime_cmpstring", "internal/bytealg.Count", "internal/bytealg.IndexByte", "internal/bytealg.Index"], unfollowed := true, recurses := true, named := ["internal/bytealg.MaxLen", "unicode/utf8.first", "unicode/utf8.acceptRanges"], plainKeys := false, apart := false, laid := [("unicode/utf8.acceptRanges", laid_unicode_utf8_acceptRanges), ("unicode/utf8.first", laid_unicode_utf8_first)] }
def AssartViewsSaid : Prop := assartViewsRow.holds Tryz.pinned (OpenSpec.ofChange assartViewsSpec)

/-- ITS FALSE NEIGHBOUR: 'it returns false'. Refute it at one input. -/
def assartViewsWrong : ChangeSpec := { name := "assartViews", fn := fun _ => fun
  | [d1, d2, d3] => { results := [.lit (.bool false)], args := [d1, d2, d3] }
  | _ => none }
def AssartViewsWrongFalsely : Prop := assartViewsRow.holds Tryz.pinned (OpenSpec.ofChange assartViewsWrong)

/- THE SECOND FORM. 'bulk': how many values and letters a reading holds, each counted each time it is reached (what is shared counts as often as it is met; a slice's spare places count too). A statement '..UptoSaid' is the law's where the arguments, and the package variables that the reading takes, are together of bulk at most 1048576: NARROWER than '..Said'. Prove '..Said' where nothing that the law and all that it calls make is longer than what came in: it says more and counts as full. Else prove '..UptoSaid'. A law counts once. -/
mutual
def uptoBulk {H : Type} : DataW H → Nat
  | .lit (.string bytes) => bytes.length + 1
  | .lit _ => 1
  | .nil => 1
  | .ptr d => uptoBulk d + 1
  | .slice elems spare => uptoBulkAll elems + uptoBulkAll spare + 1
  | .agg parts => uptoBulkAll parts + 1
  | .iface _ d => uptoBulk d + 1
  | .map entries => uptoBulkEntries entries + 1
  | .held _ => 1
def uptoBulkAll {H : Type} : List (DataW H) → Nat
  | [] => 0
  | d :: r => uptoBulk d + uptoBulkAll r
def uptoBulkEntries {H : Type} : List (Lit × DataW H) → Nat
  | [] => 0
  | x :: r => uptoBulkEntry x + uptoBulkEntries r
def uptoBulkEntry {H : Type} : Lit × DataW H → Nat
  | (.string bytes, d) => bytes.length + uptoBulk d + 1
  | (_, d) => uptoBulk d + 1
 end
def uptoSmall : (H : Type) → List (DataW H) → Bool := fun _ ds => decide (uptoBulkAll ds ≤ 1048576)
def OpenSpec.upto (s : _root_.Go.ChangeSpec) : _root_.Go.OpenSpec := { _root_.Go.OpenSpec.ofChange s with cond := some uptoSmall }

/-- 'assarttop.AssartPieces', WHERE WHAT IT READS IS OF BULK AT MOST 1048576: true; the input reads as it did. -/
def assartPiecesUptoRow : OpenClaim := { program := "ytpaogoehgkoaeaagreatdoor", sum := "04332cfc1ad401b31dd5d98533d0171fe5ca287a8b381ae0ddae1b07a5742e5d", func := "assart/assarttop.AssartPieces", spec := "assartPieces", inPlace := ["internal/bytealg.abigen_runtime_cmpstring", "internal/bytealg.Count", "internal/bytealg.IndexByte", "internal/bytealg.Index"], unfollowed := true, recurses := true, named := ["internal/bytealg.MaxLen", "unicode/utf8.first", "unicode/utf8.acceptRanges"], plainKeys := false, apart := false, laid := [("unicode/utf8.acceptRanges", laid_unicode_utf8_acceptRanges), ("unicode/utf8.first", laid_unicode_utf8_first)], narrowed := true }
def AssartPiecesUptoSaid : Prop := assartPiecesUptoRow.holds Tryz.pinned (OpenSpec.upto assartPiecesSpec)

/-- 'assarttop.AssartLists', WHERE WHAT IT READS IS OF BULK AT MOST 1048576: true; the input reads as it did. -/
def assartListsUptoRow : OpenClaim := { program := "ytpaogoehgkoaeaagreatdoor", sum := "04332cfc1ad401b31dd5d98533d0171fe5ca287a8b381ae0ddae1b07a5742e5d", func := "assart/assarttop.AssartLists", spec := "assartLists", inPlace := ["internal/bytealg.abigen_runtime_cmpstring", "internal/bytealg.Count", "internal/bytealg.IndexByte", "internal/bytealg.Index"], unfollowed := true, recurses := true, named := ["internal/bytealg.MaxLen", "unicode/utf8.first", "unicode/utf8.acceptRanges"], plainKeys := false, apart := false, laid := [("unicode/utf8.acceptRanges", laid_unicode_utf8_acceptRanges), ("unicode/utf8.first", laid_unicode_utf8_first)], narrowed := true }
def AssartListsUptoSaid : Prop := assartListsUptoRow.holds Tryz.pinned (OpenSpec.upto assartListsSpec)

/-- 'assarttop.AssartViews', WHERE WHAT IT READS IS OF BULK AT MOST 1048576: true; the input reads as it did. -/
def assartViewsUptoRow : OpenClaim := { program := "ytpaogoehgkoaeaagreatdoor", sum := "04332cfc1ad401b31dd5d98533d0171fe5ca287a8b381ae0ddae1b07a5742e5d", func := "assart/assarttop.AssartViews", spec := "assartViews", inPlace := ["internal/bytealg.abigen_runtime_cmpstring", "internal/bytealg.Count", "internal/bytealg.IndexByte", "internal/bytealg.Index"], unfollowed := true, recurses := true, named := ["internal/bytealg.MaxLen", "unicode/utf8.first", "unicode/utf8.acceptRanges"], plainKeys := false, apart := false, laid := [("unicode/utf8.acceptRanges", laid_unicode_utf8_acceptRanges), ("unicode/utf8.first", laid_unicode_utf8_first)], narrowed := true }
def AssartViewsUptoSaid : Prop := assartViewsUptoRow.holds Tryz.pinned (OpenSpec.upto assartViewsSpec)

end Rows
end Go.Proofs.YtpaogoehgkoaeaaGreatDoor
