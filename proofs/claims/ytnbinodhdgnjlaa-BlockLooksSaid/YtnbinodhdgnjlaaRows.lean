/-
  No cell of these rows narrows 'for every input' (looked for: loops, veiled, ifaces, maps, wideKeys, modest, calm, conditions, laid).
  DERIVED. THE GIVEN ROWS OF THIS SEAT. 6 by the template 'for every input the law returns true; each argument reads behind the call as it read before'; 0 by the template 'total and deterministic' (their statements: YtnbinodhdgnjlaaTotals.lean).
  GIVEN WITH THE SEED: the statements are not yours to turn. If you find one false, say at which input.
  Laid BY PROGRAM, IN A SANDBOX (cutbox-rows.mjs): the forced cells as the released guide's own fill.sh prints them over the translation b62f0096bf80ccb3… (all of the seat's roots in one cut). By AI agents, Wed Nov 11 2026. No macro, syntax, notation, axiom, sorry.
-/
import Derived.Test.YtnbinodhdgnjlaaChecked
import GoSem.Claim
import GoSem.ClaimJoined
import GoSem.ClaimMapViews
import Derived.JoinedTies
import Derived.KernelRfl
namespace Go.Proofs.Ytnbinodhdgnjlaa
/- THE CELL 'sum', in the pinned program and in every row, IS THE sha256 OF THE DUMP (.gsa) THAT YtnbinodhdgnjlaaProg.lean LOADS. Nothing in Lean hashes anything: it is a label: what it is worth is what the hold of that sum in a sandbox is worth. -/
noncomputable def Try.pinned : Pinned := { name := "ytnbinodhdgnjlaa", sum := "b62f0096bf80ccb32aa0fecb48418dfaa376a2e7f5289fa7e8c53ddd81d57f96", checked := Try.checked }
namespace Rows
def none {H : Type} : Left H := { results := [], args := [] }

/-- 'assartlaw13.BlockWhole': WHATEVER THE INPUT: true; the input reads as it did. -/
def blockWholeSpec : ChangeSpec := { name := "blockWhole", fn := fun _ => fun
  | [d1, d2] => { results := [.lit (.bool true)], args := [d1, d2] }
  | _ => none }
def blockWholeRow : OpenClaim := { program := "ytnbinodhdgnjlaa", sum := "b62f0096bf80ccb32aa0fecb48418dfaa376a2e7f5289fa7e8c53ddd81d57f96", func := "assart/assartlaw13.BlockWhole", spec := "blockWhole", unfollowed := true, recurses := true, apart := false }
def BlockWholeSaid : Prop := blockWholeRow.holds Try.pinned (OpenSpec.ofChange blockWholeSpec)

/-- ITS FALSE NEIGHBOUR: 'it returns false'. Refute it at one input. -/
def blockWholeWrong : ChangeSpec := { name := "blockWhole", fn := fun _ => fun
  | [d1, d2] => { results := [.lit (.bool false)], args := [d1, d2] }
  | _ => none }
def BlockWholeWrongFalsely : Prop := blockWholeRow.holds Try.pinned (OpenSpec.ofChange blockWholeWrong)

/-- 'assartlaw13.BlockBack': WHATEVER THE INPUT: true; the input reads as it did. -/
def blockBackSpec : ChangeSpec := { name := "blockBack", fn := fun _ => fun
  | [d1, d2, d3] => { results := [.lit (.bool true)], args := [d1, d2, d3] }
  | _ => none }
def blockBackRow : OpenClaim := { program := "ytnbinodhdgnjlaa", sum := "b62f0096bf80ccb32aa0fecb48418dfaa376a2e7f5289fa7e8c53ddd81d57f96", func := "assart/assartlaw13.BlockBack", spec := "blockBack", unfollowed := true, recurses := true, apart := false }
def BlockBackSaid : Prop := blockBackRow.holds Try.pinned (OpenSpec.ofChange blockBackSpec)

/-- ITS FALSE NEIGHBOUR: 'it returns false'. Refute it at one input. -/
def blockBackWrong : ChangeSpec := { name := "blockBack", fn := fun _ => fun
  | [d1, d2, d3] => { results := [.lit (.bool false)], args := [d1, d2, d3] }
  | _ => none }
def BlockBackWrongFalsely : Prop := blockBackRow.holds Try.pinned (OpenSpec.ofChange blockBackWrong)

/-- 'assartlaw13.BlockIntervals': WHATEVER THE INPUT: true; the input reads as it did. -/
def blockIntervalsSpec : ChangeSpec := { name := "blockIntervals", fn := fun _ => fun
  | [d1, d2, d3] => { results := [.lit (.bool true)], args := [d1, d2, d3] }
  | _ => none }
def blockIntervalsRow : OpenClaim := { program := "ytnbinodhdgnjlaa", sum := "b62f0096bf80ccb32aa0fecb48418dfaa376a2e7f5289fa7e8c53ddd81d57f96", func := "assart/assartlaw13.BlockIntervals", spec := "blockIntervals", unfollowed := true, recurses := true, apart := false }
def BlockIntervalsSaid : Prop := blockIntervalsRow.holds Try.pinned (OpenSpec.ofChange blockIntervalsSpec)

/-- ITS FALSE NEIGHBOUR: 'it returns false'. Refute it at one input. -/
def blockIntervalsWrong : ChangeSpec := { name := "blockIntervals", fn := fun _ => fun
  | [d1, d2, d3] => { results := [.lit (.bool false)], args := [d1, d2, d3] }
  | _ => none }
def BlockIntervalsWrongFalsely : Prop := blockIntervalsRow.holds Try.pinned (OpenSpec.ofChange blockIntervalsWrong)

/-- 'assartlaw13.BlockBytes': WHATEVER THE INPUT: true; the input reads as it did. -/
def blockBytesSpec : ChangeSpec := { name := "blockBytes", fn := fun _ => fun
  | [d1, d2, d3] => { results := [.lit (.bool true)], args := [d1, d2, d3] }
  | _ => none }
def blockBytesRow : OpenClaim := { program := "ytnbinodhdgnjlaa", sum := "b62f0096bf80ccb32aa0fecb48418dfaa376a2e7f5289fa7e8c53ddd81d57f96", func := "assart/assartlaw13.BlockBytes", spec := "blockBytes", unfollowed := true, recurses := true, apart := false }
def BlockBytesSaid : Prop := blockBytesRow.holds Try.pinned (OpenSpec.ofChange blockBytesSpec)

/-- ITS FALSE NEIGHBOUR: 'it returns false'. Refute it at one input. -/
def blockBytesWrong : ChangeSpec := { name := "blockBytes", fn := fun _ => fun
  | [d1, d2, d3] => { results := [.lit (.bool false)], args := [d1, d2, d3] }
  | _ => none }
def BlockBytesWrongFalsely : Prop := blockBytesRow.holds Try.pinned (OpenSpec.ofChange blockBytesWrong)

/-- 'assartlaw13.BlockLooks': WHATEVER THE INPUT: true; the input reads as it did. -/
def blockLooksSpec : ChangeSpec := { name := "blockLooks", fn := fun _ => fun
  | [d1, d2, d3] => { results := [.lit (.bool true)], args := [d1, d2, d3] }
  | _ => none }
def blockLooksRow : OpenClaim := { program := "ytnbinodhdgnjlaa", sum := "b62f0096bf80ccb32aa0fecb48418dfaa376a2e7f5289fa7e8c53ddd81d57f96", func := "assart/assartlaw13.BlockLooks", spec := "blockLooks", unfollowed := true, recurses := true, apart := false }
def BlockLooksSaid : Prop := blockLooksRow.holds Try.pinned (OpenSpec.ofChange blockLooksSpec)

/-- ITS FALSE NEIGHBOUR: 'it returns false'. Refute it at one input. -/
def blockLooksWrong : ChangeSpec := { name := "blockLooks", fn := fun _ => fun
  | [d1, d2, d3] => { results := [.lit (.bool false)], args := [d1, d2, d3] }
  | _ => none }
def BlockLooksWrongFalsely : Prop := blockLooksRow.holds Try.pinned (OpenSpec.ofChange blockLooksWrong)

/-- 'assartlaw13.BlockMeets': WHATEVER THE INPUT: true; the input reads as it did. -/
def blockMeetsSpec : ChangeSpec := { name := "blockMeets", fn := fun _ => fun
  | [d1, d2, d3] => { results := [.lit (.bool true)], args := [d1, d2, d3] }
  | _ => none }
def blockMeetsRow : OpenClaim := { program := "ytnbinodhdgnjlaa", sum := "b62f0096bf80ccb32aa0fecb48418dfaa376a2e7f5289fa7e8c53ddd81d57f96", func := "assart/assartlaw13.BlockMeets", spec := "blockMeets", unfollowed := true, recurses := true, apart := false }
def BlockMeetsSaid : Prop := blockMeetsRow.holds Try.pinned (OpenSpec.ofChange blockMeetsSpec)

/-- ITS FALSE NEIGHBOUR: 'it returns false'. Refute it at one input. -/
def blockMeetsWrong : ChangeSpec := { name := "blockMeets", fn := fun _ => fun
  | [d1, d2, d3] => { results := [.lit (.bool false)], args := [d1, d2, d3] }
  | _ => none }
def BlockMeetsWrongFalsely : Prop := blockMeetsRow.holds Try.pinned (OpenSpec.ofChange blockMeetsWrong)

/- THE SECOND FORM. 'bulk': how many values and letters a reading holds, each counted each time it is reached (what is shared counts as often as it is met; a slice's spare places count too). A statement '..UptoSaid' is the law's where the arguments, and the package variables that the reading takes, are together of bulk at most 1048576: NARROWER than '..Said'. Prove '..Said' where nothing that the law and all that it calls make is longer than what came in: it says more and counts as full. Else prove '..UptoSaid'. A law counts once. -/
mutual
def uptoBulk {H : Type} : DataW H → Nat
  | .lit (.string bytes) => bytes.length + 1
  | .lit _ => 1
  | .nil => 1
  | .ptr d => uptoBulk d + 1
  | .slice elems spare => uptoBulkAll elems + uptoBulkAll spare + 1
  | .agg parts => uptoBulkAll parts + 1
  | .iface _ d => uptoBulk d + 1
  | .map entries => uptoBulkEntries entries + 1
  | .held _ => 1
def uptoBulkAll {H : Type} : List (DataW H) → Nat
  | [] => 0
  | d :: r => uptoBulk d + uptoBulkAll r
def uptoBulkEntries {H : Type} : List (Lit × DataW H) → Nat
  | [] => 0
  | x :: r => uptoBulkEntry x + uptoBulkEntries r
def uptoBulkEntry {H : Type} : Lit × DataW H → Nat
  | (.string bytes, d) => bytes.length + uptoBulk d + 1
  | (_, d) => uptoBulk d + 1
 end
def uptoSmall : (H : Type) → List (DataW H) → Bool := fun _ ds => decide (uptoBulkAll ds ≤ 1048576)
def OpenSpec.upto (s : _root_.Go.ChangeSpec) : _root_.Go.OpenSpec := { _root_.Go.OpenSpec.ofChange s with cond := some uptoSmall }

/-- 'assartlaw13.BlockWhole', WHERE WHAT IT READS IS OF BULK AT MOST 1048576: true; the input reads as it did. -/
def blockWholeUptoRow : OpenClaim := { program := "ytnbinodhdgnjlaa", sum := "b62f0096bf80ccb32aa0fecb48418dfaa376a2e7f5289fa7e8c53ddd81d57f96", func := "assart/assartlaw13.BlockWhole", spec := "blockWhole", unfollowed := true, recurses := true, apart := false, narrowed := true }
def BlockWholeUptoSaid : Prop := blockWholeUptoRow.holds Try.pinned (OpenSpec.upto blockWholeSpec)

/-- 'assartlaw13.BlockBack', WHERE WHAT IT READS IS OF BULK AT MOST 1048576: true; the input reads as it did. -/
def blockBackUptoRow : OpenClaim := { program := "ytnbinodhdgnjlaa", sum := "b62f0096bf80ccb32aa0fecb48418dfaa376a2e7f5289fa7e8c53ddd81d57f96", func := "assart/assartlaw13.BlockBack", spec := "blockBack", unfollowed := true, recurses := true, apart := false, narrowed := true }
def BlockBackUptoSaid : Prop := blockBackUptoRow.holds Try.pinned (OpenSpec.upto blockBackSpec)

/-- 'assartlaw13.BlockIntervals', WHERE WHAT IT READS IS OF BULK AT MOST 1048576: true; the input reads as it did. -/
def blockIntervalsUptoRow : OpenClaim := { program := "ytnbinodhdgnjlaa", sum := "b62f0096bf80ccb32aa0fecb48418dfaa376a2e7f5289fa7e8c53ddd81d57f96", func := "assart/assartlaw13.BlockIntervals", spec := "blockIntervals", unfollowed := true, recurses := true, apart := false, narrowed := true }
def BlockIntervalsUptoSaid : Prop := blockIntervalsUptoRow.holds Try.pinned (OpenSpec.upto blockIntervalsSpec)

/-- 'assartlaw13.BlockBytes', WHERE WHAT IT READS IS OF BULK AT MOST 1048576: true; the input reads as it did. -/
def blockBytesUptoRow : OpenClaim := { program := "ytnbinodhdgnjlaa", sum := "b62f0096bf80ccb32aa0fecb48418dfaa376a2e7f5289fa7e8c53ddd81d57f96", func := "assart/assartlaw13.BlockBytes", spec := "blockBytes", unfollowed := true, recurses := true, apart := false, narrowed := true }
def BlockBytesUptoSaid : Prop := blockBytesUptoRow.holds Try.pinned (OpenSpec.upto blockBytesSpec)

/-- 'assartlaw13.BlockLooks', WHERE WHAT IT READS IS OF BULK AT MOST 1048576: true; the input reads as it did. -/
def blockLooksUptoRow : OpenClaim := { program := "ytnbinodhdgnjlaa", sum := "b62f0096bf80ccb32aa0fecb48418dfaa376a2e7f5289fa7e8c53ddd81d57f96", func := "assart/assartlaw13.BlockLooks", spec := "blockLooks", unfollowed := true, recurses := true, apart := false, narrowed := true }
def BlockLooksUptoSaid : Prop := blockLooksUptoRow.holds Try.pinned (OpenSpec.upto blockLooksSpec)

/-- 'assartlaw13.BlockMeets', WHERE WHAT IT READS IS OF BULK AT MOST 1048576: true; the input reads as it did. -/
def blockMeetsUptoRow : OpenClaim := { program := "ytnbinodhdgnjlaa", sum := "b62f0096bf80ccb32aa0fecb48418dfaa376a2e7f5289fa7e8c53ddd81d57f96", func := "assart/assartlaw13.BlockMeets", spec := "blockMeets", unfollowed := true, recurses := true, apart := false, narrowed := true }
def BlockMeetsUptoSaid : Prop := blockMeetsUptoRow.holds Try.pinned (OpenSpec.upto blockMeetsSpec)

end Rows
end Go.Proofs.Ytnbinodhdgnjlaa
