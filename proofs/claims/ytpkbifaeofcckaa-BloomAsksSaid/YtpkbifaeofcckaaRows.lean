/-
  No cell of these rows narrows 'for every input' (looked for: loops, veiled, ifaces, maps, wideKeys, modest, calm, conditions, laid).
  DERIVED. THE GIVEN ROWS OF THIS SEAT. 7 by the template 'for every input the law returns true; each argument reads behind the call as it read before'; 0 by the template 'total and deterministic' (their statements: YtpkbifaeofcckaaTotals.lean).
  GIVEN WITH THE SEED: the statements are not yours to turn. If you find one false, say at which input.
  Laid BY PROGRAM, IN A SANDBOX (cutbox-rows.mjs): the forced cells as the released guide's own fill.sh prints them over the translation 1b8b3dce30fb285d… (all of the seat's roots in one cut). By AI agents, Wed Nov 11 2026. No macro, syntax, notation, axiom, sorry.
-/
import Derived.Test.YtpkbifaeofcckaaChecked
import GoSem.Claim
import GoSem.ClaimJoined
import GoSem.ClaimMapViews
import Derived.JoinedTies
import Derived.KernelRfl
namespace Go.Proofs.Ytpkbifaeofcckaa
/- THE CELL 'sum', in the pinned program and in every row, IS THE sha256 OF THE DUMP (.gsa) THAT YtpkbifaeofcckaaProg.lean LOADS. Nothing in Lean hashes anything: it is a label: what it is worth is what the hold of that sum in a sandbox is worth. -/
noncomputable def Try.pinned : Pinned := { name := "ytpkbifaeofcckaa", sum := "1b8b3dce30fb285d43eac29811eb6d1c7b1817c02577353b6433b8dda4773652", checked := Try.checked }
namespace Rows
def none {H : Type} : Left H := { results := [], args := [] }

/-- 'assartlaw06.BloomHashes': WHATEVER THE INPUT: true; the input reads as it did. -/
def bloomHashesSpec : ChangeSpec := { name := "bloomHashes", fn := fun _ => fun
  | [d] => { results := [.lit (.bool true)], args := [d] }
  | _ => none }
def bloomHashesRow : OpenClaim := { program := "ytpkbifaeofcckaa", sum := "1b8b3dce30fb285d43eac29811eb6d1c7b1817c02577353b6433b8dda4773652", func := "assart/assartlaw06.BloomHashes", spec := "bloomHashes", unfollowed := true, recurses := true, apart := false }
def BloomHashesSaid : Prop := bloomHashesRow.holds Try.pinned (OpenSpec.ofChange bloomHashesSpec)

/-- ITS FALSE NEIGHBOUR: 'it returns false'. Refute it at one input. -/
def bloomHashesWrong : ChangeSpec := { name := "bloomHashes", fn := fun _ => fun
  | [d] => { results := [.lit (.bool false)], args := [d] }
  | _ => none }
def BloomHashesWrongFalsely : Prop := bloomHashesRow.holds Try.pinned (OpenSpec.ofChange bloomHashesWrong)

/-- 'assartlaw06.BloomBuilds': WHATEVER THE INPUT: true; the input reads as it did. -/
def bloomBuildsSpec : ChangeSpec := { name := "bloomBuilds", fn := fun _ => fun
  | [d1, d2] => { results := [.lit (.bool true)], args := [d1, d2] }
  | _ => none }
def bloomBuildsRow : OpenClaim := { program := "ytpkbifaeofcckaa", sum := "1b8b3dce30fb285d43eac29811eb6d1c7b1817c02577353b6433b8dda4773652", func := "assart/assartlaw06.BloomBuilds", spec := "bloomBuilds", unfollowed := true, recurses := true, apart := false }
def BloomBuildsSaid : Prop := bloomBuildsRow.holds Try.pinned (OpenSpec.ofChange bloomBuildsSpec)

/-- ITS FALSE NEIGHBOUR: 'it returns false'. Refute it at one input. -/
def bloomBuildsWrong : ChangeSpec := { name := "bloomBuilds", fn := fun _ => fun
  | [d1, d2] => { results := [.lit (.bool false)], args := [d1, d2] }
  | _ => none }
def BloomBuildsWrongFalsely : Prop := bloomBuildsRow.holds Try.pinned (OpenSpec.ofChange bloomBuildsWrong)

/-- 'assartlaw06.BloomShuffles': WHATEVER THE INPUT: true; the input reads as it did. -/
def bloomShufflesSpec : ChangeSpec := { name := "bloomShuffles", fn := fun _ => fun
  | [d1, d2] => { results := [.lit (.bool true)], args := [d1, d2] }
  | _ => none }
def bloomShufflesRow : OpenClaim := { program := "ytpkbifaeofcckaa", sum := "1b8b3dce30fb285d43eac29811eb6d1c7b1817c02577353b6433b8dda4773652", func := "assart/assartlaw06.BloomShuffles", spec := "bloomShuffles", unfollowed := true, recurses := true, apart := false }
def BloomShufflesSaid : Prop := bloomShufflesRow.holds Try.pinned (OpenSpec.ofChange bloomShufflesSpec)

/-- ITS FALSE NEIGHBOUR: 'it returns false'. Refute it at one input. -/
def bloomShufflesWrong : ChangeSpec := { name := "bloomShuffles", fn := fun _ => fun
  | [d1, d2] => { results := [.lit (.bool false)], args := [d1, d2] }
  | _ => none }
def BloomShufflesWrongFalsely : Prop := bloomShufflesRow.holds Try.pinned (OpenSpec.ofChange bloomShufflesWrong)

/-- 'assartlaw06.BloomSizes': WHATEVER THE INPUT: true; the input reads as it did. -/
def bloomSizesSpec : ChangeSpec := { name := "bloomSizes", fn := fun _ => fun
  | [d1, d2] => { results := [.lit (.bool true)], args := [d1, d2] }
  | _ => none }
def bloomSizesRow : OpenClaim := { program := "ytpkbifaeofcckaa", sum := "1b8b3dce30fb285d43eac29811eb6d1c7b1817c02577353b6433b8dda4773652", func := "assart/assartlaw06.BloomSizes", spec := "bloomSizes", unfollowed := true, recurses := true, apart := false }
def BloomSizesSaid : Prop := bloomSizesRow.holds Try.pinned (OpenSpec.ofChange bloomSizesSpec)

/-- ITS FALSE NEIGHBOUR: 'it returns false'. Refute it at one input. -/
def bloomSizesWrong : ChangeSpec := { name := "bloomSizes", fn := fun _ => fun
  | [d1, d2] => { results := [.lit (.bool false)], args := [d1, d2] }
  | _ => none }
def BloomSizesWrongFalsely : Prop := bloomSizesRow.holds Try.pinned (OpenSpec.ofChange bloomSizesWrong)

/-- 'assartlaw06.BloomAsks': WHATEVER THE INPUT: true; the input reads as it did. -/
def bloomAsksSpec : ChangeSpec := { name := "bloomAsks", fn := fun _ => fun
  | [d1, d2, d3] => { results := [.lit (.bool true)], args := [d1, d2, d3] }
  | _ => none }
def bloomAsksRow : OpenClaim := { program := "ytpkbifaeofcckaa", sum := "1b8b3dce30fb285d43eac29811eb6d1c7b1817c02577353b6433b8dda4773652", func := "assart/assartlaw06.BloomAsks", spec := "bloomAsks", unfollowed := true, recurses := true, apart := false }
def BloomAsksSaid : Prop := bloomAsksRow.holds Try.pinned (OpenSpec.ofChange bloomAsksSpec)

/-- ITS FALSE NEIGHBOUR: 'it returns false'. Refute it at one input. -/
def bloomAsksWrong : ChangeSpec := { name := "bloomAsks", fn := fun _ => fun
  | [d1, d2, d3] => { results := [.lit (.bool false)], args := [d1, d2, d3] }
  | _ => none }
def BloomAsksWrongFalsely : Prop := bloomAsksRow.holds Try.pinned (OpenSpec.ofChange bloomAsksWrong)

/-- 'assartlaw06.BloomYes': WHATEVER THE INPUT: true; the input reads as it did. -/
def bloomYesSpec : ChangeSpec := { name := "bloomYes", fn := fun _ => fun
  | [d1, d2, d3] => { results := [.lit (.bool true)], args := [d1, d2, d3] }
  | _ => none }
def bloomYesRow : OpenClaim := { program := "ytpkbifaeofcckaa", sum := "1b8b3dce30fb285d43eac29811eb6d1c7b1817c02577353b6433b8dda4773652", func := "assart/assartlaw06.BloomYes", spec := "bloomYes", unfollowed := true, recurses := true, apart := false }
def BloomYesSaid : Prop := bloomYesRow.holds Try.pinned (OpenSpec.ofChange bloomYesSpec)

/-- ITS FALSE NEIGHBOUR: 'it returns false'. Refute it at one input. -/
def bloomYesWrong : ChangeSpec := { name := "bloomYes", fn := fun _ => fun
  | [d1, d2, d3] => { results := [.lit (.bool false)], args := [d1, d2, d3] }
  | _ => none }
def BloomYesWrongFalsely : Prop := bloomYesRow.holds Try.pinned (OpenSpec.ofChange bloomYesWrong)

/-- 'assartlaw06.BloomMerges': WHATEVER THE INPUT: true; the input reads as it did. -/
def bloomMergesSpec : ChangeSpec := { name := "bloomMerges", fn := fun _ => fun
  | [d1, d2, d3] => { results := [.lit (.bool true)], args := [d1, d2, d3] }
  | _ => none }
def bloomMergesRow : OpenClaim := { program := "ytpkbifaeofcckaa", sum := "1b8b3dce30fb285d43eac29811eb6d1c7b1817c02577353b6433b8dda4773652", func := "assart/assartlaw06.BloomMerges", spec := "bloomMerges", unfollowed := true, recurses := true, apart := false }
def BloomMergesSaid : Prop := bloomMergesRow.holds Try.pinned (OpenSpec.ofChange bloomMergesSpec)

/-- ITS FALSE NEIGHBOUR: 'it returns false'. Refute it at one input. -/
def bloomMergesWrong : ChangeSpec := { name := "bloomMerges", fn := fun _ => fun
  | [d1, d2, d3] => { results := [.lit (.bool false)], args := [d1, d2, d3] }
  | _ => none }
def BloomMergesWrongFalsely : Prop := bloomMergesRow.holds Try.pinned (OpenSpec.ofChange bloomMergesWrong)

/- THE SECOND FORM. 'bulk': how many values and letters a reading holds, each counted each time it is reached (what is shared counts as often as it is met; a slice's spare places count too). A statement '..UptoSaid' is the law's where the arguments, and the package variables that the reading takes, are together of bulk at most 1048576: NARROWER than '..Said'. Prove '..Said' where nothing that the law and all that it calls make is longer than what came in: it says more and counts as full. Else prove '..UptoSaid'. A law counts once. -/
mutual
def uptoBulk {H : Type} : DataW H → Nat
  | .lit (.string bytes) => bytes.length + 1
  | .lit _ => 1
  | .nil => 1
  | .ptr d => uptoBulk d + 1
  | .slice elems spare => uptoBulkAll elems + uptoBulkAll spare + 1
  | .agg parts => uptoBulkAll parts + 1
  | .iface _ d => uptoBulk d + 1
  | .map entries => uptoBulkEntries entries + 1
  | .held _ => 1
def uptoBulkAll {H : Type} : List (DataW H) → Nat
  | [] => 0
  | d :: r => uptoBulk d + uptoBulkAll r
def uptoBulkEntries {H : Type} : List (Lit × DataW H) → Nat
  | [] => 0
  | x :: r => uptoBulkEntry x + uptoBulkEntries r
def uptoBulkEntry {H : Type} : Lit × DataW H → Nat
  | (.string bytes, d) => bytes.length + uptoBulk d + 1
  | (_, d) => uptoBulk d + 1
 end
def uptoSmall : (H : Type) → List (DataW H) → Bool := fun _ ds => decide (uptoBulkAll ds ≤ 1048576)
def OpenSpec.upto (s : _root_.Go.ChangeSpec) : _root_.Go.OpenSpec := { _root_.Go.OpenSpec.ofChange s with cond := some uptoSmall }

/-- 'assartlaw06.BloomHashes', WHERE WHAT IT READS IS OF BULK AT MOST 1048576: true; the input reads as it did. -/
def bloomHashesUptoRow : OpenClaim := { program := "ytpkbifaeofcckaa", sum := "1b8b3dce30fb285d43eac29811eb6d1c7b1817c02577353b6433b8dda4773652", func := "assart/assartlaw06.BloomHashes", spec := "bloomHashes", unfollowed := true, recurses := true, apart := false, narrowed := true }
def BloomHashesUptoSaid : Prop := bloomHashesUptoRow.holds Try.pinned (OpenSpec.upto bloomHashesSpec)

/-- 'assartlaw06.BloomBuilds', WHERE WHAT IT READS IS OF BULK AT MOST 1048576: true; the input reads as it did. -/
def bloomBuildsUptoRow : OpenClaim := { program := "ytpkbifaeofcckaa", sum := "1b8b3dce30fb285d43eac29811eb6d1c7b1817c02577353b6433b8dda4773652", func := "assart/assartlaw06.BloomBuilds", spec := "bloomBuilds", unfollowed := true, recurses := true, apart := false, narrowed := true }
def BloomBuildsUptoSaid : Prop := bloomBuildsUptoRow.holds Try.pinned (OpenSpec.upto bloomBuildsSpec)

/-- 'assartlaw06.BloomShuffles', WHERE WHAT IT READS IS OF BULK AT MOST 1048576: true; the input reads as it did. -/
def bloomShufflesUptoRow : OpenClaim := { program := "ytpkbifaeofcckaa", sum := "1b8b3dce30fb285d43eac29811eb6d1c7b1817c02577353b6433b8dda4773652", func := "assart/assartlaw06.BloomShuffles", spec := "bloomShuffles", unfollowed := true, recurses := true, apart := false, narrowed := true }
def BloomShufflesUptoSaid : Prop := bloomShufflesUptoRow.holds Try.pinned (OpenSpec.upto bloomShufflesSpec)

/-- 'assartlaw06.BloomSizes', WHERE WHAT IT READS IS OF BULK AT MOST 1048576: true; the input reads as it did. -/
def bloomSizesUptoRow : OpenClaim := { program := "ytpkbifaeofcckaa", sum := "1b8b3dce30fb285d43eac29811eb6d1c7b1817c02577353b6433b8dda4773652", func := "assart/assartlaw06.BloomSizes", spec := "bloomSizes", unfollowed := true, recurses := true, apart := false, narrowed := true }
def BloomSizesUptoSaid : Prop := bloomSizesUptoRow.holds Try.pinned (OpenSpec.upto bloomSizesSpec)

/-- 'assartlaw06.BloomAsks', WHERE WHAT IT READS IS OF BULK AT MOST 1048576: true; the input reads as it did. -/
def bloomAsksUptoRow : OpenClaim := { program := "ytpkbifaeofcckaa", sum := "1b8b3dce30fb285d43eac29811eb6d1c7b1817c02577353b6433b8dda4773652", func := "assart/assartlaw06.BloomAsks", spec := "bloomAsks", unfollowed := true, recurses := true, apart := false, narrowed := true }
def BloomAsksUptoSaid : Prop := bloomAsksUptoRow.holds Try.pinned (OpenSpec.upto bloomAsksSpec)

/-- 'assartlaw06.BloomYes', WHERE WHAT IT READS IS OF BULK AT MOST 1048576: true; the input reads as it did. -/
def bloomYesUptoRow : OpenClaim := { program := "ytpkbifaeofcckaa", sum := "1b8b3dce30fb285d43eac29811eb6d1c7b1817c02577353b6433b8dda4773652", func := "assart/assartlaw06.BloomYes", spec := "bloomYes", unfollowed := true, recurses := true, apart := false, narrowed := true }
def BloomYesUptoSaid : Prop := bloomYesUptoRow.holds Try.pinned (OpenSpec.upto bloomYesSpec)

/-- 'assartlaw06.BloomMerges', WHERE WHAT IT READS IS OF BULK AT MOST 1048576: true; the input reads as it did. -/
def bloomMergesUptoRow : OpenClaim := { program := "ytpkbifaeofcckaa", sum := "1b8b3dce30fb285d43eac29811eb6d1c7b1817c02577353b6433b8dda4773652", func := "assart/assartlaw06.BloomMerges", spec := "bloomMerges", unfollowed := true, recurses := true, apart := false, narrowed := true }
def BloomMergesUptoSaid : Prop := bloomMergesUptoRow.holds Try.pinned (OpenSpec.upto bloomMergesSpec)

end Rows
end Go.Proofs.Ytpkbifaeofcckaa
