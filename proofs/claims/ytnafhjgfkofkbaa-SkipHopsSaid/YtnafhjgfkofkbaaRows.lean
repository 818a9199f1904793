/-
  No cell of these rows narrows 'for every input' (looked for: loops, veiled, ifaces, maps, wideKeys, modest, calm, conditions, laid).
  DERIVED. THE GIVEN ROWS OF THIS SEAT. 5 by the template 'for every input the law returns true; each argument reads behind the call as it read before'; 0 by the template 'total and deterministic' (their statements: YtnafhjgfkofkbaaTotals.lean).
  GIVEN WITH THE SEED: the statements are not yours to turn. If you find one false, say at which input.
  Laid BY PROGRAM, IN A SANDBOX (cutbox-rows.mjs): the forced cells as the released guide's own fill.sh prints them over the translation 8b91a38c14100abd… (all of the seat's roots in one cut). By AI agents, Wed Nov 11 2026. No macro, syntax, notation, axiom, sorry.
-/
import Derived.Test.YtnafhjgfkofkbaaChecked
import GoSem.Claim
import GoSem.ClaimJoined
import GoSem.ClaimMapViews
import Derived.JoinedTies
import Derived.KernelRfl
namespace Go.Proofs.Ytnafhjgfkofkbaa
/- THE CELL 'sum', in the pinned program and in every row, IS THE sha256 OF THE DUMP (.gsa) THAT YtnafhjgfkofkbaaProg.lean LOADS. Nothing in Lean hashes anything: it is a label: what it is worth is what the hold of that sum in a sandbox is worth. -/
noncomputable def Try.pinned : Pinned := { name := "ytnafhjgfkofkbaa", sum := "8b91a38c14100abd3beb56b79c3e7383c4d1211f866266329b40715697ea808d", checked := Try.checked }
namespace Rows
def none {H : Type} : Left H := { results := [], args := [] }

/-- 'assartlaw11.SkipMakes': WHATEVER THE INPUT: true; the input reads as it did. -/
def skipMakesSpec : ChangeSpec := { name := "skipMakes", fn := fun _ => fun
  | [d] => { results := [.lit (.bool true)], args := [d] }
  | _ => none }
def skipMakesRow : OpenClaim := { program := "ytnafhjgfkofkbaa", sum := "8b91a38c14100abd3beb56b79c3e7383c4d1211f866266329b40715697ea808d", func := "assart/assartlaw11.SkipMakes", spec := "skipMakes", inPlace := ["internal/bytealg.abigen_runtime_cmpstring"], unfollowed := true, recurses := true, apart := false }
def SkipMakesSaid : Prop := skipMakesRow.holds Try.pinned (OpenSpec.ofChange skipMakesSpec)

/-- ITS FALSE NEIGHBOUR: 'it returns false'. Refute it at one input. -/
def skipMakesWrong : ChangeSpec := { name := "skipMakes", fn := fun _ => fun
  | [d] => { results := [.lit (.bool false)], args := [d] }
  | _ => none }
def SkipMakesWrongFalsely : Prop := skipMakesRow.holds Try.pinned (OpenSpec.ofChange skipMakesWrong)

/-- 'assartlaw11.SkipSeeks': WHATEVER THE INPUT: true; the input reads as it did. -/
def skipSeeksSpec : ChangeSpec := { name := "skipSeeks", fn := fun _ => fun
  | [d1, d2] => { results := [.lit (.bool true)], args := [d1, d2] }
  | _ => none }
def skipSeeksRow : OpenClaim := { program := "ytnafhjgfkofkbaa", sum := "8b91a38c14100abd3beb56b79c3e7383c4d1211f866266329b40715697ea808d", func := "assart/assartlaw11.SkipSeeks", spec := "skipSeeks", inPlace := ["internal/bytealg.abigen_runtime_cmpstring"], unfollowed := true, recurses := true, apart := false }
def SkipSeeksSaid : Prop := skipSeeksRow.holds Try.pinned (OpenSpec.ofChange skipSeeksSpec)

/-- ITS FALSE NEIGHBOUR: 'it returns false'. Refute it at one input. -/
def skipSeeksWrong : ChangeSpec := { name := "skipSeeks", fn := fun _ => fun
  | [d1, d2] => { results := [.lit (.bool false)], args := [d1, d2] }
  | _ => none }
def SkipSeeksWrongFalsely : Prop := skipSeeksRow.holds Try.pinned (OpenSpec.ofChange skipSeeksWrong)

/-- 'assartlaw11.SkipWalks': WHATEVER THE INPUT: true; the input reads as it did. -/
def skipWalksSpec : ChangeSpec := { name := "skipWalks", fn := fun _ => fun
  | [d1, d2] => { results := [.lit (.bool true)], args := [d1, d2] }
  | _ => none }
def skipWalksRow : OpenClaim := { program := "ytnafhjgfkofkbaa", sum := "8b91a38c14100abd3beb56b79c3e7383c4d1211f866266329b40715697ea808d", func := "assart/assartlaw11.SkipWalks", spec := "skipWalks", inPlace := ["internal/bytealg.abigen_runtime_cmpstring"], unfollowed := true, recurses := true, apart := false }
def SkipWalksSaid : Prop := skipWalksRow.holds Try.pinned (OpenSpec.ofChange skipWalksSpec)

/-- ITS FALSE NEIGHBOUR: 'it returns false'. Refute it at one input. -/
def skipWalksWrong : ChangeSpec := { name := "skipWalks", fn := fun _ => fun
  | [d1, d2] => { results := [.lit (.bool false)], args := [d1, d2] }
  | _ => none }
def SkipWalksWrongFalsely : Prop := skipWalksRow.holds Try.pinned (OpenSpec.ofChange skipWalksWrong)

/-- 'assartlaw11.SkipTwo': WHATEVER THE INPUT: true; the input reads as it did. -/
def skipTwoSpec : ChangeSpec := { name := "skipTwo", fn := fun _ => fun
  | [d1, d2] => { results := [.lit (.bool true)], args := [d1, d2] }
  | _ => none }
def skipTwoRow : OpenClaim := { program := "ytnafhjgfkofkbaa", sum := "8b91a38c14100abd3beb56b79c3e7383c4d1211f866266329b40715697ea808d", func := "assart/assartlaw11.SkipTwo", spec := "skipTwo", inPlace := ["internal/bytealg.abigen_runtime_cmpstring"], unfollowed := true, recurses := true, apart := false }
def SkipTwoSaid : Prop := skipTwoRow.holds Try.pinned (OpenSpec.ofChange skipTwoSpec)

/-- ITS FALSE NEIGHBOUR: 'it returns false'. Refute it at one input. -/
def skipTwoWrong : ChangeSpec := { name := "skipTwo", fn := fun _ => fun
  | [d1, d2] => { results := [.lit (.bool false)], args := [d1, d2] }
  | _ => none }
def SkipTwoWrongFalsely : Prop := skipTwoRow.holds Try.pinned (OpenSpec.ofChange skipTwoWrong)

/-- 'assartlaw11.SkipHops': WHATEVER THE INPUT: true; the input reads as it did. -/
def skipHopsSpec : ChangeSpec := { name := "skipHops", fn := fun _ => fun
  | [d] => { results := [.lit (.bool true)], args := [d] }
  | _ => none }
def skipHopsRow : OpenClaim := { program := "ytnafhjgfkofkbaa", sum := "8b91a38c14100abd3beb56b79c3e7383c4d1211f866266329b40715697ea808d", func := "assart/assartlaw11.SkipHops", spec := "skipHops", inPlace := ["internal/bytealg.abigen_runtime_cmpstring"], unfollowed := true, recurses := true, apart := false }
def SkipHopsSaid : Prop := skipHopsRow.holds Try.pinned (OpenSpec.ofChange skipHopsSpec)

/-- ITS FALSE NEIGHBOUR: 'it returns false'. Refute it at one input. -/
def skipHopsWrong : ChangeSpec := { name := "skipHops", fn := fun _ => fun
  | [d] => { results := [.lit (.bool false)], args := [d] }
  | _ => none }
def SkipHopsWrongFalsely : Prop := skipHopsRow.holds Try.pinned (OpenSpec.ofChange skipHopsWrong)

/- THE SECOND FORM. 'bulk': how many values and letters a reading holds, each counted each time it is reached (what is shared counts as often as it is met; a slice's spare places count too). A statement '..UptoSaid' is the law's where the arguments, and the package variables that the reading takes, are together of bulk at most 1048576: NARROWER than '..Said'. Prove '..Said' where nothing that the law and all that it calls make is longer than what came in: it says more and counts as full. Else prove '..UptoSaid'. A law counts once. -/
mutual
def uptoBulk {H : Type} : DataW H → Nat
  | .lit (.string bytes) => bytes.length + 1
  | .lit _ => 1
  | .nil => 1
  | .ptr d => uptoBulk d + 1
  | .slice elems spare => uptoBulkAll elems + uptoBulkAll spare + 1
  | .agg parts => uptoBulkAll parts + 1
  | .iface _ d => uptoBulk d + 1
  | .map entries => uptoBulkEntries entries + 1
  | .held _ => 1
def uptoBulkAll {H : Type} : List (DataW H) → Nat
  | [] => 0
  | d :: r => uptoBulk d + uptoBulkAll r
def uptoBulkEntries {H : Type} : List (Lit × DataW H) → Nat
  | [] => 0
  | x :: r => uptoBulkEntry x + uptoBulkEntries r
def uptoBulkEntry {H : Type} : Lit × DataW H → Nat
  | (.string bytes, d) => bytes.length + uptoBulk d + 1
  | (_, d) => uptoBulk d + 1
 end
def uptoSmall : (H : Type) → List (DataW H) → Bool := fun _ ds => decide (uptoBulkAll ds ≤ 1048576)
def OpenSpec.upto (s : _root_.Go.ChangeSpec) : _root_.Go.OpenSpec := { _root_.Go.OpenSpec.ofChange s with cond := some uptoSmall }

/-- 'assartlaw11.SkipMakes', WHERE WHAT IT READS IS OF BULK AT MOST 1048576: true; the input reads as it did. -/
def skipMakesUptoRow : OpenClaim := { program := "ytnafhjgfkofkbaa", sum := "8b91a38c14100abd3beb56b79c3e7383c4d1211f866266329b40715697ea808d", func := "assart/assartlaw11.SkipMakes", spec := "skipMakes", inPlace := ["internal/bytealg.abigen_runtime_cmpstring"], unfollowed := true, recurses := true, apart := false, narrowed := true }
def SkipMakesUptoSaid : Prop := skipMakesUptoRow.holds Try.pinned (OpenSpec.upto skipMakesSpec)

/-- 'assartlaw11.SkipSeeks', WHERE WHAT IT READS IS OF BULK AT MOST 1048576: true; the input reads as it did. -/
def skipSeeksUptoRow : OpenClaim := { program := "ytnafhjgfkofkbaa", sum := "8b91a38c14100abd3beb56b79c3e7383c4d1211f866266329b40715697ea808d", func := "assart/assartlaw11.SkipSeeks", spec := "skipSeeks", inPlace := ["internal/bytealg.abigen_runtime_cmpstring"], unfollowed := true, recurses := true, apart := false, narrowed := true }
def SkipSeeksUptoSaid : Prop := skipSeeksUptoRow.holds Try.pinned (OpenSpec.upto skipSeeksSpec)

/-- 'assartlaw11.SkipWalks', WHERE WHAT IT READS IS OF BULK AT MOST 1048576: true; the input reads as it did. -/
def skipWalksUptoRow : OpenClaim := { program := "ytnafhjgfkofkbaa", sum := "8b91a38c14100abd3beb56b79c3e7383c4d1211f866266329b40715697ea808d", func := "assart/assartlaw11.SkipWalks", spec := "skipWalks", inPlace := ["internal/bytealg.abigen_runtime_cmpstring"], unfollowed := true, recurses := true, apart := false, narrowed := true }
def SkipWalksUptoSaid : Prop := skipWalksUptoRow.holds Try.pinned (OpenSpec.upto skipWalksSpec)

/-- 'assartlaw11.SkipTwo', WHERE WHAT IT READS IS OF BULK AT MOST 1048576: true; the input reads as it did. -/
def skipTwoUptoRow : OpenClaim := { program := "ytnafhjgfkofkbaa", sum := "8b91a38c14100abd3beb56b79c3e7383c4d1211f866266329b40715697ea808d", func := "assart/assartlaw11.SkipTwo", spec := "skipTwo", inPlace := ["internal/bytealg.abigen_runtime_cmpstring"], unfollowed := true, recurses := true, apart := false, narrowed := true }
def SkipTwoUptoSaid : Prop := skipTwoUptoRow.holds Try.pinned (OpenSpec.upto skipTwoSpec)

/-- 'assartlaw11.SkipHops', WHERE WHAT IT READS IS OF BULK AT MOST 1048576: true; the input reads as it did. -/
def skipHopsUptoRow : OpenClaim := { program := "ytnafhjgfkofkbaa", sum := "8b91a38c14100abd3beb56b79c3e7383c4d1211f866266329b40715697ea808d", func := "assart/assartlaw11.SkipHops", spec := "skipHops", inPlace := ["internal/bytealg.abigen_runtime_cmpstring"], unfollowed := true, recurses := true, apart := false, narrowed := true }
def SkipHopsUptoSaid : Prop := skipHopsUptoRow.holds Try.pinned (OpenSpec.upto skipHopsSpec)

end Rows
end Go.Proofs.Ytnafhjgfkofkbaa
