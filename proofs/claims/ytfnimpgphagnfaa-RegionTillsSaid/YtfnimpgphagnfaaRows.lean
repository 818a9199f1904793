/-
  No cell of these rows narrows 'for every input' (looked for: loops, veiled, ifaces, maps, wideKeys, modest, calm, conditions, laid).
  DERIVED. THE GIVEN ROWS OF THIS SEAT. 7 by the template 'for every input the law returns true; each argument reads behind the call as it read before'; 0 by the template 'total and deterministic' (their statements: YtfnimpgphagnfaaTotals.lean).
  GIVEN WITH THE SEED: the statements are not yours to turn. If you find one false, say at which input.
  Laid BY PROGRAM, IN A SANDBOX (cutbox-rows.mjs): the forced cells as the released guide's own fill.sh prints them over the translation 9930e035af2ff35e… (all of the seat's roots in one cut). By AI agents, Wed Nov 11 2026. No macro, syntax, notation, axiom, sorry.
-/
import Derived.Test.YtfnimpgphagnfaaChecked
import GoSem.Claim
import GoSem.ClaimJoined
import GoSem.ClaimMapViews
import Derived.JoinedTies
import Derived.KernelRfl
namespace Go.Proofs.Ytfnimpgphagnfaa
/- THE CELL 'sum', in the pinned program and in every row, IS THE sha256 OF THE DUMP (.gsa) THAT YtfnimpgphagnfaaProg.lean LOADS. Nothing in Lean hashes anything: it is a label: what it is worth is what the hold of that sum in a sandbox is worth. -/
noncomputable def Try.pinned : Pinned := { name := "ytfnimpgphagnfaa", sum := "9930e035af2ff35e193fdbaec229e390f06a0c3b8535777013eb588fcfa154ee", checked := Try.checked }
namespace Rows
def none {H : Type} : Left H := { results := [], args := [] }

/-- 'assartlaw01.RegionApart': WHATEVER THE INPUT: true; the input reads as it did. -/
def regionApartSpec : ChangeSpec := { name := "regionApart", fn := fun _ => fun
  | [d1, d2] => { results := [.lit (.bool true)], args := [d1, d2] }
  | _ => none }
def regionApartRow : OpenClaim := { program := "ytfnimpgphagnfaa", sum := "9930e035af2ff35e193fdbaec229e390f06a0c3b8535777013eb588fcfa154ee", func := "assart/assartlaw01.RegionApart", spec := "regionApart", apart := false }
def RegionApartSaid : Prop := regionApartRow.holds Try.pinned (OpenSpec.ofChange regionApartSpec)

/-- ITS FALSE NEIGHBOUR: 'it returns false'. Refute it at one input. -/
def regionApartWrong : ChangeSpec := { name := "regionApart", fn := fun _ => fun
  | [d1, d2] => { results := [.lit (.bool false)], args := [d1, d2] }
  | _ => none }
def RegionApartWrongFalsely : Prop := regionApartRow.holds Try.pinned (OpenSpec.ofChange regionApartWrong)

/-- 'assartlaw01.RegionStale': WHATEVER THE INPUT: true; the input reads as it did. -/
def regionStaleSpec : ChangeSpec := { name := "regionStale", fn := fun _ => fun
  | [d] => { results := [.lit (.bool true)], args := [d] }
  | _ => none }
def regionStaleRow : OpenClaim := { program := "ytfnimpgphagnfaa", sum := "9930e035af2ff35e193fdbaec229e390f06a0c3b8535777013eb588fcfa154ee", func := "assart/assartlaw01.RegionStale", spec := "regionStale", apart := false }
def RegionStaleSaid : Prop := regionStaleRow.holds Try.pinned (OpenSpec.ofChange regionStaleSpec)

/-- ITS FALSE NEIGHBOUR: 'it returns false'. Refute it at one input. -/
def regionStaleWrong : ChangeSpec := { name := "regionStale", fn := fun _ => fun
  | [d] => { results := [.lit (.bool false)], args := [d] }
  | _ => none }
def RegionStaleWrongFalsely : Prop := regionStaleRow.holds Try.pinned (OpenSpec.ofChange regionStaleWrong)

/-- 'assartlaw01.RegionMany': WHATEVER THE INPUT: true; the input reads as it did. -/
def regionManySpec : ChangeSpec := { name := "regionMany", fn := fun _ => fun
  | [d] => { results := [.lit (.bool true)], args := [d] }
  | _ => none }
def regionManyRow : OpenClaim := { program := "ytfnimpgphagnfaa", sum := "9930e035af2ff35e193fdbaec229e390f06a0c3b8535777013eb588fcfa154ee", func := "assart/assartlaw01.RegionMany", spec := "regionMany", apart := false }
def RegionManySaid : Prop := regionManyRow.holds Try.pinned (OpenSpec.ofChange regionManySpec)

/-- ITS FALSE NEIGHBOUR: 'it returns false'. Refute it at one input. -/
def regionManyWrong : ChangeSpec := { name := "regionMany", fn := fun _ => fun
  | [d] => { results := [.lit (.bool false)], args := [d] }
  | _ => none }
def RegionManyWrongFalsely : Prop := regionManyRow.holds Try.pinned (OpenSpec.ofChange regionManyWrong)

/-- 'assartlaw01.RegionParts': WHATEVER THE INPUT: true; the input reads as it did. -/
def regionPartsSpec : ChangeSpec := { name := "regionParts", fn := fun _ => fun
  | [d1, d2, d3] => { results := [.lit (.bool true)], args := [d1, d2, d3] }
  | _ => none }
def regionPartsRow : OpenClaim := { program := "ytfnimpgphagnfaa", sum := "9930e035af2ff35e193fdbaec229e390f06a0c3b8535777013eb588fcfa154ee", func := "assart/assartlaw01.RegionParts", spec := "regionParts", apart := false }
def RegionPartsSaid : Prop := regionPartsRow.holds Try.pinned (OpenSpec.ofChange regionPartsSpec)

/-- ITS FALSE NEIGHBOUR: 'it returns false'. Refute it at one input. -/
def regionPartsWrong : ChangeSpec := { name := "regionParts", fn := fun _ => fun
  | [d1, d2, d3] => { results := [.lit (.bool false)], args := [d1, d2, d3] }
  | _ => none }
def RegionPartsWrongFalsely : Prop := regionPartsRow.holds Try.pinned (OpenSpec.ofChange regionPartsWrong)

/-- 'assartlaw01.RegionCounts': WHATEVER THE INPUT: true; the input reads as it did. -/
def regionCountsSpec : ChangeSpec := { name := "regionCounts", fn := fun _ => fun
  | [d] => { results := [.lit (.bool true)], args := [d] }
  | _ => none }
def regionCountsRow : OpenClaim := { program := "ytfnimpgphagnfaa", sum := "9930e035af2ff35e193fdbaec229e390f06a0c3b8535777013eb588fcfa154ee", func := "assart/assartlaw01.RegionCounts", spec := "regionCounts", apart := false }
def RegionCountsSaid : Prop := regionCountsRow.holds Try.pinned (OpenSpec.ofChange regionCountsSpec)

/-- ITS FALSE NEIGHBOUR: 'it returns false'. Refute it at one input. -/
def regionCountsWrong : ChangeSpec := { name := "regionCounts", fn := fun _ => fun
  | [d] => { results := [.lit (.bool false)], args := [d] }
  | _ => none }
def RegionCountsWrongFalsely : Prop := regionCountsRow.holds Try.pinned (OpenSpec.ofChange regionCountsWrong)

/-- 'assartlaw01.RegionPoison': WHATEVER THE INPUT: true; the input reads as it did. -/
def regionPoisonSpec : ChangeSpec := { name := "regionPoison", fn := fun _ => fun
  | [d1, d2] => { results := [.lit (.bool true)], args := [d1, d2] }
  | _ => none }
def regionPoisonRow : OpenClaim := { program := "ytfnimpgphagnfaa", sum := "9930e035af2ff35e193fdbaec229e390f06a0c3b8535777013eb588fcfa154ee", func := "assart/assartlaw01.RegionPoison", spec := "regionPoison", apart := false }
def RegionPoisonSaid : Prop := regionPoisonRow.holds Try.pinned (OpenSpec.ofChange regionPoisonSpec)

/-- ITS FALSE NEIGHBOUR: 'it returns false'. Refute it at one input. -/
def regionPoisonWrong : ChangeSpec := { name := "regionPoison", fn := fun _ => fun
  | [d1, d2] => { results := [.lit (.bool false)], args := [d1, d2] }
  | _ => none }
def RegionPoisonWrongFalsely : Prop := regionPoisonRow.holds Try.pinned (OpenSpec.ofChange regionPoisonWrong)

/-- 'assartlaw01.RegionTills': WHATEVER THE INPUT: true; the input reads as it did. -/
def regionTillsSpec : ChangeSpec := { name := "regionTills", fn := fun _ => fun
  | [d1, d2, d3] => { results := [.lit (.bool true)], args := [d1, d2, d3] }
  | _ => none }
def regionTillsRow : OpenClaim := { program := "ytfnimpgphagnfaa", sum := "9930e035af2ff35e193fdbaec229e390f06a0c3b8535777013eb588fcfa154ee", func := "assart/assartlaw01.RegionTills", spec := "regionTills", apart := false }
def RegionTillsSaid : Prop := regionTillsRow.holds Try.pinned (OpenSpec.ofChange regionTillsSpec)

/-- ITS FALSE NEIGHBOUR: 'it returns false'. Refute it at one input. -/
def regionTillsWrong : ChangeSpec := { name := "regionTills", fn := fun _ => fun
  | [d1, d2, d3] => { results := [.lit (.bool false)], args := [d1, d2, d3] }
  | _ => none }
def RegionTillsWrongFalsely : Prop := regionTillsRow.holds Try.pinned (OpenSpec.ofChange regionTillsWrong)

/- THE SECOND FORM. 'bulk': how many values and letters a reading holds, each counted each time it is reached (what is shared counts as often as it is met; a slice's spare places count too). A statement '..UptoSaid' is the law's where the arguments, and the package variables that the reading takes, are together of bulk at most 1048576: NARROWER than '..Said'. Prove '..Said' where nothing that the law and all that it calls make is longer than what came in: it says more and counts as full. Else prove '..UptoSaid'. A law counts once. -/
mutual
def uptoBulk {H : Type} : DataW H → Nat
  | .lit (.string bytes) => bytes.length + 1
  | .lit _ => 1
  | .nil => 1
  | .ptr d => uptoBulk d + 1
  | .slice elems spare => uptoBulkAll elems + uptoBulkAll spare + 1
  | .agg parts => uptoBulkAll parts + 1
  | .iface _ d => uptoBulk d + 1
  | .map entries => uptoBulkEntries entries + 1
  | .held _ => 1
def uptoBulkAll {H : Type} : List (DataW H) → Nat
  | [] => 0
  | d :: r => uptoBulk d + uptoBulkAll r
def uptoBulkEntries {H : Type} : List (Lit × DataW H) → Nat
  | [] => 0
  | x :: r => uptoBulkEntry x + uptoBulkEntries r
def uptoBulkEntry {H : Type} : Lit × DataW H → Nat
  | (.string bytes, d) => bytes.length + uptoBulk d + 1
  | (_, d) => uptoBulk d + 1
 end
def uptoSmall : (H : Type) → List (DataW H) → Bool := fun _ ds => decide (uptoBulkAll ds ≤ 1048576)
def OpenSpec.upto (s : _root_.Go.ChangeSpec) : _root_.Go.OpenSpec := { _root_.Go.OpenSpec.ofChange s with cond := some uptoSmall }

/-- 'assartlaw01.RegionApart', WHERE WHAT IT READS IS OF BULK AT MOST 1048576: true; the input reads as it did. -/
def regionApartUptoRow : OpenClaim := { program := "ytfnimpgphagnfaa", sum := "9930e035af2ff35e193fdbaec229e390f06a0c3b8535777013eb588fcfa154ee", func := "assart/assartlaw01.RegionApart", spec := "regionApart", apart := false, narrowed := true }
def RegionApartUptoSaid : Prop := regionApartUptoRow.holds Try.pinned (OpenSpec.upto regionApartSpec)

/-- 'assartlaw01.RegionStale', WHERE WHAT IT READS IS OF BULK AT MOST 1048576: true; the input reads as it did. -/
def regionStaleUptoRow : OpenClaim := { program := "ytfnimpgphagnfaa", sum := "9930e035af2ff35e193fdbaec229e390f06a0c3b8535777013eb588fcfa154ee", func := "assart/assartlaw01.RegionStale", spec := "regionStale", apart := false, narrowed := true }
def RegionStaleUptoSaid : Prop := regionStaleUptoRow.holds Try.pinned (OpenSpec.upto regionStaleSpec)

/-- 'assartlaw01.RegionMany', WHERE WHAT IT READS IS OF BULK AT MOST 1048576: true; the input reads as it did. -/
def regionManyUptoRow : OpenClaim := { program := "ytfnimpgphagnfaa", sum := "9930e035af2ff35e193fdbaec229e390f06a0c3b8535777013eb588fcfa154ee", func := "assart/assartlaw01.RegionMany", spec := "regionMany", apart := false, narrowed := true }
def RegionManyUptoSaid : Prop := regionManyUptoRow.holds Try.pinned (OpenSpec.upto regionManySpec)

/-- 'assartlaw01.RegionParts', WHERE WHAT IT READS IS OF BULK AT MOST 1048576: true; the input reads as it did. -/
def regionPartsUptoRow : OpenClaim := { program := "ytfnimpgphagnfaa", sum := "9930e035af2ff35e193fdbaec229e390f06a0c3b8535777013eb588fcfa154ee", func := "assart/assartlaw01.RegionParts", spec := "regionParts", apart := false, narrowed := true }
def RegionPartsUptoSaid : Prop := regionPartsUptoRow.holds Try.pinned (OpenSpec.upto regionPartsSpec)

/-- 'assartlaw01.RegionCounts', WHERE WHAT IT READS IS OF BULK AT MOST 1048576: true; the input reads as it did. -/
def regionCountsUptoRow : OpenClaim := { program := "ytfnimpgphagnfaa", sum := "9930e035af2ff35e193fdbaec229e390f06a0c3b8535777013eb588fcfa154ee", func := "assart/assartlaw01.RegionCounts", spec := "regionCounts", apart := false, narrowed := true }
def RegionCountsUptoSaid : Prop := regionCountsUptoRow.holds Try.pinned (OpenSpec.upto regionCountsSpec)

/-- 'assartlaw01.RegionPoison', WHERE WHAT IT READS IS OF BULK AT MOST 1048576: true; the input reads as it did. -/
def regionPoisonUptoRow : OpenClaim := { program := "ytfnimpgphagnfaa", sum := "9930e035af2ff35e193fdbaec229e390f06a0c3b8535777013eb588fcfa154ee", func := "assart/assartlaw01.RegionPoison", spec := "regionPoison", apart := false, narrowed := true }
def RegionPoisonUptoSaid : Prop := regionPoisonUptoRow.holds Try.pinned (OpenSpec.upto regionPoisonSpec)

/-- 'assartlaw01.RegionTills', WHERE WHAT IT READS IS OF BULK AT MOST 1048576: true; the input reads as it did. -/
def regionTillsUptoRow : OpenClaim := { program := "ytfnimpgphagnfaa", sum := "9930e035af2ff35e193fdbaec229e390f06a0c3b8535777013eb588fcfa154ee", func := "assart/assartlaw01.RegionTills", spec := "regionTills", apart := false, narrowed := true }
def RegionTillsUptoSaid : Prop := regionTillsUptoRow.holds Try.pinned (OpenSpec.upto regionTillsSpec)

end Rows
end Go.Proofs.Ytfnimpgphagnfaa
