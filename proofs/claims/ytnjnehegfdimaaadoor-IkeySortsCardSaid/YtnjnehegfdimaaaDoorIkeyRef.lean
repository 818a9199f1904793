/- Layer 5 (ikey): the reference's DocEncode and DocDecode. -/
import Derived.Test.YtnjnehegfdimaaaDoorIkeyDec
import Derived.Test.YtnjnehegfdimaaaDoorAnyT
import Derived.Outline
namespace Go.Proofs.YtnjnehegfdimaaaDoor
set_option linter.unusedVariables false
set_option linter.unusedSimpArgs false
open Go.RowKit Ikey Varint
open Go.Op (bytesLess)
theorem bytes8 (s d : Nat) (hd : d < 256) : bytesN 8 (trailF s d) = UInt8.ofNat d :: bytesN 7 s := by
  have h1 : trailF s d / 256 = s := by unfold trailF; omega
  have h2 : UInt8.ofNat (trailF s d) = UInt8.ofNat d := by
    apply UInt8.toNat_inj.1
    rw [UInt8.toNat_ofNat', UInt8.toNat_ofNat']; unfold trailF; omega
  rw [show bytesN 8 (trailF s d) = UInt8.ofNat (trailF s d) :: bytesN 7 (trailF s d / 256) from rfl, h1, h2]
theorem seq_step (m : List UInt8) (k : Nat) (h : k < m.length) : le (m.drop k) = m[k].toNat + 256 * le (m.drop (k + 1)) := by
  rw [List.drop_eq_getElem_cons h]; rfl
theorem le_drop_lt (m : List UInt8) (k : Nat) (hm : m.length = 8) (hk : 1 ≤ k) : le (m.drop k) < 72057594037927936 := by
  have h1 := le_lt (m.drop k)
  have h2 : 256 ^ (m.drop k).length ≤ 256 ^ 7 := Nat.pow_le_pow_right (by decide) (by rw [List.length_drop, hm]; omega)
  omega
end Go.Proofs.YtnjnehegfdimaaaDoor
