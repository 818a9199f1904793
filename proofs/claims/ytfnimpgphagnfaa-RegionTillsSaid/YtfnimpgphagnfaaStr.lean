/- Texts that are known as lists of bytes: their lengths, pieces and joins, as rules of the walk. No program is in sight here. -/
import Derived.Test.YtfnimpgphagnfaaMem
namespace Go.Proofs.Ytfnimpgphagnfaa
set_option linter.unusedVariables false
set_option linter.unusedSimpArgs false
theorem str_extract (l : List UInt8) (i j : Nat) : (str l).extract i j = str ((l.drop i).take (j - i)) := by
  apply ByteArray.ext
  apply Array.ext'
  simp [str, ByteArray.data_extract]
theorem str_extract_to (l : List UInt8) (i : Nat) : (str l).extract i l.length = str (l.drop i) := by
  rw [str_extract, List.take_of_length_le (by simp)]
attribute [go_sem] str_size str_extract str_append
attribute [go_sem high] str_extract_to
@[go_sem] theorem str_get (l : List UInt8) (i : Nat) (h : i < (str l).size) : (str l)[i]'h = l[i]'(by rw [str_size] at h; exact h) := rfl
/-- what hands back bytes of its own, and an error's number -/
def RetBE (e : TypeId) (w : World) (l : List UInt8) (n : Nat) : Ending → World → Prop := fun x w' =>
  ∃ ad cap, x = .returned (.tuple #[.slice ad l.length cap, .int .i64 n]) ∧ Owns w' w.heap.size e 1 ad cap l.length (bv l) ∧ Gr w w'
theorem str_nil : str [] = ByteArray.empty := rfl
theorem src_str {P : Program} {u : TypeId} {w : World} (l : List UInt8) (hu : P.underlying u = some .string) : Src P u w 1 (.string (str l)) l.length (bv l) := by
  have := Src.str (P := P) (w := w) (str l) hu
  rwa [str_size, str_list] at this
end Go.Proofs.Ytfnimpgphagnfaa
