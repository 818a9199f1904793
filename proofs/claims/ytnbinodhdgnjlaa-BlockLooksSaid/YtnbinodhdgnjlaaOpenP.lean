/- How a slice of pairs of texts is opened. -/
import Derived.Test.YtnbinodhdgnjlaaOpen
import Derived.Test.YtnbinodhdgnjlaaBlockFns
import Derived.Deep.SlicePairs
namespace Go.Proofs.Ytnbinodhdgnjlaa
set_option linter.unusedVariables false
set_option linter.unusedSimpArgs false
open Go.ChangeShapes Go.WideShapes Go.ChangeAt Go.RowKit Go.Deep
theorem len_of {n cap : Nat} (hc : n ≤ cap) (hm : cap ≤ maxLen) : n ≤ 9223372036854775807 := by
  have : maxLen ≤ 9223372036854775807 := by decide
  omega
section
variable {H : Type} {P : Program} {w : World} {enc : TypeId × Value → H}
def txt : Value → List UInt8
  | .string s => s.data.toList
  | _ => []
theorem open_pairs {base : Nat} {spare : Nat → Bool} {held : Bool} {r : Reach} {b0 : Nat} {t e : TypeId} {f0 f1 : Field} {v : Value} {d : DataW H} {ps : List MemPlace} (ht : P.underlying t = some (.slice e)) (he : P.underlying e = some (.struct #[f0, f1]))
    (ce : P.cellsOf e = 2) (o0 : f0.offset = 0) (o1 : f1.offset = 1) (c0 : P.cellsOf f0.type = 1) (c1 : P.cellsOf f1.type = 1) (s0 : P.underlying f0.type = some .string) (s1 : P.underlying f1.type = some .string)
    (hval : Value.okWide P w r b0 t v) (hd : DataW.Trod enc P w base spare held t v d ps) :
    ∃ ad len cap, ∃ l : List Bk.Pr, v = .slice ad len cap ∧ l.length = len ∧ len ≤ cap ∧ cap ≤ maxLen ∧ Row w ad (pv l) ∧ ∀ p ∈ l, p.1.length ≤ 9223372036854775807 ∧ p.2.length ≤ 9223372036854775807 := by
  obtain ⟨ad, len, cap, rfl⟩ := okWide_slice ht hval
  obtain ⟨fuel, hf⟩ := hd
  rcases open_slice_pairs ht he ce o0 o1 c0 c1 hf with ⟨hcs, hx⟩ | ⟨a, l, c, m, n, V0, V1, D0, D1, P0, P1, hcs, _, hl, hm, hmm, hx, hcell⟩
  · simp [Value.cells] at hcs
    obtain ⟨e1, e2, e3⟩ := hcs
    subst e1 e2 e3
    exact ⟨none, 0, 0, [], rfl, rfl, Nat.le_refl _, Nat.zero_le _, Row.nil _ _, by simp⟩
  · simp [Value.cells] at hcs
    obtain ⟨e1, e2, e3⟩ := hcs
    subst e1 e2 e3
    have hlm : len ≤ m := by rw [hmm]; split <;> omega
    have hv : ∀ i, i < m → (∃ s : ByteArray, V0 i = .string s ∧ s.size ≤ maxLen) ∧ ∃ s : ByteArray, V1 i = .string s ∧ s.size ≤ maxLen := by
      intro i hi
      obtain ⟨_, _, h3, h4⟩ := hcell i hi
      obtain ⟨s, q1, _, q2⟩ := DataW.trod_string s0 h3
      obtain ⟨s', q3, _, q4⟩ := DataW.trod_string s1 h4
      simp only [List.cons.injEq, and_true] at q1 q3
      exact ⟨⟨s, q1, q2⟩, s', q3, q4⟩
    have hlen : ((List.range len).map fun i => ((txt (V0 i), txt (V1 i)) : Bk.Pr)).length = len := by simp
    refine ⟨some a, len, cap, (List.range len).map fun i => (txt (V0 i), txt (V1 i)), rfl, hlen, hl, hm, ?_, ?_⟩
    · intro i u hi
      have hil : i < 2 * len := by
        have := (List.getElem?_eq_some_iff.1 hi).1
        rw [pv_length, hlen] at this; omega
      obtain ⟨b, off, spot⟩ := a
      have h0 := (hcell 0 (by omega)).1
      have hspot : spot = none := by simpa [Addr.add] using World.cell?_spot h0
      subst hspot
      refine ⟨b, off, rfl, ?_⟩
      obtain ⟨j, hj⟩ : ∃ j, j = i / 2 := ⟨_, rfl⟩
      have hjl : j < ((List.range len).map fun i => ((txt (V0 i), txt (V1 i)) : Bk.Pr)).length := by rw [hlen]; omega
      obtain ⟨g1, g2⟩ := pv_get _ j hjl
      obtain ⟨k1, k2, _, _⟩ := hcell j (by omega)
      rw [Go.WideShapes.add_plain] at k1 k2
      obtain ⟨⟨s, w1, _⟩, s', w2, _⟩ := hv j (by omega)
      simp only [List.getElem_map, List.getElem_range] at g1 g2
      rw [w1] at g1 k1
      rw [w2] at g2 k2
      have hmod : i = 2 * j ∨ i = 2 * j + 1 := by omega
      rcases hmod with rfl | rfl
      · rw [g1] at hi
        cases hi
        rw [Nat.mul_comm 2 j, k1]; simp [txt, str_eta]
      · rw [g2] at hi
        cases hi
        rw [Nat.mul_comm 2 j, ← Nat.add_assoc] at *
        rw [k2]; simp [txt, str_eta]
    · intro p hp
      obtain ⟨i, hi, rfl⟩ := List.mem_map.1 hp
      have hi' := List.mem_range.1 hi
      obtain ⟨⟨s, w1, w3⟩, s', w2, w4⟩ := hv i (by omega)
      rw [w1, w2]
      unfold maxLen at w3 w4
      simp only [txt]
      have e1 : s.data.toList.length = s.size := by simp
      have e2 : s'.data.toList.length = s'.size := by simp
      omega
end
end Go.Proofs.Ytnbinodhdgnjlaa
