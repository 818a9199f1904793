/- How slices of texts and of 64-bit numbers are opened. No program is in sight here. -/
import Derived.Test.YtfnimpgphagnfaaOpen
namespace Go.Proofs.Ytfnimpgphagnfaa
set_option linter.unusedVariables false
set_option linter.unusedSimpArgs false
open Go.ChangeShapes Go.WideShapes Go.ChangeAt Go.RowKit
section
variable {H : Type} {P : Program} {w : World} {enc : TypeId × Value → H}
/-- texts, as Go's values -/
def tv (l : List (List UInt8)) : List Value := l.map fun s => Value.string (str s)
theorem open_strs {base : Nat} {spare : Nat → Bool} {held : Bool} {r : Reach} {b0 : Nat} {t e : TypeId} {v : Value} {d : DataW H} {ps : List MemPlace} (ht : P.underlying t = some (.slice e)) (he : P.underlying e = some .string) (hc : P.cellsOf e = 1)
    (hval : Value.okWide P w r b0 t v) (hd : DataW.Trod enc P w base spare held t v d ps) :
    ∃ ad len cap, ∃ l : List (List UInt8), v = .slice ad len cap ∧ l.length = len ∧ len ≤ cap ∧ cap ≤ maxLen ∧ Row w ad (tv l) ∧ (∀ s ∈ l, s.length ≤ 9223372036854775807) ∧
      ((d = .nil ∧ len = 0) ∨ ∃ x y, d = .slice x y ∧ len ≤ x.length) := by
  obtain ⟨ad, len, cap, rfl⟩ := okWide_slice ht hval
  obtain ⟨fuel, hf⟩ := hd
  rcases open_strings ht he hc hf with ⟨hcs, hx⟩ | ⟨a, l, c, ss, hcs, _, hl, hm, hz, hx, hcell, hwz⟩
  · simp [Value.cells] at hcs
    obtain ⟨e1, e2, e3⟩ := hcs
    subst e1 e2 e3
    simp only [Prod.mk.injEq] at hx
    exact ⟨none, 0, 0, [], rfl, rfl, Nat.le_refl _, Nat.zero_le _, Row.nil _ _, by simp, .inl ⟨hx.1, rfl⟩⟩
  · simp [Value.cells] at hcs
    obtain ⟨e1, e2, e3⟩ := hcs
    subst e1 e2 e3
    have hzl : len ≤ ss.length := by rw [hz]; split <;> omega
    simp only [Prod.mk.injEq] at hx
    have hlen : ((ss.take len).map fun s => s.data.toList).length = len := by simp; omega
    refine ⟨some a, len, cap, (ss.take len).map fun s => s.data.toList, rfl, hlen, hl, hm, ?_, ?_, .inr ⟨_, _, hx.1, by simp [strs]; omega⟩⟩
    · intro i u hi
      have hil : i < len := by
        have := (List.getElem?_eq_some_iff.1 hi).1
        unfold tv at this
        rw [List.length_map, hlen] at this; exact this
      have h0 := hcell 0 (by omega)
      obtain ⟨b, off, spot⟩ := a
      have hspot : spot = none := by simpa [Addr.add] using World.cell?_spot h0
      subst hspot
      refine ⟨b, off, rfl, ?_⟩
      have hi2 := hcell i (by omega)
      rw [Go.WideShapes.add_plain] at hi2
      rw [hi2]
      have hss : i < ss.length := by omega
      unfold tv at hi
      simp only [List.getElem?_map, List.getElem?_take, hil, if_true, List.getElem?_eq_getElem hss, Option.map_some, Option.some.injEq] at hi
      rw [← hi, str_eta, List.getD_eq_getElem?_getD, List.getElem?_eq_getElem hss, Option.getD_some]
    · intro s hs
      obtain ⟨x, hx1, rfl⟩ := List.mem_map.1 hs
      have := hwz x (List.mem_of_mem_take hx1)
      unfold maxLen at this
      simpa using this
theorem open_u64s {base : Nat} {spare : Nat → Bool} {held : Bool} {r : Reach} {b0 : Nat} {t e : TypeId} {v : Value} {d : DataW H} {ps : List MemPlace} (ht : P.underlying t = some (.slice e)) (he : P.underlying e = some (.int .u64)) (hc : P.cellsOf e = 1)
    (hval : Value.okWide P w r b0 t v) (hd : DataW.Trod enc P w base spare held t v d ps) :
    ∃ ad len cap, ∃ l : List Nat, v = .slice ad len cap ∧ l.length = len ∧ len ≤ cap ∧ cap ≤ maxLen ∧ Row w ad (l.map fun (n : Nat) => Value.int .u64 (n : Int)) ∧ (∀ n ∈ l, n < 18446744073709551616) ∧
      ((d = .nil ∧ len = 0) ∨ ∃ x y, d = .slice x y ∧ len ≤ x.length) := by
  obtain ⟨ad, len, cap, zs, hv, h1, h2, h3, h4, h5, h6⟩ := open_nums ht he hc hval hd
  refine ⟨ad, len, cap, zs.map Int.toNat, hv, by simpa using h1, h2, h3, ?_, ?_, h6⟩
  · have : (zs.map Int.toNat).map (fun (n : Nat) => Value.int .u64 (n : Int)) = zs.map (Value.int .u64) := by
      rw [List.map_map]
      apply List.map_congr_left
      intro n hn
      obtain ⟨m, rfl, _⟩ := pick_u64 (h5 n hn)
      simp
    rw [this]; exact h4
  · intro n hn
    obtain ⟨z, hz, rfl⟩ := List.mem_map.1 hn
    obtain ⟨m, rfl, hm⟩ := pick_u64 (h5 z hz)
    simpa using hm
end
end Go.Proofs.Ytfnimpgphagnfaa
