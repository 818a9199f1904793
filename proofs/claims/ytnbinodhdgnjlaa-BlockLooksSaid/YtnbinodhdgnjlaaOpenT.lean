/- How a slice of steps (a number and a text each) is opened. -/
import Derived.Test.YtnbinodhdgnjlaaOpenP
namespace Go.Proofs.Ytnbinodhdgnjlaa
set_option linter.unusedVariables false
set_option linter.unusedSimpArgs false
open Go.ChangeShapes Go.WideShapes Go.ChangeAt Go.RowKit Go.Deep
/-- the cells of steps -/
def stv (l : List (Int × List UInt8)) : List Value := l.flatMap fun s => [.int .i64 s.1, .string (str s.2)]
theorem stv_length (l : List (Int × List UInt8)) : (stv l).length = l.length * 2 := by
  induction l with
  | nil => rfl
  | cons p l ih => simp only [stv, List.flatMap_cons, List.length_append, List.length_cons, List.length_nil] at ih ⊢; omega
theorem stv_get (l : List (Int × List UInt8)) : ∀ i (h : i < l.length), (stv l)[2 * i]? = some (.int .i64 l[i].1) ∧ (stv l)[2 * i + 1]? = some (.string (str l[i].2)) := by
  induction l with
  | nil => intro i h; simp at h
  | cons p l ih =>
    intro i h
    cases i with
    | zero => simp [stv]
    | succ i =>
      have := ih i (by simpa using h)
      rw [show 2 * (i + 1) = 2 * i + 1 + 1 by omega]
      simpa [stv] using this
theorem Row.step {w : World} {ad : Option Addr} {l : List (Int × List UInt8)} (h : Row w ad (stv l)) (i : Nat) (hi : i < l.length) :
    ∃ b off, ad = some ⟨b, off, none⟩ ∧ w.cell? ⟨b, off + i * 2, none⟩ = some (.int .i64 l[i].1) ∧ w.cell? ⟨b, off + i * 2 + 1, none⟩ = some (.string (str l[i].2)) := by
  obtain ⟨h1, h2⟩ := stv_get l i hi
  obtain ⟨b, off, e, c1⟩ := h (2 * i) _ h1
  obtain ⟨b', off', e', c2⟩ := h (2 * i + 1) _ h2
  rw [e] at e'
  cases e'
  exact ⟨b, off, e, by rw [Nat.mul_comm i 2]; exact c1, by rw [Nat.mul_comm i 2, Nat.add_assoc]; exact c2⟩
section
variable {H : Type} {P : Program} {w : World} {enc : TypeId × Value → H}
def num : Value → Int
  | .int _ n => n
  | _ => 0
theorem open_steps {base : Nat} {spare : Nat → Bool} {held : Bool} {r : Reach} {b0 : Nat} {t e : TypeId} {f0 f1 : Field} {v : Value} {d : DataW H} {ps : List MemPlace} (ht : P.underlying t = some (.slice e)) (he : P.underlying e = some (.struct #[f0, f1]))
    (ce : P.cellsOf e = 2) (o0 : f0.offset = 0) (o1 : f1.offset = 1) (c0 : P.cellsOf f0.type = 1) (c1 : P.cellsOf f1.type = 1) (s0 : P.underlying f0.type = some (.int .i64)) (s1 : P.underlying f1.type = some .string)
    (hval : Value.okWide P w r b0 t v) (hd : DataW.Trod enc P w base spare held t v d ps) :
    ∃ ad len cap, ∃ l : List (Int × List UInt8), v = .slice ad len cap ∧ l.length = len ∧ len ≤ cap ∧ cap ≤ maxLen ∧ Row w ad (stv l) := by
  obtain ⟨ad, len, cap, rfl⟩ := okWide_slice ht hval
  obtain ⟨fuel, hf⟩ := hd
  rcases open_slice_pairs ht he ce o0 o1 c0 c1 hf with ⟨hcs, hx⟩ | ⟨a, l, c, m, n, V0, V1, D0, D1, P0, P1, hcs, _, hl, hm, hmm, hx, hcell⟩
  · simp [Value.cells] at hcs
    obtain ⟨e1, e2, e3⟩ := hcs
    subst e1 e2 e3
    exact ⟨none, 0, 0, [], rfl, rfl, Nat.le_refl _, Nat.zero_le _, Row.nil _ _⟩
  · simp [Value.cells] at hcs
    obtain ⟨e1, e2, e3⟩ := hcs
    subst e1 e2 e3
    have hlm : len ≤ m := by rw [hmm]; split <;> omega
    have hv : ∀ i, i < m → (∃ n : Int, V0 i = .int .i64 n) ∧ ∃ s : ByteArray, V1 i = .string s := by
      intro i hi
      obtain ⟨_, _, h3, h4⟩ := hcell i hi
      obtain ⟨s, q1, _, _⟩ := DataW.trod_int s0 h3
      obtain ⟨s', q3, _, _⟩ := DataW.trod_string s1 h4
      simp only [List.cons.injEq, and_true] at q1 q3
      exact ⟨⟨s, q1⟩, s', q3⟩
    have hlen : ((List.range len).map fun i => ((num (V0 i), txt (V1 i)) : Int × List UInt8)).length = len := by simp
    refine ⟨some a, len, cap, (List.range len).map fun i => (num (V0 i), txt (V1 i)), rfl, hlen, hl, hm, ?_⟩
    intro i u hi
    have hil : i < 2 * len := by
      have := (List.getElem?_eq_some_iff.1 hi).1
      rw [stv_length, hlen] at this; omega
    obtain ⟨b, off, spot⟩ := a
    have h0 := (hcell 0 (by omega)).1
    have hspot : spot = none := by simpa [Addr.add] using World.cell?_spot h0
    subst hspot
    refine ⟨b, off, rfl, ?_⟩
    obtain ⟨j, hj⟩ : ∃ j, j = i / 2 := ⟨_, rfl⟩
    have hjl : j < ((List.range len).map fun i => ((num (V0 i), txt (V1 i)) : Int × List UInt8)).length := by rw [hlen]; omega
    obtain ⟨g1, g2⟩ := stv_get _ j hjl
    obtain ⟨k1, k2, _, _⟩ := hcell j (by omega)
    rw [Go.WideShapes.add_plain] at k1 k2
    obtain ⟨⟨s, w1⟩, s', w2⟩ := hv j (by omega)
    simp only [List.getElem_map, List.getElem_range] at g1 g2
    rw [w1] at g1 k1
    rw [w2] at g2 k2
    have hmod : i = 2 * j ∨ i = 2 * j + 1 := by omega
    rcases hmod with rfl | rfl
    · rw [g1] at hi
      cases hi
      rw [Nat.mul_comm 2 j, k1]; simp [num]
    · rw [g2] at hi
      cases hi
      rw [Nat.mul_comm 2 j, ← Nat.add_assoc] at *
      rw [k2]; simp [txt, str_eta]
end
end Go.Proofs.Ytnbinodhdgnjlaa
