/- How a struct of two numbers and bytes is opened. No program is in sight here. -/
import Derived.Test.YtmjhffohfppnaaaOpen
import Derived.Lib.SmallJoins
namespace Go.Proofs.Ytmjhffohfppnaaa
set_option linter.unusedVariables false
set_option linter.unusedSimpArgs false
open Go.ChangeShapes Go.WideShapes Go.ChangeAt Go.RowKit Go.Joins Go.Deep
section
variable {H : Type} {P : Program} {w : World} {enc : TypeId × Value → H}
theorem open_nums_at {base : Nat} {spare : Nat → Bool} {held : Bool} {t e : TypeId} {k : IntKind} {v : Value} {y : DataW H × List MemPlace} {fuel : Nat} (ht : P.underlying t = some (.slice e)) (he : P.underlying e = some (.int k)) (hc : P.cellsOf e = 1)
    (hf : DataW.trod enc P w base spare held fuel t [v] = some y) :
    ∃ ad len cap, ∃ zs : List Int, v = .slice ad len cap ∧ zs.length = len ∧ len ≤ cap ∧ cap ≤ maxLen ∧ Row w ad (zs.map (Value.int k)) ∧ (∀ n ∈ zs, (Lit.int k n).wf = true) := by
  rcases open_ints ht he hc hf with ⟨hcs, hx⟩ | ⟨x, l, c, zs, hcs, _, hl, hm, hz, hx, hcell, hwz⟩
  · simp only [List.cons.injEq, and_true] at hcs
    exact ⟨none, 0, 0, [], hcs, rfl, Nat.le_refl _, Nat.zero_le _, Row.nil _ _, by simp⟩
  · simp only [List.cons.injEq, and_true] at hcs
    have hzl : l ≤ zs.length := by rw [hz]; split <;> omega
    have htl : (zs.take l).length = l := by simp; omega
    refine ⟨some x, l, c, zs.take l, hcs, htl, hl, hm, ?_, fun n hn => hwz n (List.mem_of_mem_take hn)⟩
    intro i u hi
    have hil : i < l := by
      have := (List.getElem?_eq_some_iff.1 hi).1
      rw [List.length_map, htl] at this; exact this
    obtain ⟨b, off, rfl, hcc⟩ := ints_at hcell (by omega)
    refine ⟨b, off, rfl, ?_⟩
    rw [hcc i (by omega)]
    rw [List.getElem?_map, List.getElem?_take, if_pos hil] at hi
    rw [List.getD_eq_getElem?_getD]
    have : i < zs.length := by omega
    simp [this] at hi ⊢
    exact hi
theorem open_iib {base : Nat} {spare : Nat → Bool} {held : Bool} {r : Reach} {b0 : Nat} {t e : TypeId} {f0 f1 f2 : Field} {v : Value} {d : DataW H} {ps : List MemPlace} (hs : P.underlying t = some (.struct #[f0, f1, f2])) (hone : oneCellFields P #[f0, f1, f2] = true) (hC : P.cellsOf t = 3)
    (h0 : P.underlying f0.type = some (.int .i64)) (h1 : P.underlying f1.type = some (.int .i64)) (h2 : P.underlying f2.type = some (.slice e)) (he : P.underlying e = some (.int .u8)) (hc : P.cellsOf e = 1)
    (hval : Value.okWide P w r b0 t v) (hd : DataW.Trod enc P w base spare held t v d ps) :
    ∃ (a b : Int) (ad : Option Addr) (cap : Nat) (l : List UInt8), v = .agg #[.int .i64 a, .int .i64 b, .slice ad l.length cap] ∧ (-9223372036854775808 ≤ a ∧ a ≤ 9223372036854775807) ∧ (-9223372036854775808 ≤ b ∧ b ≤ 9223372036854775807) ∧ l.length ≤ cap ∧ cap ≤ maxLen ∧ Bytes w ad l := by
  obtain ⟨c0, c1, c2, y0, y1, y2, m, rfl, _, _, hy0, hy1, hy2⟩ := open_agg3 hs hone hC hval hd
  obtain ⟨a, e1, _, w1⟩ := DataW.trod_int h0 hy0
  obtain ⟨b, e2, _, w2⟩ := DataW.trod_int h1 hy1
  obtain ⟨ad, len, cap, zs, rfl, q1, q2, q3, q4, q5⟩ := open_nums_at h2 he hc hy2
  simp only [List.cons.injEq, and_true] at e1 e2
  subst e1 e2
  have hbv : bv (zs.map (fun n => UInt8.ofNat n.toNat)) = zs.map (Value.int .u8) := by
    unfold bv
    rw [List.map_map]
    apply List.map_congr_left
    intro n hn
    obtain ⟨x, rfl⟩ := pick_u8 (q5 n hn)
    simp
  refine ⟨a, b, ad, cap, zs.map (fun n => UInt8.ofNat n.toNat), by rw [List.length_map, q1], bounds_i64 w1, bounds_i64 w2, by rw [List.length_map, q1]; exact q2, q3, Row.bytes (by rw [hbv]; exact q4)⟩
end
end Go.Proofs.Ytmjhffohfppnaaa
