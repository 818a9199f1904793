/- Layer 14 (table): slices.Reverse at cells, Ahead walked. -/
import Derived.Test.YtpaogoehgkoaeaaGreatDoorTabFrom
import Derived.BigRegion
import Derived.Deep.LoopGhost
namespace Go.Proofs.YtpaogoehgkoaeaaGreatDoor
set_option linter.unusedVariables false
set_option linter.unusedSimpArgs false
open Go.RowKit Tab
/-- a store into an owned row of elements of many cells -/
theorem Owns.storeS {w : World} {base : Nat} {e : TypeId} {size : Nat} {ad : Option Addr} {cap n : Nat} {xs : List Value} (h : Owns w base e size ad cap n xs) {g i : Nat} (had : ad = some ⟨g, 0, .none⟩) (hi : i < n * size) (u : Value) :
    Owns (w.setCell ⟨g, i, .none⟩ u) base e size ad cap n (xs.set i u) := by
  obtain ⟨h1, h2, h3, ⟨e1, _⟩ | ⟨g', cur, fr, e1, e2, hg, hfr, hs, ht⟩⟩ := h
  · rw [e1] at had; cases had
  · rw [e1] at had
    cases had
    have hcur : n * size ≤ cap * size := Nat.mul_le_mul_right _ h2
    rw [setCell_eq_setRow w g i cur e fr u hg]
    refine ⟨by simp [h1], h2, h3, .inr ⟨g, _, fr, e1, e2, setRow_heap w g cur _ e fr hg, by simpa using hfr, by simpa using hs, ?_⟩⟩
    rw [Array.toList_setIfInBounds, ← ht]
    apply List.ext_getElem?
    intro j
    simp only [List.getElem?_take, List.getElem?_set, List.length_take]
    by_cases h1 : j < n * size
    · by_cases h2 : i = j
      · subst h2
        have h4 : i < min (n * size) cur.toList.length := by rw [Nat.lt_min]; exact ⟨h1, by simp; omega⟩
        have h5 : i < cur.toList.length := by simp; omega
        simp only [h1, h4, h5, if_true]
      · simp only [h1, h2, if_true, if_false]
    · have h2 : ¬ i = j := by omega
      simp only [h1, h2, if_false]
theorem cv_set {D : List Ci} {i : Nat} (hi : i < D.length) (c : Ci) : ((((cv D).set (i * 4) (.string (str c.key))).set (i * 4 + 1) (.int .i64 c.seq)).set (i * 4 + 2) (.int .i64 c.kind)).set (i * 4 + 3) (.string (str c.val)) = cv (D.set i c) := by
  have hl := cv_length D
  apply List.ext_getElem?
  intro j
  by_cases hj : j < D.length * 4
  · have hq0 : j / 4 < (D.set i c).length := by rw [List.length_set]; omega
    have e1 : (cv (D.set i c))[j]? = (c4 (D.set i c)[j / 4])[j % 4]? := by
      have := cv_get (D.set i c) (j / 4) hq0 (j % 4) (by omega)
      rwa [show j / 4 * 4 + j % 4 = j by omega] at this
    have e2 : (cv D)[j]? = (c4 D[j / 4])[j % 4]? := by
      have := cv_get D (j / 4) (by omega) (j % 4) (by omega)
      rwa [show j / 4 * 4 + j % 4 = j by omega] at this
    rw [e1, List.getElem_set]
    simp only [List.getElem?_set, List.length_set, hl, e2]
    by_cases hq : j / 4 = i
    · subst hq
      have : j % 4 = 0 ∨ j % 4 = 1 ∨ j % 4 = 2 ∨ j % 4 = 3 := by omega
      rcases this with h | h | h | h
      · rw [if_neg (by omega), if_neg (by omega), if_neg (by omega), if_pos (by omega), if_pos (by omega), if_pos rfl, h]; rfl
      · rw [if_neg (by omega), if_neg (by omega), if_pos (by omega), if_pos (by omega), if_pos rfl, h]; rfl
      · rw [if_neg (by omega), if_pos (by omega), if_pos (by omega), if_pos rfl, h]; rfl
      · rw [if_pos (by omega), if_pos (by omega), if_pos rfl, h]; rfl
    · rw [if_neg (by omega), if_neg (by omega), if_neg (by omega), if_neg (by omega), if_neg (fun e => hq e.symm)]
  · rw [List.getElem?_eq_none (by simp only [List.length_set]; omega), List.getElem?_eq_none (by rw [cv_length, List.length_set]; omega)]
/-- a whole cell stored into an owned row -/
theorem Owns.cell4 {w : World} {base : Nat} {ad : Option Addr} {cap : Nat} {D : List Ci} (h : Owns w base 56 4 ad cap D.length (cv D)) {g i : Nat} (had : ad = some ⟨g, 0, .none⟩) (hi : i < D.length) (c : Ci) :
    Owns ((((w.setCell ⟨g, i * 4, none⟩ (.string (str c.key))).setCell ⟨g, i * 4 + 1, none⟩ (.int .i64 c.seq)).setCell ⟨g, i * 4 + 2, none⟩ (.int .i64 c.kind)).setCell ⟨g, i * 4 + 3, none⟩ (.string (str c.val))) base 56 4 ad cap (D.set i c).length (cv (D.set i c)) := by
  have := (((h.storeS had (i := i * 4) (by omega) (.string (str c.key))).storeS had (i := i * 4 + 1) (by omega) (.int .i64 c.seq)).storeS had (i := i * 4 + 2) (by omega) (.int .i64 c.kind)).storeS had (i := i * 4 + 3) (by omega) (.string (str c.val))
  rw [cv_set hi] at this
  rwa [List.length_set]
theorem grown4 (w : World) (g o : Nat) (a b c d : Value) : w.grownBy ((((w.setCell ⟨g, o, none⟩ a).setCell ⟨g, o + 1, none⟩ b).setCell ⟨g, o + 2, none⟩ c).setCell ⟨g, o + 3, none⟩ d) (some g) :=
  grown_trans (grown_trans (grown_trans (grown_set w g o a) (grown_set _ g (o + 1) b)) (grown_set _ g (o + 2) c)) (grown_set _ g (o + 3) d)
theorem Owns.ci {w : World} {base : Nat} {cap : Nat} {D : List Ci} {g : Nat} (h : Owns w base 56 4 (some ⟨g, 0, none⟩) cap D.length (cv D)) {i : Nat} (hi : i < D.length) :
    (w.cell? ⟨g, i * 4, none⟩ = some (.string (str D[i].key)) ∧ w.cell? ⟨g, i * 4 + 1, none⟩ = some (.int .i64 D[i].seq) ∧ w.cell? ⟨g, i * 4 + 2, none⟩ = some (.int .i64 D[i].kind) ∧ w.cell? ⟨g, i * 4 + 3, none⟩ = some (.string (str D[i].val))) ∧
    (w.frozen? ⟨g, i * 4, none⟩ = false ∧ w.frozen? ⟨g, i * 4 + 1, none⟩ = false ∧ w.frozen? ⟨g, i * 4 + 2, none⟩ = false ∧ w.frozen? ⟨g, i * 4 + 3, none⟩ = false) := by
  obtain ⟨b, off, e, c0, c1, c2, c3⟩ := h.row.ci i hi
  cases e
  rw [Nat.zero_add] at c0 c1 c2 c3
  exact ⟨⟨c0, c1, c2, c3⟩, h.unfrozen rfl (by omega), h.unfrozen rfl (by omega), h.unfrozen rfl (by omega), h.unfrozen rfl (by omega)⟩
/-- so many turned at both ends -/
def mixF (C : List Ci) (k : Nat) : List Ci := (List.range C.length).map fun t => if t < k ∨ C.length ≤ t + k then C.getD (C.length - 1 - t) zeroC else C.getD t zeroC
theorem mix_len (C : List Ci) (k : Nat) : (mixF C k).length = C.length := by simp [mixF]
theorem mix_get {C : List Ci} {k t : Nat} (h : t < (mixF C k).length) : (mixF C k)[t] = if t < k ∨ C.length ≤ t + k then C.getD (C.length - 1 - t) zeroC else C.getD t zeroC := by simp [mixF]
theorem mix_zero (C : List Ci) : mixF C 0 = C := by
  apply List.ext_getElem (mix_len C 0)
  intro t h1 h2
  rw [mix_get, if_neg (by omega), getD_get _ h2]
theorem mix_end {C : List Ci} {k : Nat} (h : C.length ≤ 2 * k + 1) : mixF C k = C.reverse := by
  apply List.ext_getElem (by rw [mix_len, List.length_reverse])
  intro t h1 h2
  rw [List.length_reverse] at h2
  rw [mix_get, List.getElem_reverse]
  split
  · rw [getD_get _ (by omega)]
  · rw [getD_get _ h2]
    congr 1
    omega
theorem mix_step {C : List Ci} {k j : Nat} (hj : j + k + 1 = C.length) (hk : k < j) (h1 : k < (mixF C k).length) (h2 : j < (mixF C k).length) : ((mixF C k).set k (mixF C k)[j]).set j (mixF C k)[k] = mixF C (k + 1) := by
  apply List.ext_getElem (by simp [mix_len])
  intro t h3 h4
  rw [mix_len] at h4
  rw [List.getElem_set, List.getElem_set]
  simp only [mix_get]
  split
  · rename_i e
    subst e
    rw [if_neg (by omega), if_pos (by omega)]
    congr 1; omega
  · split
    · rename_i e
      subst e
      rw [if_neg (by omega), if_pos (by omega)]
      congr 1; omega
    · by_cases hh : t < k ∨ C.length ≤ t + k
      · rw [if_pos hh, if_pos (by omega)]
      · rw [if_neg hh, if_neg (by omega)]
end Go.Proofs.YtpaogoehgkoaeaaGreatDoor
