/- Layer 13 (block): what rising makes rises. No program is in sight here. -/
import Derived.Test.YtnbinodhdgnjlaaBlockRise
import Derived.Test.YtnbinodhdgnjlaaBytesOrd
namespace Go.Proofs.Ytnbinodhdgnjlaa.Bk
set_option linter.unusedVariables false
set_option linter.unusedSimpArgs false
open Go.RowKit
open Go.Op (bytesLess)
def Srt (l : List Pr) : Prop := l.Pairwise (fun a b => bytesLess a.1 b.1 = true)
theorem posF_lt {k : List UInt8} : ∀ {l : List Pr} {x : Pr}, x ∈ l.take (posF k l) → bytesLess x.1 k = true
  | [], x, h => by simp at h
  | q :: l, x, h => by
    rw [posF] at h
    split at h
    · rename_i hq
      rw [List.take_succ_cons] at h
      rcases List.mem_cons.1 h with rfl | h
      · exact hq
      · exact posF_lt h
    · simp at h
theorem posF_ge {k : List UInt8} : ∀ {l : List Pr} (h : posF k l < l.length), bytesLess l[posF k l].1 k = false
  | [], h => by simp at h
  | q :: l, h => by
    by_cases hq : bytesLess q.1 k = true
    · have e : posF k (q :: l) = posF k l + 1 := by rw [posF, if_pos hq]
      have h2 : posF k l < l.length := by rw [e] at h; simpa using h
      have := posF_ge h2
      have e2 : (q :: l)[posF k (q :: l)] = l[posF k l] := by simp only [e, List.getElem_cons_succ]
      rw [e2]; exact this
    · have e : posF k (q :: l) = 0 := by rw [posF, if_neg hq]
      have e2 : (q :: l)[posF k (q :: l)] = q := by simp only [e, List.getElem_cons_zero]
      rw [e2]; simpa using hq
theorem insF_srt {out : List Pr} (h : Srt out) (p : Pr) : Srt (insF out p) := by
  unfold insF
  split
  · exact h
  · rename_i hne
    have hle := posF_le p.1 out
    have hd : ∀ y ∈ out.drop (posF p.1 out), bytesLess p.1 y.1 = true := by
      intro y hy
      by_cases hlt : posF p.1 out < out.length
      · have hge := posF_ge hlt
        have hne2 : (out[posF p.1 out]).1 ≠ p.1 := fun e => hne ⟨hlt, by rw [List.getD_eq_getElem?_getD, List.getElem?_eq_getElem hlt]; exact e⟩
        have hlt2 : bytesLess p.1 (out[posF p.1 out]).1 = true := by
          cases hc : bytesLess p.1 (out[posF p.1 out]).1 with
          | true => rfl
          | false => exact absurd (bl_total hge hc) hne2
        rw [List.drop_eq_getElem_cons hlt] at hy
        rcases List.mem_cons.1 hy with rfl | hy
        · exact hlt2
        · obtain ⟨j, hj, rfl⟩ := List.getElem_of_mem hy
          rw [List.getElem_drop]
          rw [List.length_drop] at hj
          exact bl_trans hlt2 (List.pairwise_iff_getElem.1 h _ _ hlt (by omega) (by omega))
      · rw [List.drop_of_length_le (by omega)] at hy; cases hy
    have ht : ∀ x ∈ out.take (posF p.1 out), bytesLess x.1 p.1 = true := fun x hx => posF_lt hx
    unfold Srt
    rw [List.append_assoc, List.pairwise_append]
    refine ⟨h.sublist (List.take_sublist _ _), ?_, fun x hx y hy => ?_⟩
    · rw [List.pairwise_append]
      exact ⟨List.pairwise_singleton _ _, h.sublist (List.drop_sublist _ _), fun x hx y hy => by rw [List.mem_singleton] at hx; subst hx; exact hd y hy⟩
    · rcases List.mem_append.1 hy with hy | hy
      · rw [List.mem_singleton] at hy; subst hy; exact ht x hx
      · exact bl_trans (ht x hx) (hd y hy)
theorem riseN_srt (l : List Pr) : ∀ i, Srt (riseN l i)
  | 0 => List.Pairwise.nil
  | i + 1 => insF_srt (riseN_srt l i) _
theorem rise_sorted (l : List Pr) : ∀ i, i + 1 < (riseF l).length → bytesLess ((riseF l).getD i noPr).1 ((riseF l).getD (i + 1) noPr).1 = true := fun i hi => by
  have h := riseN_srt l (min l.length 60)
  have := List.pairwise_iff_getElem.1 h i (i + 1) (by unfold riseF at hi; omega) hi (by omega)
  rw [List.getD_eq_getElem?_getD, List.getD_eq_getElem?_getD, List.getElem?_eq_getElem (by unfold riseF at hi ⊢; omega), List.getElem?_eq_getElem hi]
  exact this
/-- of what rises a block is made, or it is too big -/
theorem chk_rise {l : List Pr} {p : Int} (h1 : 1 ≤ p) (h2 : p ≤ 64) (hs : ∀ i, i + 1 < l.length → bytesLess (l.getD i noPr).1 (l.getD (i + 1) noPr).1 = true) : chkF l p = 0 ∨ chkF l p = 14 := by
  unfold chkF
  rw [if_neg (by omega)]
  split
  · exact .inr rfl
  · rw [if_pos (riseB_iff.2 hs)]; exact .inl rfl
end Go.Proofs.Ytnbinodhdgnjlaa.Bk
