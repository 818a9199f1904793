/- Layer 5 (ikey): a version's bytes, in the program and in the reference. -/
import Derived.Test.YtnjnehegfdimaaaDoorIkeyPart
import Derived.Test.YtnjnehegfdimaaaDoorVarintMath
namespace Go.Proofs.YtnjnehegfdimaaaDoor
set_option linter.unusedVariables false
set_option linter.unusedSimpArgs false
open Go.RowKit Ikey Varint
open Go.Op (bytesLess)
/-- a version, as a value -/
def ver (k : List UInt8) (s d : Int) : Value := .agg #[.string (str k), .int .i64 s, .int .i64 d]
/-- it is one -/
def okV (k : List UInt8) (s d : Int) : Bool := !k.isEmpty && decide (k.length ≤ 64) && decide (0 ≤ s) && decide (s ≤ 72057594037927935) && (decide (d = 0) || decide (d = 1))
theorem okV_of {k : List UInt8} {s d : Int} (h : okV k s d = true) : k ≠ [] ∧ k.length ≤ 64 ∧ 0 ≤ s ∧ s ≤ 72057594037927935 ∧ (d = 0 ∨ d = 1) := by
  simpa [okV, and_assoc] using h
theorem okV_mk {k : List UInt8} {s d : Int} (h : k ≠ [] ∧ k.length ≤ 64 ∧ 0 ≤ s ∧ s ≤ 72057594037927935 ∧ (d = 0 ∨ d = 1)) : okV k s d = true := by
  simpa [okV, and_assoc] using h
theorem okV_no {k : List UInt8} {s d : Int} (h : ¬ (k ≠ [] ∧ k.length ≤ 64 ∧ 0 ≤ s ∧ s ≤ 72057594037927935 ∧ (d = 0 ∨ d = 1))) : okV k s d = false := by
  rw [Bool.eq_false_iff]; exact fun k => h (okV_of k)
def chk (k : List UInt8) (s d : Int) : Int := if okV k s d then 0 else 1
theorem chk_yes {k : List UInt8} {s d : Int} (h : okV k s d = true) : chk k s d = 0 := by unfold chk; rw [h]; rfl
theorem chk_no {k : List UInt8} {s d : Int} (h : okV k s d = false) : chk k s d = 1 := by unfold chk; rw [h]; rfl
theorem Gr.box3 {w w' : World} {a b c : Value} {t : TypeId} (g : Gr (w.alloc (.cells #[a, b, c] t)) w') :
    w'.cell? ⟨w.heap.size, 0, none⟩ = some a ∧ w'.cell? ⟨w.heap.size, 1, none⟩ = some b ∧ w'.cell? ⟨w.heap.size, 2, none⟩ = some c := by
  have h := heap_alloc_new w (.cells #[a, b, c] t)
  refine ⟨g.cell ?_, g.cell ?_, g.cell ?_⟩ <;> (rw [cell_of_row _ _ _ _ _ _ h]; rfl)
set_option maxRecDepth 100000 in
set_option maxHeartbeats 1000000 in
theorem Check_any (k : List UInt8) (s d : Int) (w : World) :
    Calls Tryd.prog 17 #[ver k s d] w fun e w' => e = .returned (.int .i64 (chk k s d)) ∧ Gr w w' := by
  unfold ver
  by_cases h : k ≠ [] ∧ k.length ≤ 64 ∧ 0 ≤ s ∧ s ≤ 72057594037927935 ∧ (d = 0 ∨ d = 1)
  · have HO := Lib.hid (okV_mk h)
    obtain ⟨h1, h2, h3, h4, h5⟩ := h
    have b1 : (k == []) = false := by rw [beq_eq_false_iff_ne]; exact h1
    have b2 : k.isEmpty = false := by cases k with | nil => exact absurd rfl h1 | cons x r => rfl
    clear h1
    rcases h5 with rfl | rfl
    all_goals
      go_enter Tryd.func17, Tryd.ntmps17
      go_wp2
      go_ret
      exact ⟨ret_int (chk_yes HO.out).symm, Gr.alloc _ _⟩
  · have HO := Lib.hid (okV_no h)
    by_cases h1 : k = []
    · subst h1
      go_enter Tryd.func17, Tryd.ntmps17
      go_wp2
      go_ret
      exact ⟨ret_int (chk_no HO.out).symm, Gr.alloc _ _⟩
    · have b1 : (k == []) = false := by rw [beq_eq_false_iff_ne]; exact h1
      have b2 : k.isEmpty = false := by cases k with | nil => exact absurd rfl h1 | cons x r => rfl
      by_cases h2 : k.length ≤ 64
      · by_cases h3 : 0 ≤ s
        · by_cases h4 : s ≤ 72057594037927935
          · have d0 : (d != 0) = true := by rw [bne_iff_ne]; exact fun e => h ⟨h1, h2, h3, h4, .inl e⟩
            have d1 : (d != 1) = true := by rw [bne_iff_ne]; exact fun e => h ⟨h1, h2, h3, h4, .inr e⟩
            have d2 : (d == 0) = false := by rw [beq_eq_false_iff_ne]; exact fun e => h ⟨h1, h2, h3, h4, .inl e⟩
            have d3 : (d == 1) = false := by rw [beq_eq_false_iff_ne]; exact fun e => h ⟨h1, h2, h3, h4, .inr e⟩
            clear h h1
            go_enter Tryd.func17, Tryd.ntmps17
            go_wp2
            go_ret
            exact ⟨ret_int (chk_no HO.out).symm, Gr.alloc _ _⟩
          · clear h h1
            go_enter Tryd.func17, Tryd.ntmps17
            go_wp2
            go_ret
            exact ⟨ret_int (chk_no HO.out).symm, Gr.alloc _ _⟩
        · clear h h1
          go_enter Tryd.func17, Tryd.ntmps17
          go_wp2
          go_ret
          exact ⟨ret_int (chk_no HO.out).symm, Gr.alloc _ _⟩
      · clear h h1
        go_enter Tryd.func17, Tryd.ntmps17
        go_wp2
        go_ret
        exact ⟨ret_int (chk_no HO.out).symm, Gr.alloc _ _⟩
set_option maxRecDepth 100000 in
set_option maxHeartbeats 1000000 in
theorem rRight_any (k : List UInt8) (s d : Int) (w : World) :
    Calls Tryd.prog 21 #[ver k s d] w fun e w' => e = .returned (.bool (okV k s d)) ∧ Gr w w' := by
  unfold ver
  by_cases h : k ≠ [] ∧ k.length ≤ 64 ∧ 0 ≤ s ∧ s ≤ 72057594037927935 ∧ (d = 0 ∨ d = 1)
  · have HO := Lib.hid (okV_mk h)
    obtain ⟨h1, h2, h3, h4, h5⟩ := h
    have b1 : (k == []) = false := by rw [beq_eq_false_iff_ne]; exact h1
    have b2 : k.isEmpty = false := by cases k with | nil => exact absurd rfl h1 | cons x r => rfl
    clear h1
    rcases h5 with rfl | rfl
    all_goals
      go_enter Tryd.func21, Tryd.ntmps21
      go_wp2
      go_ret
      exact ⟨by rw [HO.out]; rfl, Gr.alloc _ _⟩
  · have HO := Lib.hid (okV_no h)
    by_cases h1 : k = []
    · subst h1
      go_enter Tryd.func21, Tryd.ntmps21
      go_wp2
      go_ret
      exact ⟨by rw [HO.out]; rfl, Gr.alloc _ _⟩
    · have b1 : (k == []) = false := by rw [beq_eq_false_iff_ne]; exact h1
      have b2 : k.isEmpty = false := by cases k with | nil => exact absurd rfl h1 | cons x r => rfl
      by_cases h2 : k.length ≤ 64
      · by_cases h3 : 0 ≤ s
        · by_cases h4 : s ≤ 72057594037927935
          · have d0 : (d != 0) = true := by rw [bne_iff_ne]; exact fun e => h ⟨h1, h2, h3, h4, .inl e⟩
            have d1 : (d != 1) = true := by rw [bne_iff_ne]; exact fun e => h ⟨h1, h2, h3, h4, .inr e⟩
            have d2 : (d == 0) = false := by rw [beq_eq_false_iff_ne]; exact fun e => h ⟨h1, h2, h3, h4, .inl e⟩
            have d3 : (d == 1) = false := by rw [beq_eq_false_iff_ne]; exact fun e => h ⟨h1, h2, h3, h4, .inr e⟩
            clear h h1
            go_enter Tryd.func21, Tryd.ntmps21
            go_wp2
            go_ret
            exact ⟨by rw [HO.out]; rfl, Gr.alloc _ _⟩
          · clear h h1
            go_enter Tryd.func21, Tryd.ntmps21
            go_wp2
            go_ret
            exact ⟨by rw [HO.out]; rfl, Gr.alloc _ _⟩
        · clear h h1
          go_enter Tryd.func21, Tryd.ntmps21
          go_wp2
          go_ret
          exact ⟨by rw [HO.out]; rfl, Gr.alloc _ _⟩
      · clear h h1
        go_enter Tryd.func21, Tryd.ntmps21
        go_wp2
        go_ret
        exact ⟨by rw [HO.out]; rfl, Gr.alloc _ _⟩
end Go.Proofs.YtnjnehegfdimaaaDoor
