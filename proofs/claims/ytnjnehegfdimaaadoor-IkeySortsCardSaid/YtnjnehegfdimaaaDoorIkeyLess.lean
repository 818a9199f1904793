/- Layer 5 (ikey): the order of versions, in the program and in the reference. -/
import Derived.Test.YtnjnehegfdimaaaDoorIkeySortM
import Derived.Lib.Bytealg
import Derived.WalkLawsBesides
namespace Go.Proofs.YtnjnehegfdimaaaDoor
set_option linter.unusedVariables false
set_option linter.unusedSimpArgs false
open Go.RowKit Ikey Varint
open Go.Op (bytesLess)
theorem cmp_spec : ∀ a b : List UInt8, Lib.compareBytes a b = if a = b then 0 else if bytesLess a b = true then -1 else 1
  | [], [] => rfl
  | [], _ :: _ => by simp [Lib.compareBytes, bytesLess]
  | _ :: _, [] => by simp [Lib.compareBytes, bytesLess]
  | x :: a, y :: b => by
    have ih := cmp_spec a b
    unfold Lib.compareBytes
    by_cases h1 : x < y
    · have h2 : x ≠ y := fun e => by subst e; exact UInt8.lt_irrefl _ h1
      have h3 : bytesLess (x :: a) (y :: b) = true := (bl_cons x y a b).2 (.inl (UInt8.lt_iff_toNat_lt.1 h1))
      rw [if_pos h1, if_neg (fun e => h2 (List.cons.inj e).1), if_pos h3]
    · by_cases h2 : y < x
      · have h4 : x ≠ y := fun e => by subst e; exact UInt8.lt_irrefl _ h2
        have h3 : ¬ bytesLess (x :: a) (y :: b) = true := fun h => by
          rcases (bl_cons x y a b).1 h with h5 | ⟨h5, _⟩
          · exact h1 (UInt8.lt_iff_toNat_lt.2 h5)
          · exact h4 h5
        rw [if_neg h1, if_pos h2, if_neg (fun e => h4 (List.cons.inj e).1), if_neg h3]
      · have h4 : x = y := UInt8.le_antisymm (UInt8.not_lt.1 h2) (UInt8.not_lt.1 h1)
        subst h4
        have h3 : bytesLess (x :: a) (x :: b) = bytesLess a b := bl_append [x] a b
        rw [if_neg h1, if_neg h2, ih, h3]
        by_cases e : a = b
        · rw [if_pos e, if_pos (by rw [e])]
        · rw [if_neg e, if_neg (fun h => e (List.cons.inj h).2)]
set_option maxRecDepth 100000 in
theorem CompareString_any (a b : List UInt8) (w : World) :
    Calls Tryd.prog 24 #[.string (str a), .string (str b)] w fun e w' => e = .returned (.int .i64 (Lib.compareBytes a b)) ∧ w = w' := by
  have h := Lib.run_compareString (P := Tryd.prog) (str a) (str b) w
  rw [str_list, str_list] at h
  go_enter Tryd.func24, Tryd.ntmps24
  go_wp2
  rw [run_callFunc_extern Tryd.func28 (by kernel_rfl) (by kernel_rfl) (by kernel_rfl) (e := Extern.BytealgCompare.compare) (by kernel_rfl), h]
  simp only [Result.andThen]
  rw [Oper.upon_value]
  go_wp2
  go_ret
  exact ⟨rfl, rfl⟩
theorem Compare_any (a b : List UInt8) (w : World) :
    Calls Tryd.prog 20 #[.string (str a), .string (str b)] w fun e w' => e = .returned (.int .i64 (Lib.compareBytes a b)) ∧ w = w' := by
  go_enter Tryd.func20, Tryd.ntmps20
  go_wp2_with (go_at_call 24; refine (CompareString_any a b _).mono ?_; rintro e w' ⟨rfl, rfl⟩)
  go_ret
  exact ⟨rfl, rfl⟩
set_option maxRecDepth 100000 in
set_option maxHeartbeats 1000000 in
theorem Less_any (k k' : List UInt8) (s d s' d' : Int) (w : World) :
    Calls Tryd.prog 9 #[ver k s d, ver k' s' d'] w fun e w' => e = .returned (.bool (lessF k s d k' s' d')) ∧ Gr w w' := by
  have HC := Lib.hid (fun w => Compare_any k k' w)
  have hg : Gr w ((w.alloc (.cells #[.string (str k), .int .i64 s, .int .i64 d] 23)).alloc (.cells #[.string (str k'), .int .i64 s', .int .i64 d'] 23)) := (Gr.alloc _ _).trans (Gr.alloc _ _)
  unfold ver
  by_cases hk : k = k'
  · rw [show Lib.compareBytes k k' = 0 by rw [cmp_spec, if_pos hk]] at HC
    by_cases h1 : s' < s
    · have HL := Lib.hid (show lessF k s d k' s' d' = true by unfold lessF; rw [if_neg (by simp [hk]), if_pos (by omega)]; simpa using h1)
      clear hk
      go_enter Tryd.func9, Tryd.ntmps9
      go_wp2_with (go_at_call 20; refine (HC.out _).mono ?_; rintro e w' ⟨rfl, rfl⟩)
      go_ret
      exact ⟨by rw [HL.out]; rfl, hg⟩
    · have b1 : decide (s' < s) = false := by simpa using h1
      by_cases h2 : s = s'
      · subst h2
        by_cases h3 : d' < d
        · have HL := Lib.hid (show lessF k s d k' s d' = true by unfold lessF; rw [if_neg (by simp [hk]), if_neg (by simp)]; simpa using h3)
          clear hk
          go_enter Tryd.func9, Tryd.ntmps9
          go_wp2_with (go_at_call 20; refine (HC.out _).mono ?_; rintro e w' ⟨rfl, rfl⟩)
          go_ret
          exact ⟨by rw [HL.out]; rfl, hg⟩
        · have b3 : decide (d' < d) = false := by simpa using h3
          have HL := Lib.hid (show lessF k s d k' s d' = false by unfold lessF; rw [if_neg (by simp [hk]), if_neg (by simp)]; exact b3)
          clear hk
          go_enter Tryd.func9, Tryd.ntmps9
          go_wp2_with (go_at_call 20; refine (HC.out _).mono ?_; rintro e w' ⟨rfl, rfl⟩)
          go_ret
          exact ⟨by rw [HL.out]; rfl, hg⟩
      · have b2 : (s == s') = false := by rw [beq_eq_false_iff_ne]; exact h2
        have HL := Lib.hid (show lessF k s d k' s' d' = false by unfold lessF; rw [if_neg (by simp [hk]), if_pos h2]; exact b1)
        clear hk h2
        go_enter Tryd.func9, Tryd.ntmps9
        go_wp2_with (go_at_call 20; refine (HC.out _).mono ?_; rintro e w' ⟨rfl, rfl⟩)
        go_ret
        exact ⟨by rw [HL.out]; rfl, hg⟩
  · cases hb : bytesLess k k' with
    | true =>
      rw [show Lib.compareBytes k k' = -1 by rw [cmp_spec, if_neg hk, if_pos hb]] at HC
      have HL := Lib.hid (show lessF k s d k' s' d' = true by unfold lessF; rw [if_pos hk]; exact hb)
      clear hk hb
      go_enter Tryd.func9, Tryd.ntmps9
      go_wp2_with (go_at_call 20; refine (HC.out _).mono ?_; rintro e w' ⟨rfl, rfl⟩)
      go_ret
      exact ⟨by rw [HL.out]; rfl, hg⟩
    | false =>
      rw [show Lib.compareBytes k k' = 1 by rw [cmp_spec, if_neg hk, if_neg (by rw [hb]; decide)]] at HC
      have HL := Lib.hid (show lessF k s d k' s' d' = false by unfold lessF; rw [if_pos hk]; exact hb)
      clear hk hb
      go_enter Tryd.func9, Tryd.ntmps9
      go_wp2_with (go_at_call 20; refine (HC.out _).mono ?_; rintro e w' ⟨rfl, rfl⟩)
      go_ret
      exact ⟨by rw [HL.out]; rfl, hg⟩
set_option maxRecDepth 100000 in
set_option maxHeartbeats 1000000 in
theorem rLess_any (k k' : List UInt8) (s d s' d' : Int) (w : World) :
    Calls Tryd.prog 10 #[ver k s d, ver k' s' d'] w fun e w' => e = .returned (.bool (lessF k s d k' s' d')) ∧ Gr w w' := by
  have hg : Gr w ((w.alloc (.cells #[.string (str k), .int .i64 s, .int .i64 d] 23)).alloc (.cells #[.string (str k'), .int .i64 s', .int .i64 d'] 23)) := (Gr.alloc _ _).trans (Gr.alloc _ _)
  unfold ver
  by_cases hk : k = k'
  · subst hk
    by_cases h2 : s = s'
    · subst h2
      have HL := Lib.hid (show lessF k s d k s d' = decide (d' < d) by unfold lessF; rw [if_neg (by simp), if_neg (by simp)])
      go_enter Tryd.func10, Tryd.ntmps10
      go_wp2
      go_ret
      exact ⟨by rw [HL.out]; rfl, hg⟩
    · have b2 : (s != s') = true := by rw [bne_iff_ne]; exact h2
      have HL := Lib.hid (show lessF k s d k s' d' = decide (s' < s) by unfold lessF; rw [if_neg (by simp), if_pos h2])
      clear h2
      go_enter Tryd.func10, Tryd.ntmps10
      go_wp2
      go_ret
      exact ⟨by rw [HL.out]; rfl, hg⟩
  · have HL := Lib.hid (show lessF k s d k' s' d' = bytesLess k k' by unfold lessF; rw [if_pos hk])
    have b1 : (k == k') = false := by rw [beq_eq_false_iff_ne]; exact hk
    have b2 : (k != k') = true := by rw [bne_iff_ne]; exact hk
    clear hk
    go_enter Tryd.func10, Tryd.ntmps10
    go_wp2
    go_ret
    exact ⟨by rw [HL.out]; rfl, hg⟩
end Go.Proofs.YtnjnehegfdimaaaDoor
