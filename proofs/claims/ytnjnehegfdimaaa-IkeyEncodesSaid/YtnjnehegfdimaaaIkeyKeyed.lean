/- Layer 5 (ikey): keyed answers true; IkeyParts and IkeyBetween answer true. -/
import Derived.Test.YtnjnehegfdimaaaIkeyEnc
namespace Go.Proofs.Ytnjnehegfdimaaa
set_option linter.unusedVariables false
set_option linter.unusedSimpArgs false
open Go.RowKit Ikey Varint
open Go.Op (bytesLess)
set_option maxRecDepth 100000 in
set_option maxHeartbeats 1000000 in
theorem keyed_any (w : World) : Calls Try.prog 6 #[] w fun e w' => e = .returned (.bool true) ∧ Gr w w' := by
  have hv : encF [97] 1 1 = [97, 1, 1, 0, 0, 0, 0, 0, 0] := by decide +kernel
  have hp : partF [97, 98, 99, 100] [97, 98, 122] = [97, 98, 100] := by decide +kernel
  have E := Encode_yes [97] 1 1 w (by decide +kernel)
  rw [hv] at E
  have E1 : Calls Try.prog 10 #[.agg #[.string ⟨#[97]⟩, .int .i64 1, .int .i64 1]] w (RetBI 5 w [97, 1, 1, 0, 0, 0, 0, 0, 0] 0) := E
  have HE := Lib.hid E1
  have P1 := fun w => Part_any [97, 98, 99, 100] [97, 98, 122] w (by decide)
  rw [hp] at P1
  have P2 : ∀ w, Calls Try.prog 7 #[.string ⟨#[97, 98, 99, 100]⟩, .string ⟨#[97, 98, 122]⟩] w fun e w' => e = .returned (.string (str [97, 98, 100])) ∧ Gr w w' := P1
  have HP := Lib.hid P2
  clear E E1 P1 P2 hv hp
  go_enter Try.func6, Try.ntmps6
  go_wp2_with (first
    | (go_at_call 10; refine HE.out.mono ?_; rintro e w1 ⟨ad, cap, rfl, o1, g1⟩; have hs := run_string (P := Try.prog) Try.underlying28 Try.underlying5 Try.underlying9 (cap := cap) (len := 9) rfl o1.bytes)
    | (go_at_call 7; refine (HP.out _).mono ?_; rintro e w2 ⟨rfl, g2⟩))
  go_ret
  exact ⟨rfl, g1.trans g2⟩
set_option maxRecDepth 100000 in
set_option maxHeartbeats 1000000 in
theorem IkeyParts_any (a b : List UInt8) (w : World) (hm : a.length ≤ 140737488351232) :
    Calls Try.prog 3 #[.string (str a), .string (str b)] w fun e w' => e = .returned (.bool true) ∧ Gr w w' := by
  have HK := Lib.hid keyed_any
  have HP := Lib.hid (fun w => Part_any a b w hm)
  have HR := Lib.hid (fun w => rDocPart_any a b w hm)
  by_cases h : (1000 : Int) < (a.length : Int)
  all_goals
    go_enter Try.func3, Try.ntmps3
    go_wp2_with (first
      | (go_at_call 6; refine (HK.out _).mono ?_; rintro e w1 ⟨rfl, g1⟩)
      | (go_at_call 7; refine (HP.out _).mono ?_; rintro e w2 ⟨rfl, g2⟩)
      | (go_at_call 8; refine (HR.out _).mono ?_; rintro e w3 ⟨rfl, g3⟩))
    go_ret
  · exact ⟨rfl, g1⟩
  · exact ⟨rfl, (g1.trans g2).trans g3⟩
set_option maxRecDepth 100000 in
set_option maxHeartbeats 4000000 in
theorem IkeyBetween_any (a b o : List UInt8) (w : World) (hm : a.length ≤ 140737488351232) (ho : o.length ≤ 140737488351232) :
    Calls Try.prog 4 #[.string (str a), .string (str b), .string (str o)] w fun e w' => e = .returned (.bool true) ∧ Gr w w' := by
  have HK := Lib.hid keyed_any
  have HP := Lib.hid (fun w => Part_any a b w hm)
  have h1 := part_from a b
  have h2 := part_len a b
  have h3 : bytesLess a b = true → bytesLess (partF a b) b = true := part_below
  have h4 : bytesLess a b = false → partF a b = a := part_same
  have h5 := @part_least a b o
  generalize partF a b = s at *
  by_cases h : (1000 : Int) < (a.length : Int)
  · clear h1 h2 h3 h4 h5
    go_enter Try.func4, Try.ntmps4
    go_wp2_with (first
      | (go_at_call 6; refine (HK.out _).mono ?_; rintro e w1 ⟨rfl, g1⟩))
    go_ret
    exact ⟨rfl, Gr.trans (by assumption) (by assumption)⟩
  · cases hab : bytesLess a b with
    | false =>
      obtain rfl := h4 hab
      clear h1 h2 h3 h4 h5
      go_enter Try.func4, Try.ntmps4
      go_wp2_with (first
        | (go_at_call 6; refine (HK.out _).mono ?_; rintro e w1 ⟨rfl, g1⟩)
        | (go_at_call 7; refine (HP.out _).mono ?_; rintro e w2 ⟨rfl, g2⟩))
      go_ret
      exact ⟨rfl, g1.trans g2⟩
    | true =>
      have h3' := h3 hab
      clear h3 h4
      have hl : s.length ≤ 140737488351232 := by omega
      cases hoa : bytesLess o a with
      | true =>
        clear h5
        go_enter Try.func4, Try.ntmps4
        go_wp2_with (first
          | (go_at_call 6; refine (HK.out _).mono ?_; rintro e w1 ⟨rfl, g1⟩)
          | (go_at_call 7; refine (HP.out _).mono ?_; rintro e w2 ⟨rfl, g2⟩))
        go_ret
        exact ⟨rfl, g1.trans g2⟩
      | false =>
        cases hob : bytesLess o b with
        | false =>
          clear h5
          go_enter Try.func4, Try.ntmps4
          go_wp2_with (first
            | (go_at_call 6; refine (HK.out _).mono ?_; rintro e w1 ⟨rfl, g1⟩)
            | (go_at_call 7; refine (HP.out _).mono ?_; rintro e w2 ⟨rfl, g2⟩))
          go_ret
          exact ⟨rfl, g1.trans g2⟩
        | true =>
          rcases h5 hoa hob with h6 | ⟨h6, h7⟩
          · go_enter Try.func4, Try.ntmps4
            go_wp2_with (first
              | (go_at_call 6; refine (HK.out _).mono ?_; rintro e w1 ⟨rfl, g1⟩)
              | (go_at_call 7; refine (HP.out _).mono ?_; rintro e w2 ⟨rfl, g2⟩))
            go_ret
            exact ⟨rfl, g1.trans g2⟩
          · have h8 : ¬ (s.length < o.length) := by omega
            have h9 : ((o.length : Int) == (s.length : Int)) = true := by rw [beq_iff_eq]; omega
            have H6 := Lib.hid h6
            clear h6
            go_enter Try.func4, Try.ntmps4
            go_wp2_with (first
              | (go_at_call 6; refine (HK.out _).mono ?_; rintro e w1 ⟨rfl, g1⟩)
              | (go_at_call 7; refine (HP.out _).mono ?_; rintro e w2 ⟨rfl, g2⟩))
            go_ret
            exact ⟨rfl, g1.trans g2⟩
end Go.Proofs.Ytnjnehegfdimaaa
