/- Layer 8 (frame): the reference's Lay and DocFrame. -/
import Derived.Test.YtmjhffohfppnaaaFrameRef
namespace Go.Proofs.Ytmjhffohfppnaaa
set_option linter.unusedVariables false
set_option linter.unusedSimpArgs false
open Go.RowKit Fr
def strLen : Value → Nat
  | .string s => s.size
  | _ => 0
theorem pad_dec (a : Nat) (h : 0 < padF a) : padF (a + 1) = padF a - 1 := by
  have hl : leftF a = 128 - a % 128 := rfl
  have hl2 : leftF (a + 1) = 128 - (a + 1) % 128 := rfl
  unfold padF at h ⊢
  split at h
  · rename_i h7
    rw [if_pos h7]
    by_cases h0 : leftF a = 1
    · rw [if_neg (by omega)]; omega
    · rw [if_pos (by omega)]; omega
  · omega
theorem pad_pos (a : Nat) (h : 0 < padF a) : leftF a < 7 := by unfold padF at h; split at h <;> omega
set_option maxRecDepth 100000 in
set_option maxHeartbeats 1000000 in
theorem rLay_any (a : Nat) (r : List UInt8) (w : World) (ha : a < 128) (hr : r.length ≤ 1000000) : Calls Try.prog 19 #[.int .i64 (a : Int), .string (str r)] w fun e w' => e = .returned (.string (str (frameF a r))) ∧ Gr w w' := by
  have hp6 : padF a ≤ 6 := by unfold padF; split <;> omega
  have HF := Lib.hid (show frameF a r = List.replicate (padF a) 0 ++ layF true (a + padF a) r from rfl)
  have HP2 := Lib.hid (pad_twice a)
  have HLN := frameF_len a r
  generalize frameF a r = out at *
  go_enter Try.func19, Try.ntmps19
  go_wp2
  go_loopw [5] (fun vs wr => ∃ j : Nat, j ≤ padF a ∧ vs = .string (str (List.replicate j 0)) ∧ Gr w wr ∧ padF (a + j) = padF a - j) (fun vs _ => padF a - (match vs with | .string s => s.size | _ => 0))
  case atStart => exact ⟨0, Nat.zero_le _, rfl, Gr.refl _, rfl⟩
  case round =>
    obtain ⟨j, hj, rfl, hg0, hpj⟩ := hrel
    have hlj : leftF (a + j) = 128 - (a + j) % 128 := rfl
    by_cases hlt : j < padF a
    · have h1 : (121 : Int) < ((a : Int) + (j : Int)) % 128 := by
        have h7 := pad_pos (a + j) (by omega)
        omega
      have hpd := pad_dec (a + j) (by omega)
      have HD := Lib.hid hpd
      have HJ := Lib.hid hpj
      have hrl : (List.replicate j (0 : UInt8)).length = j := List.length_replicate
      have hz : str [0] = ⟨#[0]⟩ := rfl
      have hsm : List.replicate j (0 : UInt8) ++ [0] = List.replicate (j + 1) 0 := (List.replicate_succ').symm
      clear hpd hpj hlj
      go_wp2
      go_roundw
      case rel => exact ⟨j + 1, hlt, by rw [← hz, str_append, hsm], hg0, by rw [← Nat.add_assoc, HD.out, HJ.out]; omega⟩
      case measure => show padF a - (str (List.replicate j 0) ++ str [0]).size < padF a - (str (List.replicate j 0)).size; rw [str_append, str_size, str_size]; simp; omega
    · obtain rfl : j = padF a := by omega
      have h1 : ¬ (121 : Int) < ((a : Int) + (padF a : Int)) % 128 := by
        have h7 := (pad_room _ (pad_twice a)).1
        omega
      have hrl : (List.replicate (padF a) (0 : UInt8)).length = padF a := List.length_replicate
      clear hj hlj hpj
      generalize hpd : padF a = pd at *
      have HPD := Lib.hid hpd; clear hpd
      go_wp2
      go_loopw [1, 5, 6, 7, 8, 9] (fun rv sv_ bg _ _ _ wr => ∃ (acc r' : List UInt8) (bg' : Bool), rv = .string (str r') ∧ sv_ = .string (str acc) ∧ bg = .bool bg' ∧
        Gr w wr ∧ out = acc ++ layF bg' (a + acc.length) r' ∧ padF (a + acc.length) = 0 ∧ (bg' = false → roomF (a + acc.length) = 121) ∧ r'.length ≤ r.length) (fun rv _ bg _ _ _ _ => strLen rv + oneOf bg)
      case atStart => exact ⟨List.replicate pd 0, r, true, rfl, rfl, rfl, hg0, by rw [hrl]; exact HF.out, by rw [hrl]; exact HP2.out, (fun h => by cases h), Nat.le_refl _⟩
      case round =>
        obtain ⟨acc, r', bg', rfl, rfl, rfl, hgw, hout, hpd, hrm, hrl2⟩ := hrel
        have hal : acc.length ≤ out.length := by rw [hout]; simp
        have HROOM := Lib.hid (fun w X (hX : X = ((a + acc.length : Nat) : Int)) => rRoom_at X (a + acc.length) w hX (by omega))
        have hr121 : roomF (a + acc.length) ≤ 121 := by
          have := (pad_room _ hpd).2
          have := left_pos (a + acc.length)
          omega
        have HO := Lib.hid hout; have HPP := Lib.hid hpd; have HRM := Lib.hid hrm
        clear hout hpd hrm
        by_cases hE : r'.length ≤ roomF (a + acc.length)
        · have HE := Lib.hid (layF_end (bg := bg') hE)
          generalize hrr : roomF (a + acc.length) = room at *
          have HRR := Lib.hid hrr; clear hrr
          have HPC := Lib.hid (fun w' X (hX : X = ((kindF bg' true).toNat : Int)) => rPiece_at X (kindF bg' true) r' w' hX (by omega))
          have hpl := pieceF_len (kindF bg' true) r'
          have hmin : min (room : Int) (r'.length : Int) = (r'.length : Int) := by omega
          have htk : r'.take r'.length = r' := List.take_length
          cases bg' <;>
          · go_wp2_with (first | (go_at_call 14; refine (HROOM.out _ _ (by omega)).mono ?_; rintro e w3 ⟨rfl, rfl⟩) | (go_at_call 25; refine (HPC.out _ _ (by decide)).mono ?_; rintro e w4 ⟨rfl, g4⟩))
            go_ret
            exact ⟨by rw [HO.out, HE.out]; rfl, hgw.trans g4⟩
        · have hlt : roomF (a + acc.length) < r'.length := by omega
          have HE := Lib.hid (layF_on (bg := bg') HPP.out hlt)
          have HNX := Lib.hid (pad_next (a + acc.length) HPP.out)
          generalize hrr : roomF (a + acc.length) = room at *
          have HRR := Lib.hid hrr; clear hrr
          have htl : (r'.take room).length = room := by simp; omega
          have HTL := Lib.hid htl
          have HPC := Lib.hid (fun w' X (hX : X = ((kindF bg' false).toNat : Int)) => rPiece_at X (kindF bg' false) (r'.take room) w' hX (by omega))
          have hpl := pieceF_len (kindF bg' false) (r'.take room)
          have hmin : min (room : Int) (r'.length : Int) = (room : Int) := by omega
          have hne : ((room : Int) == (r'.length : Int)) = false := by rw [beq_eq_false_iff_ne]; omega
          clear htl
          cases bg' <;>
          · go_wp2_with (first | (go_at_call 14; refine (HROOM.out _ _ (by omega)).mono ?_; rintro e w3 ⟨rfl, rfl⟩) | (go_at_call 25; refine (HPC.out _ _ (by decide)).mono ?_; rintro e w4 ⟨rfl, g4⟩))
            go_roundw
            case rel =>
              have hlen : ∀ bb, (acc ++ pieceF (kindF bb false) (r'.take room)).length = acc.length + (7 + room) := fun bb => by rw [List.length_append, pieceF_len, HTL.out]
              have hnx := pad_of_mod _ HNX.out
              have hpos : ∀ bb, a + (acc ++ pieceF (kindF bb false) (r'.take room)).length = a + acc.length + 7 + room := fun bb => by rw [hlen]; omega
              refine ⟨_, r'.drop room, false, by simp, rfl, rfl, hgw.trans g4, ?_, ?_, ?_, by rw [List.length_drop]; omega⟩
              · rw [HO.out, HE.out, hpos, List.append_assoc]
              · rw [hpos]; exact hnx.1
              · rw [hpos]; exact fun _ => hnx.2
            case measure =>
              have := HRM.out
              simp [strLen, oneOf, str_size] at this ⊢; omega
theorem rDocFrame_any (a : Nat) (r : List UInt8) (w : World) (ha : a ≤ 9223372036854775807) (hr : r.length ≤ 1000000) : Calls Try.prog 11 #[.int .i64 (a : Int), .string (str r)] w fun e w' => e = .returned (.tuple #[.string (str (frameF a r)), .int .i64 0]) ∧ Gr w w' := by
  obtain ⟨c, hc, hc2, e1⟩ : ∃ c, c < 128 ∧ c % 128 = a % 128 ∧ (a : Int) % 128 = (c : Int) := ⟨a % 128, by omega, by omega, by omega⟩
  have HL := Lib.hid (fun w => rLay_any c r w hc hr)
  rw [frameF_mod c a r hc2] at HL
  clear hc2
  go_enter Try.func11, Try.ntmps11
  go_wp2_with (go_at_call 19; refine (HL.out _).mono ?_; rintro e w1 ⟨rfl, g1⟩)
  go_ret2
  exact ⟨rfl, g1⟩
theorem rDocFrame_neg (a : Int) (r : List UInt8) (w : World) (h1 : -9223372036854775808 ≤ a) (ha : a < 0) : Calls Try.prog 11 #[.int .i64 a, .string (str r)] w fun e w' => e = .returned (.tuple #[.string (str []), .int .i64 1]) ∧ Gr w w' := by
  go_enter Try.func11, Try.ntmps11
  go_wp2
  go_ret2
  exact ⟨rfl, Gr.refl _⟩
end Go.Proofs.Ytmjhffohfppnaaa
