/- Layer 14 (table): the reference's fixed, part, pair, number, cut walked. -/
import Derived.Test.YtlfbelocdpboeaaGreatDoorTabTold
namespace Go.Proofs.YtlfbelocdpboeaaGreatDoor
set_option linter.unusedVariables false
set_option linter.unusedSimpArgs false
open Go.RowKit Tab
theorem dfixed_any (X : Int) (n : Nat) (w : World) (hX : X = (n : Int)) (hn : n < 4294967296) : Calls Tryz.prog 48 #[.int .i64 X] w fun e w' => e = .returned (.string (str (Varint.bytesN 4 n))) ∧ Gr w w' := by
  subst hX
  have HF := Lib.hid (show ∀ w, Calls Tryz.prog 80 #[.int .u64 (n : Int), .int .i64 4] w fun e w' => e = .returned (.tuple #[.string (str (Varint.bytesN 4 n)), .int .i64 0]) ∧ Gr w w' from fun w => by
    have := rFixed_any n 4 w (by omega) (by decide) (by decide)
    rw [show Varint.fixedF n 4 = (Varint.bytesN 4 n, 0) by
      unfold Varint.fixedF
      rw [if_neg (by decide), if_neg]
      · rfl
      · show ¬ n / 256 ^ 4 ≠ 0
        rw [Nat.div_eq_of_lt (show n < 256 ^ 4 by omega)]; simp] at this
    exact this)
  generalize Varint.bytesN 4 n = s at *
  go_enter Tryz.func48, Tryz.ntmps48
  go_wp2_with (first
    | (go_at_call 80; go_must (refine (HF.out _).mono ?_); rintro e w1 ⟨rfl, g1⟩)
    | fail)
  go_ret
  exact ⟨rfl, g1⟩
theorem dpart_any (s : List UInt8) (w : World) (hl : s.length ≤ 1000000000) : Calls Tryz.prog 46 #[.string (str s)] w fun e w' => e = .returned (.string (str (partB s))) ∧ Gr w w' := by
  have HS := Lib.hid (fun w => rsum_of (str s) s w (by simp [str]) (by rw [str_size]; unfold maxLen; omega))
  have HM := Lib.hid (fun w => rmask_any (Crc.sumF s) w)
  have hU := U_mark s
  have hml := markF_lt s
  have HF := Lib.hid (fun w => dfixed_any (markF s : Int) (markF s) w rfl hml)
  have HP := Lib.hid (show partB s = s ++ Varint.bytesN 4 (markF s) from rfl)
  have hbl := Varint.bytesN_len 4 (markF s)
  rw [hU] at HM
  have hmI : (markF s : Int) < 4294967296 := by omega
  clear hU hml
  generalize markF s = m at *
  generalize Varint.bytesN 4 m = t at *
  generalize U (Crc.sumF s) = u at *
  go_enter Tryz.func46, Tryz.ntmps46
  go_wp2_with (first
    | (go_at_call 77; go_must (refine (HS.out _).mono ?_); rintro e w' ⟨rfl, rfl⟩)
    | (go_at_call 76; go_must (refine (HM.out _).mono ?_); rintro e w' ⟨rfl, rfl⟩)
    | (go_at_call 48; go_must (refine (HF.out _).mono ?_); rintro e w1 ⟨rfl, g1⟩)
    | fail)
  go_ret
  rw [HP.out]
  exact ⟨rfl, g1⟩
theorem dpair_any (c : Ci) (w : World) : Calls Tryz.prog 42 #[.agg #[.string (str c.key), .int .i64 c.seq, .int .i64 c.kind, .string (str c.val)]] w fun e w' => e = .returned (.agg #[.string (str (pairC c).1), .string (str c.val)]) ∧ Gr w w' := by
  obtain ⟨k, s, d, v⟩ := c
  simp only
  have HS := Lib.hid (show ∀ w, Calls Tryz.prog 63 #[.agg #[.string (str k), .int .i64 s, .int .i64 d]] w fun e w' => e = .returned (.tuple #[.string (str (sortG k s d).1), .int .i64 (sortG k s d).2]) ∧ Gr w w' from fun w => by
    cases h : okV k s d with
    | false =>
      rw [sortG_no h]
      exact rDocSortable_no k s d w h
    | true =>
      rw [sortG_yes h]
      obtain ⟨e1, e2⟩ := nat_of h
      have := rDocSortable_yes k s.toNat d.toNat w (by rw [e1, e2]; exact h)
      rw [e1, e2] at this
      exact this)
  have HP := Lib.hid (show (pairC ⟨k, s, d, v⟩).1 = (sortG k s d).1 from rfl)
  generalize (sortG k s d).1 = K at *
  generalize (sortG k s d).2 = eK at *
  have HB := Lib.hid (Blk.new w 48 #[.string (str k), .int .i64 s, .int .i64 d, .string (str v)])
  have HB2 := Lib.hid (Blk.new (w.alloc (.cells #[.string (str k), .int .i64 s, .int .i64 d, .string (str v)] 48)) 72 #[.string ⟨#[]⟩, .string ⟨#[]⟩])
  have h0 := (HB.out.alloc (.cells #[.string ⟨#[]⟩, .string ⟨#[]⟩] 72))
  obtain ⟨a0, a1, a2, a3, _⟩ : _ ∧ _ ∧ _ ∧ _ ∧ True := ⟨h0.cell (i := 0) rfl, h0.cell (i := 1) rfl, h0.cell (i := 2) rfl, h0.cell (i := 3) rfl, trivial⟩
  have HB0 := Lib.hid h0
  clear h0
  go_enter Tryz.func42, Tryz.ntmps42
  go_wp2_with (go_at_call 63; refine (HS.out _).mono ?_; rintro e w2 ⟨rfl, g2⟩
               have b3 := (HB0.out.gr g2).cell (i := 3) rfl
               have q2 := HB2.out.gr g2
               have hz : (w.alloc (.cells #[.string (str k), .int .i64 s, .int .i64 d, .string (str v)] 48)).heap.size = w.heap.size + 1 := by simp
               rw [hz] at q2
               have f0 := q2.frozen 0
               have f1 := q2.frozen 1
               have z0 := q2.cell (i := 0) rfl
               have z1 := q2.cell (i := 1) rfl
               have HQ := Lib.hid ((q2.set_ 0 (.string (str K))).set_ 1 (.string (str v)))
               have HG := Lib.hid (((Gr.alloc _ _).trans (Gr.alloc _ _)).trans g2)
               clear q2 hz)
  obtain ⟨d0, d1⟩ : _ ∧ _ := ⟨HQ.out.cell (i := 0) rfl, HQ.out.cell (i := 1) rfl⟩
  refine bodyPost_ret (v := .agg #[.string (str K), .string (str v)]) (by simp [results, Tryz.results42, go_sem, d0, d1]) rfl ?_
  rw [HP.out]
  refine ⟨rfl, ?_⟩
  have k0 := grown_trans (grown_set w2 (w.heap.size + 1) 0 (.string (str K))) (grown_set _ (w.heap.size + 1) 1 (.string (str v)))
  exact HG.out.of_far k0 (by omega)
/-- a number of four bytes at the front -/
theorem dnumber_any (s : List UInt8) (w : World) (h4 : 4 ≤ s.length) (hl : s.length ≤ 1000000000) : Calls Tryz.prog 27 #[.string (str s)] w fun e w' => e = .returned (.int .i64 (Varint.le (s.take 4) : Int)) ∧ Gr w w' := by
  have HW := Lib.hid (fun w => rWhole_at (s.take 4) (Varint.le (s.take 4)) w rfl (by rw [List.length_take]; omega))
  have hlt := Varint.le_lt (s.take 4)
  rw [List.length_take, Nat.min_eq_left h4] at hlt
  have hlI : (Varint.le (s.take 4) : Int) < 4294967296 := by omega
  clear hlt
  generalize hn : Varint.le (s.take 4) = n at *
  clear hn
  go_enter Tryz.func27, Tryz.ntmps27
  go_wp2_with (first
    | (go_at_call 62; go_must (refine (HW.out _).mono ?_); rintro e w' ⟨rfl, rfl⟩)
    | fail)
  go_ret
  exact ⟨rfl, Gr.refl _⟩
end Go.Proofs.YtlfbelocdpboeaaGreatDoor
