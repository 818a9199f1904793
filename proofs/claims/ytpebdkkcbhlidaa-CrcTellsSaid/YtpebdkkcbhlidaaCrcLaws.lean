/- Layer 4 (crc): what the statements' functions answer. -/
import Derived.Test.YtpebdkkcbhlidaaCrcFns
import Derived.Test.YtpebdkkcbhlidaaMem
import Derived.Lib.SlBytesConst
namespace Go.Proofs.Ytpebdkkcbhlidaa
open Go.RowKit Crc

theorem elemB : Elem Try.prog 22 5 (.int .u8 0) 1 1 := ⟨by kernel_rfl, by kernel_rfl, rfl, by decide⟩

theorem sums_any (w : World) : Calls Try.prog 7 #[] w fun e w' => e = .returned (.bool true) ∧ Gr w w' := by
  have kc := fun (w : World) (C : Array Value) (n c : Nat) => Lib.run_convert_bytes_const (P := Try.prog) w 22 5 C n c Try.underlying22 Try.underlying5
  have k1 : (U (sumF [49, 50, 51, 52, 53, 54, 55, 56, 57]) == 3808858755) = true := by
    have : sumF [49, 50, 51, 52, 53, 54, 55, 56, 57] = 3808858755#32 := by decide +kernel
    rw [this, ← U_lit 3808858755 rfl (by decide)]; rfl
  have k2 : (U (maskF 0#32) == 2726488792) = true := by
    have : maskF 0#32 = 2726488792#32 := by decide +kernel
    rw [this, ← U_lit 2726488792 rfl (by decide)]; rfl
  have HZ := Lib.hid (show (0 : Int) = U 0#32 from U_lit 0 rfl (by decide))
  go_enter Try.func7, Try.ntmps7
  go_wp2_with (first | (go_at_call 8; refine (sum_any _ _ _ [49, 50, 51, 52, 53, 54, 55, 56, 57] _ rfl (by decide) (Bytes.alloc _ _ _ _ _ rfl)).mono ?_; rintro e w' ⟨rfl, rfl⟩) | (go_at_call 12; rw [HZ.out]; refine (mask_any _ _).mono ?_; rintro e w' ⟨rfl, rfl⟩))
  go_ret
  exact ⟨rfl, Gr.alloc _ _⟩
theorem CrcMasks_any (x : BitVec 32) (w : World) : Calls Try.prog 6 #[.int .u32 (U x)] w fun e w' => e = .returned (.bool true) ∧ Gr w w' := by
  have h1 : (U (maskF x) == U (maskF x)) = true := by simp
  have h2 : (U (unmaskF x) == U (unmaskF x)) = true := by simp
  have h3 : (U (unmaskF (maskF x)) == U x) = true := by rw [unmask_mask]; simp
  have h4 : (U (maskF (unmaskF x)) == U x) = true := by rw [mask_unmask]; simp
  go_enter Try.func6, Try.ntmps6
  go_wp2_with (first | (go_at_call 7; refine (sums_any _).mono ?_; rintro e w' ⟨rfl, hg⟩) | (go_at_call 12; refine (mask_any _ _).mono ?_; rintro e w' ⟨rfl, rfl⟩) | (go_at_call 14; refine (unmask_any _ _).mono ?_; rintro e w' ⟨rfl, rfl⟩) | (go_at_call 13; refine (rmask_any _ _).mono ?_; rintro e w' ⟨rfl, rfl⟩) | (go_at_call 15; refine (runmask_any _ _).mono ?_; rintro e w' ⟨rfl, rfl⟩))
  go_ret
  exact ⟨rfl, hg⟩
set_option maxRecDepth 100000 in
theorem CrcSums_any (ad : Option Addr) (len cap : Nat) (l : List UInt8) (s : BitVec 32) (w : World) (hlen : l.length = len) (hm : len ≤ maxLen) (hb : Bytes w ad l) :
    Calls Try.prog 3 #[.slice ad len cap, .int .u32 (U s)] w fun e w' => e = .returned (.bool true) ∧ Gr w w' := by
  have h1 : (U (sumF l) == U (sumF l)) = true := by simp
  have h2 : (U (moreF s l) == U (moreF s l)) = true := by simp
  have hms : (str l).size ≤ maxLen := by rw [str_size]; omega
  have HS := Lib.hid (str_list l)
  go_enter Try.func3, Try.ntmps3
  go_wp2
  refine region_gr (by kernel_rfl) (by kernel_rfl) ?_
  repeat (refine wpQuiet_step (fun K hK => ?_); go_simp; first | (refine hK _ ?_; clear hK K) | (apply Exists.intro; refine ⟨fun w1 hg1 => ?_, hK _ ?_⟩; (first | rfl | (go_at_call 7; exact Calls.gr_of hg1 (sums_any _) (fun _ _ h => h)) | (go_at_call 8; exact Calls.gr_of hg1 (sum_any _ _ _ l _ hlen hm (hb.gr hg1)) (fun _ _ h => same_gr h)) | (go_at_call 9; exact Calls.gr_of hg1 (rsum_of _ l _ (str_list l) hms) (fun _ _ h => same_gr h)) | (go_at_call 10; exact Calls.gr_of hg1 (more_any _ _ _ _ l _ hlen hm (hb.gr hg1)) (fun _ _ h => same_gr h)) | (go_at_call 11; exact Calls.gr_of hg1 (rmore_of _ _ l _ (str_list l) hms) (fun _ _ h => same_gr h)) | (rw [run_string Try.underlying22 Try.underlying5 Try.underlying9 hlen (hb.gr hg1)]; exact ⟨rfl, rfl⟩)); clear hK K))
  refine wpQuiet_nil ?_
  intro w1 hg1
  go_wp2
  go_ret
  exact ⟨rfl, hg1⟩
theorem CrcThree_any (ad1 ad2 ad3 : Option Addr) (len1 len2 len3 cap1 cap2 cap3 : Nat) (l1 l2 l3 : List UInt8) (w : World) (h1 : l1.length = len1) (h2 : l2.length = len2) (h3 : l3.length = len3)
    (m1 : len1 ≤ maxLen) (m2 : len2 ≤ maxLen) (m3 : len3 ≤ maxLen) (q1 : len1 ≤ cap1) (q2 : len2 ≤ cap2) (q3 : len3 ≤ cap3) (b1 : Bytes w ad1 l1) (b2 : Bytes w ad2 l2) (b3 : Bytes w ad3 l3) :
    Calls Try.prog 5 #[.slice ad1 len1 cap1, .slice ad2 len2 cap2, .slice ad3 len3 cap3] w fun e w' => e = .returned (.bool true) ∧ Gr w w' := by
  unfold maxLen at m1 m2 m3
  obtain ⟨n, hn, n1, n2, n3, n4⟩ : ∃ n : Nat, min (len1 : Int) (min (len2 : Int) (min (len3 : Int) 500)) = (n : Int) ∧ n ≤ len1 ∧ n ≤ len2 ∧ n ≤ len3 ∧ n ≤ 500 := ⟨min (min (min len1 len2) len3) 500, by omega, by omega, by omega, by omega, by omega⟩
  go_enter Try.func5, Try.ntmps5
  go_wp2_with (at_make; refine wp_make elemB rfl rfl _ _ rfl n n rfl rfl rfl rfl (Nat.le_refl _) (by unfold maxLen; omega) (by omega) ?_; intro w1 o1 g1 s1)
  clear hn
  go_loopw [9] (fun v wr => ∃ i xl, i ≤ n ∧ v = .int .i64 (i : Nat) ∧ Owns wr w.heap.size 5 1 (some ⟨w.heap.size, 0, none⟩) n n (bv xl) ∧ Gr w wr ∧ ∀ j, j < i → xl.getD j 0 = l1.getD j 0 ^^^ l2.getD j 0 ^^^ l3.getD j 0) (fun v _ => n - (intOf v).toNat)
  case atStart => exact ⟨0, List.replicate n 0, Nat.zero_le _, rfl, by rw [← bv_replicate]; exact o1, g1, fun j hj => absurd hj (by omega)⟩
  case round =>
    obtain ⟨i, xl, hi, rfl, ho, hg, hp⟩ := hrel
    by_cases hlt : i < n
    · obtain ⟨p1, q1, rfl, c1⟩ := (b1.gr hg) i (by omega)
      obtain ⟨p2, q2, rfl, c2⟩ := (b2.gr hg) i (by omega)
      obtain ⟨p3, q3, rfl, c3⟩ := (b3.gr hg) i (by omega)
      have hxl := ho.len
      have hxi : i < xl.length := by omega
      obtain ⟨_, e0, _, c0⟩ := ho.at (bv_get xl i hxi)
      cases e0
      have f0 := ho.unfrozen (i := i) rfl (by omega)
      have t1 : i < len1 := by omega
      have t2 : i < len2 := by omega
      have t3 : i < len3 := by omega
      have HX := Lib.hid hxl; clear hxl
      have hP := Lib.hid hp; clear hp
      go_wp2
      go_still_tail 17, (by kernel_rfl)
      go_wp2
      go_roundw
      case rel =>
        refine ⟨i + 1, xl.set i (l1[i] ^^^ l2[i] ^^^ l3[i]), by omega, by go_num, ?_, ?_, ?_⟩
        · rw [b8_xor, b8_xor, ← bv_set]
          exact (ho.store rfl hlt _).gr (Gr.drew _)
        · exact (hg.setCell (Nat.le_refl _) _).trans (Gr.drew _)
        · intro j hj
          by_cases hji : j = i
          · subst hji
            rw [List.getD_eq_getElem?_getD, List.getElem?_set_self hxi]
            simp [List.getD_eq_getElem?_getD, t1, t2, t3, h1, h2, h3]
          · rw [List.getD_eq_getElem?_getD, List.getElem?_set_ne (by omega), ← List.getD_eq_getElem?_getD]
            exact hP.out j (by omega)
      case measure => simp [intOf]; omega
    · obtain rfl : i = n := by omega
      have hxl := Lib.hid ho.len
      have hs := Lib.hid (sumF_three xl (l1.take i) (l2.take i) (l3.take i) (by simp [ho.len, h1, n1]) (by simp [ho.len, h2, n2]) (by simp [ho.len, h3, n3]) (fun j hj => by
        have hj' : j < i := by rw [ho.len] at hj; exact hj
        rw [hp j hj']
        simp [List.getD_eq_getElem?_getD, List.getElem?_take, hj']))
      clear hp
      have hX : (U (sumF xl) == U (sumF (List.take i l1) ^^^ sumF (List.take i l2) ^^^ sumF (List.take i l3))) = true := by rw [← hs.out]; simp
      have x1 := U_xor (sumF (l1.take i)) (sumF (l2.take i))
      have x2 := U_xor (sumF (l1.take i) ^^^ sumF (l2.take i)) (sumF (l3.take i))
      have k1 := ho.bytes
      have y1 := b1.gr hg |>.take i
      have y2 := b2.gr hg |>.take i
      have y3 := b3.gr hg |>.take i
      have L1 := Lib.hid (show (l1.take i).length = i by simp [h1, n1])
      have L2 := Lib.hid (show (l2.take i).length = i by simp [h2, n2])
      have L3 := Lib.hid (show (l3.take i).length = i by simp [h3, n3])
      have hm : i ≤ maxLen := by unfold maxLen; omega
      have z1 : i ≤ cap1 := by omega
      have z2 : i ≤ cap2 := by omega
      have z3 : i ≤ cap3 := by omega
      go_wp2
      refine region_gr (by kernel_rfl) (by kernel_rfl) ?_
      repeat (refine wpQuiet_step (fun K hK => ?_); go_simp; first | (refine hK _ ?_; clear hK K) | (apply Exists.intro; refine ⟨fun w1 hg1 => ?_, hK _ ?_⟩; (first | rfl | (go_at_call 7; exact Calls.gr_of hg1 (sums_any _) (fun _ _ h => h)) | (go_at_call 8; first | exact Calls.gr_of hg1 (sum_any _ _ _ xl _ hxl.out hm (k1.gr hg1)) (fun _ _ h => same_gr h) | exact Calls.gr_of hg1 (sum_any _ _ _ _ _ L1.out hm (y1.gr hg1)) (fun _ _ h => same_gr h) | exact Calls.gr_of hg1 (sum_any _ _ _ _ _ L2.out hm (y2.gr hg1)) (fun _ _ h => same_gr h) | exact Calls.gr_of hg1 (sum_any _ _ _ _ _ L3.out hm (y3.gr hg1)) (fun _ _ h => same_gr h))); clear hK K))
      refine wpQuiet_nil ?_
      intro w1 hg1
      go_wp2
      go_ret
      exact ⟨rfl, hg.trans hg1⟩
end Go.Proofs.Ytpebdkkcbhlidaa
