/- Layer 4 (crc): a matrix done twice. -/
import Derived.Test.YtpebdkkcbhlidaaDoorCrcOf
namespace Go.Proofs.YtpebdkkcbhlidaaDoor
set_option linter.unusedVariables false
set_option linter.unusedSimpArgs false
open Go.RowKit Crc
/-- a matrix whose first n cells are laid -/
def partM (f : Nat → BitVec 32) (n : Nat) : List Value := (List.range 32).map fun i => if i < n then .int .u32 (U (f i)) else .int .u32 0
theorem partM_zero (f : Nat → BitVec 32) : partM f 0 = List.replicate 32 (.int .u32 0) := rfl
theorem partM_at (f : Nat → BitVec 32) (n : Nat) (h : n < 32) : (partM f n)[n]? = some (.int .u32 0) := by
  unfold partM
  rw [List.getElem?_map, List.getElem?_range h]
  simp
theorem partM_set (f : Nat → BitVec 32) (n : Nat) (h : n < 32) : (partM f n).set n (.int .u32 (U (f n))) = partM f (n + 1) := by
  apply List.ext_getElem?
  intro i
  unfold partM
  by_cases h32 : i < 32
  · by_cases hi : n = i
    · subst hi
      rw [List.getElem?_set_self (by simpa using h), List.getElem?_map, List.getElem?_range h]
      simp
    · rw [List.getElem?_set_ne hi, List.getElem?_map, List.getElem?_map, List.getElem?_range h32]
      simp only [Option.map_some]
      by_cases h1 : i < n
      · rw [if_pos h1, if_pos (by omega)]
      · rw [if_neg h1, if_neg (by omega)]
  · rw [List.getElem?_eq_none (by simp; omega), List.getElem?_eq_none (by simp; omega)]
theorem partM_all (f : Nat → BitVec 32) (k : Nat) (h : ∀ i, i < 32 → f i = iterF k (1#32 <<< i)) : partM f 32 = mat k := by
  unfold partM mat
  apply List.map_congr_left
  intro i hi
  have hi' := List.mem_range.1 hi
  rw [if_pos hi', h i hi']
set_option maxRecDepth 100000 in
set_option maxHeartbeats 1000000 in
theorem twice_any (g k : Nat) (w : World) (hT : Tab w) (hb : Blk w g 31 (mat k)) :
    Calls Tryd.prog 9 #[.pointer (some ⟨g, 0, none⟩)] w fun e w' => ∃ g', e = .returned (.pointer (some ⟨g', 0, none⟩)) ∧ Blk w' g' 31 (mat (k + k)) ∧ w.heap.size ≤ g' ∧ Gr w w' := by
  have HT := Lib.hid hT
  have HB := Lib.hid hb
  have HF := Lib.hid (fun i : Nat => (iterF_add k k (1#32 <<< i)))
  clear hT hb
  go_enter Tryd.func9, Tryd.ntmps9
  go_wp2
  go_loopw [4, 5, 7] (fun _ _ iv wr => ∃ n : Nat, n ≤ 32 ∧ iv = .int .i64 (n : Int) ∧ Blk wr w.heap.size 31 (partM (fun i => iterF (k + k) (1#32 <<< i)) n) ∧ Gr w wr) (fun _ _ iv _ => 32 - (intOf iv).toNat)
  case atStart => exact ⟨0, Nat.zero_le _, rfl, by rw [partM_zero]; exact Blk.new _ _ _, Gr.alloc _ _⟩
  case round =>
    obtain ⟨n, hn, rfl, hp, hg⟩ := hrel
    by_cases hlt : n < 32
    · have HM := Lib.hid (mat_at k n hlt)
      generalize hcc : iterF k (1#32 <<< n) = c at *
      have HC := Lib.hid hcc
      have hc0 := U_lo c
      have hc1 := U_hi c
      clear hcc
      generalize wr = W2 at *
      have hG2 := hg
      clear hg
      have HO := Lib.hid (fun w hT hb => of_any g k c w hT hb)
      go_wp2
      refine region_any_gr _ [Is (.int .i64 (n : Int)), Is (.pointer (some ⟨g, 0, none⟩)), Is (.pointer (some ⟨g, n, none⟩)), Is (.int .u32 (U c)), Is ?r4, Is ?r5] (by kernel_rfl) (by kernel_rfl) (by kernel_rfl) rfl rfl ⟨Is.stable _, Is.stable _, Is.stable _, Is.stable _, Is.stable _, Is.stable _, trivial⟩ ⟨?s0, ?s1, ?s2, ?s3, ?s4, ?s5, trivial⟩ ?fin
      case' s0 | s1 | s2 | s3 | s4 | s5 =>
        intro ρ wr hρ hg hK
        simp [readsOf, slotsOf, Op.operands, Call.operands, tmpOf, List.filterMap_cons, List.filterMap_nil, KnownAll, knownOf, srcOf, depsOf, dstOf, Region.binds, nth, Is] at hK
        obtain ⟨hc, hf, hgl⟩ := hρ
        try simp only [wantedBy, dstOf, boolOf, nth, List.getD_cons_zero, List.getD_cons_succ, List.getElem?_cons_zero, List.getElem?_cons_succ, Option.bind_some, if_true, hK, BEq.rfl]
        try go_simp
        first | exact rfl | (rw [if_pos (by omega)]; exact is_here rfl) | (rw [dif_pos (by omega)]; exact is_here rfl) | exact congrArg (Value.int _) (IntWalk.i64_in _ ⟨by omega, by omega⟩) | skip
      case s3 =>
        have hcl := (HB.out.gr (hG2.trans hg)).cell HM.out
        go_simp
        exact rfl
      case fin =>
        intro w1 val hg hH
        simp only [Holds, Is, Nat.zero_add, Nat.reduceAdd] at hH
        obtain ⟨h0, h1, h2, h3, h4, h5, _⟩ := hH
        simp only [List.take_succ_cons, List.take_zero, List.drop_succ_cons, List.drop_zero, putAll, h0, h1, h2, h3, h4, h5, Nat.zero_add, Nat.reduceAdd]
        go_simp
        go_wp2_with (go_at_call 10; (with_reducible refine (HO.out _ (HT.out.gr (hG2.trans hg)) (HB.out.gr (hG2.trans hg))).mono ?_); rintro e w5 ⟨rfl, g5⟩; have hp5 := (hp.gr hg).gr g5; have cN := hp5.cell (partM_at _ n hlt); have fN := hp5.frozen n)
        go_roundw
        case rel =>
          have hs := hp5.set_ n (.int .u32 (U (iterF k c)))
          rw [show (partM (fun i => iterF (k + k) (1#32 <<< i)) n).set n (.int .u32 (U (iterF k c))) = partM (fun i => iterF (k + k) (1#32 <<< i)) (n + 1) by
            rw [← partM_set _ n hlt]
            simp only [HF.out, HC.out]] at hs
          exact ⟨n + 1, hlt, by go_num, hs, ((hG2.trans hg).trans g5).setCell (Nat.le_refl _) _⟩
        case measure => simp [intOf]; omega
    · obtain rfl : n = 32 := by omega
      rw [partM_all _ (k + k) (fun _ _ => rfl)] at hp
      go_wp2
      go_ret
      exact ⟨w.heap.size, rfl, hp, Nat.le_refl _, hg⟩
end Go.Proofs.YtpebdkkcbhlidaaDoor
