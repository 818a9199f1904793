/- Layer 13 (block): parts. -/
import Derived.Test.YtnbinodhdgnjlaaBlockMake
import Derived.Test.YtnbinodhdgnjlaaBlockDec
namespace Go.Proofs.Ytnbinodhdgnjlaa
set_option linter.unusedVariables false
set_option linter.unusedSimpArgs false
open Go.RowKit Bk
theorem results_tmp5 {fn : Func} {t u v x y : Tmp} (h : fn.results = #[.tmp t, .tmp u, .tmp v, .tmp x, .tmp y]) (tmps : Array Value) (P : Program) (w : World) :
    (results fn tmps).run P w = .ok (.tuple #[tmps.getD t undef, tmps.getD u undef, tmps.getD v undef, tmps.getD x undef, tmps.getD y undef]) w := by
  simp [results, h]
theorem whole_at (ad : Option Addr) (len cap : Nat) (l : List UInt8) (w : World) (hl : l.length = len) (hm : len ≤ 8) (hb : Bytes w ad l) :
    Calls Try.prog 53 #[.slice ad len cap] w fun e w' => e = .returned (.tuple #[.int .u64 (Varint.le l : Nat), .int .i64 0]) ∧ w = w' := by
  have h := Whole_any ad len cap l w hl (by unfold maxLen; omega) hb
  have e : Varint.wholeF l = (Varint.le l, 0) := by unfold Varint.wholeF; rw [if_neg (by omega)]
  rw [e] at h
  exact h
/-- the places' bytes -/
def placesB (b : List UInt8) (w c : Nat) : List UInt8 := (b.drop (b.length - 6 - 4 * ((c + w - 1) / w))).take (4 * ((c + w - 1) / w))
def RetParts (b : List UInt8) (cap : Nat) (bl : Option Nat) (w : World) : Ending → World → Prop := fun x w' =>
  Gr w w' ∧ match partsF b with
  | none => ∃ s1 s2 i1 i2, x = .returned (.tuple #[s1, s2, .int .i64 i1, .int .i64 i2, .bool false])
  | some (d, itv, c) => ∃ b1 o1 ad2 c1 c2, x = .returned (.tuple #[.slice (some ⟨b1, o1, .none⟩) d.length c1, .slice ad2 (4 * ((c + itv - 1) / itv)) c2, .int .i64 (itv : Int), .int .i64 (c : Int), .bool true]) ∧ b1 < w'.heap.size ∧ d.length < c1 ∧ c1 ≤ cap ∧ 4 * ((c + itv - 1) / itv) ≤ c2 ∧ c2 ≤ cap ∧ d.length ≤ b.length ∧ Bytes w' (some ⟨b1, o1, .none⟩) d ∧ Bytes w' ad2 (placesB b itv c) ∧ (placesB b itv c).length = 4 * ((c + itv - 1) / itv) ∧ bl = some b1 ∧ ∀ x, ad2 = some x → bl = some x.block
set_option maxRecDepth 100000 in
set_option maxHeartbeats 4000000 in
theorem parts_any (ad : Option Addr) (cap : Nat) (b : List UInt8) (w : World) (hl : b.length ≤ 1000000000) (hc : b.length ≤ cap) (hm : cap ≤ maxLen) (hb : Bytes w ad b) :
    Calls Try.prog 34 #[.slice ad b.length cap] w (RetParts b cap (ad.map (·.block)) w) := by
  have hmx : cap ≤ 9223372036854775807 := by unfold maxLen at hm; omega
  by_cases h6 : b.length < 6
  · have HN := Lib.hid (show partsF b = none by unfold partsF; rw [if_pos h6])
    go_enter Try.func34, Try.ntmps34
    go_wp2
    (try simp only [Exit.inBlock, Exit.then]); refine bodyPost_ret (results_tmp5 rfl _ _ _) rfl ?_
    refine ⟨Gr.refl _, ?_⟩
    rw [HN.out]
    exact ⟨_, _, _, _, rfl⟩
  · obtain ⟨at_, hat⟩ : ∃ at_, b.length = at_ + 6 := ⟨b.length - 6, by omega⟩
    obtain ⟨bl, off, rfl, hbl⟩ : ∃ bl off, ad = some ⟨bl, off, .none⟩ ∧ bl < w.heap.size := let ⟨x, y, e, hc⟩ := hb 0 (by omega); ⟨x, y, e, World.block_lt_of_cell? w _ hc⟩
    obtain ⟨W, hW⟩ : ∃ W, W = Varint.le ((b.drop at_).take 2) := ⟨_, rfl⟩
    obtain ⟨C, hC⟩ : ∃ C, C = Varint.le (b.drop (at_ + 2)) := ⟨_, rfl⟩
    have hP : partsF b = if W < 1 ∨ 64 < W ∨ 10000 < C then none else if at_ < 4 * ((C + W - 1) / W) then none else some (b.take (at_ - 4 * ((C + W - 1) / W)), W, C) := by
      unfold partsF
      rw [if_neg h6, hat, Nat.add_sub_cancel, show at_ + 6 - 4 = at_ + 2 by omega, hW, hC]
    have HP := Lib.hid hP
    have hW2 : W < 256 ^ 2 := by rw [hW]; exact Nat.lt_of_lt_of_le (Varint.le_lt _) (Nat.pow_le_pow_right (by decide) (by simp; omega))
    have hC4 : C < 256 ^ 4 := by rw [hC]; exact Nat.lt_of_lt_of_le (Varint.le_lt _) (Nat.pow_le_pow_right (by decide) (by simp; omega))
    have HW := Lib.hid (fun w' (g : Gr w w') c n (hn : n = 2) => whole_at (some ⟨bl, off + at_, .none⟩) n c ((b.drop at_).take 2) w' (by simp; omega) (by omega) (((hb.gr g).drop at_).take 2))
    have HC := Lib.hid (fun w' (g : Gr w w') c n (hn : n = 4) => whole_at (some ⟨bl, off + (at_ + 2), .none⟩) n c (b.drop (at_ + 2)) w' (by simp; omega) (by omega) ((hb.gr g).drop (at_ + 2)))
    rw [← hW] at HW
    rw [← hC] at HC
    have hcap : at_ + 6 ≤ cap := by omega
    clear hW hC hP h6
    have HB := Lib.hid hb
    clear hb
    have hWn : W ≤ 65535 := by omega
    have hCn : C ≤ 4294967295 := by omega
    have hat2 : at_ ≤ 1000000000 := by omega
    have HAT := Lib.hid hat
    rw [hat]
    clear hW2 hC4 hl hc hat
    by_cases hbad : W < 1 ∨ 64 < W ∨ 10000 < C
    · have HN := Lib.hid (show partsF b = none by rw [HP.out, if_pos hbad])
      have hb3 : W < 1 ∨ (1 ≤ W ∧ 64 < W) ∨ (1 ≤ W ∧ W ≤ 64 ∧ 10000 < C) := by omega
      clear hbad
      rcases hb3 with hb3 | ⟨hb3, hb4⟩ | ⟨hb3, hb4, hb5⟩
      · go_enter Try.func34, Try.ntmps34
        go_wp2_with (first
          | (go_at_call 53; (with_reducible refine (HW.out _ (Gr.refl _) _ _ (by omega)).mono ?_); rintro e w' ⟨rfl, rfl⟩)
          | (go_at_call 53; (with_reducible refine (HC.out _ (Gr.refl _) _ _ (by omega)).mono ?_); rintro e w' ⟨rfl, rfl⟩))
        (try simp only [Exit.inBlock, Exit.then]); refine bodyPost_ret (results_tmp5 rfl _ _ _) rfl ?_
        refine ⟨Gr.refl _, ?_⟩
        rw [HN.out]
        exact ⟨_, _, _, _, rfl⟩
      · go_enter Try.func34, Try.ntmps34
        go_wp2_with (first
          | (go_at_call 53; (with_reducible refine (HW.out _ (Gr.refl _) _ _ (by omega)).mono ?_); rintro e w' ⟨rfl, rfl⟩)
          | (go_at_call 53; (with_reducible refine (HC.out _ (Gr.refl _) _ _ (by omega)).mono ?_); rintro e w' ⟨rfl, rfl⟩))
        (try simp only [Exit.inBlock, Exit.then]); refine bodyPost_ret (results_tmp5 rfl _ _ _) rfl ?_
        refine ⟨Gr.refl _, ?_⟩
        rw [HN.out]
        exact ⟨_, _, _, _, rfl⟩
      · go_enter Try.func34, Try.ntmps34
        go_wp2_with (first
          | (go_at_call 53; (with_reducible refine (HW.out _ (Gr.refl _) _ _ (by omega)).mono ?_); rintro e w' ⟨rfl, rfl⟩)
          | (go_at_call 53; (with_reducible refine (HC.out _ (Gr.refl _) _ _ (by omega)).mono ?_); rintro e w' ⟨rfl, rfl⟩))
        (try simp only [Exit.inBlock, Exit.then]); refine bodyPost_ret (results_tmp5 rfl _ _ _) rfl ?_
        refine ⟨Gr.refl _, ?_⟩
        rw [HN.out]
        exact ⟨_, _, _, _, rfl⟩
    · have hW1 : 1 ≤ W := by omega
      have hW64 : W ≤ 64 := by omega
      have hC1 : C ≤ 10000 := by omega
      obtain ⟨K, hK⟩ : ∃ K, (C + W - 1) / W = K := ⟨_, rfl⟩
      have hK2 : K ≤ 10063 := by rw [← hK]; exact Nat.le_trans (Nat.div_le_self _ _) (by omega)
      have hk1 : ((C : Int) + (W : Int) - 1) / (W : Int) = (K : Int) := by rw [← hK, Int.natCast_ediv, show ((C + W - 1 : Nat) : Int) = (C : Int) + (W : Int) - 1 by omega]
      rw [hK] at HP
      have HK := Lib.hid hK
      clear hK hWn hCn
      by_cases hfrom : at_ < 4 * K
      · have HN := Lib.hid (show partsF b = none by rw [HP.out, if_neg hbad, if_pos hfrom])
        clear hbad
        go_enter Try.func34, Try.ntmps34
        go_wp2_with (first
          | (go_at_call 53; (with_reducible refine (HW.out _ (Gr.refl _) _ _ (by omega)).mono ?_); rintro e w' ⟨rfl, rfl⟩)
          | (go_at_call 53; (with_reducible refine (HC.out _ (Gr.refl _) _ _ (by omega)).mono ?_); rintro e w' ⟨rfl, rfl⟩))
        (try simp only [Exit.inBlock, Exit.then]); refine bodyPost_ret (results_tmp5 rfl _ _ _) rfl ?_
        refine ⟨Gr.refl _, ?_⟩
        rw [HN.out]
        exact ⟨_, _, _, _, rfl⟩
      · have HN := Lib.hid (show partsF b = some (b.take (at_ - 4 * K), W, C) by rw [HP.out, if_neg hbad, if_neg hfrom])
        have hfrom2 : 4 * K ≤ at_ := by omega
        clear hbad hfrom
        go_enter Try.func34, Try.ntmps34
        go_wp2_with (first
          | (go_at_call 53; (with_reducible refine (HW.out _ (Gr.refl _) _ _ (by omega)).mono ?_); rintro e w' ⟨rfl, rfl⟩)
          | (go_at_call 53; (with_reducible refine (HC.out _ (Gr.refl _) _ _ (by omega)).mono ?_); rintro e w' ⟨rfl, rfl⟩))
        go_quiet (fail)
        go_wp2
        (try simp only [Exit.inBlock, Exit.then]); refine bodyPost_ret (results_tmp5 rfl _ _ _) rfl ?_
        refine ⟨Gr.drewN _ _, ?_⟩
        rw [HN.out]
        have hlen := HAT.out
        have e1 : (b.take (at_ - 4 * K)).length = at_ - 4 * K := by simp; omega
        have e2 : 4 * ((C + W - 1) / W) = at_ - (at_ - 4 * K) := by rw [HK.out]; omega
        have e3 : placesB b W C = (b.drop (at_ - 4 * K)).take (at_ - (at_ - 4 * K)) := by unfold placesB; rw [e2, hlen, Nat.add_sub_cancel]; congr 2; omega
        have e4 : (placesB b W C).length = at_ - (at_ - 4 * K) := by rw [e3]; simp; omega
        have hbd := HB.out.gr (Gr.drewN w nq)
        refine ⟨bl, off, some ⟨bl, off + (at_ - 4 * K), none⟩, cap, cap - (at_ - 4 * K), by rw [e1, e2]; rfl, Nat.lt_of_lt_of_le hbl (Gr.drewN w nq).size, by omega, Nat.le_refl _, by omega, by omega, by omega, hbd.take _, ?_, by rw [e4, e2], rfl, fun x hx => by cases hx; rfl⟩
        rw [e3]
        exact (hbd.drop _).take _
end Go.Proofs.Ytnbinodhdgnjlaa
