/- Layer 13 (block): check. -/
import Derived.Test.YtnbinodhdgnjlaaBlockFns
namespace Go.Proofs.Ytnbinodhdgnjlaa
set_option linter.unusedVariables false
set_option linter.unusedSimpArgs false
open Go.RowKit Bk
open Go.Op (bytesLess)
def prV (p : Pr) : Value := .agg #[.string (str p.1), .string (str p.2)]
theorem long_any (p : Pr) (w : World) : Calls Try.prog 50 #[.agg #[.string (str p.1), .string (str p.2)]] w fun e w' => e = .returned (.bool (longB p)) ∧ Gr w w' := by
  obtain ⟨k, v⟩ := p
  have hI : ∀ a n : Nat, decide ((a : Int) < (n : Int)) = decide (a < n) := fun a n => by rw [decide_eq_decide]; omega
  have HL := Lib.hid (show longB (k, v) = (decide ((200 : Int) < (k.length : Int)) || decide ((2000 : Int) < (v.length : Int))) by
    show _ = (decide (((200 : Nat) : Int) < (k.length : Int)) || decide (((2000 : Nat) : Int) < (v.length : Int)))
    rw [hI, hI]; rfl)
  dsimp only
  by_cases h1 : (200 : Int) < (k.length : Int)
  · go_enter Try.func50, Try.ntmps50
    go_wp2
    go_ret
    exact ⟨by rw [HL.out, decide_eq_true h1]; simp [h1], Gr.alloc _ _⟩
  · go_enter Try.func50, Try.ntmps50
    go_wp2
    go_ret
    exact ⟨by rw [HL.out, show decide ((200 : Int) < (k.length : Int)) = false from decide_eq_false (by omega)]; rfl, Gr.alloc _ _⟩
set_option maxRecDepth 100000 in
theorem index_long (ad : Option Addr) (cap : Nat) (l : List Pr) (w : World) (hl : l.length ≤ 9223372036854775807) (hr : Row w ad (pv l)) :
    Calls Try.prog 57 #[.slice ad l.length cap, .func (.func 50) #[] #[]] w fun e w' => ∃ z : Int, e = .returned (.int .i64 z) ∧ decide (0 ≤ z) = l.any longB ∧ Gr w w' := by
  have HR := Lib.hid hr.pair; clear hr
  go_enter Try.func57, Try.ntmps57
  go_wp2
  go_loopw [8] (fun v wr => ∃ i : Nat, i ≤ l.length ∧ v = .int .i64 (i : Int) ∧ Gr w wr ∧ (l.take i).any longB = false) (fun v _ => l.length - (intOf v).toNat)
  case atStart => exact ⟨0, Nat.zero_le _, rfl, Gr.refl _, rfl⟩
  case round =>
    obtain ⟨i, hi, rfl, hg, hn⟩ := hrel
    have HN := Lib.hid hn; clear hn
    by_cases hlt : i < l.length
    · obtain ⟨b, off, rfl, hc1, hc2⟩ := HR.out i hlt
      have q1 := hg.cell hc1
      have q2 := hg.cell hc2
      have HT := Lib.hid (show (l.take (i + 1)).any longB = longB l[i] by rw [List.take_succ_eq_append_getElem hlt, List.any_append, HN.out]; simp)
      have HM := Lib.hid (List.getElem_mem hlt)
      have HA := Lib.hid (fun w => long_any l[i] w)
      generalize l[i] = p at *
      cases hb : longB p with
      | true =>
        rw [hb] at HA
        have HB := Lib.hid hb; clear hb
        go_wp2_with (go_at_call 50; refine (HA.out _).mono ?_; rintro e w1 ⟨rfl, g1⟩)
        go_ret
        exact ⟨_, rfl, by rw [List.any_eq_true.2 ⟨p, HM.out, HB.out⟩]; simp, hg.trans g1⟩
      | false =>
        rw [hb] at HA HT
        have HB := Lib.hid hb; clear hb
        go_wp2_with (go_at_call 50; refine (HA.out _).mono ?_; rintro e w1 ⟨rfl, g1⟩)
        go_roundw
        case rel => exact ⟨i + 1, hlt, by go_num, hg.trans g1, HT.out⟩
        case measure => simp [intOf]; omega
    · obtain rfl : i = l.length := by omega
      go_wp2
      go_ret
      exact ⟨_, rfl, by have := HN.out; rw [List.take_length] at this; rw [this]; rfl, hg⟩
theorem contains_long (ad : Option Addr) (cap : Nat) (l : List Pr) (w : World) (hl : l.length ≤ 9223372036854775807) (hr : Row w ad (pv l)) :
    Calls Try.prog 51 #[.slice ad l.length cap, .func (.func 50) #[] #[]] w fun e w' => e = .returned (.bool (l.any longB)) ∧ Gr w w' := by
  have HI := Lib.hid (index_long ad cap l w hl hr)
  go_enter Try.func51, Try.ntmps51
  go_wp2_with (go_at_call 57; refine HI.out.mono ?_; rintro e w1 ⟨z, rfl, hz, g1⟩)
  go_ret
  exact ⟨by rw [← hz]; rfl, g1⟩
theorem key_le (a b : List UInt8) : (!bytesLess b a) = true ↔ bytesLess b a = false := by simp
theorem check_arg (ad : Option Addr) (cap : Nat) (l : List Pr) (itv : Int) (w : World) (hi : itv < 1 ∨ 64 < itv) :
    Calls Try.prog 30 #[.slice ad l.length cap, .int .i64 itv] w fun e w' => e = .returned (.int .i64 1) ∧ Gr w w' := by
  rcases hi with h | h
  · go_enter Try.func30, Try.ntmps30
    go_wp2
    go_ret
    exact ⟨rfl, Gr.refl _⟩
  · go_enter Try.func30, Try.ntmps30
    go_wp2
    go_ret
    exact ⟨rfl, Gr.refl _⟩
theorem check_big (ad : Option Addr) (cap : Nat) (l : List Pr) (itv : Int) (w : World) (h1 : 1 ≤ itv) (h2 : itv ≤ 64) (hl : l.length ≤ 9223372036854775807) (hr : Row w ad (pv l)) (hb : 10000 < l.length ∨ l.any longB = true) :
    Calls Try.prog 30 #[.slice ad l.length cap, .int .i64 itv] w fun e w' => e = .returned (.int .i64 14) ∧ Gr w w' := by
  have HC := Lib.hid (contains_long ad cap l w hl hr)
  by_cases h3 : 10000 < l.length
  · clear hb
    go_enter Try.func30, Try.ntmps30
    go_wp2
    go_ret
    exact ⟨rfl, Gr.refl _⟩
  · have hb2 : l.any longB = true := by rcases hb with h | h; · exact absurd h h3
                                        · exact h
    rw [hb2] at HC
    clear hb hb2
    go_enter Try.func30, Try.ntmps30
    go_wp2_with (go_at_call 51; refine HC.out.mono ?_; rintro e w1 ⟨rfl, g1⟩)
    go_ret
    exact ⟨rfl, g1⟩
set_option maxRecDepth 100000 in
set_option maxHeartbeats 1000000 in
theorem check_rest (ad : Option Addr) (cap : Nat) (l : List Pr) (itv : Int) (w : World) (h1 : 1 ≤ itv) (h2 : itv ≤ 64) (hr : Row w ad (pv l)) (hl : l.length ≤ 10000) (hb : l.any longB = false) :
    Calls Try.prog 30 #[.slice ad l.length cap, .int .i64 itv] w fun e w' => e = .returned (.int .i64 (if riseB l then 0 else 2)) ∧ Gr w w' := by
  have HC := Lib.hid (contains_long ad cap l w (by omega) hr)
  rw [hb] at HC
  have HR := Lib.hid hr.pair; clear hr hb
  have hchk : ∃ c : Int, c = (if riseB l then 0 else 2) := ⟨_, rfl⟩
  obtain ⟨c, hc⟩ := hchk
  have HCC := Lib.hid hc
  rw [← hc]
  clear hc
  go_enter Try.func30, Try.ntmps30
  go_wp2_with (go_at_call 51; refine HC.out.mono ?_; rintro e w1 ⟨rfl, g1⟩)
  go_loopw [6] (fun v wr => ∃ i : Nat, 1 ≤ i ∧ (i ≤ l.length ∨ i = 1) ∧ v = .int .i64 (i : Int) ∧ Gr w wr ∧ (∀ j, j + 1 < i → bytesLess (l.getD j noPr).1 (l.getD (j + 1) noPr).1 = true)) (fun v _ => l.length - (intOf v).toNat)
  case atStart => exact ⟨1, Nat.le_refl _, .inr rfl, rfl, g1, fun j hj => by omega⟩
  case round =>
    obtain ⟨i, hi1, hi2, rfl, hg, hn⟩ := hrel
    have HN := Lib.hid hn; clear hn
    by_cases hlt : i < l.length
    · obtain ⟨i0, rfl⟩ : ∃ i0, i = i0 + 1 := ⟨i - 1, by omega⟩
      obtain ⟨b, off, rfl, hc1, hc2⟩ := HR.out (i0 + 1) hlt
      obtain ⟨b', off', e', hc3, hc4⟩ := HR.out i0 (by omega)
      cases e'
      have q1 := hg.cell hc1
      have q3 := hg.cell hc3
      have hlt0 : i0 < l.length := by omega
      have G1 := Lib.hid (show l.getD (i0 + 1) noPr = l[i0 + 1] by rw [List.getD_eq_getElem?_getD, List.getElem?_eq_getElem hlt, Option.getD_some])
      have G0 := Lib.hid (show l.getD i0 noPr = l[i0] by rw [List.getD_eq_getElem?_getD, List.getElem?_eq_getElem hlt0, Option.getD_some])
      clear hc1 hc2 hc3 hc4
      generalize l[i0 + 1] = p at *
      generalize l[i0] = p0 at *
      have HJ := Lib.hid (show ∀ j, j + 1 < i0 + 1 + 1 → j + 1 < i0 + 1 ∨ j = i0 from fun j hj => by omega)
      cases hb : bytesLess p0.1 p.1 with
      | true =>
        have HB := Lib.hid hb
        have x1 := bl_asymm hb
        have x2 : (p.1 == p0.1) = false := by rw [beq_eq_false_iff_ne]; intro e; rw [e, bl_irr] at hb; cases hb
        clear hb
        go_wp2
        go_quiet (fail)
        go_wp2
        go_roundw
        case rel =>
          refine ⟨i0 + 1 + 1, by omega, .inl (by omega), by go_num, hg.trans (Gr.drewN _ _), fun j hj => ?_⟩
          rcases HJ.out j hj with h | rfl
          · exact HN.out j h
          · rw [G0.out, G1.out]; exact HB.out
        case measure => simp [intOf]; omega
      | false =>
        have HF := Lib.hid (show riseB l = false by
          rw [Bool.eq_false_iff]; intro h
          have := riseB_iff.1 h i0 hlt
          rw [G0.out, G1.out, hb] at this; cases this)
        cases hc : bytesLess p.1 p0.1 with
        | true =>
          clear hb
          go_wp2
          go_quiet (fail)
          go_wp2
          go_ret
          exact ⟨by rw [HCC.out, HF.out]; rfl, hg.trans (Gr.drewN _ _)⟩
        | false =>
          have x2 : (p.1 == p0.1) = true := by rw [beq_iff_eq]; exact bl_total hc hb
          clear hb
          go_wp2
          go_quiet (fail)
          go_wp2
          go_ret
          exact ⟨by rw [HCC.out, HF.out]; rfl, hg.trans (Gr.drewN _ _)⟩
    · go_wp2
      go_ret
      refine ⟨?_, hg⟩
      rw [HCC.out, if_pos (riseB_iff.2 fun j hj => HN.out j (by omega))]
      rfl
end Go.Proofs.Ytnbinodhdgnjlaa
