/- Layer 8 (frame): FrameScans answers true. -/
import Derived.Test.YtmjhffohfppnaaaFrameDoc
import Derived.Test.YtmjhffohfppnaaaFrameBack
namespace Go.Proofs.Ytmjhffohfppnaaa
set_option linter.unusedVariables false
set_option linter.unusedSimpArgs false
open Go.RowKit Fr
theorem scanN_count (b : List UInt8) : ∀ f a e o r out, out.length ≤ a → a ≤ b.length → (scanN b f a e o r out).1.length ≤ b.length
  | 0, a, e, o, r, out, h, ha => by simp only [scanN]; omega
  | f + 1, a, e, o, r, out, h, ha => by
    simp only [scanN]
    cases ht : takeF b a with
    | none => simp only; omega
    | some x =>
      obtain ⟨k, s, t⟩ := x
      have := take_lt ht
      simp only
      split
      · simp only; omega
      · split
        · exact scanN_count b f _ _ _ _ _ (by omega) (by omega)
        · exact scanN_count b f _ _ _ _ _ (by rw [List.length_append]; simp only [List.length_cons, List.length_nil]; omega) (by omega)
theorem scanF_count (l : List UInt8) : (scanF l).1.length ≤ l.length := scanN_count l _ 0 0 false [] [] (Nat.le_refl _) (Nat.zero_le _)
set_option maxRecDepth 100000 in
set_option maxHeartbeats 4000000 in
theorem FrameScans_any (ad : Option Addr) (cap : Nat) (l : List UInt8) (w : World) (hc : l.length ≤ cap) (hm : cap ≤ maxLen) (hb : Bytes w ad l) :
    Calls Try.prog 4 #[.slice ad l.length cap] w fun e w' => e = .returned (.bool true) ∧ Gr w w' := by
  have hmx : maxLen ≤ 9223372036854775807 := by decide
  have HB := Lib.hid hb
  clear hb
  have hs0 := run_string (P := Try.prog) Try.underlying22 Try.underlying5 Try.underlying9 (cap := cap) rfl HB.out
  by_cases h5 : 5000 < l.length
  · go_enter Try.func4, Try.ntmps4
    go_wp2_with (go_at_call 10; refine (framed_any _).mono ?_; rintro e w1 ⟨rfl, g1⟩)
    go_ret
    exact ⟨rfl, g1⟩
  · have HD := Lib.hid (fun w => rDocScan_any l w (by omega))
    have HF := Lib.hid (fun w hb => Scan_any l ad cap w (by omega) hc hm hb)
    have hlen := scanF_count l
    generalize scanF l = R at *
    obtain ⟨out, n⟩ := R
    dsimp only at hlen
    go_enter Try.func4, Try.ntmps4
    go_wp2_with (first
      | (go_at_call 15; refine (HD.out _).mono ?_; rintro e w1 ⟨ad1, c1, rfl, o1, g1⟩; dsimp only at o1 ⊢)
      | (go_at_call 16; refine (HF.out _ (HB.out.gr g1)).mono ?_; rintro e w2 ⟨ad2, c2, rfl, o2, g2⟩; dsimp only at o2 ⊢)
      | (go_at_call 10; refine (framed_any _).mono ?_; rintro e w3 ⟨rfl, g3⟩)
      | (go_at_call 17; go_loud (refine (Texts_same _ _ _ _ _ _ out _ rfl rfl (by omega) ((o1.gr g2).gr g3).row (o2.gr g3).row).mono ?_; rintro e w4 ⟨rfl, g4⟩)))
    go_ret
    exact ⟨rfl, ((g1.trans g2).trans g3).trans g4⟩
theorem FrameScans_len (ad : Option Addr) (len cap : Nat) (l : List UInt8) (w : World) (hl : l.length = len) (hc : len ≤ cap) (hm : cap ≤ maxLen) (hb : Bytes w ad l) :
    Calls Try.prog 4 #[.slice ad len cap] w fun e w' => e = .returned (.bool true) ∧ Gr w w' := by
  subst hl; exact FrameScans_any ad cap l w hc hm hb
end Go.Proofs.Ytmjhffohfppnaaa
