/- Layer 8 (frame): Texts (the reference's). -/
import Derived.Test.YtmjhffohfppnaaaFrameScan
namespace Go.Proofs.Ytmjhffohfppnaaa
set_option linter.unusedVariables false
set_option linter.unusedSimpArgs false
open Go.RowKit Fr
theorem Row.at {w : World} {ad : Option Addr} {l : List (List UInt8)} (h : Row w ad (sv l)) (i : Nat) (hi : i < l.length) : ∃ b off, ad = some ⟨b, off, none⟩ ∧ w.cell? ⟨b, off + i, none⟩ = some (.string (str l[i])) :=
  h i _ (by simp [sv, hi])
set_option maxRecDepth 100000 in
set_option maxHeartbeats 1000000 in
theorem Texts_any (ad1 ad2 : Option Addr) (c1 c2 : Nat) (l m : List (List UInt8)) (w : World) (h1 : l.length ≤ 9223372036854775807) (h2 : m.length ≤ 9223372036854775807) (hr1 : Row w ad1 (sv l)) (hr2 : Row w ad2 (sv m)) :
    Calls Try.prog 17 #[.slice ad1 l.length c1, .slice ad2 m.length c2] w fun e w' => e = .returned (.bool (decide (l = m))) ∧ Gr w w' := by
  by_cases hl : l.length = m.length
  · have HR1 := Lib.hid hr1.at; have HR2 := Lib.hid hr2.at
    clear hr1 hr2
    have hne : ((l.length : Int) != (m.length : Int)) = false := by rw [bne_eq_false_iff_eq]; omega
    have HL := Lib.hid hl
    have hlm : m.length ≤ l.length ∧ l.length ≤ m.length := by omega
    obtain ⟨hlm1, hlm2⟩ := hlm
    clear hl
    go_enter Try.func17, Try.ntmps17
    go_wp2
    go_loopw [5] (fun v wr => ∃ i : Nat, i ≤ l.length ∧ v = .int .i64 (i : Int) ∧ Gr w wr ∧ l.take i = m.take i) (fun v _ => l.length - (intOf v).toNat)
    case atStart => exact ⟨0, Nat.zero_le _, rfl, Gr.refl _, rfl⟩
    case round =>
      obtain ⟨i, hi, rfl, hg, htk⟩ := hrel
      have HTK := Lib.hid htk; clear htk
      by_cases hlt : i < l.length
      · obtain ⟨b, off, rfl, hc⟩ := HR1.out i hlt
        obtain ⟨b', off', rfl, hc'⟩ := HR2.out i (by omega)
        have q := hg.cell hc
        have q' := hg.cell hc'
        have hlt2 : i < m.length := by omega
        by_cases he : l[i] = m[i]'hlt2
        · have HT2 := Lib.hid (show l.take (i + 1) = m.take (i + 1) by rw [List.take_succ_eq_append_getElem hlt, List.take_succ_eq_append_getElem hlt2, HTK.out, he])
          have hs : (l[i] == m[i]'hlt2) = true := by rw [beq_iff_eq]; exact he
          generalize l[i] = x at *
          generalize m[i]'hlt2 = y at *
          clear he
          go_wp2
          go_quiet (fail)
          go_wp2
          go_roundw
          case rel => exact ⟨i + 1, by omega, by go_num, hg.trans (Gr.drewN _ _), HT2.out⟩
          case measure => simp [intOf]; omega
        · have hs : (l[i] == m[i]'hlt2) = false := by rw [beq_eq_false_iff_ne]; exact he
          have HN := Lib.hid (show decide (l = m) = false by simp; intro h; subst h; exact he rfl)
          generalize l[i] = x at *
          generalize m[i]'hlt2 = y at *
          clear he
          go_wp2
          go_quiet (fail)
          go_wp2
          go_ret
          exact ⟨by rw [HN.out]; rfl, hg.trans (Gr.drewN _ _)⟩
      · obtain rfl : i = l.length := by omega
        have HE := Lib.hid (show decide (l = m) = true by simp; have := HTK.out; rwa [List.take_length, HL.out, List.take_length] at this)
        go_wp2
        go_ret
        exact ⟨by rw [HE.out]; rfl, hg⟩
  · have hne : ((l.length : Int) != (m.length : Int)) = true := by rw [bne_iff_ne]; omega
    have HN := Lib.hid (show decide (l = m) = false by simp; intro h; exact hl (by rw [h]))
    go_enter Try.func17, Try.ntmps17
    go_wp2
    go_ret
    exact ⟨by rw [HN.out]; rfl, Gr.refl _⟩
end Go.Proofs.Ytmjhffohfppnaaa
