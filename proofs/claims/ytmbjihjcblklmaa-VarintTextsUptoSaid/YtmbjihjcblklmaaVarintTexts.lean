/- Layer 3 (varint): VarintTexts answers true. -/
import Derived.Test.YtmbjihjcblklmaaVarintLaws
import Derived.Outline
namespace Go.Proofs.Ytmbjihjcblklmaa
open Go.RowKit Varint
theorem getText_put (t r : List UInt8) (most : Int) (h : t.length < 18446744073709551616) :
    getTextF ((putF t.length ++ t) ++ r) most = if most < (t.length : Int) then ([], 0, 14) else (t, (putF t.length).length + t.length, 0) := by
  unfold getTextF
  rw [List.append_assoc, get_put _ _ h]
  by_cases h1 : most < (t.length : Int)
  · rw [if_pos h1]; simp [h1]
  · rw [if_neg h1]
    have h2 : ¬ most < 0 := by omega
    simp [h1, h2]
theorem VT4 {w4 : World} {base : Nat} {ad4 : Option Addr} {cap4 len : Nat} {P l : List UInt8} {most : Int} (o4 : Owns w4 base 5 1 ad4 cap4 (P.length + len) (bv P ++ bv l)) (hl : l.length = len) (h1 : -9223372036854775808 ≤ most) (h2 : most ≤ 9223372036854775807) (hs : P.length + len ≤ 4194304) :
    Calls Try.prog 22 #[.slice ad4 (P.length + len) cap4, .int .i64 most] w4 fun e w' => e = .returned (.tuple #[.string (str (getTextF (P ++ l) most).1), .int .i64 (getTextF (P ++ l) most).2.1, .int .i64 (getTextF (P ++ l) most).2.2]) ∧ w4 = w' := by
  rw [← bv_append] at o4
  exact GetText_any ad4 _ cap4 (P ++ l) most w4 (by rw [List.length_append, hl]) o4.2.1 (by unfold maxLen; omega) o4.bytes h1 h2
set_option maxRecDepth 100000 in
set_option maxHeartbeats 4000000 in
theorem VarintTexts_any (ad : Option Addr) (len cap : Nat) (l s : List UInt8) (most : Int) (w : World) (hl : l.length = len) (hc : len ≤ cap) (hb : Bytes w ad l) (h1 : -9223372036854775808 ≤ most) (h2 : most ≤ 9223372036854775807) (hu : len ≤ 1048576) (hs : s.length ≤ 1048576) :
    Calls Try.prog 8 #[.slice ad len cap, .string (str s), .int .i64 most] w fun e w' => e = .returned (.bool true) ∧ Gr w w' := by
  have hst := run_string (P := Try.prog) Try.underlying23 Try.underlying5 Try.underlying9 (cap := cap) hl hb
  have RG := Lib.hid (rGetText_any (str l) most w (by rw [str_size]; unfold maxLen; omega) h1 h2)
  rw [str_list] at RG
  have G := Lib.hid (GetText_any ad len cap l most w hl hc (by unfold maxLen; omega) hb h1 h2)
  have PT := Lib.hid (fun w => PutText_any (str s) w (by rw [str_size]; omega))
  simp only [str_size, str_list] at PT
  have hp := putN_len 9 s.length
  have hn : (putF s.length ++ s).length ≤ 1048586 := by rw [List.length_append]; unfold putF; omega
  have GT := Lib.hid (getText_put s l most (by omega))
  have HZ := Lib.hid (str_size s)
  have HN := Lib.hid (@List.length_append _ (putF s.length) s)
  clear hp
  generalize hP : putF s.length ++ s = P at *
  have HP := Lib.hid hP; clear hP
  generalize getTextF l most = T at *
  have hm1 : P.length + len ≤ maxLen := by unfold maxLen; omega
  have hm2 : (P.length + len) * 1 ≤ 140737488355328 := by omega
  have hm3 : P.length + len ≤ 4194304 := by omega
  by_cases hmo : most < (s.length : Int)
  · have hv : getTextF (P ++ l) most = ([], 0, 14) := by rw [GT.out, if_pos hmo]
    have hmz : most < ((str s).size : Int) := by rw [str_size]; exact hmo
    have HV := Lib.hid hv; clear hv
    go_enter Try.func8, Try.ntmps8
    go_wp2_with (first | (go_at_call 21; refine RG.out.mono ?_; rintro e w' ⟨rfl, rfl⟩) | (go_at_call 12; refine (counts_any _).mono ?_; rintro e w1 ⟨rfl, g1⟩) | (go_at_call 15; refine (PT.out _).mono ?_; rintro e w3 ⟨ad3, cap3, rfl, o3, g3⟩) | (at_builtin; refine wp_append elemB rfl _ _ rfl rfl o3 rfl (Src.bytes ((hb.gr g1).gr g3) hl Try.underlying23) hm1 hm2 g3.size ?_; intro ad4 cap4 w4 o4 k4 f4; have G4 := Lib.hid (VT4 o4 hl h1 h2 hm3); rw [HV.out] at G4; clear G) | (go_at_call 22; refine G.out.mono ?_; rintro e w' ⟨rfl, rfl⟩) | (go_at_call 22; refine G4.out.mono ?_; rintro e w' ⟨rfl, rfl⟩))
    go_ret
    exact ⟨rfl, (g1.trans g3).grown k4 (fun k hk => by
      cases ad3 with
      | none => cases hk
      | some x => cases hk; exact Nat.le_trans g1.size (o3.lt x rfl).1)⟩
  · have hv : getTextF (P ++ l) most = (s, (putF s.length).length + s.length, 0) := by rw [GT.out, if_neg hmo]
    have hmz : ¬ most < ((str s).size : Int) := by rw [str_size]; exact hmo
    have HV := Lib.hid hv; clear hv
    have hpl : (putF s.length).length + s.length = P.length := HN.out.symm
    rw [hpl] at HV
    have x2 : ((str s).size : Int) ≤ most := by omega
    clear hpl
    go_enter Try.func8, Try.ntmps8
    go_wp2_with (first | (go_at_call 21; refine RG.out.mono ?_; rintro e w' ⟨rfl, rfl⟩) | (go_at_call 12; refine (counts_any _).mono ?_; rintro e w1 ⟨rfl, g1⟩) | (go_at_call 15; refine (PT.out _).mono ?_; rintro e w3 ⟨ad3, cap3, rfl, o3, g3⟩) | (at_builtin; refine wp_append elemB rfl _ _ rfl rfl o3 rfl (Src.bytes ((hb.gr g1).gr g3) hl Try.underlying23) hm1 hm2 g3.size ?_; intro ad4 cap4 w4 o4 k4 f4; have G4 := Lib.hid (VT4 o4 hl h1 h2 hm3); rw [HV.out] at G4; clear G) | (go_at_call 22; refine G.out.mono ?_; rintro e w' ⟨rfl, rfl⟩) | (go_at_call 22; refine G4.out.mono ?_; rintro e w' ⟨rfl, rfl⟩))
    go_ret
    exact ⟨rfl, (g1.trans g3).grown k4 (fun k hk => by
      cases ad3 with
      | none => cases hk
      | some x => cases hk; exact Nat.le_trans g1.size (o3.lt x rfl).1)⟩
end Go.Proofs.Ytmbjihjcblklmaa
