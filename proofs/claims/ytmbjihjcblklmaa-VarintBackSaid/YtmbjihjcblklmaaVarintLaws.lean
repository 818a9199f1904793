/- Layer 3 (varint): what the statements' functions answer. -/
import Derived.Test.YtmbjihjcblklmaaVarintText
import Derived.Test.YtmbjihjcblklmaaVarintLaw
namespace Go.Proofs.Ytmbjihjcblklmaa
set_option linter.unusedVariables false
set_option linter.unusedSimpArgs false
open Go.RowKit Varint
set_option maxRecDepth 100000 in
theorem counts_any (w : World) : Calls Try.prog 12 #[] w fun e w' => e = .returned (.bool true) ∧ Gr w w' := by
  have hg : getF [128, 1, 7] = (128, 2, 0) := by decide +kernel
  have hp : putF 128 = [128, 1] := by decide +kernel
  have G := Lib.hid (Get_any (some ⟨w.heap.size, 0, none⟩) 3 3 [128, 1, 7] (w.alloc (.cells #[.int .u8 128, .int .u8 1, .int .u8 7] 5)) rfl (by decide) (Bytes.alloc _ _ _ _ _ rfl))
  rw [hg] at G
  have P := Lib.hid (fun w => Put_any 128 w (by decide))
  rw [hp] at P
  clear hg hp
  go_enter Try.func12, Try.ntmps12
  go_wp2_with (first | (go_at_call 18; refine G.out.mono ?_; rintro e w' ⟨rfl, rfl⟩) | (go_at_call 10; refine (P.out _).mono ?_; rintro e w1 ⟨ad, cap, rfl, o1, g1⟩; have hs := run_string (P := Try.prog) Try.underlying23 Try.underlying5 Try.underlying9 (cap := cap) (len := 2) rfl o1.bytes))
  go_ret
  exact ⟨rfl, (Gr.alloc _ _).trans g1⟩
set_option maxRecDepth 100000 in
set_option maxHeartbeats 2000000 in
theorem VarintGets_any (ad : Option Addr) (len cap : Nat) (l : List UInt8) (w : World) (hl : l.length = len) (hm : len ≤ maxLen) (hb : Bytes w ad l) :
    Calls Try.prog 5 #[.slice ad len cap] w fun e w' => e = .returned (.bool true) ∧ Gr w w' := by
  have hs := run_string (P := Try.prog) Try.underlying23 Try.underlying5 Try.underlying9 (cap := cap) hl hb
  have RG := Lib.hid (rGet_any (str l) w (by rw [str_size]; omega))
  rw [str_list] at RG
  have G := Lib.hid (Get_any ad len cap l w hl hm hb)
  have GS := Lib.hid (GetSigned_any ad len cap l w hl hm hb)
  have hlt := getF_lt l
  generalize hp : getF l = p at *
  obtain ⟨n, k, e⟩ := p
  simp only at hlt
  have U := Lib.hid (Unfold_any n w hlt)
  by_cases he : e = 0
  · subst he
    have HP := Lib.hid hp; clear hp
    have x1 : ((unfoldF n) == (unfoldF n)) = true := by simp
    go_enter Try.func5, Try.ntmps5
    go_wp2_with (first | (go_at_call 17; refine RG.out.mono ?_; rintro e w' ⟨rfl, rfl⟩) | (go_at_call 18; refine G.out.mono ?_; rintro e w' ⟨rfl, rfl⟩) | (go_at_call 19; refine GS.out.mono ?_; rintro e w' ⟨rfl, rfl⟩) | (go_at_call 12; refine (counts_any _).mono ?_; rintro e w1 ⟨rfl, g1⟩) | (go_at_call 20; refine (Unfold_any n _ hlt).mono ?_; rintro e w' ⟨rfl, rfl⟩))
    go_ret
    exact ⟨rfl, g1⟩
  · obtain ⟨rfl, rfl⟩ := getF_err hp he
    have hne : ((e : Int) != 0) = true := by rw [bne_iff_ne]; omega
    have hu : unfoldF 0 = 0 := rfl
    simp only [hu] at GS
    have HP := Lib.hid hp; clear hp
    have HU := Lib.hid hu; clear hu he
    go_enter Try.func5, Try.ntmps5
    go_wp2_with (first | (go_at_call 17; refine RG.out.mono ?_; rintro e w' ⟨rfl, rfl⟩) | (go_at_call 18; refine G.out.mono ?_; rintro e w' ⟨rfl, rfl⟩) | (go_at_call 19; refine GS.out.mono ?_; rintro e w' ⟨rfl, rfl⟩) | (go_at_call 12; refine (counts_any _).mono ?_; rintro e w1 ⟨rfl, g1⟩))
    go_ret
    exact ⟨rfl, g1⟩
end Go.Proofs.Ytmbjihjcblklmaa
