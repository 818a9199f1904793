/- Layer 6 (bloom): BloomBuilds answers true. -/
import Derived.Test.YtpkbifaeofcckaaBloomBytes
namespace Go.Proofs.Ytpkbifaeofcckaa
set_option linter.unusedVariables false
set_option linter.unusedSimpArgs false
open Go.RowKit Bloom
set_option maxRecDepth 100000 in
set_option maxHeartbeats 1000000 in
theorem BloomBuilds_any (ad : Option Addr) (cap : Nat) (keys : List (List UInt8)) (bits : Int) (w : World) (h1 : -9223372036854775808 ≤ bits) (h2 : bits ≤ 9223372036854775807) (hl : keys.length ≤ cap) (hc : cap ≤ maxLen) (hr : Row w ad (sv keys)) (hs : Short keys) :
    Calls Try.prog 4 #[.slice ad keys.length cap, .int .i64 bits] w fun e w' => e = .returned (.bool true) ∧ Gr w w' := by
  unfold maxLen at hc
  by_cases hb : (3000 : Int) < keys.length
  · go_enter Try.func4, Try.ntmps4
    go_wp2_with (go_at_call 10; refine (blooms_any _).mono ?_; rintro e w1 ⟨rfl, g1⟩)
    go_ret
    exact ⟨rfl, g1⟩
  · have H1 := Lib.hid (rDocBuild_any ad cap keys bits w (by omega) hr hs h1 h2)
    have H2 := Lib.hid (fun w1 (g : Gr w w1) => Build_any ad cap keys bits w1 (by omega) (hr.gr g) hs h1 h2)
    generalize buildF keys bits = F at *
    obtain ⟨f, n⟩ := F
    dsimp only at H1 H2
    go_enter Try.func4, Try.ntmps4
    go_wp2_with (first
      | (go_at_call 13; refine H1.out.mono ?_; rintro e w1 ⟨rfl, g1⟩)
      | (go_at_call 14; refine (H2.out _ g1).mono ?_; rintro e w2 ⟨ad2, cap2, rfl, o2, g2⟩)
      | (go_at_call 10; refine (blooms_any _).mono ?_; rintro e w3 ⟨rfl, g3⟩; have hs3 := run_string (P := Try.prog) Try.underlying30 Try.underlying5 Try.underlying9 (cap := cap2) rfl (o2.gr g3).bytes))
    go_ret
    exact ⟨rfl, (g1.trans g2).trans g3⟩
end Go.Proofs.Ytpkbifaeofcckaa
