/- Layer 14 (table): TableBytes answers true. -/
import Derived.Test.YtlfbelocdpboeaaGreatDoorTabDoc5
namespace Go.Proofs.YtlfbelocdpboeaaGreatDoor
set_option linter.unusedVariables false
set_option linter.unusedSimpArgs false
open Go.RowKit Tab
set_option maxRecDepth 100000 in
set_option maxHeartbeats 4000000 in
theorem TableBytes_any (ad : Option Addr) (cap : Nat) (l : List Ci) (size bits : Int) (w : World) (hr : Row w ad (cv l)) (hl : l.length ≤ 9223372036854775807) (hlc : l.length ≤ cap) (hvl : ∀ c ∈ l, c.val.length ≤ 9223372036854775807) :
    Calls Tryz.prog 3 #[.slice ad l.length cap, .int .i64 size, .int .i64 bits] w fun e w' => e = .returned (.bool true) ∧ Gr w w' := by
  by_cases h2 : 200 < l.length
  · clear hr hvl
    go_enter Tryz.func3, Tryz.ntmps3
    go_wp2_with (first
      | (go_at_call 5; go_must (refine (tabled_any _).mono ?_); rintro e1 w1 ⟨rfl, g1⟩)
      | fail)
    go_ret
    exact ⟨rfl, g1⟩
  · have hRl := riseC_len l
    have hRv : ∀ c ∈ riseC l, c.val.length ≤ 9223372036854775807 := fun c hc => hvl c (gather_mem (fun _ => true) l (min l.length 60) (by omega) c hc).1
    have HD1 := Lib.hid (dBuild_any ad cap l size bits w hr hl hvl)
    have HB1 := Lib.hid (fun w' (k : Gr w w') => tBuild_any ad cap l size bits w' hl hlc (hr.gr k))
    have HRi := Lib.hid (fun w' (k : Gr w w') => trising_any ad cap l w' (hr.gr k) hl hvl)
    have HD2 := Lib.hid (fun ad' cap' w' h => dBuild_any ad' cap' (riseC l) size bits w' h (by omega) hRv)
    have HB2 := Lib.hid (fun ad' cap' w' hc h => tBuild_any ad' cap' (riseC l) size bits w' (by omega) hc h)
    have HRC := Lib.hid (show gatherN (fun _ => true) l (min l.length 60) = riseC l from rfl)
    rw [HRC.out] at HRi
    unfold RetBE at HB1 HB2
    generalize hb1 : (buildT l size bits).1 = b1 at *
    generalize (buildT l size bits).2 = e1 at *
    generalize (buildT (riseC l) size bits).1 = b2 at *
    generalize (buildT (riseC l) size bits).2 = e2 at *
    clear hr hvl hRv HRC hb1
    generalize riseC l = R at *
    have T1 : RowKit.Hid True := trivial
    have T2 : RowKit.Hid True := trivial
    go_enter Tryz.func3, Tryz.ntmps3
    go_wp2_with (first
      | (go_at_call 6; clear T1; go_must (refine HD1.out.mono ?_); rintro e w1 ⟨rfl, g1⟩)
      | (go_at_call 7; clear T2; go_must (refine (HB1.out _ g1).mono ?_); rintro e w2 ⟨ad2, c2, rfl, o2, g2⟩)
      | (go_at_call 8; go_must (refine (HRi.out _ (g1.trans g2)).mono ?_); rintro e w3 ⟨ad3, c3, rfl, o3, g3⟩)
      | (go_at_call 6; go_must (refine (HD2.out ad3 c3 _ o3.row).mono ?_); rintro e w4 ⟨rfl, g4⟩)
      | (go_at_call 7; go_must (refine (HB2.out ad3 c3 _ o3.2.1 (o3.gr g4).row).mono ?_); rintro e w5 ⟨ad5, c5, rfl, o5, g5⟩)
      | (go_at_call 5; go_must (refine (tabled_any _).mono ?_); rintro e w6 ⟨rfl, g6⟩
         have hs1 := run_string (P := Tryz.prog) Tryz.underlying27 Tryz.underlying5 Tryz.underlying9 (cap := c2) (len := b1.length) (l := b1) rfl ((((o2.gr g3).gr g4).gr g5).gr g6).bytes
         have hs2 := run_string (P := Tryz.prog) Tryz.underlying27 Tryz.underlying5 Tryz.underlying9 (cap := c5) (len := b2.length) (l := b2) rfl (o5.gr g6).bytes)
      | fail)
    go_ret
    exact ⟨rfl, (((g1.trans g2).trans (g3.trans g4)).trans g5).trans g6⟩
end Go.Proofs.YtlfbelocdpboeaaGreatDoor
