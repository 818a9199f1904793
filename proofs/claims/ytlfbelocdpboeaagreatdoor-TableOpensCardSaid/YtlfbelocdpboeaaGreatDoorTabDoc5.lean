/- Layer 14 (table): the reference's DocBuild walked. -/
import Derived.Test.YtlfbelocdpboeaaGreatDoorTabDoc4
namespace Go.Proofs.YtlfbelocdpboeaaGreatDoor
set_option linter.unusedVariables false
set_option linter.unusedSimpArgs false
open Go.RowKit Tab
set_option maxRecDepth 100000 in
set_option maxHeartbeats 2000000 in
theorem dBuild_any (ad : Option Addr) (cap : Nat) (l : List Ci) (size bits : Int) (w : World) (hr : Row w ad (cv l)) (hl : l.length ≤ 9223372036854775807) (hvl : ∀ c ∈ l, c.val.length ≤ 9223372036854775807) :
    Calls Tryz.prog 6 #[.slice ad l.length cap, .int .i64 size, .int .i64 bits] w fun e w' => e = .returned (.tuple #[.string (str (buildT l size bits).1), .int .i64 ((buildT l size bits).2 : Nat)]) ∧ Gr w w' := by
  have HC := Lib.hid (dchk_any ad cap l size bits w hr hl hvl)
  by_cases hc : chkT l size bits = 0
  · obtain ⟨s1, s2, b1, b2, h5, hbg, hne, hord⟩ := chkT_ok hc
    obtain ⟨hgood, hn0, hf5, _⟩ := good_of hc
    have HRu := Lib.hid (fun w' (k : Gr w w') => druns_any ad cap l size w' (hr.gr k) h5 (fun c hcc => sizeC_le (big_le hbg c hcc)))
    have hfl := runs_flat size l
    have hsh : Short (keysF (runsF size l).flatten) := fun s hs => by
      rw [hfl] at hs
      obtain ⟨c, h1, h2⟩ := keys_mem hs
      have := keyC_le (ord_ok hord c h1)
      rw [h2] at this
      omega
    have hlay := hgood.lay hf5
    have HLy := Lib.hid (fun ad' cap' vs w' (h1 : Row w' ad' vs) (h2 : SlsOf (runsF size l) vs w') => dlay_any ad' cap' (runsF size l) vs bits w' h1 h2 hgood.ne hgood.count hgood.len (fun r _ c _ => sortG_len _ _ _) hsh b1 b2 (by rw [hfl]; omega))
    rw [hfl] at HLy
    have HB := Lib.hid (show buildT l size bits = (layF (runsF size l) (buildF (keysF l) bits).1, 0) by unfold buildT; rw [if_pos hc])
    rw [hc] at HC
    rw [HB.out]
    clear hc hr hvl hgood hn0 hf5 hfl hsh hlay hbg hne hord
    generalize layF (runsF size l) (buildF (keysF l) bits).1 = S at *
    generalize runsF size l = L at *
    go_enter Tryz.func6, Tryz.ntmps6
    go_wp2_with (first
      | (go_at_call 16; go_must (refine HC.out.mono ?_); rintro e w1 ⟨rfl, g1⟩)
      | (go_at_call 18; go_must (refine (HRu.out _ g1).mono ?_); rintro e w2 ⟨ad2, c2, vs2, rfl, o2, s2, g2⟩)
      | (go_at_call 17; go_must (refine (HLy.out _ _ _ _ o2.row s2).mono ?_); rintro e w3 ⟨rfl, g3⟩)
      | fail)
    go_ret2
    exact ⟨rfl, (g1.trans g2).trans g3⟩
  · have HB := Lib.hid (chkT_two hc)
    obtain ⟨c, hcc⟩ : ∃ c, c = chkT l size bits := ⟨_, rfl⟩
    rw [HB.out]
    rw [← hcc] at HC hc ⊢
    have hcb : ((c : Int) != 0) = true := by rw [bne_iff_ne]; omega
    clear hcc hc hr hvl
    go_enter Tryz.func6, Tryz.ntmps6
    go_wp2_with (first
      | (go_at_call 16; go_must (refine HC.out.mono ?_); rintro e w1 ⟨rfl, g1⟩)
      | fail)
    go_ret2
    exact ⟨rfl, g1⟩
end Go.Proofs.YtlfbelocdpboeaaGreatDoor
