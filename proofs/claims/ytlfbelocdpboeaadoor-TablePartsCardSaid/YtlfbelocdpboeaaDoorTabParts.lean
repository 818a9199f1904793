/- Layer 14 (table): TableParts answers true. -/
import Derived.Test.YtlfbelocdpboeaaDoorTabPartsM
namespace Go.Proofs.YtlfbelocdpboeaaDoor
set_option linter.unusedVariables false
set_option linter.unusedSimpArgs false
open Go.RowKit Tab
set_option maxRecDepth 100000 in
set_option maxHeartbeats 4000000 in
theorem TableParts_few (ad : Option Addr) (cap : Nat) (l : List Ci) (x : Int) (v : Vr) (w : World) (hr : Row w ad (cv l)) (hl : l.length ≤ 9223372036854775807) (hvl : ∀ c ∈ l, c.val.length ≤ 9223372036854775807) (h2 : (riseC l).length < 2) :
    Calls Tryd.prog 6 #[.slice ad l.length cap, .int .i64 x, ver v.key v.seq v.kind] w fun e w' => e = .returned (.bool true) ∧ Gr w w' := by
  have HRi := Lib.hid (rise_build (cap := cap) hr hl hvl)
  have hR2 : decide (((riseC l).length : Int) < 2) = true := decide_eq_true (by omega)
  clear hr hvl
  generalize riseC l = R at *
  unfold ver
  go_enter Tryd.func6, Tryd.ntmps6
  go_wp2_with (first
    | (go_at_call 7; go_must (refine (tabled_any _).mono ?_); rintro e1 w1 ⟨rfl, g1⟩; have HG1 := Lib.hid ((Gr.alloc _ _).trans g1))
    | (go_at_call 9; go_must (refine (HRi.out _ HG1.out).mono ?_); rintro e2 w2 ⟨ad2, cp2, rfl, o2, g2⟩)
    | fail)
  go_ret
  exact ⟨rfl, HG1.out.trans g2⟩
set_option maxRecDepth 100000 in
set_option maxHeartbeats 4000000 in
theorem TableParts_bad (ad : Option Addr) (cap : Nat) (l : List Ci) (x : Int) (v : Vr) (w : World) (hr : Row w ad (cv l)) (hl : l.length ≤ 9223372036854775807) (hvl : ∀ c ∈ l, c.val.length ≤ 9223372036854775807) (h2 : 2 ≤ (riseC l).length) (hc : chkT (riseC l) 50 10 ≠ 0) :
    Calls Tryd.prog 6 #[.slice ad l.length cap, .int .i64 x, ver v.key v.seq v.kind] w fun e w' => e = .returned (.bool true) ∧ Gr w w' := by
  have HRi := Lib.hid (rise_build (cap := cap) hr hl hvl)
  have hRl := riseC_len l
  have hR2 : decide (((riseC l).length : Int) < 2) = false := decide_eq_false (by omega)
  obtain ⟨n, hn⟩ : ∃ n, n = (riseC l).length - 1 := ⟨_, rfl⟩
  obtain ⟨c, hxc, hcn⟩ := u64_mod x n (by omega) (by omega)
  obtain ⟨k, hk⟩ : ∃ k, k = 1 + c := ⟨_, rfl⟩
  have hn1 : ((riseC l).length : Int) - 1 = (n : Int) := by omega
  have hk1 : 1 + (c : Int) = (k : Int) := by omega
  have hn0 : (n : Int) ≠ 0 := by omega
  have hkR : k < (riseC l).length := by omega
  have HB1 := Lib.hid (tBuild_row (riseC l) 50 10 _ [] (chkT_two hc) _ rfl hRl)
  have HB2 := Lib.hid (tBuild_row ((riseC l).take k) 50 10 (buildT ((riseC l).take k) 50 10).2 (buildT ((riseC l).take k) 50 10).1 rfl k (by rw [List.length_take]; omega) (by rw [List.length_take]; omega))
  have HB3 := Lib.hid (tBuild_row ((riseC l).drop k) 50 10 (buildT ((riseC l).drop k) 50 10).2 (buildT ((riseC l).drop k) 50 10).1 rfl ((riseC l).length - k) (by rw [List.length_drop]) (by rw [List.length_drop]; omega))
  have HT := Lib.hid (fun (w' : World) (g : Nat) (h : Row w' (some ⟨g, 0, none⟩) (cv (riseC l))) => row_halves k h)
  generalize buildT ((riseC l).take k) 50 10 = B2 at *
  generalize buildT ((riseC l).drop k) 50 10 = B3 at *
  obtain ⟨b2, e2⟩ := B2
  obtain ⟨b3, e3⟩ := B3
  obtain ⟨e, he⟩ : ∃ e, e = chkT (riseC l) 50 10 := ⟨_, rfl⟩
  rw [← he] at HB1 hc
  have heb : ((e : Int) != 0) = true := by rw [bne_iff_ne]; omega
  clear he hc hr hvl hn hk
  have hAt := Lib.hid (show ∀ (B : Nat) (a : Option Addr) (cp : Nat) (w' : World), Owns w' B 44 4 a cp (riseC l).length (cv (riseC l)) → ∃ g, a = some ⟨g, 0, none⟩ from fun B a cp w' ho => by
    obtain ⟨g, e1, _⟩ := ho.at (cv_get (riseC l) 0 (by omega) 0 (by decide))
    exact ⟨g, e1⟩)
  generalize riseC l = R at *
  unfold ver
  have T1 : RowKit.Hid True := trivial
  have T2 : RowKit.Hid True := trivial
  have T3 : RowKit.Hid True := trivial
  go_enter Tryd.func6, Tryd.ntmps6
  go_wp2_with (first
    | (go_at_call 7; go_must (refine (tabled_any _).mono ?_); rintro e1 w1 ⟨rfl, g1⟩; have HG1 := Lib.hid ((Gr.alloc _ _).trans g1))
    | (go_at_call 9; go_must (refine (HRi.out _ HG1.out).mono ?_); rintro e2 w2 ⟨ad2, cp2, rfl, o2, g2⟩
       obtain ⟨g, hg⟩ := hAt.out _ _ _ _ o2
       subst hg
       have hcp := o2.2.1
       have hcm := o2.2.2.1
       have hne : (cp2 = k) = False := eq_false (by omega)
       have hkc : k ≤ cp2 := by omega
       have hcl : (cp2 : Int) ≤ 9223372036854775807 := by unfold maxLen at hcm; omega
       have HO2 := Lib.hid o2
       have HG2 := Lib.hid (HG1.out.trans g2)
       clear o2 g2)
    | (go_at_call 8; clear T1; go_must (refine (HB1.out (some ⟨g, 0, none⟩) cp2 _ hcp HO2.out.row).mono ?_); rintro e3 w3 ⟨ad3, cp3, rfl, o3, g3⟩)
    | (go_at_call 8; clear T2; go_must (refine (HB2.out (some ⟨g, 0, none⟩) cp2 _ hkc (HT.out _ g (HO2.out.gr g3).row).1).mono ?_); rintro e4 w4 ⟨ad4, cp4, rfl, o4, g4⟩)
    | (go_at_call 8; clear T3; go_must (refine (HB3.out (some ⟨g, k * 4, none⟩) (cp2 - k) _ (by omega) (HT.out _ g ((HO2.out.gr g3).gr g4).row).2).mono ?_); rintro e5 w5 ⟨ad5, cp5, rfl, o5, g5⟩)
    | fail)
  go_ret
  exact ⟨rfl, ((HG2.out.trans g3).trans g4).trans g5⟩
set_option maxRecDepth 100000 in
set_option maxHeartbeats 2000000 in
theorem TableParts_ok (ad : Option Addr) (cap : Nat) (l : List Ci) (x : Int) (v : Vr) (w : World) (hr : Row w ad (cv l)) (hl : l.length ≤ 9223372036854775807) (hvl : ∀ c ∈ l, c.val.length ≤ 9223372036854775807) (h2 : 2 ≤ (riseC l).length) (hc : chkT (riseC l) 50 10 = 0) :
    Calls Tryd.prog 6 #[.slice ad l.length cap, .int .i64 x, ver v.key v.seq v.kind] w fun e w' => e = .returned (.bool true) ∧ Gr w w' := by
  have HRi := Lib.hid (rise_build (cap := cap) hr hl hvl)
  have hRl := riseC_len l
  have hR2 : decide (((riseC l).length : Int) < 2) = false := decide_eq_false (by omega)
  obtain ⟨n, hn⟩ : ∃ n, n = (riseC l).length - 1 := ⟨_, rfl⟩
  obtain ⟨c, hxc, hcn⟩ := u64_mod x n (by omega) (by omega)
  obtain ⟨k, hk⟩ : ∃ k, k = 1 + c := ⟨_, rfl⟩
  obtain ⟨m, hm⟩ : ∃ m, m = (riseC l).length - k := ⟨_, rfl⟩
  have hn1 : ((riseC l).length : Int) - 1 = (n : Int) := by omega
  have hk1 : 1 + (c : Int) = (k : Int) := by omega
  have hn0 : (n : Int) ≠ 0 := by omega
  have hkR : k < (riseC l).length := by omega
  have hAl : ((riseC l).take k).length = k := by rw [List.length_take]; omega
  have hBl : ((riseC l).drop k).length = m := by rw [List.length_drop]; omega
  have hkm : (k : Int) + (m : Int) = ((riseC l).length : Int) := by omega
  have hm1 : (riseC l).length - k = m := hm.symm
  have hc2 : chkT ((riseC l).take k) 50 10 = 0 := chkT_sub hc (List.take_sublist _ _) (fun e => by rw [e] at hAl; simp at hAl; omega)
  have hc3 : chkT ((riseC l).drop k) 50 10 = 0 := chkT_sub hc (List.drop_sublist _ _) (fun e => by rw [e] at hBl; simp at hBl; omega)
  obtain ⟨b1, hb1⟩ := build_pair hc
  obtain ⟨b2, hb2⟩ := build_pair hc2
  obtain ⟨b3, hb3⟩ := build_pair hc3
  have HB1 := Lib.hid (tBuild_row (riseC l) 50 10 0 b1 hb1 _ rfl hRl)
  have HB2 := Lib.hid (tBuild_row ((riseC l).take k) 50 10 0 b2 hb2 k hAl.symm (by omega))
  have HB3 := Lib.hid (tBuild_row ((riseC l).drop k) 50 10 0 b3 hb3 m hBl.symm (by omega))
  have HO1 := Lib.hid (Open_row hc b1 hb1)
  have HO2 := Lib.hid (Open_row hc2 b2 hb2)
  have HO3 := Lib.hid (Open_row hc3 b3 hb3)
  have Bt1 := built_of hc
  have Bt2 := built_of hc2
  have Bt3 := built_of hc3
  have HF1 := Lib.hid (fun w' g h => Bt1.fromAll hRl w' g h v)
  have HF2 := Lib.hid (fun w' g h => Bt2.fromAll (by omega) w' g h v)
  have HF3 := Lib.hid (fun w' g h => Bt3.fromAll (by omega) w' g h v)
  have HA1 := Lib.hid (fun w' g h => Bt1.aheadAll hRl w' g h v)
  have HA2 := Lib.hid (fun w' g h => Bt2.aheadAll (by omega) w' g h v)
  have HA3 := Lib.hid (fun w' g h => Bt3.aheadAll (by omega) w' g h v)
  have HC1 := Lib.hid (fun w' g h => Count_any w' g (riseC l) (buildF (keysF (riseC l)) 10).1 h)
  have HC2 := Lib.hid (fun w' g h => Count_any w' g ((riseC l).take k) (buildF (keysF ((riseC l).take k)) 10).1 h)
  have HC3 := Lib.hid (fun w' g h => Count_any w' g ((riseC l).drop k) (buildF (keysF ((riseC l).drop k)) 10).1 h)
  rw [hAl] at HC2
  rw [hBl] at HC3
  have hP : (riseC l).filter (fun c => !vless c.vr v) = ((riseC l).take k).filter (fun c => !vless c.vr v) ++ ((riseC l).drop k).filter (fun c => !vless c.vr v) := by rw [← List.filter_append, List.take_append_drop]
  have hQ : ((riseC l).filter (fun c => vless c.vr v)).reverse = (((riseC l).drop k).filter (fun c => vless c.vr v)).reverse ++ (((riseC l).take k).filter (fun c => vless c.vr v)).reverse := by rw [← List.reverse_append, ← List.filter_append, List.take_append_drop]
  have p1 := List.length_filter_le (fun c => !vless c.vr v) ((riseC l).take k)
  have p2 := List.length_filter_le (fun c => !vless c.vr v) ((riseC l).drop k)
  have p3 : ((((riseC l).take k).filter (fun c => vless c.vr v)).reverse).length ≤ ((riseC l).take k).length := by rw [List.length_reverse]; exact List.length_filter_le _ _
  have p4 : ((((riseC l).drop k).filter (fun c => vless c.vr v)).reverse).length ≤ ((riseC l).drop k).length := by rw [List.length_reverse]; exact List.length_filter_le _ _
  rw [hAl] at p1 p3
  rw [hBl] at p2 p4
  rw [hP] at HF1
  rw [hQ] at HA1
  have HT := Lib.hid (fun (w' : World) (g : Nat) (h : Row w' (some ⟨g, 0, none⟩) (cv (riseC l))) => row_halves k h)
  have hAt := Lib.hid (show ∀ (B : Nat) (a : Option Addr) (cp : Nat) (w' : World), Owns w' B 44 4 a cp (riseC l).length (cv (riseC l)) → ∃ g, a = some ⟨g, 0, none⟩ from fun B a cp w' ho => by
    obtain ⟨g, e1, _⟩ := ho.at (cv_get (riseC l) 0 (by omega) 0 (by decide))
    exact ⟨g, e1⟩)
  have hm60 : m ≤ 60 := by omega
  have hk60 : k ≤ 60 := by omega
  clear hc hc2 hc3 hb1 hb2 hb3 Bt1 Bt2 Bt3 hr hvl hn hk hm hP hQ hAl hBl
  generalize ((riseC l).take k).filter (fun c => !vless c.vr v) = PA at *
  generalize ((riseC l).drop k).filter (fun c => !vless c.vr v) = PB at *
  generalize (((riseC l).take k).filter (fun c => vless c.vr v)).reverse = QA at *
  generalize (((riseC l).drop k).filter (fun c => vless c.vr v)).reverse = QB at *
  generalize (buildF (keysF (riseC l)) 10).1 = f1 at *
  generalize (buildF (keysF ((riseC l).take k)) 10).1 = f2 at *
  generalize (buildF (keysF ((riseC l).drop k)) 10).1 = f3 at *
  generalize (riseC l).take k = A at *
  generalize (riseC l).drop k = B at *
  generalize riseC l = R at *
  have m1 : PA.length + PB.length ≤ maxLen := by unfold maxLen; omega
  have m2 : (PA.length + PB.length) * 48 ≤ 140737488355328 := by omega
  have m3 : QB.length + QA.length ≤ maxLen := by unfold maxLen; omega
  have m4 : (QB.length + QA.length) * 48 ≤ 140737488355328 := by omega
  obtain ⟨PR, hPR⟩ : ∃ PR, PR = PA ++ PB := ⟨_, rfl⟩
  obtain ⟨QR, hQR⟩ : ∃ QR, QR = QB ++ QA := ⟨_, rfl⟩
  rw [← hPR] at HF1
  rw [← hQR] at HA1
  have HPl := Lib.hid (show PA.length + PB.length = PR.length by rw [hPR, List.length_append])
  have HQl := Lib.hid (show QB.length + QA.length = QR.length by rw [hQR, List.length_append])
  have HPv := Lib.hid (show cv PA ++ cv PB = cv PR by rw [hPR, cv_append])
  have HQv := Lib.hid (show cv QB ++ cv QA = cv QR by rw [hQR, cv_append])
  have h5a : PR.length ≤ 500000000 := by rw [hPR, List.length_append]; omega
  have h5b : QR.length ≤ 500000000 := by rw [hQR, List.length_append]; omega
  have H5 := Lib.hid (And.intro h5a h5b)
  clear h5a h5b hPR hQR
  unfold ver at *
  have HBx := Lib.hid (Blk.new w 39 #[.string (str v.key), .int .i64 v.seq, .int .i64 v.kind])
  have HGx := Lib.hid (Gr.alloc w (.cells #[.string (str v.key), .int .i64 v.seq, .int .i64 v.kind] 39))
  have T1 : RowKit.Hid True := trivial
  have T2 : RowKit.Hid True := trivial
  have T3 : RowKit.Hid True := trivial
  have T4 : RowKit.Hid True := trivial
  have T5 : RowKit.Hid True := trivial
  have T6 : RowKit.Hid True := trivial
  have T7 : RowKit.Hid True := trivial
  have T8 : RowKit.Hid True := trivial
  have T9 : RowKit.Hid True := trivial
  have S1 : RowKit.Hid True := trivial
  have S2 : RowKit.Hid True := trivial
  have S3 : RowKit.Hid True := trivial
  have S4 : RowKit.Hid True := trivial
  have S5 : RowKit.Hid True := trivial
  have S6 : RowKit.Hid True := trivial
  have S7 : RowKit.Hid True := trivial
  have S8 : RowKit.Hid True := trivial
  go_enter Tryd.func6, Tryd.ntmps6
  go_wp2_with (first
    | (go_at_call 7; go_must (refine (tabled_any _).mono ?_); rintro e1 w1 ⟨rfl, g1⟩)
    | (go_at_call 9; go_must (refine (HRi.out _ (HGx.out.trans g1)).mono ?_); rintro e2 w2 ⟨ad2, cp2, rfl, o2, g2⟩
       obtain ⟨g, hg⟩ := hAt.out _ _ _ _ o2
       subst hg
       have hcp := o2.2.1
       have hcm := o2.2.2.1
       have hne : (cp2 = k) = False := eq_false (by omega)
       have hkc : k ≤ cp2 := by omega
       have hcl : (cp2 : Int) ≤ 9223372036854775807 := by unfold maxLen at hcm; omega
       have HOw := Lib.hid o2
       have HG2 := Lib.hid (g1.trans g2)
       clear o2 g1 g2)
    | (go_at_call 8; clear T1; go_must (refine (HB1.out (some ⟨g, 0, none⟩) cp2 _ hcp HOw.out.row).mono ?_); rintro e3 w3 ⟨ad3, cp3, rfl, o3, g3⟩)
    | (go_at_call 8; clear T2; go_must (refine (HB2.out (some ⟨g, 0, none⟩) cp2 _ hkc (HT.out _ g (HOw.out.gr g3).row).1).mono ?_); rintro e4 w4 ⟨ad4, cp4, rfl, o4, g4⟩)
    | (go_at_call 8; clear T3; go_must (refine (HB3.out (some ⟨g, k * 4, none⟩) (cp2 - k) _ (by omega) (HT.out _ g ((HOw.out.gr g3).gr g4).row).2).mono ?_); rintro e5 w5 ⟨ad5, cp5, rfl, o5, g5⟩)
    | (go_at_call 10; clear T4; go_must (refine (HO1.out ad3 cp3 _ w5 ((o3.gr g4).gr g5)).mono ?_); rintro e6 w6 ⟨gx, rfl, t6, g6⟩)
    | (go_at_call 10; clear T5; go_must (refine (HO2.out ad4 cp4 _ w6 ((o4.gr g5).gr g6)).mono ?_); rintro e7 w7 ⟨gy, rfl, t7, g7⟩)
    | (go_at_call 10; clear T6; go_must (refine (HO3.out ad5 cp5 _ w7 ((o5.gr g6).gr g7)).mono ?_); rintro e8 w8 ⟨gz, rfl, t8, g8⟩
       have HX := Lib.hid ((t6.gr g7).gr g8)
       have HY := Lib.hid (t7.gr g8)
       have HZ := Lib.hid t8
       have HG8 := Lib.hid (((((HG2.out.trans g3).trans g4).trans g5).trans g6).trans (g7.trans g8))
       have b8 := HBx.out.gr HG8.out
       obtain ⟨y0, y1, y2⟩ : _ ∧ _ ∧ _ := ⟨b8.cell (i := 0) rfl, b8.cell (i := 1) rfl, b8.cell (i := 2) rfl⟩
       have HOr := Lib.hid (((((((HOw.out.gr g3).gr g4).gr g5).gr g6).gr g7).gr g8).row)
       clear b8 t6 t7 t8 g3 g4 g5 g6 g7 g8 o3 o4 o5)
    | (go_at_call 16; clear T7; go_must (refine (HC1.out w8 gx HX.out).mono ?_); rintro e w' ⟨rfl, rfl⟩)
    | (go_at_call 16; clear T8; go_must (refine (HC2.out w8 gy HY.out).mono ?_); rintro e w' ⟨rfl, rfl⟩)
    | (go_at_call 16; clear T9; go_must (refine (HC3.out w8 gz HZ.out).mono ?_); rintro e w' ⟨rfl, rfl⟩)
    | (go_at_call 11; clear S1; go_must (refine (HF1.out w8 gx HX.out).mono ?_); rintro e w9 ⟨ad9, c9, rfl, o9, g9⟩
       replace y0 := g9.cell y0; replace y1 := g9.cell y1; replace y2 := g9.cell y2)
    | (go_at_call 11; clear S2; go_must (refine (HF2.out w9 gy (HY.out.gr g9)).mono ?_); rintro e w10 ⟨ad10, c10, rfl, o10, g10⟩
       replace y0 := g10.cell y0; replace y1 := g10.cell y1; replace y2 := g10.cell y2)
    | (go_at_call 11; clear S3; go_must (refine (HF3.out w10 gz ((HZ.out.gr g9).gr g10)).mono ?_); rintro e w11 ⟨ad11, c11, rfl, o11, g11⟩
       replace y0 := g11.cell y0; replace y1 := g11.cell y1; replace y2 := g11.cell y2
       have HG11 := Lib.hid ((g9.trans g10).trans g11))
    | (go_at_call 21; clear S4; go_must (refine (HA1.out w11 gx (HX.out.gr HG11.out)).mono ?_); rintro e w12 ⟨ad12, c12, rfl, o12, g12⟩
       replace y0 := g12.cell y0; replace y1 := g12.cell y1; replace y2 := g12.cell y2)
    | (go_at_call 21; clear S5; go_must (refine (HA2.out w12 gy ((HY.out.gr HG11.out).gr g12)).mono ?_); rintro e w13 ⟨ad13, c13, rfl, o13, g13⟩
       replace y0 := g13.cell y0; replace y1 := g13.cell y1; replace y2 := g13.cell y2)
    | (go_at_call 21; clear S6; go_must (refine (HA3.out w13 gz (((HZ.out.gr HG11.out).gr g12).gr g13)).mono ?_); rintro e w14 ⟨ad14, c14, rfl, o14, g14⟩
       clear y0 y1 y2)
    | (at_builtin; clear S7; go_must (refine wp_append_if elemC (by simp [Region.wanted, yielded]) _ _ rfl rfl (o10.gr ((g11.trans g12).trans (g13.trans g14))) rfl (Src.own (o11.gr (g12.trans (g13.trans g14))) (cv_one PB) Tryd.underlying22) m1 m2 ((g10.trans g11).trans (g12.trans (g13.trans g14))).size ?_); intro ad15 c15 w15 o15 k15 f15
       rw [HPv.out] at o15
       have P15 := ((o9.gr ((g10.trans g11).trans (g12.trans (g13.trans g14)))).grown k15 (ne_row o9 o10 (Nat.le_refl _))).row
       have G15 := grown_own (((HGx.out.trans HG8.out).trans HG11.out).trans (g12.trans (g13.trans g14))) k15 o10 ((HGx.out.trans HG8.out).trans g9).size)
    | (go_at_call 14; clear S8; go_must (refine (rCells_same ad9 ad15 _ _ c9 c15 PR w15 rfl HPl.out P15 o15.row H5.out.1).mono ?_); rintro e w16 ⟨rfl, g16⟩)
    | (at_builtin; go_must (refine wp_append_if elemC (by simp [Region.wanted, yielded]) _ _ rfl rfl ((o14.grown k15 (ne_row' o14 o10 ((g11.trans g12).trans g13).size)).gr g16) rfl (Src.own (((o13.gr g14).grown k15 (ne_row' o13 o10 (g11.trans g12).size)).gr g16) (cv_one QA) Tryd.underlying22) m3 m4 (Nat.le_trans (Nat.le_trans g14.size k15.size) g16.size) ?_); intro ad17 c17 w17 o17 k17 f17
       rw [HQv.out] at o17
       have P17 := ((((o12.gr (g13.trans g14)).grown k15 (ne_row' o12 o10 g11.size)).gr g16).grown k17 (ne_row o12 o14 g13.size)).row
       have G17 := grown_own (G15.trans g16) k17 o14 (((HGx.out.trans HG8.out).trans HG11.out).trans (g12.trans g13)).size)
    | (go_at_call 14; go_must (refine (rCells_same ad12 ad17 _ _ c12 c17 QR w17 rfl HQl.out P17 o17.row H5.out.2).mono ?_); rintro e w18 ⟨rfl, g18⟩)
    | fail)
  go_ret
  exact ⟨rfl, G17.trans g18⟩
theorem TableParts_any (ad : Option Addr) (cap : Nat) (l : List Ci) (x : Int) (k : List UInt8) (sq d : Int) (w : World) (hr : Row w ad (cv l)) (hl : l.length ≤ 9223372036854775807) (hvl : ∀ c ∈ l, c.val.length ≤ 9223372036854775807) :
    Calls Tryd.prog 6 #[.slice ad l.length cap, .int .i64 x, .agg #[.string (str k), .int .i64 sq, .int .i64 d]] w fun e w' => e = .returned (.bool true) ∧ Gr w w' := by
  by_cases h2 : (riseC l).length < 2
  · exact TableParts_few ad cap l x ⟨k, sq, d⟩ w hr hl hvl h2
  · by_cases hc : chkT (riseC l) 50 10 = 0
    · exact TableParts_ok ad cap l x ⟨k, sq, d⟩ w hr hl hvl (by omega) hc
    · exact TableParts_bad ad cap l x ⟨k, sq, d⟩ w hr hl hvl (by omega) hc
end Go.Proofs.YtlfbelocdpboeaaDoor
