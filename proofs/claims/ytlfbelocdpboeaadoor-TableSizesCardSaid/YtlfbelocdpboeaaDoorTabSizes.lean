/- Layer 14 (table): TableSizes answers true. -/
import Derived.Test.YtlfbelocdpboeaaDoorTabPartsM
namespace Go.Proofs.YtlfbelocdpboeaaDoor
set_option linter.unusedVariables false
set_option linter.unusedSimpArgs false
open Go.RowKit Tab
theorem chkT_only {l : List Ci} {size bits : Int} (h : 1 ≤ size ∧ size ≤ 4096 ∧ 1 ≤ bits ∧ bits ≤ 64) : chkT l size bits = chkT l 1 1 := chkT_any l h (by decide)
set_option maxRecDepth 100000 in
set_option maxHeartbeats 4000000 in
theorem TableSizes_bad (ad : Option Addr) (cap : Nat) (l : List Ci) (x y : Int) (w : World) (hr : Row w ad (cv l)) (hl : l.length ≤ 9223372036854775807) (hvl : ∀ c ∈ l, c.val.length ≤ 9223372036854775807)
    (q q' : Nat) (hq : IntKind.i64.wrap ((IntKind.u64.wrap x).tmod 4096) = (q : Int)) (hq2 : q < 4096) (hq' : IntKind.i64.wrap ((IntKind.u64.wrap y).tmod 4096) = (q' : Int)) (hq2' : q' < 4096) (hc : chkT (riseC l) 1 1 ≠ 0) :
    Calls Tryd.prog 4 #[.slice ad l.length cap, .int .i64 x, .int .i64 y] w fun e w' => e = .returned (.bool true) ∧ Gr w w' := by
  have HRi := Lib.hid (rise_build (cap := cap) hr hl hvl)
  have hRl := riseC_len l
  obtain ⟨r, hr1⟩ : ∃ r : Nat, r = (1 + q) % 64 := ⟨_, rfl⟩
  obtain ⟨r', hr1'⟩ : ∃ r : Nat, r = (1 + q') % 64 := ⟨_, rfl⟩
  have hrm : (1 + (q : Int)).tmod 64 = (r : Int) := by rw [Int.tmod_eq_emod_of_nonneg (by omega), hr1]; omega
  have hrm' : (1 + (q' : Int)).tmod 64 = (r' : Int) := by rw [Int.tmod_eq_emod_of_nonneg (by omega), hr1']; omega
  have hc1 : chkT (riseC l) (1 + (q : Int)) (1 + (r : Int)) = chkT (riseC l) 1 1 := chkT_only (by omega)
  have hc2 : chkT (riseC l) (1 + (q' : Int)) (1 + (r' : Int)) = chkT (riseC l) 1 1 := chkT_only (by omega)
  have HB1 := Lib.hid (tBuild_row (riseC l) (1 + (q : Int)) (1 + (r : Int)) _ [] (chkT_two (by rw [hc1]; exact hc)) _ rfl hRl)
  have HB2 := Lib.hid (tBuild_row (riseC l) (1 + (q' : Int)) (1 + (r' : Int)) _ [] (chkT_two (by rw [hc2]; exact hc)) _ rfl hRl)
  rw [hc1] at HB1
  rw [hc2] at HB2
  obtain ⟨e, he⟩ : ∃ e, e = chkT (riseC l) 1 1 := ⟨_, rfl⟩
  rw [← he] at HB1 HB2 hc
  have heb : ((e : Int) != 0) = true := by rw [bne_iff_ne]; omega
  have hrl : r < 64 := by omega
  have hrl' : r' < 64 := by omega
  clear he hc hr hvl hc1 hc2 hr1 hr1'
  generalize riseC l = R at *
  have T1 : RowKit.Hid True := trivial
  go_enter Tryd.func4, Tryd.ntmps4
  go_wp2_with (first
    | (go_at_call 7; go_must (refine (tabled_any _).mono ?_); rintro e1 w1 ⟨rfl, g1⟩)
    | (go_at_call 9; go_must (refine (HRi.out _ g1).mono ?_); rintro e2 w2 ⟨ad2, cp2, rfl, o2, g2⟩)
    | (go_at_call 8; clear T1; go_must (refine (HB1.out ad2 cp2 _ o2.2.1 o2.row).mono ?_); rintro e3 w3 ⟨ad3, cp3, rfl, o3, g3⟩)
    | (go_at_call 8; go_must (refine (HB2.out ad2 cp2 _ o2.2.1 (o2.gr g3).row).mono ?_); rintro e4 w4 ⟨ad4, cp4, rfl, o4, g4⟩)
    | fail)
  go_ret
  exact ⟨rfl, ((g1.trans g2).trans g3).trans g4⟩
set_option maxRecDepth 100000 in
set_option maxHeartbeats 4000000 in
theorem TableSizes_ok (ad : Option Addr) (cap : Nat) (l : List Ci) (x y : Int) (w : World) (hr : Row w ad (cv l)) (hl : l.length ≤ 9223372036854775807) (hvl : ∀ c ∈ l, c.val.length ≤ 9223372036854775807)
    (q q' : Nat) (hq : IntKind.i64.wrap ((IntKind.u64.wrap x).tmod 4096) = (q : Int)) (hq2 : q < 4096) (hq' : IntKind.i64.wrap ((IntKind.u64.wrap y).tmod 4096) = (q' : Int)) (hq2' : q' < 4096) (hc : chkT (riseC l) 1 1 = 0) :
    Calls Tryd.prog 4 #[.slice ad l.length cap, .int .i64 x, .int .i64 y] w fun e w' => e = .returned (.bool true) ∧ Gr w w' := by
  have HRi := Lib.hid (rise_build (cap := cap) hr hl hvl)
  have hRl := riseC_len l
  obtain ⟨r, hr1⟩ : ∃ r : Nat, r = (1 + q) % 64 := ⟨_, rfl⟩
  obtain ⟨r', hr1'⟩ : ∃ r : Nat, r = (1 + q') % 64 := ⟨_, rfl⟩
  have hrm : (1 + (q : Int)).tmod 64 = (r : Int) := by rw [Int.tmod_eq_emod_of_nonneg (by omega), hr1]; omega
  have hrm' : (1 + (q' : Int)).tmod 64 = (r' : Int) := by rw [Int.tmod_eq_emod_of_nonneg (by omega), hr1']; omega
  have hc1 : chkT (riseC l) (1 + (q : Int)) (1 + (r : Int)) = 0 := (chkT_only (by omega)).trans hc
  have hc2 : chkT (riseC l) (1 + (q' : Int)) (1 + (r' : Int)) = 0 := (chkT_only (by omega)).trans hc
  obtain ⟨b1, hb1⟩ := build_pair hc1
  obtain ⟨b2, hb2⟩ := build_pair hc2
  have HB1 := Lib.hid (tBuild_row (riseC l) (1 + (q : Int)) (1 + (r : Int)) 0 b1 hb1 _ rfl hRl)
  have HB2 := Lib.hid (tBuild_row (riseC l) (1 + (q' : Int)) (1 + (r' : Int)) 0 b2 hb2 _ rfl hRl)
  have HO1 := Lib.hid (Open_row hc1 b1 hb1)
  have HO2 := Lib.hid (Open_row hc2 b2 hb2)
  have Bt1 := built_of hc1
  have Bt2 := built_of hc2
  have hne := Bt1.ne
  have h0 : 0 < (riseC l).length := by
    rcases Nat.eq_zero_or_pos (riseC l).length with h | h
    · exact absurd (List.eq_nil_of_length_eq_zero h) hne
    · exact h
  have hz := zero_rank Bt1.ok
  have HF1 := Lib.hid (show ∀ w' g, TabAt w' g (riseC l) (buildF (keysF (riseC l)) (1 + (r : Int))).1 → Calls Tryd.prog 11 #[.pointer (some ⟨g, 0, none⟩), .agg #[.string ⟨#[]⟩, .int .i64 0, .int .i64 0], .int .i64 100] w' (RetCs w' (riseC l)) from fun w' g h => by
    have := Bt1.fromAll hRl w' g h ⟨[], 0, 0⟩
    rw [hz] at this
    exact this)
  have HF2 := Lib.hid (show ∀ w' g, TabAt w' g (riseC l) (buildF (keysF (riseC l)) (1 + (r' : Int))).1 → Calls Tryd.prog 11 #[.pointer (some ⟨g, 0, none⟩), .agg #[.string ⟨#[]⟩, .int .i64 0, .int .i64 0], .int .i64 100] w' (RetCs w' (riseC l)) from fun w' g h => by
    have := Bt2.fromAll hRl w' g h ⟨[], 0, 0⟩
    rw [hz] at this
    exact this)
  have HE1 := Lib.hid (fun w' g h => Ends_any w' g (riseC l) (buildF (keysF (riseC l)) (1 + (r : Int))).1 h hne)
  have HE2 := Lib.hid (fun w' g h => Ends_any w' g (riseC l) (buildF (keysF (riseC l)) (1 + (r' : Int))).1 h hne)
  have HM1 := Lib.hid (show ∀ i (hi : i < (riseC l).length) w' g, TabAt w' g (riseC l) (buildF (keysF (riseC l)) (1 + (r : Int))).1 → Calls Tryd.prog 13 #[.pointer (some ⟨g, 0, none⟩), .string (str (riseC l)[i].key)] w' fun e w2 => e = .returned (.bool true) ∧ Gr w' w2 from fun i hi w' g h => by
    have hm := List.getElem_mem hi
    have := Bt1.may w' g h (riseC l)[i].key (Nat.le_trans (keyC_le (Bt1.ok _ hm)) (by decide))
    rwa [Bt1.sees _ hm] at this)
  have HM2 := Lib.hid (show ∀ i (hi : i < (riseC l).length) w' g, TabAt w' g (riseC l) (buildF (keysF (riseC l)) (1 + (r' : Int))).1 → Calls Tryd.prog 13 #[.pointer (some ⟨g, 0, none⟩), .string (str (riseC l)[i].key)] w' fun e w2 => e = .returned (.bool true) ∧ Gr w' w2 from fun i hi w' g h => by
    have hm := List.getElem_mem hi
    have := Bt2.may w' g h (riseC l)[i].key (Nat.le_trans (keyC_le (Bt2.ok _ hm)) (by decide))
    rwa [Bt2.sees _ hm] at this)
  obtain ⟨n, hn⟩ : ∃ n, n = (riseC l).length - 1 := ⟨_, rfl⟩
  have hn1 : ((riseC l).length : Int) - 1 = (n : Int) := by omega
  have hnl : n < (riseC l).length := by omega
  have hk0 : (riseC l)[0].key = ((riseC l).headD zeroC).key := by rw [List.headD_eq_head?_getD, List.head?_eq_getElem?, List.getElem?_eq_getElem h0]; rfl
  have hk1 : (riseC l)[n].key = ((riseC l).getLastD zeroC).key := by simp only [hn]; rw [List.getLastD_eq_getLast?, List.getLast?_eq_getElem?, List.getElem?_eq_getElem (by omega)]; rfl
  have HCi := Lib.hid (show ∀ (w' : World) (a : Option Addr), Row w' a (cv (riseC l)) → ∃ g o, a = some ⟨g, o, none⟩ ∧ w'.cell? ⟨g, o, none⟩ = some (.string (str ((riseC l).headD zeroC).key)) ∧ w'.cell? ⟨g, o + n * 4, none⟩ = some (.string (str ((riseC l).getLastD zeroC).key)) from fun w' a h => by
    obtain ⟨g, o, e, a0, _⟩ := h.ci 0 h0
    obtain ⟨g2, o2, e2, a1, _⟩ := h.ci n hnl
    subst e
    cases e2
    rw [hk0, Nat.zero_mul, Nat.add_zero] at a0
    rw [hk1] at a1
    exact ⟨g, o, rfl, a0, a1⟩)
  have hR5 : (riseC l).length ≤ 500000000 := by omega
  have hrl : r < 64 := by omega
  have hrl' : r' < 64 := by omega
  have hRI : ((riseC l).length : Int) ≤ 60 := by omega
  clear hc hr hvl hc1 hc2 hr1 hr1' hb1 hb2 Bt1 Bt2 hz hk0 hk1 hn hne
  generalize ((riseC l).headD zeroC).key = ka at *
  generalize ((riseC l).getLastD zeroC).key = kb at *
  generalize (buildF (keysF (riseC l)) (1 + (r : Int))).1 = f1 at *
  generalize (buildF (keysF (riseC l)) (1 + (r' : Int))).1 = f2 at *
  generalize riseC l = R at *
  have T1 : RowKit.Hid True := trivial
  have T2 : RowKit.Hid True := trivial
  have T3 : RowKit.Hid True := trivial
  have T4 : RowKit.Hid True := trivial
  have T5 : RowKit.Hid True := trivial
  have T6 : RowKit.Hid True := trivial
  go_enter Tryd.func4, Tryd.ntmps4
  go_wp2_with (first
    | (go_at_call 7; go_must (refine (tabled_any _).mono ?_); rintro e1 w1 ⟨rfl, g1⟩)
    | (go_at_call 9; go_must (refine (HRi.out _ g1).mono ?_); rintro e2 w2 ⟨ad2, cp2, rfl, o2, g2⟩
       have HOw := Lib.hid o2
       have HG2 := Lib.hid (g1.trans g2)
       clear o2 g1 g2)
    | (go_at_call 8; clear T1; go_must (refine (HB1.out ad2 cp2 _ HOw.out.2.1 HOw.out.row).mono ?_); rintro e3 w3 ⟨ad3, cp3, rfl, o3, g3⟩)
    | (go_at_call 8; go_must (refine (HB2.out ad2 cp2 _ HOw.out.2.1 (HOw.out.gr g3).row).mono ?_); rintro e4 w4 ⟨ad4, cp4, rfl, o4, g4⟩)
    | (go_at_call 10; clear T2; go_must (refine (HO1.out ad3 cp3 _ w4 (o3.gr g4)).mono ?_); rintro e5 w5 ⟨gx, rfl, t5, g5⟩)
    | (go_at_call 10; go_must (refine (HO2.out ad4 cp4 _ w5 (o4.gr g5)).mono ?_); rintro e6 w6 ⟨gy, rfl, t6, g6⟩)
    | (go_at_call 11; clear T3; go_must (refine (HF1.out w6 gx (t5.gr g6)).mono ?_); rintro e w7 ⟨ad7, c7, rfl, o7, g7⟩)
    | (go_at_call 11; go_must (refine (HF2.out w7 gy (t6.gr g7)).mono ?_); rintro e w8 ⟨ad8, c8, rfl, o8, g8⟩)
    | (go_at_call 12; clear T4; go_must (refine (HE1.out w8 gx (((t5.gr g6).gr g7).gr g8)).mono ?_); rintro e w9 ⟨rfl, g9⟩)
    | (go_at_call 12; go_must (refine (HE2.out w9 gy (((t6.gr g7).gr g8).gr g9)).mono ?_); rintro e w10 ⟨rfl, g10⟩
       have HX := Lib.hid (((((t5.gr g6).gr g7).gr g8).gr g9).gr g10)
       have HY := Lib.hid ((((t6.gr g7).gr g8).gr g9).gr g10)
       have HP := Lib.hid ((((o7.gr g8).gr g9).gr g10).row)
       have HQ := Lib.hid (((o8.gr g9).gr g10).row)
       have HR := Lib.hid (((((((HOw.out.gr g3).gr g4).gr g5).gr g6).gr g7).gr ((g8.trans g9).trans g10)).row)
       have HG10 := Lib.hid (((((((HG2.out.trans g3).trans g4).trans g5).trans g6).trans g7).trans ((g8.trans g9).trans g10)))
       clear g3 g4 g5 g6 g7 g8 g9 g10 o3 o4 t5 t6 o7 o8 HOw)
    | fail)
  obtain ⟨bt, ot, had, q0, q1⟩ := HCi.out w10 ad2 HR.out
  subst had
  go_loopw [19] (fun vi wr => ∃ i : Nat, vi = .int .i64 (i : Int) ∧ i ≤ R.length ∧ Gr w10 wr) (fun vi _ => R.length - (intOf vi).toNat)
  case atStart => exact ⟨0, rfl, Nat.zero_le _, Gr.refl _⟩
  case round =>
    obtain ⟨i, rfl, hi, hG⟩ := hrel
    have HG := Lib.hid hG
    replace q0 := hG.cell q0
    replace q1 := hG.cell q1
    by_cases hlt : i < R.length
    · obtain ⟨bt', ot', had, z0, _⟩ := HR.out.ci i hlt
      cases had
      replace z0 := hG.cell z0
      have HMa := Lib.hid (HM1.out i hlt)
      have HMb := Lib.hid (HM2.out i hlt)
      clear q0 q1 hG HM1 HM2
      generalize R[i] = c at *
      go_wp2_with (first
        | (go_at_call 13; clear T5; go_must (refine (HMa.out wr gx (HX.out.gr HG.out)).mono ?_); rintro e w11 ⟨rfl, g11⟩; replace z0 := g11.cell z0)
        | (go_at_call 13; go_must (refine (HMb.out w11 gy ((HY.out.gr HG.out).gr g11)).mono ?_); rintro e w12 ⟨rfl, g12⟩)
        | fail)
      go_roundw
      case rel => exact ⟨i + 1, by go_num, hlt, HG.out.trans (g11.trans g12)⟩
      case measure => simp [intOf]; omega
    · obtain rfl : i = R.length := by omega
      clear HM1 HM2 hG
      go_wp2_with (first
        | (go_at_call 14; clear T6; go_must (refine (rCells_same ad7 _ _ _ c7 cp2 R wr rfl rfl (HP.out.gr HG.out) (HR.out.gr HG.out) hR5).mono ?_); rintro e w11 ⟨rfl, g11⟩)
        | (go_at_call 14; go_must (refine (rCells_same ad8 _ _ _ c8 cp2 R w11 rfl rfl ((HQ.out.gr HG.out).gr g11) ((HR.out.gr HG.out).gr g11) hR5).mono ?_); rintro e w12 ⟨rfl, g12⟩
           replace q0 := (g11.trans g12).cell q0; replace q1 := (g11.trans g12).cell q1)
        | fail)
      go_ret
      exact ⟨rfl, HG10.out.trans (HG.out.trans (g11.trans g12))⟩
theorem TableSizes_any (ad : Option Addr) (cap : Nat) (l : List Ci) (x y : Int) (w : World) (hr : Row w ad (cv l)) (hl : l.length ≤ 9223372036854775807) (hvl : ∀ c ∈ l, c.val.length ≤ 9223372036854775807) :
    Calls Tryd.prog 4 #[.slice ad l.length cap, .int .i64 x, .int .i64 y] w fun e w' => e = .returned (.bool true) ∧ Gr w w' := by
  obtain ⟨q, hq, hq2⟩ := u64_mod x 4096 (by decide) (by decide)
  obtain ⟨q', hq', hq2'⟩ := u64_mod y 4096 (by decide) (by decide)
  by_cases hc : chkT (riseC l) 1 1 = 0
  · exact TableSizes_ok ad cap l x y w hr hl hvl q q' hq hq2 hq' hq2' hc
  · exact TableSizes_bad ad cap l x y w hr hl hvl q q' hq hq2 hq' hq2' hc
end Go.Proofs.YtlfbelocdpboeaaDoor
