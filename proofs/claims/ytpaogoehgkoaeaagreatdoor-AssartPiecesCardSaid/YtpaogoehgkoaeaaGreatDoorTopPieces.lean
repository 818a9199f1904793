/- The statements through the layers: AssartPieces answers true. -/
import Derived.Test.YtpaogoehgkoaeaaGreatDoorTopPiecesM
namespace Go.Proofs.YtpaogoehgkoaeaaGreatDoor
set_option linter.unusedVariables false
set_option linter.unusedSimpArgs false
open Go.RowKit Tab Ikey Varint
set_option maxRecDepth 100000 in
set_option maxHeartbeats 4000000 in
theorem AssartPieces_any (ad : Option Addr) (cap : Nat) (l : List Ci) (x : Int) (adk : Option Addr) (capk : Nat) (lk : List Int) (w : World) (hr : Row w ad (cv l)) (hl : l.length ≤ 9223372036854775807) (hvl : ∀ c ∈ l, c.val.length ≤ 9223372036854775807) (hrk : Row w adk (zv lk)) (hck : lk.length ≤ capk) (hmk : capk ≤ 9223372036854775807) :
    Calls Tryz.prog 3 #[.slice ad l.length cap, .int .i64 x, .slice adk lk.length capk] w fun e w' => e = .returned (.bool true) ∧ Gr w w' := by
  have HCa := Lib.hid (fun w' (k : Gr w w') => cells_any ad cap l w' (hr.gr k) hl hvl)
  have hsC := gather_sorted okT l (min l.length 50)
  have hlC := gather_len okT l (min l.length 50)
  have hmC := gather_mem okT l (min l.length 50) (by omega)
  have hlC : (gatherN okT l (min l.length 50)).length ≤ 50 := by omega
  generalize gatherN okT l (min l.length 50) = C at *
  have HM := Lib.hid (fun c hc => okT_c (hmC c hc).2)
  have HOr := Lib.hid (asc_ord hsC (fun c hc => (HM.out c hc).1))
  obtain ⟨j0, e1, hj⟩ := u64_mod x 2000 (by decide) (by decide)
  have e1 : IntKind.i64.wrap ((IntKind.u64.wrap x).tmod 2000) = (j0 : Int) := e1
  obtain ⟨sz, hsz⟩ : ∃ sz : Int, sz = 1 + (j0 : Int) := ⟨_, rfl⟩
  have e2 : (1 : Int) + (j0 : Int) = sz := hsz.symm
  have hs1 : 1 ≤ sz := by omega
  have hs2 : sz ≤ 2000 := by omega
  obtain ⟨m, hmin, hm1, hm2⟩ : ∃ m : Nat, min (lk.length : Int) 8 = (m : Int) ∧ m ≤ lk.length ∧ m ≤ 8 := ⟨min lk.length 8, by omega, by omega, by omega⟩
  have HRk := Lib.hid (show Row w adk (zv (lk.take m)) by unfold zv; rw [List.map_take]; exact hrk.take_ m)
  have HLm := Lib.hid (show (lk.take m).length = m by rw [List.length_take]; omega)
  have hmc : m ≤ capk := by omega
  have HCu := Lib.hid (fun ad cap w' hr (hc : C.length ≤ cap) => Cut_ok ad cap C sz w' hr (by omega) hc HOr.out (fun c hc => by have := HM.out c hc; omega) hs1 (by omega))
  have HKp := Lib.hid (show ∀ (ad : Option Addr) (cap n : Nat) (p : List Ci) (w' : World), n = p.length → Gr w w' → Row w' ad (cv p) → p.length ≤ 50 → n ≤ cap → ordF p = true → Calls Tryz.prog 13 #[.slice ad n cap, .slice adk m capk, .bool true] w' (RetCs w' (keepF p (lk.take m) true)) from fun ad cap n p w' hn k hr hl hc ho => by
    subst hn
    have := Keep_ok ad adk cap capk p (lk.take m) true w' hr (HRk.out.gr k) (by omega) hc (by rw [HLm.out]; omega) ho
    rw [HLm.out] at this
    exact this)
  have HX1 := Lib.hid (piece_ne C sz hs1)
  have HX2 := Lib.hid (pieces_flat C sz)
  have HX3 := Lib.hid (keep_pieces C sz (lk.take m) true)
  have hXl : (piecesF C sz).length ≤ 50 := by
    have h9 := grp_count (A := (piecesF C sz).map List.flatten) (fun g hg => by
      obtain ⟨p, hp, rfl⟩ := List.mem_map.1 hg
      exact HX1.out p hp)
    rw [List.length_map, HX2.out] at h9
    omega
  clear hsz hj hsC hmC hr hvl hrk
  generalize piecesF C sz = X at *
  generalize lk.take m = lks at *
  go_enter Tryz.func3, Tryz.ntmps3
  go_wp2_with (first
    | (go_at_call 6; go_must (refine (awake_any _).mono ?_); rintro e w1 ⟨rfl, g1⟩)
    | (go_at_call 7; go_must (refine (HCa.out _ g1).mono ?_); rintro e w2 ⟨adC, cpC, rfl, oC, g2⟩
       have hcC := oC.2.1)
    | (go_at_call 8; go_must (refine (HCu.out adC cpC w2 oC.row hcC).mono ?_); rintro e w3 ⟨adX, cpX, vs, rfl, oX, hP, g3⟩)
    | fail)
  have HG3 := Lib.hid ((g1.trans g2).trans g3)
  have HRC := Lib.hid (oC.gr g3).row
  have HOX := Lib.hid oX.row
  have HP := Lib.hid hP
  clear g1 g2 g3 oX hP HCa HCu oC
  go_loopw [10, 11, 12] (fun va vk vi wr => ∃ (i : Nat) (ada : Option Addr) (ca : Nat) (adq : Option Addr) (cq : Nat), vi = .int .i64 (i : Int) ∧ va = .slice ada (allP X i).length ca ∧ vk = .slice adq (keptP X lks i).length cq ∧ i ≤ X.length ∧ Owns wr w3.heap.size 56 4 ada ca (allP X i).length (cv (allP X i)) ∧ Owns wr w3.heap.size 56 4 adq cq (keptP X lks i).length (cv (keptP X lks i)) ∧ (∀ a b, ada = some a → adq = some b → a.block ≠ b.block) ∧ Gr w3 wr) (fun _ _ vi _ => X.length - (intOf vi).toNat)
  case atStart => exact ⟨0, none, 0, none, 0, rfl, rfl, rfl, Nat.zero_le _, Owns.empty _ _ _ _, Owns.empty _ _ _ _, fun a b h => (by cases h), Gr.refl _⟩
  case round =>
    obtain ⟨i, ada, ca, adq, cq, rfl, rfl, rfl, hi, hA, hK, hne, hG⟩ := hrel
    by_cases hlt : i < X.length
    · obtain ⟨adp, cpp, hvi, hOp, -⟩ := HP.out.2 i hlt
      obtain ⟨b, off, hadX, z0⟩ := HOX.out i _ hvi
      subst hadX
      have z0 := hG.cell z0
      have hsub := flat_sub hlt
      rw [HX2.out] at hsub
      have hpl : X[i].flatten.length ≤ 50 := Nat.le_trans hsub.length_le hlC
      have hpo := ord_sub HOr.out hsub
      have hpn := HX1.out _ (List.getElem_mem hlt)
      have hpk : ∀ c ∈ X[i].flatten, c.key ≠ [] := fun c hc => (HM.out c (hsub.subset hc)).2.1
      have hc0 := chkT_piece (size := 100) (bits := 5) (by decide) (by decide) (by decide) (by decide) (by omega) (fun c hc => (HM.out c (hsub.subset hc)).2.2.2) hpn hpo
      have HTA := Lib.hid (allP_succ hlt)
      have HTK := Lib.hid (keptP_succ (looks := lks) hlt)
      have hal := allP_le X (i + 1)
      rw [HX2.out] at hal
      have hkl := kept_le X lks (i + 1)
      rw [HTA.out, List.length_append] at hal
      rw [HTA.out, HTK.out, List.length_append, List.length_append] at hkl
      have hcp := hOp.2.1
      have hrp := hOp.row.gr hG
      clear hsub hvi hOp
      generalize X[i].flatten = p at *
      obtain ⟨b1, hb1⟩ := build_pair hc0
      have Bt := built_of hc0
      have HB := Lib.hid (tBuild_row p 100 5 0 b1 hb1 p.length rfl (by omega) adp cpp wr hcp hrp)
      have HOp := Lib.hid (Open_row hc0 b1 hb1)
      have HCt := Lib.hid (fun w' g h => Count_any w' g p (buildF (keysF p) 5).1 h)
      have HF := Lib.hid (show ∀ w' g, TabAt w' g p (buildF (keysF p) 5).1 → Calls Tryz.prog 11 #[.pointer (some ⟨g, 0, none⟩), .agg #[.string ⟨#[]⟩, .int .i64 0, .int .i64 0], .int .i64 (p.length : Int)] w' (RetCs w' p) from fun w' g h => by
        have := Bt.from_ w' g h ⟨[], 0, 0⟩ (p.length : Int) (by omega)
        rw [from_least hpk _ (by omega)] at this
        exact this)
      have HKq := Lib.hid (fun ad cap w' k hr hc => HKp.out ad cap p.length p w' rfl k hr hpl hc hpo)
      clear Bt hc0 hb1 hpo hpn hpk hrp hcp
      generalize (buildF (keysF p) 5).1 = f at *
      generalize keepF p lks true = q at *
      generalize allP X i = A at *
      generalize keptP X lks i = K at *
      have HA := Lib.hid hA
      have HK := Lib.hid hK
      have HNe := Lib.hid hne
      have HG := Lib.hid hG
      have hgs := hG.size
      have m1 : A.length + p.length ≤ maxLen := by unfold maxLen; omega
      have m2 : (A.length + p.length) * 48 ≤ 140737488355328 := by omega
      have m3 : K.length + q.length ≤ maxLen := by unfold maxLen; omega
      have m4 : (K.length + q.length) * 48 ≤ 140737488355328 := by omega
      clear hA hK hne hG
      have T1 : RowKit.Hid True := trivial
      go_wp2_with (first
        | (go_at_call 9; go_must (refine HB.out.mono ?_); rintro e w4 ⟨ad4, cp4, rfl, o4, g4⟩)
        | (go_at_call 10; go_must (refine (HOp.out ad4 cp4 _ w4 o4).mono ?_); rintro e w5 ⟨gx, rfl, t5, g5⟩)
        | (go_at_call 12; go_must (refine (HCt.out w5 gx t5).mono ?_); rintro e w' ⟨rfl, rfl⟩)
        | (go_at_call 11; go_must (refine (HF.out w5 gx t5).mono ?_); rintro e w6 ⟨ad6, cp6, rfl, o6, g6⟩
           have HG6 := Lib.hid ((g4.trans g5).trans g6)
           have hc6 := o6.2.1
           clear o4 t5 g4 g5 g6)
        | (go_at_call 13; go_must (refine (HKq.out ad6 cp6 w6 (HG3.out.trans (HG.out.trans HG6.out)) o6.row hc6).mono ?_); rintro e w7 ⟨ad7, cp7, rfl, o7, g7⟩
           have HG7 := Lib.hid (HG6.out.trans g7)
           have hs6 := HG6.out.size
           have hs7 := g7.size
           have o67 := Lib.hid (o6.gr g7)
           have HO7 := Lib.hid o7
           clear o6 o7 g7)
        | (at_builtin; clear T1; go_must (refine wp_append elemC rfl _ _ rfl rfl (HA.out.gr HG7.out) rfl (src_cv o67.out.row rfl Tryz.underlying22) m1 m2 (Nat.le_trans hgs HG7.out.size) ?_); intro ad8 c8 w8 o8 k8 f8
           have HO8 := Lib.hid o8
           have HF8 := Lib.hid f8
           have HK8 := Lib.hid ((HK.out.gr HG7.out).grown k8 (fun a ha e => by
             obtain ⟨y, hy, e9⟩ := Option.map_eq_some_iff.1 e.symm
             exact HNe.out y a hy ha e9))
           have HO78 := Lib.hid (HO7.out.grown k8 (fun a ha e => by
             obtain ⟨y, hy, e9⟩ := Option.map_eq_some_iff.1 e.symm
             have h1 := (HA.out.lt y hy).2
             have h2 := (HO7.out.lt a ha).1
             omega))
           have HG8 := Lib.hid ((HG.out.trans HG7.out).grown k8 (fun k hk => by
             obtain ⟨y, hy, e⟩ := Option.map_eq_some_iff.1 hk
             exact e ▸ (HA.out.lt y hy).1))
           have hs8 := k8.size
           clear o8 k8 f8)
        | (at_builtin; go_must (refine wp_append elemC rfl _ _ rfl rfl HK8.out rfl (src_cv HO78.out.row rfl Tryz.underlying22) m3 m4 HG8.out.size ?_); intro ad9 c9 w9 o9 k9 f9
           have HO9 := Lib.hid o9
           have HF9 := Lib.hid f9
           have HA9 := Lib.hid (HO8.out.grown k9 (fun a ha e => by
             obtain ⟨y, hy, e9⟩ := Option.map_eq_some_iff.1 e.symm
             rcases HF8.out a ha with h1 | h1
             · exact HNe.out a y h1 hy e9.symm
             · have h2 := (HK.out.lt y hy).2
               have h3 := HG7.out.size
               omega))
           have HG9 := Lib.hid (HG8.out.grown k9 (fun k hk => by
             obtain ⟨y, hy, e⟩ := Option.map_eq_some_iff.1 hk
             exact e ▸ (HK.out.lt y hy).1))
           clear o9 k9 f9)
        | fail)
      go_roundw
      case rel =>
        refine ⟨i + 1, ad8, c8, ad9, c9, by go_num, by rw [HTA.out, List.length_append], by rw [HTK.out, List.length_append], hlt, by rw [HTA.out, List.length_append, cv_append]; exact HA9.out, by rw [HTK.out, List.length_append, cv_append]; exact HO9.out, fun a b ha hb e => ?_, HG9.out⟩
        have h3 := HG7.out.size
        rcases HF9.out b hb with h1 | h1
        · rcases HF8.out a ha with h2 | h2
          · exact HNe.out a b h2 h1 e
          · have := (HK.out.lt b h1).2
            omega
        · have := (HO8.out.lt a ha).2
          omega
      case measure => simp [intOf]; omega
    · obtain rfl : i = X.length := by omega
      have hAe : allP X X.length = C := by unfold allP; rw [List.take_length]; exact HX2.out
      have hKe : keptP X lks X.length = keepF C lks true := by unfold keptP; rw [List.take_length]; exact HX3.out
      rw [hAe] at hA ⊢
      rw [hKe] at hK ⊢
      have hql := keep_le C lks true
      have HKq := Lib.hid (HKp.out adC cpC C.length C wr rfl (HG3.out.trans hG) (HRC.out.gr hG) hlC hcC HOr.out)
      generalize keepF C lks true = q at *
      have HA := Lib.hid hA.row
      have HK := Lib.hid hK.row
      have HG := Lib.hid hG
      have HCe := Lib.hid (fun w' (k : Gr wr w') => rCells_same ada adC C.length C.length ca cpC C w' rfl rfl (HA.out.gr k) ((HRC.out.gr HG.out).gr k) (by omega))
      have HCq := Lib.hid (fun w' (k : Gr wr w') adb cb hb => rCells_same adq adb q.length q.length cq cb q w' rfl rfl (HK.out.gr k) hb (by omega))
      clear hA hK hG hAe hKe
      have T1 : RowKit.Hid True := trivial
      go_wp2_with (first
        | (go_at_call 13; go_must (refine HKq.out.mono ?_); rintro e w4 ⟨ad4, cp4, rfl, o4, g4⟩)
        | (go_at_call 14; clear T1; go_must (refine (HCe.out _ g4).mono ?_); rintro e w5 ⟨rfl, g5⟩)
        | (go_at_call 14; go_must (refine (HCq.out _ (g4.trans g5) ad4 cp4 (o4.gr g5).row).mono ?_); rintro e w6 ⟨rfl, g6⟩)
        | fail)
      go_ret
      exact ⟨rfl, (HG3.out.trans HG.out).trans ((g4.trans g5).trans g6)⟩
end Go.Proofs.YtpaogoehgkoaeaaGreatDoor
