/- Layer 6 (bloom): BloomYes answers true. -/
import Derived.Test.YtpkbifaeofcckaaBloomLaw2
namespace Go.Proofs.Ytpkbifaeofcckaa
set_option linter.unusedVariables false
set_option linter.unusedSimpArgs false
open Go.RowKit Bloom
theorem onF_mem {keys : List (List UInt8)} {key : List UInt8} (h : key ∈ keys) (b k j : Nat) (hj : j < k) : onF keys b k (bitAt (hashF key) b j) = true := by
  unfold onF
  rw [List.any_eq_true]
  refine ⟨key, h, ?_⟩
  unfold probesF
  rw [List.any_eq_true]
  exact ⟨j, List.mem_range.2 hj, by simp⟩
theorem Build_lenX (X : Int) (ad : Option Addr) (len cap : Nat) (keys : List (List UInt8)) (b : Nat) (w : World) (hX : X = (b : Int)) (hlen : keys.length = len) (hm : len ≤ 100000) (h1 : 1 ≤ b) (h2 : b ≤ 64) (hr : Row w ad (sv keys)) (hsh : Short keys) :
    Calls Try.prog 14 #[.slice ad len cap, .int .i64 X] w (RetBE 5 w (filterF keys b) 0) := by
  subst hX; exact Build_len ad len cap keys b w hlen hm h1 h2 hr hsh
set_option maxRecDepth 100000 in
set_option maxHeartbeats 2000000 in
theorem BloomYes_any (ad ad' : Option Addr) (cap cap' : Nat) (keys more : List (List UInt8)) (a : Int) (w : World) (ha1 : -9223372036854775808 ≤ a) (ha2 : a ≤ 9223372036854775807) (hl : keys.length ≤ cap) (hl' : more.length ≤ cap') (hc : cap ≤ maxLen) (hc' : cap' ≤ maxLen) (hr : Row w ad (sv keys)) (hr' : Row w ad' (sv more)) (hs : Short keys) (hs' : Short more) :
    Calls Try.prog 8 #[.slice ad keys.length cap, .slice ad' more.length cap', .int .i64 a] w fun e w' => e = .returned (.bool true) ∧ Gr w w' := by
  unfold maxLen at hc hc'
  by_cases hbig : (3000 : Int) < keys.length ∨ (3000 : Int) < more.length
  · rcases hbig with hb | hb
    · go_enter Try.func8, Try.ntmps8
      go_wp2_with (go_at_call 10; refine (blooms_any _).mono ?_; rintro e w1 ⟨rfl, g1⟩)
      go_ret
      exact ⟨rfl, Gr.trans (by assumption) (by assumption)⟩
    · by_cases hb2 : (3000 : Int) < keys.length
      all_goals
        go_enter Try.func8, Try.ntmps8
        go_wp2_with (go_at_call 10; refine (blooms_any _).mono ?_; rintro e w1 ⟨rfl, g1⟩)
        go_ret
        exact ⟨rfl, Gr.trans (by assumption) (by assumption)⟩
  · obtain ⟨n, hn⟩ : ∃ n, n = min keys.length more.length := ⟨_, rfl⟩
    obtain ⟨q, hq, hq64⟩ := mod_pick a 64 (by omega) (by omega)
    obtain ⟨b, hb⟩ : ∃ b, b = q + 1 := ⟨_, rfl⟩
    have hb1 : 1 ≤ b := by omega
    have hb2 : b ≤ 64 := by omega
    have hmin : min (keys.length : Int) (more.length : Int) = (n : Int) := by omega
    have hA : (keys.take n).length = n := by simp; omega
    have hB : (more.take n).length = n := by simp; omega
    have hn2 : n ≤ 3000 := by omega
    have hnk : n ≤ keys.length := by omega
    have hnm : n ≤ more.length := by omega
    have rA : Row w ad (sv (keys.take n)) := by rw [← sv_take]; exact hr.take_ n
    have rB : Row w ad' (sv (more.take n)) := by rw [← sv_take]; exact hr'.take_ n
    have sA := hs.take_ n
    have sB := hs'.take_ n
    have hp := nF_le (len := n) (b := b) (by omega) hb2
    have hkf := kF_le b
    generalize keys.take n = K1 at *
    generalize more.take n = K2 at *
    have LA := filter_len K1 b
    have LB := filter_len K2 b
    rw [hA] at LA
    rw [hB] at LB
    have FA : filterF K1 b = rowF (onF K1 (8 * nF n b) (kF b)) (nF n b) ++ [UInt8.ofNat (kF b)] := by unfold filterF; rw [hA]
    have FB : filterF K2 b = rowF (onF K2 (8 * nF n b) (kF b)) (nF n b) ++ [UInt8.ofNat (kF b)] := by unfold filterF; rw [hB]
    have b1 := fun w1 (g : Gr w w1) X hX => Build_lenX X ad n cap K1 b w1 hX hA (by omega) hb1 hb2 (rA.gr g) sA
    have b2 := fun w1 (g : Gr w w1) X hX => Build_lenX X ad' n cap' K2 b w1 hX hB (by omega) hb1 hb2 (rB.gr g) sB
    have hm1 : ∃ C, mergeF (filterF K1 b) (filterF K2 b) = (C, 0) ∧ C.length = nF n b + 1 ∧ (∀ key ∈ K1, mayF (filterF K1 b) (hashF key) = true ∧ mayF C (hashF key) = true) ∧ (∀ key ∈ K2, mayF (filterF K2 b) (hashF key) = true ∧ mayF C (hashF key) = true) := by
      rw [FA, FB]
      refine ⟨_, merge_rows _ _ _ _ (by omega) hkf.1 hkf.2, by rw [List.length_append, rowF_len]; rfl, ?_, ?_⟩
      all_goals
        intro key hkey
        rw [may_row _ _ _ _ (by omega) hkf.1 hkf.2, may_row _ _ _ _ (by omega) hkf.1 hkf.2, List.all_eq_true, List.all_eq_true]
        refine ⟨fun j hj => onF_mem hkey _ _ _ (List.mem_range.1 hj), fun j hj => ?_⟩
        simp only [Bool.or_eq_true]
      · exact .inl (onF_mem hkey _ _ _ (List.mem_range.1 hj))
      · exact .inr (onF_mem hkey _ _ _ (List.mem_range.1 hj))
    obtain ⟨C, m1, LC, y1, y2⟩ := hm1
    clear FA FB
    generalize filterF K1 b = A at *
    generalize filterF K2 b = B at *
    generalize nF n b = N at *
    have c1 := fun ad cap ad' cap' w h1 h2 h3 h4 hb hb' => Merge_any A B ad ad' cap cap' w h1 h2 h3 h4 (by omega) hb hb'
    rw [m1] at c1
    dsimp only at c1
    have B1 := Lib.hid b1; have B2 := Lib.hid b2; have C1 := Lib.hid c1
    have HA := Lib.hid hA; have HB := Lib.hid hB; have HB0 := Lib.hid hb
    have HLA := Lib.hid LA; have HLB := Lib.hid LB; have HLC := Lib.hid LC
    have hLAC : (A.length : Int) = (C.length : Int) := by omega
    have hACb : ((C.length : Int) != (A.length : Int)) = false := by rw [bne_eq_false_iff_eq]; omega
    have hk1 : ¬ (3000 : Int) < keys.length := by omega
    have hk2 : ¬ (3000 : Int) < more.length := by omega
    clear b1 b2 c1 m1 hbig hn LA LB LC hA hB hr hr' hs hs' hb hLAC
    go_enter Try.func8, Try.ntmps8
    go_wp2_with (go_at_call 10; refine (blooms_any _).mono ?_; rintro e w1 ⟨rfl, g1⟩)
    go_quiet (fail)
    go_wp2_with (first
      | (go_at_call 14; refine (B1.out _ (g1.trans (Gr.drewN _ _)) _ (by have := HB0.out; omega)).mono ?_; rintro e w2 ⟨ad1, cap1, rfl, o1, g2⟩; have G2 := (g1.trans (Gr.drewN _ _)).trans g2; clear B1)
      | (go_at_call 14; refine (B2.out _ G2 _ (by have := HB0.out; omega)).mono ?_; rintro e w3 ⟨ad2, cap2, rfl, o2, g3⟩; have p1 := o1.gr g3)
      | (go_at_call 16; (with_reducible refine (C1.out _ _ _ _ _ (owns_le p1).1 (owns_le p1).2 (owns_le o2).1 (owns_le o2).2 p1.bytes o2.bytes).mono ?_); rintro e w4 ⟨ad3, cap3, rfl, o3, g4⟩; clear C1; have q1 := p1.gr g4; have q2 := o2.gr g4; have G4 := (G2.trans g3).trans g4))
    clear hq hmin
    go_loopw [14] (fun i wr => ∃ j : Nat, j ≤ n ∧ i = .int .i64 (j : Int) ∧ Gr w4 wr) (fun i _ => n - (intOf i).toNat)
    case atStart => exact ⟨0, Nat.zero_le _, rfl, Gr.refl _⟩
    case round =>
      obtain ⟨j, hj, rfl, hg⟩ := hrel
      by_cases hlt : j < n
      · have hj1 : j < K1.length := by rw [HA.out]; exact hlt
        have hj2 : j < K2.length := by rw [HB.out]; exact hlt
        obtain ⟨b1, off1, rfl, cc1⟩ := (rA.gr (G4.trans hg)) j _ (sv_get K1 j hj1)
        obtain ⟨b2, off2, rfl, cc2⟩ := (rB.gr (G4.trans hg)) j _ (sv_get K2 j hj2)
        have z1 := y1 K1[j] (List.getElem_mem hj1)
        have z2 := y2 K2[j] (List.getElem_mem hj2)
        have hsh1 := sA.at_ j hj1
        have hsh2 := sB.at_ j hj2
        have hAl : A.length ≤ 500000000 := by have := HLA.out; omega
        have hBl : B.length ≤ 500000000 := by have := HLB.out; omega
        have hCl : C.length ≤ 500000000 := by have := HLC.out; omega
        have d1 := fun ad cap w h1 h2 hb => May_any A K1[j] ad cap w h1 h2 hAl hb hsh1
        have d2 := fun ad cap w h1 h2 hb => May_any B K2[j] ad cap w h1 h2 hBl hb hsh2
        have d3 := fun ad cap w h1 h2 hb => May_any C K1[j] ad cap w h1 h2 hCl hb hsh1
        have d4 := fun ad cap w h1 h2 hb => May_any C K2[j] ad cap w h1 h2 hCl hb hsh2
        rw [z1.1] at d1
        rw [z2.1] at d2
        rw [z1.2] at d3
        rw [z2.2] at d4
        have D1 := Lib.hid d1; have D2 := Lib.hid d2; have D3 := Lib.hid d3; have D4 := Lib.hid d4
        have x1 := q1.gr hg
        have x2 := q2.gr hg
        have x3 := o3.gr hg
        clear d1 d2 d3 d4 z1 z2 hAl hBl hCl
        have cell2 := fun w' (g : Gr wr w') => g.cell cc2
        have cell1 := fun w' (g : Gr wr w') => g.cell cc1
        have CE1 := Lib.hid cell1; have CE2 := Lib.hid cell2
        clear cell1 cell2
        go_wp2_with (first
          | (go_at_call 17; (with_reducible refine (D1.out _ _ _ (owns_le x1).1 (owns_le x1).2 x1.bytes).mono ?_); rintro e w5 ⟨rfl, g5⟩; clear D1; have e2 := CE2.out _ g5; have G5 := g5)
          | (go_at_call 17; (with_reducible refine (D2.out _ _ _ (owns_le (x2.gr G5)).1 (owns_le (x2.gr G5)).2 (x2.gr G5).bytes).mono ?_); rintro e w6 ⟨rfl, g6⟩; clear D2; have G6 := G5.trans g6; have e1 := CE1.out _ G6)
          | (go_at_call 17; (with_reducible refine (D3.out _ _ _ (owns_le (x3.gr G6)).1 (owns_le (x3.gr G6)).2 (x3.gr G6).bytes).mono ?_); rintro e w7 ⟨rfl, g7⟩; clear D3; have G7 := G6.trans g7; have e3 := CE2.out _ G7)
          | (go_at_call 17; (with_reducible refine (D4.out _ _ _ (owns_le (x3.gr G7)).1 (owns_le (x3.gr G7)).2 (x3.gr G7).bytes).mono ?_); rintro e w8 ⟨rfl, g8⟩))
        go_roundw
        case rel => exact ⟨j + 1, by omega, by go_num, (hg.trans G7).trans g8⟩
        case measure => simp [intOf]; omega
      · go_wp2
        go_ret
        exact ⟨rfl, G4.trans hg⟩
end Go.Proofs.Ytpkbifaeofcckaa
