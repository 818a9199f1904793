/- Layer 5 (ikey): Sortable and Unsort of the program. -/
import Derived.Test.YtnjnehegfdimaaaDoorReplace
import Derived.Test.YtnjnehegfdimaaaDoorIkeyLess
namespace Go.Proofs.YtnjnehegfdimaaaDoor
set_option linter.unusedVariables false
set_option linter.unusedSimpArgs false
open Go.RowKit Ikey Varint
theorem bytes_new (w : World) (C : Array Value) (e : TypeId) (l : List UInt8) (h : C.toList = bv l) (gb : Nat) (hg : gb = w.heap.size) : Bytes (w.alloc (.cells C e)) (some ⟨gb, 0, none⟩) l := by
  subst hg; exact Bytes.alloc w C e (0, 0) l h
theorem ReplaceAll_zero (b off cap b2 o2 c2 b3 o3 c3 : Nat) (l : List UInt8) (w : World) (hl : l.length ≤ 1000000) (hl1 : 1 ≤ l.length) (hlc : l.length ≤ cap) (hb : Bytes w (some ⟨b, off, none⟩) l) (hx : w.cell? ⟨b2, o2, none⟩ = some (.int .u8 0)) (hy : Bytes w (some ⟨b3, o3, none⟩) [0, 255]) :
    Calls Tryd.prog 18 #[.slice (some ⟨b, off, none⟩) l.length cap, .slice (some ⟨b2, o2, none⟩) 1 c2, .slice (some ⟨b3, o3, none⟩) 2 c3] w (RetB 5 w (escF l)) := by
  have HC := Lib.hid (Replace_zero b off cap b2 o2 c2 b3 o3 c3 l w hl hl1 hlc hb hx hy)
  clear hb hx hy
  go_enter Tryd.func18, Tryd.ntmps18
  go_wp2_with (go_at_call 23; refine HC.out.mono ?_; rintro e w' ⟨ad, cp, rfl, o1, g1⟩)
  go_ret
  exact ⟨ad, cp, rfl, o1, g1⟩
set_option maxRecDepth 100000 in
set_option maxHeartbeats 1000000 in
theorem Sortable_no (k : List UInt8) (s d : Int) (w : World) (h : okV k s d = false) :
    Calls Tryd.prog 8 #[ver k s d] w (RetBI 5 w [] 1) := by
  have HC := Lib.hid (fun w => Check_any k s d w)
  rw [chk_no h] at HC
  unfold ver at HC ⊢
  go_enter Tryd.func8, Tryd.ntmps8
  go_wp2_with (go_at_call 17; refine (HC.out _).mono ?_; rintro e w1 ⟨rfl, g1⟩; obtain ⟨c0, c1, c2⟩ := g1.box3)
  go_ret2
  exact ⟨none, 0, rfl, Owns.empty _ _ _ _, (Gr.alloc _ _).trans g1⟩
theorem u64_not (x : Nat) (h : x < 18446744073709551616) : bits .xor .u64 IntKind.u64.max (x : Int) = ((18446744073709551615 - x : Nat) : Int) := by
  rw [← u64_xor_ones x h]
  show IntKind.u64.wrap ((BitVec.ofInt 64 IntKind.u64.max ^^^ BitVec.ofInt 64 (x : Int)).toNat : Int) = IntKind.u64.wrap ((BitVec.ofInt 64 (x : Int) ^^^ BitVec.ofInt 64 18446744073709551615).toNat : Int)
  rw [BitVec.xor_comm]
  rfl
/-- two bytes, laid in a block of their own -/
theorem Src.two {P : Program} {u e e' : TypeId} (w : World) (X Y : Int) (x y : UInt8) (hX : X = (x.toNat : Int)) (hY : Y = (y.toNat : Int)) (hu : P.underlying u = some (.slice e')) :
    Src P u (w.alloc (.cells #[.int .u8 X, .int .u8 Y] e)) 1 (.slice (some ⟨w.heap.size, 0, none⟩) 2 2) 2 (bv [x, y]) := by
  subst hX hY
  exact Src.bytes (Bytes.alloc w _ e (0, 0) [x, y] rfl) rfl hu
set_option maxRecDepth 100000 in
set_option maxHeartbeats 4000000 in
theorem Sortable_yes (k : List UInt8) (s d : Nat) (w : World) (h : okV k s d = true) :
    Calls Tryd.prog 8 #[ver k s d] w (RetBI 5 w (sortF k s d) 0) := by
  obtain ⟨hk0, hk, _, hs, hd⟩ := okV_of h
  obtain ⟨hs', hd', hT⟩ := okV_trail h
  have hkm : k.length ≤ maxLen := by unfold maxLen; omega
  have hk1 : 1 ≤ k.length := by cases k with | nil => exact absurd rfl hk0 | cons => simp
  have HC := Lib.hid (fun w => Check_any k s d w)
  rw [chk_yes h] at HC
  have HT := Lib.hid (fun w => trailer_any k s d w hs' hd')
  unfold ver at HC HT ⊢
  have hel := escF_len k
  have HE := Lib.hid (show sortF k s d = escF k ++ [0, 0] ++ topF 8 (18446744073709551615 - trailF s d) 8 by rw [tailF_top hT]; simp [sortF])
  generalize trailF s d = T at *
  generalize hEe : escF k = E at *
  have HEe := Lib.hid hEe
  have m1 : E.length + 2 ≤ maxLen := by unfold maxLen; omega
  have m2 : (E.length + 2) * 1 ≤ 140737488355328 := by omega
  clear hEe h hk0 hs hd hs' hd'
  go_enter Tryd.func8, Tryd.ntmps8
  go_wp2_with (first
    | (go_at_call 17; refine (HC.out _).mono ?_; rintro e w1 ⟨rfl, g1⟩; obtain ⟨c0, c1, c2⟩ := g1.box3; obtain ⟨cap, w2, hrun, ho, hg, hsz⟩ := bytes_str Tryd.underlying9 Tryd.underlying25 Tryd.underlying5 w1 k hkm; have d0 := hg.cell c0; have d1 := hg.cell c1; have d2 := hg.cell c2; clear hsz)
    | (go_at_call 18
       have G2 : Gr w2 ((w2.alloc (.cells #[.int .u8 0] 5)).alloc (.cells #[.int .u8 0, .int .u8 255] 5)) := (Gr.alloc _ _).trans (Gr.alloc _ _)
       go_must (have HRA := ReplaceAll_zero w1.heap.size 0 cap w2.heap.size 0 1 (w2.heap.size + 1) 0 2 k _ (by omega) hk1 ho.2.1 (ho.bytes.gr G2) ((Blk.new w2 5 #[.int .u8 0]).gr (Gr.alloc _ _) |>.cell rfl) (bytes_new (w2.alloc (.cells #[.int .u8 0] 5)) #[.int .u8 0, .int .u8 255] 5 [0, 255] rfl (w2.heap.size + 1) (by simp)))
       rw [HEe.out] at HRA
       go_must (refine HRA.mono ?_)
       clear HRA
       rintro e w3 ⟨ad3, cp3, rfl, o3, g3⟩
       have GG : Gr (w.alloc (.cells #[.string (str k), .int .i64 s, .int .i64 d] 23)) w3 := (g1.trans hg).trans (G2.trans g3)
       have hz3 : (w.alloc (.cells #[.string (str k), .int .i64 s, .int .i64 d] 23)).heap.size ≤ ((w2.alloc (.cells #[.int .u8 0] 5)).alloc (.cells #[.int .u8 0, .int .u8 255] 5)).heap.size := ((g1.trans hg).trans G2).size
       have o3' := o3.base hz3
       clear d0 d1 d2 c0 c1 c2 hrun)
    | (at_builtin; go_must (have hbs : (w.alloc (.cells #[.string (str k), .int .i64 s, .int .i64 d] 23)).heap.size ≤ (w3.alloc (.cells #[.int .u8 0, .int .u8 0] 5)).heap.size := (Nat.le_trans GG.size (Gr.alloc _ _).size)); go_must (refine wp_append elemB rfl _ _ rfl rfl (o3'.gr (Gr.alloc _ _)) rfl (Src.two _ _ _ 0 0 rfl rfl Tryd.underlying25) m1 m2 hbs ?_); intro ad4 cp4 w4 o4 k4 f4
       have GG4 := GG.app o3' (Nat.le_refl _) k4
       obtain ⟨e0, e1, e2⟩ := GG4.box3)
    | (go_at_call 19; go_must (refine (HT.out _).mono ?_); rintro e w5 ⟨rfl, g5⟩)
    | fail)
  obtain ⟨N, hN⟩ : ∃ N, N = 18446744073709551615 - T := ⟨_, rfl⟩
  have hN2 : N < 18446744073709551616 := by omega
  rw [u64_not T hT, ← hN]
  rw [← hN] at HE
  have G5 : Gr w w5 := ((Gr.alloc _ _).trans GG4).trans g5
  have o5 : Owns w5 w.heap.size 5 1 ad4 cp4 (E.length + 2) (bv (E ++ [0, 0] ++ topF 8 N 0)) := by
    rw [show topF 8 N 0 = [] from rfl, List.append_nil, bv_append]
    exact (o4.gr g5).base (Gr.alloc w _).size
  have HO5 := Lib.hid o5; have HG5 := Lib.hid G5
  clear hN o5 G5 o4 k4 f4 GG4 GG o3' o3 g1 hg g3 g5 ho G2 hz3 e0 e1 e2
  go_loopw [5, 7] (fun v i wr => ∃ (m : Nat) (ad : Option Addr) (cap' : Nat), m ≤ 8 ∧ i = .int .i64 (8 * (m : Int) - 8) ∧ v = .slice ad (E.length + 2 + (8 - m)) cap' ∧ Owns wr w.heap.size 5 1 ad cap' (E.length + 2 + (8 - m)) (bv (E ++ [0, 0] ++ topF 8 N (8 - m))) ∧ Gr w wr) (fun _ i _ => (intOf i + 8).toNat)
  case atStart => exact ⟨8, ad4, cp4, Nat.le_refl _, rfl, rfl, HO5.out, HG5.out⟩
  case round =>
    clear HO5 HG5
    obtain ⟨m, ad, cap', hm, rfl, rfl, ho, hg⟩ := hrel
    by_cases h1 : 1 ≤ m
    · obtain ⟨q, rfl⟩ : ∃ q, m = q + 1 := ⟨m - 1, by omega⟩
      have eq1 : 8 * ((q + 1 : Nat) : Int) - 8 = ((8 * q : Nat) : Int) := by omega
      rw [eq1]
      have HX := Lib.hid (show ((N : Int) / 2 ^ (8 * q)) % 256 = ((UInt8.ofNat (N / 256 ^ q)).toNat : Int) by
        have : (N : Int) / 2 ^ (8 * q) = ((N / 256 ^ q : Nat) : Int) := by rw [pow256]; simp
        rw [this, UInt8.toNat_ofNat']; omega)
      have hlen : E.length + 2 + (8 - (q + 1)) + 1 = E.length + 2 + (8 - q) := by omega
      have htop : topF 8 N (8 - q) = topF 8 N (8 - (q + 1)) ++ [UInt8.ofNat (N / 256 ^ q)] := by
        rw [show 8 - q = (8 - (q + 1)) + 1 by omega, topF_step, show 8 - 1 - (8 - (q + 1)) = q by omega]
      have HT2 := Lib.hid htop
      have m3 : E.length + 2 + (8 - (q + 1)) + 1 ≤ maxLen := by unfold maxLen; omega
      have m4 : (E.length + 2 + (8 - (q + 1)) + 1) * 1 ≤ 140737488355328 := by omega
      obtain ⟨nn, hnn⟩ : ∃ nn, nn = E.length + 2 + (8 - (q + 1)) := ⟨_, rfl⟩
      rw [← hnn] at ho hlen m3 m4 ⊢
      have hq0 : (0 : Int) ≤ ((8 * q : Nat) : Int) := by omega
      have hq1 : 8 * q < 64 := by omega
      have HL2 := Lib.hid hlen
      clear hnn htop hlen eq1
      have hbs : w.heap.size ≤ (wr.alloc (.cells #[.int .u8 ((N : Int) / 2 ^ (8 * q) % 256)] 5)).heap.size := Nat.le_trans hg.size (Gr.alloc _ _).size
      go_wp2_with (at_builtin; go_must (refine wp_append elemB rfl _ _ rfl rfl (ho.gr (Gr.alloc _ _)) rfl (Src.one _ _ (UInt8.ofNat (N / 256 ^ q)) HX.out Tryd.underlying25) m3 m4 hbs ?_); intro ad2 cap2 w4 o4 k4 f4)
      have o4' := o4
      rw [← bv_append, List.append_assoc, ← HT2.out, HL2.out] at o4'
      have HO4 := Lib.hid o4'
      have HG4 := Lib.hid (hg.app ho (Nat.le_refl _) k4)
      clear o4 o4' k4 f4 ho hg
      rw [HL2.out]
      go_roundw
      case rel => exact ⟨q, ad2, cap2, by omega, by go_num, rfl, HO4.out, HG4.out⟩
      case measure => simp [intOf]; omega
    · obtain rfl : m = 0 := by omega
      have hfin : bv (E ++ [0, 0] ++ topF 8 N (8 - 0)) = bv (sortF k s d) := by rw [HE.out]
      have hlf : E.length + 2 + (8 - 0) = (sortF k s d).length := by rw [HE.out, List.length_append, List.length_append, topF_len]; rfl
      rw [hfin, hlf] at ho
      rw [hlf]
      have HO := Lib.hid ho; have HG := Lib.hid hg
      clear ho hg hfin hlf
      go_wp2
      go_ret2
      exact ⟨ad, cap', rfl, HO.out, HG.out⟩
theorem unsF_at {l : List UInt8} {at_ : Nat} (h : l.length = at_ + 10) : unsF l = if l.getD at_ 0 = 0 ∧ l.getD (at_ + 1) 0 = 0 then (match unesc (l.take at_) with | none => none | some k => ofF k (18446744073709551615 - beV (l.drop (at_ + 2)))) else none := by
  unfold unsF
  rw [if_neg (by omega), show l.length - 10 = at_ by omega]
  rfl
set_option maxRecDepth 100000 in
set_option maxHeartbeats 4000000 in
theorem Unsort_any (b off cap : Nat) (l : List UInt8) (w : World) (hlc : l.length ≤ cap) (hm : l.length ≤ 140737488351232) (hb : Bytes w (some ⟨b, off, none⟩) l) :
    Calls Tryd.prog 13 #[.slice (some ⟨b, off, none⟩) l.length cap] w fun e w' => e = .returned (outV (unsF l)) ∧ Gr w w' := by
  by_cases h10 : l.length < 10
  · have HD := Lib.hid (show unsF l = none by unfold unsF; rw [if_pos h10])
    have h10' : (l.length : Int) - 10 < 0 := by omega
    clear hb
    go_enter Tryd.func13, Tryd.ntmps13
    go_wp2
    refine bodyPost_ret (v := outV none) (by simp [results, Tryd.results13, go_sem, outV, ver]; rfl) rfl ⟨by rw [HD.out], ?_⟩
    exact Gr.alloc _ _
  · obtain ⟨at_, hat⟩ : ∃ at_, l.length = at_ + 10 := ⟨l.length - 10, by omega⟩
    have HU := Lib.hid (unsF_at hat)
    have hb1 := hb.gr (Gr.alloc w (.cells #[.string ⟨#[]⟩, .int .i64 0, .int .i64 0] 23))
    obtain ⟨_, _, e0, z0⟩ := hb1 at_ (by omega)
    cases e0
    obtain ⟨_, _, e0, z1⟩ := hb1 (at_ + 1) (by omega)
    cases e0
    have g0 : l.getD at_ 0 = l[at_]'(by omega) := by simp [List.getD_eq_getElem?_getD, show at_ < l.length by omega]
    have g1 : l.getD (at_ + 1) 0 = l[at_ + 1]'(by omega) := by simp [List.getD_eq_getElem?_getD, show at_ + 1 < l.length by omega]
    rw [g0, g1] at HU
    generalize l[at_]'(by omega) = x0 at *
    generalize l[at_ + 1]'(by omega) = x1 at *
    have HB := Lib.hid hb1
    have HAT := Lib.hid hat
    have hcap : at_ + 10 ≤ cap := by omega
    have hm2 : at_ + 10 ≤ 140737488351232 := by omega
    have q1 : (at_ : Int) + 10 - 8 = (at_ : Int) + 2 := by omega
    rw [hat]
    clear hb hb1 g0 g1 hlc hat h10
    by_cases h0 : x0 = 0
    · by_cases h1 : x1 = 0
      · subst h0 h1
        rw [if_pos ⟨rfl, rfl⟩] at HU
        have hk : (l.take at_).length = at_ := by rw [List.length_take, HAT.out]; omega
        have HK := Lib.hid hk
        clear hk
        have hd0 : decide ((at_ : Int) < 0) = false := by simp
        obtain ⟨KS, hKS⟩ : ∃ KS, KS = l.take at_ := ⟨_, rfl⟩
        rw [← hKS] at HU HK
        have HKS := Lib.hid hKS
        have HG1 := Lib.hid (Gr.refl (w.alloc (.cells #[.string ⟨#[]⟩, .int .i64 0, .int .i64 0] 23)))
        obtain ⟨W1, hW1⟩ : ∃ W1, W1 = w.alloc (.cells #[.string ⟨#[]⟩, .int .i64 0, .int .i64 0] 23) := ⟨_, rfl⟩
        clear hKS
        go_enter Tryd.func13, Tryd.ntmps13
        go_wp2
        rw [← hW1] at HB HG1 z0 z1 ⊢
        have HW1 := Lib.hid hW1
        clear hW1 z0 z1
        go_loopw [5, 6] (fun v i wr => ∃ (j : Nat) (K : List UInt8) (ad : Option Addr) (cp : Nat), j ≤ at_ ∧ K.length ≤ j ∧ i = .int .i64 (j : Int) ∧ v = .slice ad K.length cp ∧ Owns wr W1.heap.size 5 1 ad cp K.length (bv K) ∧ Gr W1 wr ∧ unesc KS = (unesc (KS.drop j)).map (K ++ ·)) (fun _ i _ => at_ - (intOf i).toNat)
        case atStart => exact ⟨0, [], none, 0, Nat.zero_le _, Nat.le_refl _, rfl, rfl, Owns.empty _ _ _ _, HG1.out, by simp⟩
        case round =>
          clear HG1
          obtain ⟨j, K, ad, cp, hj, hKj, rfl, rfl, ho, hg, hu⟩ := hrel
          have HUK := Lib.hid hu
          clear hu
          by_cases hja : j < at_
          · have hjl : j < l.length := by rw [HAT.out]; omega
            have hjk : j < KS.length := by rw [HK.out]; exact hja
            have hdr : KS.drop j = l[j] :: KS.drop (j + 1) := by
              rw [List.drop_eq_getElem_cons hjk]
              congr 1
              have := HKS.out
              subst this
              exact List.getElem_take
            have HDR := Lib.hid hdr
            obtain ⟨_, _, e0, zj⟩ := (HB.out.gr hg) j hjl
            cases e0
            generalize hxx : l[j] = x at *
            have hby := byte_hi x
            have m1 : K.length + 1 ≤ maxLen := by unfold maxLen; omega
            have m2 : (K.length + 1) * 1 ≤ 140737488355328 := by omega
            have hbs : W1.heap.size ≤ (wr.alloc (.cells #[.int .u8 (x.toNat : Int)] 5)).heap.size := Nat.le_trans hg.size (Gr.alloc _ _).size
            have HX := Lib.hid hxx
            clear hdr hxx hjk
            by_cases hx0 : x = 0
            · have hxb : ((x.toNat : Int) != 0) = false := by rw [hx0]; rfl
              have hxb2 : ((x.toNat : Int) == 0) = true := by rw [hx0]; rfl
              by_cases hend : j + 1 = at_
              · have HD := Lib.hid (show unsF l = none by
                  have h1 : KS.drop (j + 1) = [] := List.drop_eq_nil_of_le (by rw [HK.out]; omega)
                  have h2 : unesc KS = none := by rw [HUK.out, HDR.out, h1, hx0]; rfl
                  rw [HU.out, h2])
                have hje : (j : Int) + 1 = (at_ : Int) := by omega
                clear hx0
                go_wp2_with (first
                  | (at_builtin; go_must (refine wp_append elemB rfl _ _ rfl rfl (ho.gr (Gr.alloc _ _)) rfl (Src.one _ _ x rfl Tryd.underlying25) m1 m2 hbs ?_); intro ad2 cp2 w4 o4 k4 f4
                     have G4 := hg.app ho (Nat.le_refl _) k4
                     have o4' := o4
                     rw [← bv_append] at o4'
                     obtain ⟨_, _, e0, zj4⟩ := (HB.out.gr G4) j hjl
                     rw [HX.out] at zj4
                     cases e0
                     have G4' := G4
                     rw [HW1.out] at G4'
                     obtain ⟨r0, r1, r2, q0, q1, q2⟩ := (Blk.of1 G4').three
                     clear k4 f4 o4)
                  | fail)
                refine bodyPost_ret (v := outV none) (by simp [results, Tryd.results13, go_sem, outV, ver, r0, r1, r2]; rfl) rfl ⟨by rw [HD.out], ?_⟩
                exact (((Gr.alloc _ _).trans G4').setCell (Nat.le_refl _) _).setCell (Nat.le_refl _) _ |>.setCell (Nat.le_refl _) _
              · have hja2 : j + 1 < at_ := by omega
                have hjl2 : j + 1 < l.length := by rw [HAT.out]; omega
                have hjk2 : j + 1 < KS.length := by rw [HK.out]; exact hja2
                have hdr2 : KS.drop (j + 1) = l[j + 1] :: KS.drop (j + 1 + 1) := by
                  rw [List.drop_eq_getElem_cons hjk2]
                  congr 1
                  have := HKS.out
                  subst this
                  exact List.getElem_take
                have HDR2 := Lib.hid hdr2
                generalize hyy : l[j + 1] = y at *
                have hby2 := byte_hi y
                have HY := Lib.hid hyy
                have hne : (((j : Int) + 1) == (at_ : Int)) = false := by rw [beq_eq_false_iff_ne]; omega
                have hne2 : ¬ (j : Int) + 1 = (at_ : Int) := by omega
                have hmj : j + 1 ≤ 140737488351232 := by omega
                clear hdr2 hyy hjk2 hend
                by_cases hy : y = 255
                · have HN2 := Lib.hid (show unesc KS = (unesc (KS.drop (j + 2))).map ((K ++ [x]) ++ ·) by
                    rw [HUK.out, HDR.out, HDR2.out, hx0, hy, unesc_zero, Option.map_map]
                    congr 1
                    funext z
                    simp)
                  have hyb : ((y.toNat : Int) != 255) = false := by rw [hy]; rfl
                  clear hx0 hy
                  go_wp2_with (first
                    | (at_builtin; go_must (refine wp_append elemB rfl _ _ rfl rfl (ho.gr (Gr.alloc _ _)) rfl (Src.one _ _ x rfl Tryd.underlying25) m1 m2 hbs ?_); intro ad2 cp2 w4 o4 k4 f4
                       have G4 := hg.app ho (Nat.le_refl _) k4
                       have o4' := o4
                       rw [← bv_append] at o4'
                       obtain ⟨_, _, e0, zj4⟩ := (HB.out.gr G4) j hjl
                       rw [HX.out] at zj4
                       cases e0
                       obtain ⟨_, _, e0, zy4⟩ := (HB.out.gr G4) (j + 1) hjl2
                       rw [HY.out] at zy4
                       cases e0
                       have G4' := G4
                       rw [HW1.out] at G4'
                       obtain ⟨r0, r1, r2, q0, q1, q2⟩ := (Blk.of1 G4').three
                       clear k4 f4 o4)
                    | fail)
                  go_roundw
                  case rel => exact ⟨j + 2, K ++ [x], ad2, cp2, hja2, by simp; omega, by go_num, by simp, by rw [List.length_append]; exact o4', G4, HN2.out⟩
                  case measure => simp [intOf]; omega
                · have HD := Lib.hid (show unsF l = none by
                    have h2 : unesc KS = none := by rw [HUK.out, HDR.out, HDR2.out, hx0]; simp [unesc, hy]
                    rw [HU.out, h2])
                  have hyb : ((y.toNat : Int) != 255) = true := by rw [bne_iff_ne]; exact fun e => hy (UInt8.toNat_inj.1 (by exact_mod_cast e))
                  clear hx0 hy
                  go_wp2_with (first
                    | (at_builtin; go_must (refine wp_append elemB rfl _ _ rfl rfl (ho.gr (Gr.alloc _ _)) rfl (Src.one _ _ x rfl Tryd.underlying25) m1 m2 hbs ?_); intro ad2 cp2 w4 o4 k4 f4
                       have G4 := hg.app ho (Nat.le_refl _) k4
                       have o4' := o4
                       rw [← bv_append] at o4'
                       obtain ⟨_, _, e0, zj4⟩ := (HB.out.gr G4) j hjl
                       rw [HX.out] at zj4
                       cases e0
                       obtain ⟨_, _, e0, zy4⟩ := (HB.out.gr G4) (j + 1) hjl2
                       rw [HY.out] at zy4
                       cases e0
                       have G4' := G4
                       rw [HW1.out] at G4'
                       obtain ⟨r0, r1, r2, q0, q1, q2⟩ := (Blk.of1 G4').three
                       clear k4 f4 o4)
                    | fail)
                  refine bodyPost_ret (v := outV none) (by simp [results, Tryd.results13, go_sem, outV, ver, r0, r1, r2]; rfl) rfl ⟨by rw [HD.out], ?_⟩
                  exact (((Gr.alloc _ _).trans G4').setCell (Nat.le_refl _) _).setCell (Nat.le_refl _) _ |>.setCell (Nat.le_refl _) _
            · have hxb : ((x.toNat : Int) != 0) = true := by rw [bne_iff_ne]; exact fun e => hx0 (UInt8.toNat_inj.1 (by exact_mod_cast e))
              have HN2 := Lib.hid (show unesc KS = (unesc (KS.drop (j + 1))).map ((K ++ [x]) ++ ·) by
                rw [HUK.out, HDR.out, unesc_cons hx0, Option.map_map]
                congr 1
                funext y
                simp)
              clear hx0
              go_wp2_with (first
                | (at_builtin; go_must (refine wp_append elemB rfl _ _ rfl rfl (ho.gr (Gr.alloc _ _)) rfl (Src.one _ _ x rfl Tryd.underlying25) m1 m2 hbs ?_); intro ad2 cp2 w4 o4 k4 f4
                   have G4 := hg.app ho (Nat.le_refl _) k4
                   have o4' := o4
                   rw [← bv_append] at o4'
                   obtain ⟨_, _, e0, zj4⟩ := (HB.out.gr G4) j hjl
                   rw [HX.out] at zj4
                   cases e0
                   have G4' := G4
                   rw [HW1.out] at G4'
                   obtain ⟨r0, r1, r2, q0, q1, q2⟩ := (Blk.of1 G4').three
                   clear k4 f4 o4)
                | fail)
              go_roundw
              case rel => exact ⟨j + 1, K ++ [x], ad2, cp2, hja, by simp; omega, by go_num, by simp, by rw [List.length_append]; exact o4', G4, HN2.out⟩
              case measure => simp [intOf]; omega
          · obtain rfl : j = at_ := by omega
            have hk9 : unesc KS = some K := by
              rw [HUK.out, List.drop_eq_nil_of_le (by rw [HK.out]; exact Nat.le_refl _)]
              simp [unesc]
            obtain ⟨m, hm9⟩ : ∃ m, m = l.drop (j + 2) := ⟨_, rfl⟩
            have hml : m.length = 8 := by rw [hm9, List.length_drop, HAT.out]; omega
            have HD := Lib.hid (show unsF l = ofF K (18446744073709551615 - beV m) by rw [HU.out, hk9, hm9])
            have hmb : Bytes W1 (some ⟨b, off + (j + 2), none⟩) m := by rw [hm9]; exact HB.out.drop (j + 2)
            have HMB := Lib.hid hmb; have HML := Lib.hid hml
            have hbl := beV_lt m
            rw [hml] at hbl
            have HO := Lib.hid (fun w' => of_any K (18446744073709551615 - beV m) w' (by omega))
            have hcne : ¬ cap = j + 2 := by omega
            have hj8 : j + 10 - (j + 2) = 8 := by omega
            have hst := run_string (P := Tryd.prog) (cap := cp) Tryd.underlying25 Tryd.underlying5 Tryd.underlying9 rfl ho.bytes
            have HG := Lib.hid hg
            clear hk9 hm9 hmb hml hbl ho hg HUK hja
            go_wp2
            go_loop [7, 9, 67] (fun v _ i => ∃ q : Nat, q ≤ 8 ∧ i = .int .i64 (q : Int) ∧ v = .int .u64 (beV (m.take q) : Nat)) (fun _ _ i => 8 - (intOf i).toNat)
            case atStart => exact ⟨0, by omega, rfl, rfl⟩
            case round =>
              obtain ⟨q, hq, rfl, rfl⟩ := hrel
              by_cases hlt : q < 8
              · have hql : q < m.length := by rw [HML.out]; exact hlt
                obtain ⟨_, _, e0, hc9⟩ := (HMB.out.gr HG.out) q hql
                cases e0
                have hx := byte_hi m[q]
                have hbt := beV_lt (m.take q)
                have hb56 : beV (m.take q) < 72057594037927936 := by
                  have h1 : (m.take q).length ≤ 7 := by rw [List.length_take]; omega
                  have h2 : 256 ^ (m.take q).length ≤ 256 ^ 7 := Nat.pow_le_pow_right (by decide) h1
                  have h3 : (256 : Nat) ^ 7 = 72057594037927936 := by decide
                  omega
                have HT := Lib.hid (trail_bits (beV (m.take q)) m[q].toNat hb56 m[q].toNat_lt)
                have HS := Lib.hid (show trailF (beV (m.take q)) m[q].toNat = beV (m.take (q + 1)) by
                  rw [List.take_succ_eq_append_getElem hql, beV_snoc]; unfold trailF; omega)
                clear hbt
                go_wp2
                go_round
                case rel => exact ⟨q + 1, by omega, by go_num, by rw [HT.out, HS.out]⟩
                case measure => simp [intOf]; omega
              · obtain rfl : q = 8 := by omega
                have hbm : m.take 8 = m := List.take_of_length_le (by rw [HML.out]; exact Nat.le_refl _)
                rw [hbm]
                have hbl := beV_lt m
                rw [HML.out] at hbl
                have hnot := u64_not (beV m) (by have : (256 : Nat) ^ 8 = 18446744073709551616 := by decide
                                                 omega)
                generalize 18446744073709551615 - beV m = M at *
                rw [outV_eq] at HO
                clear hbm hbl
                have HO2 := Lib.hid (HO.out wr)
                clear HO
                go_wp2_with (go_at_call 22; (with_reducible refine HO2.out.mono ?_); rintro e w9 ⟨rfl, g9⟩
                             have G9 := HG.out.trans g9
                             rw [HW1.out] at G9
                             obtain ⟨r0, r1, r2, q0, q1, q2⟩ := (Blk.of1 G9).three)
                refine bodyPost_ret (v := outV (ofF K M)) (by rw [outV_eq]; simp [results, Tryd.results13, go_sem, r0, r1, r2]) rfl ⟨by rw [HD.out, outV_eq], ?_⟩
                exact (((Gr.alloc _ _).trans G9).setCell (Nat.le_refl _) _).setCell (Nat.le_refl _) _ |>.setCell (Nat.le_refl _) _
      · have HD := Lib.hid (show unsF l = none by rw [HU.out, if_neg (fun h => h1 h.2)])
        have hx1 : ((x1.toNat : Int) != 0) = true := by rw [bne_iff_ne]; exact fun e => h1 (UInt8.toNat_inj.1 (by exact_mod_cast e))
        subst h0
        clear HU h1
        go_enter Tryd.func13, Tryd.ntmps13
        go_wp2
        refine bodyPost_ret (v := outV none) (by simp [results, Tryd.results13, go_sem, outV, ver]; rfl) rfl ⟨by rw [HD.out], ?_⟩
        exact Gr.alloc _ _
    · have HD := Lib.hid (show unsF l = none by rw [HU.out, if_neg (fun h => h0 h.1)])
      have hx0 : ((x0.toNat : Int) != 0) = true := by rw [bne_iff_ne]; exact fun e => h0 (UInt8.toNat_inj.1 (by exact_mod_cast e))
      clear HU h0
      go_enter Tryd.func13, Tryd.ntmps13
      go_wp2
      refine bodyPost_ret (v := outV none) (by simp [results, Tryd.results13, go_sem, outV, ver]; rfl) rfl ⟨by rw [HD.out], ?_⟩
      exact Gr.alloc _ _
end Go.Proofs.YtnjnehegfdimaaaDoor
