/- Layer 5 (ikey): IkeyBack answers true. -/
import Derived.Test.YtnjnehegfdimaaaDoorIkeyOrders
import Derived.Deep.DeepCutAuto
namespace Go.Proofs.YtnjnehegfdimaaaDoor
set_option linter.unusedVariables false
set_option linter.unusedSimpArgs false
open Go.RowKit Ikey Varint
open Go.Op (bytesLess)
theorem Unsort_all (ad : Option Addr) (cap : Nat) (l : List UInt8) (w : World) (hlc : l.length ≤ cap) (hm : l.length ≤ 140737488351232) (hb : Bytes w ad l) :
    Calls Tryd.prog 13 #[.slice ad l.length cap] w fun e w' => e = .returned (outV (unsF l)) ∧ Gr w w' := by
  cases ad with
  | some a =>
    obtain ⟨b, off, sp⟩ := a
    cases l with
    | nil =>
      have HD := Lib.hid (show unsF [] = none from rfl)
      clear hb
      go_enter Tryd.func13, Tryd.ntmps13
      go_wp2
      refine bodyPost_ret (v := outV none) (by simp [results, Tryd.results13, go_sem, outV, ver]; rfl) rfl ⟨by rw [HD.out], ?_⟩
      exact Gr.alloc _ _
    | cons x r =>
      obtain ⟨_, _, e0, _⟩ := hb 0 (by simp)
      cases e0
      exact Unsort_any b off cap (x :: r) w hlc hm hb
  | none =>
    have hl : l = [] := by
      cases l with
      | nil => rfl
      | cons x r => obtain ⟨_, _, e0, _⟩ := hb 0 (by simp); cases e0
    subst hl
    have HD := Lib.hid (show unsF [] = none from rfl)
    clear hb
    go_enter Tryd.func13, Tryd.ntmps13
    go_wp2
    refine bodyPost_ret (v := outV none) (by simp [results, Tryd.results13, go_sem, outV, ver]; rfl) rfl ⟨by rw [HD.out], ?_⟩
    exact Gr.alloc _ _
/-- Encode's bytes, and the error of both -/
def encG (k : List UInt8) (s d : Int) : List UInt8 := if okV k s d = true then encF k s.toNat d.toNat else []
def errG (k : List UInt8) (s d : Int) : Int := if okV k s d = true then 0 else 1
theorem Encode_gen (k : List UInt8) (s d : Int) (w : World) : Calls Tryd.prog 14 #[ver k s d] w (RetBI 5 w (encG k s d) (errG k s d)) := by
  unfold encG errG
  cases h : okV k s d with
  | false => exact Encode_no k s d w h
  | true =>
    obtain ⟨e1, e2⟩ := nat_of h
    have := Encode_yes k s.toNat d.toNat w (by rw [e1, e2]; exact h)
    rw [e1, e2] at this
    exact this
theorem sortG_err (k : List UInt8) (s d : Int) : (sortG k s d).2 = errG k s d := by unfold sortG errG; split <;> rfl
theorem dec_enc {k : List UInt8} {s d : Int} (h : okV k s d = true) : decF (encG k s d) = some (k, s.toNat, d.toNat) := by
  obtain ⟨e1, e2⟩ := nat_of h
  unfold encG
  rw [if_pos h]
  exact decF_iff.2 ⟨by rw [e1, e2]; exact h, rfl⟩
theorem uns_sort {k : List UInt8} {s d : Int} (h : okV k s d = true) : unsF (sortG k s d).1 = some (k, s.toNat, d.toNat) := by
  obtain ⟨e1, e2⟩ := nat_of h
  rw [sortG_yes h]
  exact unsF_iff.2 ⟨by rw [e1, e2]; exact h, rfl⟩
theorem encG_len (k : List UInt8) (s d : Int) : (encG k s d).length ≤ 1000 := by
  unfold encG
  split
  · rename_i h
    obtain ⟨_, h2, _⟩ := okV_of h
    rw [enc_len]; omega
  · exact Nat.zero_le _
theorem sortG_len (k : List UInt8) (s d : Int) : (sortG k s d).1.length ≤ 1000 := by
  unfold sortG
  split
  · rename_i h
    obtain ⟨_, h2, _⟩ := okV_of h
    have := escF_len k
    rw [sortF_len]; omega
  · exact Nat.zero_le _
set_option maxRecDepth 100000 in
set_option maxHeartbeats 4000000 in
theorem IkeyBack_any (k : List UInt8) (s d : Int) (ad : Option Addr) (cap : Nat) (l : List UInt8) (w : World) (hlc : l.length ≤ cap) (hm : l.length ≤ 140737488351232) (hb : Bytes w ad l) :
    Calls Tryd.prog 6 #[ver k s d, .slice ad l.length cap] w fun e w' => e = .returned (.bool true) ∧ Gr w w' := by
  have HB := Lib.hid hb
  clear hb
  unfold ver
  have hmm : l.length ≤ maxLen := by unfold maxLen; omega
  have HE := Lib.hid (fun w => Encode_gen k s d w)
  have HS := Lib.hid (fun w => Sortable_any k s d w)
  rw [sortG_err] at HS
  have hx := encG_len k s d
  have hy := sortG_len k s d
  unfold ver at HE HS
  obtain ⟨X, hX⟩ : ∃ X, X = encG k s d := ⟨_, rfl⟩
  obtain ⟨Y, hY⟩ : ∃ Y, Y = (sortG k s d).1 := ⟨_, rfl⟩
  obtain ⟨e, he⟩ : ∃ e, e = errG k s d := ⟨_, rfl⟩
  rw [← hX] at HE hx
  rw [← hY] at HS hy
  rw [← he] at HE HS
  have HX := Lib.hid hX; have HY := Lib.hid hY; have HEr := Lib.hid he
  have heb : (e != e) = false := by simp
  clear hX hY he
  go_enter Tryd.func6, Tryd.ntmps6
  go_upto_if 37 with (first
    | (go_at_call 7; (with_reducible refine (keyed_any _).mono ?_); rintro e w1 ⟨rfl, g1⟩; obtain ⟨a0, a1, a2, _⟩ := (Blk.of1 g1).three)
    | (go_at_call 14; (with_reducible refine (HE.out _).mono ?_); rintro e' w2 ⟨ad2, c2, rfl, o2, g2⟩; obtain ⟨b0, b1, b2, _⟩ := (Blk.of1 (g1.trans g2)).three)
    | (go_at_call 8; (with_reducible refine (HS.out _).mono ?_); rintro e' w3 ⟨ad3, c3, rfl, o3, g3⟩
       have G3 := (g1.trans g2).trans g3
       obtain ⟨d0, d1, d2, _⟩ := (Blk.of1 G3).three)
    | fail)
  have HO2 := Lib.hid (o2.gr g3); have HO3 := Lib.hid o3; have HG3 := Lib.hid G3
  clear o2 o3 G3 g1 g2 g3 a0 a1 a2 b0 b1 b2
  go_cut [4] (fun s4 wx => Gr w wx)
  case first =>
    cases ho : okV k s d with
    | false =>
      have he1 : e = 1 := by rw [HEr.out]; unfold errG; rw [if_neg (by rw [ho]; decide)]
      subst he1
      clear ho
      go_wp2
      go_meet
      exact (Gr.alloc _ _).trans HG3.out
    | true =>
      obtain ⟨n1, n2⟩ := nat_of ho
      have he1 : e = 0 := by rw [HEr.out]; unfold errG; rw [if_pos ho]
      subst he1
      have HD := Lib.hid (fun w' h => Decode_any ad2 c2 X w' HO2.out.2.1 (by unfold maxLen; omega) h)
      have HU := Lib.hid (fun w' h => Unsort_all ad3 c3 Y w' HO3.out.2.1 (by omega) h)
      rw [show decF X = some (k, s.toNat, d.toNat) by rw [HX.out]; exact dec_enc ho, outV_eq] at HD
      rw [show unsF Y = some (k, s.toNat, d.toNat) by rw [HY.out]; exact uns_sort ho, outV_eq] at HU
      simp only [verO, errO, n1, n2] at HD HU
      clear ho n1 n2
      go_wp2_with (first
        | (go_at_call 15; go_must (refine (HD.out _ HO2.out.bytes).mono ?_); rintro e' w4 ⟨rfl, g4⟩
           have q4 := Blk.new w4 23 #[.string (str k), .int .i64 s, .int .i64 d])
        | (go_at_call 13; go_must (refine (HU.out _ (HO3.out.gr (g4.trans (Gr.alloc _ _))).bytes).mono ?_); rintro e' w5 ⟨rfl, g5⟩
           have q5 := Blk.new w5 23 #[.string (str k), .int .i64 s, .int .i64 d]
           have GA := (g4.trans (Gr.alloc w4 (.cells #[.string (str k), .int .i64 s, .int .i64 d] 23))).trans (g5.trans (Gr.alloc w5 (.cells #[.string (str k), .int .i64 s, .int .i64 d] 23)))
           obtain ⟨x0, x1, x2, _⟩ := (q4.gr (g5.trans (Gr.alloc w5 (.cells #[.string (str k), .int .i64 s, .int .i64 d] 23)))).three
           obtain ⟨y0, y1, y2, _⟩ := q5.three
           obtain ⟨z0, z1, z2, _⟩ := (Blk.of1 (HG3.out.trans GA)).three)
        | fail)
      go_meet
      exact ((Gr.alloc _ _).trans HG3.out).trans GA
  case rest =>
    clear HO2 HO3 HG3 HX HY HEr HE HS heb d0 d1 d2 hx hy
    have HW := Lib.hid hcut
    clear hcut
    have HD := Lib.hid (fun w' h => Decode_any ad cap l w' hlc hmm h)
    have HU := Lib.hid (fun w' h => Unsort_all ad cap l w' hlc hm h)
    cases hd : decF l with
    | none =>
      rw [hd, outV_eq] at HD
      simp only [verO, errO] at HD
      clear hd
      cases hu : unsF l with
      | none =>
        rw [hu, outV_eq] at HU
        simp only [verO, errO] at HU
        clear hu
        go_wp2_with (first
          | (go_at_call 15; go_must (refine (HD.out _ (HB.out.gr HW.out)).mono ?_); rintro e' w4 ⟨rfl, g4⟩
             have G5 := (HW.out.trans g4).trans (Gr.alloc w4 (.cells #[.string (str []), .int .i64 0, .int .i64 0] 23)))
          | (go_at_call 13; go_must (refine (HU.out _ (HB.out.gr G5)).mono ?_); rintro e' w6 ⟨rfl, g6⟩
             have G7 := (G5.trans g6).trans (Gr.alloc w6 (.cells #[.string (str []), .int .i64 0, .int .i64 0] 23)))
          | fail)
        go_ret
        exact ⟨rfl, G7⟩
      | some v3 =>
        obtain ⟨k3, s3, d3⟩ := v3
        obtain ⟨u1, u2⟩ := unsF_iff.1 hu
        have HS2 := Lib.hid (fun w' => Sortable_yes k3 s3 d3 w' u1)
        rw [← u2] at HS2
        rw [hu, outV_eq] at HU
        simp only [verO, errO] at HU
        unfold ver at HS2
        clear hu u1 u2
        go_wp2_with (first
          | (go_at_call 15; go_must (refine (HD.out _ (HB.out.gr HW.out)).mono ?_); rintro e' w4 ⟨rfl, g4⟩
             have G5 := (HW.out.trans g4).trans (Gr.alloc w4 (.cells #[.string (str []), .int .i64 0, .int .i64 0] 23)))
          | (go_at_call 13; go_must (refine (HU.out _ (HB.out.gr G5)).mono ?_); rintro e' w6 ⟨rfl, g6⟩
             have q6 := Blk.new w6 23 #[.string (str k3), .int .i64 s3, .int .i64 d3]
             have G6 := (G5.trans g6).trans (Gr.alloc w6 (.cells #[.string (str k3), .int .i64 s3, .int .i64 d3] 23))
             obtain ⟨y0, y1, y2, _⟩ := q6.three)
          | (go_at_call 8; go_must (refine (HS2.out _).mono ?_); rintro e' w7 ⟨ad7, c7, rfl, o7, g7⟩
             have G7 := G6.trans g7
             have rs3 := run_string (P := Tryd.prog) (w := w7) (cap := c7) Tryd.underlying25 Tryd.underlying5 Tryd.underlying9 rfl o7.bytes
             have rs4 := run_string (P := Tryd.prog) (w := w7) (cap := cap) Tryd.underlying25 Tryd.underlying5 Tryd.underlying9 rfl (HB.out.gr G7)
             clear y0 y1 y2)
          | fail)
        go_ret
        exact ⟨rfl, G7⟩
    | some v2 =>
      obtain ⟨k2, s2, d2⟩ := v2
      obtain ⟨u1, u2⟩ := decF_iff.1 hd
      have HE2 := Lib.hid (fun w' => Encode_yes k2 s2 d2 w' u1)
      rw [← u2] at HE2
      rw [hd, outV_eq] at HD
      simp only [verO, errO] at HD
      unfold ver at HE2
      clear hd u1 u2
      cases hu : unsF l with
      | none =>
        rw [hu, outV_eq] at HU
        simp only [verO, errO] at HU
        clear hu
        go_wp2_with (first
          | (go_at_call 15; go_must (refine (HD.out _ (HB.out.gr HW.out)).mono ?_); rintro e' w4 ⟨rfl, g4⟩
             have q4 := Blk.new w4 23 #[.string (str k2), .int .i64 s2, .int .i64 d2]
             have G4 := (HW.out.trans g4).trans (Gr.alloc w4 (.cells #[.string (str k2), .int .i64 s2, .int .i64 d2] 23))
             obtain ⟨x0, x1, x2, _⟩ := q4.three)
          | (go_at_call 14; go_must (refine (HE2.out _).mono ?_); rintro e' w5 ⟨ad5, c5, rfl, o5, g5⟩
             have G5 := G4.trans g5
             have rs1 := run_string (P := Tryd.prog) (w := w5) (cap := c5) Tryd.underlying25 Tryd.underlying5 Tryd.underlying9 rfl o5.bytes
             have rs2 := run_string (P := Tryd.prog) (w := w5) (cap := cap) Tryd.underlying25 Tryd.underlying5 Tryd.underlying9 rfl (HB.out.gr G5)
             clear x0 x1 x2)
          | (go_at_call 13; go_must (refine (HU.out _ (HB.out.gr G5)).mono ?_); rintro e' w6 ⟨rfl, g6⟩
             have G7 := (G5.trans g6).trans (Gr.alloc w6 (.cells #[.string (str []), .int .i64 0, .int .i64 0] 23)))
          | fail)
        go_ret
        exact ⟨rfl, G7⟩
      | some v3 =>
        obtain ⟨k3, s3, d3⟩ := v3
        obtain ⟨u1, u2⟩ := unsF_iff.1 hu
        have HS2 := Lib.hid (fun w' => Sortable_yes k3 s3 d3 w' u1)
        rw [← u2] at HS2
        rw [hu, outV_eq] at HU
        simp only [verO, errO] at HU
        unfold ver at HS2
        clear hu u1 u2
        go_wp2_with (first
          | (go_at_call 15; go_must (refine (HD.out _ (HB.out.gr HW.out)).mono ?_); rintro e' w4 ⟨rfl, g4⟩
             have q4 := Blk.new w4 23 #[.string (str k2), .int .i64 s2, .int .i64 d2]
             have G4 := (HW.out.trans g4).trans (Gr.alloc w4 (.cells #[.string (str k2), .int .i64 s2, .int .i64 d2] 23))
             obtain ⟨x0, x1, x2, _⟩ := q4.three)
          | (go_at_call 14; go_must (refine (HE2.out _).mono ?_); rintro e' w5 ⟨ad5, c5, rfl, o5, g5⟩
             have G5 := G4.trans g5
             have rs1 := run_string (P := Tryd.prog) (w := w5) (cap := c5) Tryd.underlying25 Tryd.underlying5 Tryd.underlying9 rfl o5.bytes
             have rs2 := run_string (P := Tryd.prog) (w := w5) (cap := cap) Tryd.underlying25 Tryd.underlying5 Tryd.underlying9 rfl (HB.out.gr G5)
             clear x0 x1 x2)
          | (go_at_call 13; go_must (refine (HU.out _ (HB.out.gr G5)).mono ?_); rintro e' w6 ⟨rfl, g6⟩
             have q6 := Blk.new w6 23 #[.string (str k3), .int .i64 s3, .int .i64 d3]
             have G6 := (G5.trans g6).trans (Gr.alloc w6 (.cells #[.string (str k3), .int .i64 s3, .int .i64 d3] 23))
             obtain ⟨y0, y1, y2, _⟩ := q6.three)
          | (go_at_call 8; go_must (refine (HS2.out _).mono ?_); rintro e' w7 ⟨ad7, c7, rfl, o7, g7⟩
             have G7 := G6.trans g7
             have rs3 := run_string (P := Tryd.prog) (w := w7) (cap := c7) Tryd.underlying25 Tryd.underlying5 Tryd.underlying9 rfl o7.bytes
             have rs4 := run_string (P := Tryd.prog) (w := w7) (cap := cap) Tryd.underlying25 Tryd.underlying5 Tryd.underlying9 rfl (HB.out.gr G7)
             clear y0 y1 y2)
          | fail)
        go_ret
        exact ⟨rfl, G7⟩
theorem IkeyBack_len (k : List UInt8) (s d : Int) (ad : Option Addr) (len cap : Nat) (l : List UInt8) (w : World) (hl : l.length = len) (hlc : len ≤ cap) (hm : len ≤ 140737488351232) (hb : Bytes w ad l) :
    Calls Tryd.prog 6 #[ver k s d, .slice ad len cap] w fun e w' => e = .returned (.bool true) ∧ Gr w w' := by
  subst hl
  exact IkeyBack_any k s d ad cap l w hlc hm hb
end Go.Proofs.YtnjnehegfdimaaaDoor
