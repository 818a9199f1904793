/- The statements through the layers: AssartLists answers true. -/
import Derived.Test.YtpaogoehgkoaeaaGreatDoorQTopListsS
import Derived.Test.YtpaogoehgkoaeaaGreatDoorQBunB4
namespace Go.Proofs.YtpaogoehgkoaeaaGreatDoor
set_option linter.unusedVariables false
set_option linter.unusedSimpArgs false
open Go.RowKit Tab Ikey Varint
/-- the contract of Build at any slice of cells -/
theorem tBuild_row (R : List Ci) (size bits : Int) (e : Nat) (b : List UInt8) (hb : buildT R size bits = (b, e)) (n : Nat) (hn : n = R.length) (hR : R.length ≤ 60) (ad : Option Addr) (cap : Nat) (w : World) (hc : n ≤ cap) (hr : Row w ad (cv R)) :
    Calls Tryz.prog 9 #[.slice ad n cap, .int .i64 size, .int .i64 bits] w fun x w' => ∃ ad' cap', x = .returned (.tuple #[.slice ad' b.length cap', .int .i64 (e : Int)]) ∧ Owns w' w.heap.size 5 1 ad' cap' b.length (bv b) ∧ Gr w w' := by
  subst hn
  have h := tBuild_any ad cap R size bits w (by omega) hc hr
  rw [hb] at h
  exact h
theorem Open_row {l : List Ci} {size bits : Int} (h : chkT l size bits = 0) (b : List UInt8) (hb : buildT l size bits = (b, 0)) (ad : Option Addr) (cap B : Nat) (w : World) (ho : Owns w B 5 1 ad cap b.length (bv b)) :
    Calls Tryz.prog 10 #[.slice ad b.length cap] w fun e w' => ∃ g, e = .returned (.tuple #[.pointer (some ⟨g, 0, none⟩), .int .i64 0]) ∧ TabAt w' g l (buildF (keysF l) bits).1 ∧ Gr w w' := by
  have e1 : (buildT l size bits).1 = b := by rw [hb]
  have h1 := Open_built h ad cap w (by rw [e1]; exact ho.2.1) ho.2.2.1 (by rw [e1]; exact ho.bytes)
  rw [e1] at h1
  exact h1
theorem build_pair {l : List Ci} {size bits : Int} (h : chkT l size bits = 0) : ∃ b, buildT l size bits = (b, 0) := ⟨(buildT l size bits).1, by have := (open_build h).2.1; rw [← this]⟩
theorem rCells_len (ad ad' : Option Addr) (n n' cap cap' : Nat) (A B : List Ci) (w : World) (hn : n = A.length) (hn' : n' = B.length) (ha : Row w ad (cv A)) (hb : Row w ad' (cv B)) (hl : A.length ≤ 500000000) (hl' : B.length ≤ 500000000) :
    Calls Tryz.prog 14 #[.slice ad n cap, .slice ad' n' cap'] w fun e w' => e = .returned (.bool (decide (A = B))) ∧ Gr w w' := by
  subst hn hn'
  exact rCells_any ad ad' cap cap' A B w ha hb hl hl'
theorem rCells_same (ad ad' : Option Addr) (n n' cap cap' : Nat) (A : List Ci) (w : World) (hn : n = A.length) (hn' : n' = A.length) (ha : Row w ad (cv A)) (hb : Row w ad' (cv A)) (hl : A.length ≤ 500000000) :
    Calls Tryz.prog 14 #[.slice ad n cap, .slice ad' n' cap'] w fun e w' => e = .returned (.bool true) ∧ Gr w w' :=
  (rCells_len ad ad' n n' cap cap' A A w hn hn' ha hb hl hl).mono fun e w' ⟨h1, h2⟩ => ⟨by rw [h1, decide_eq_true rfl], h2⟩
theorem okT_c {c : Ci} (h : okT c = true) : okC c = true ∧ c.key ≠ [] ∧ c.key.length ≤ 64 ∧ c.val.length ≤ 1000 := by
  unfold okT at h
  rw [Bool.and_eq_true, decide_eq_true_eq] at h
  obtain ⟨h1, h2⟩ := h
  have h3 := okV_of h1
  exact ⟨h1, h3.1, h3.2.1, h2⟩
theorem chkT_piece {l : List Ci} {size bits : Int} (h1 : 1 ≤ size) (h2 : size ≤ 4096) (h3 : 1 ≤ bits) (h4 : bits ≤ 64) (hl : l.length ≤ 5000) (hv : ∀ c ∈ l, c.val.length ≤ 1000) (hne : l ≠ []) (ho : ordF l = true) : chkT l size bits = 0 := by
  unfold chkT
  rw [if_neg (by omega), if_neg, if_pos ⟨hne, ho⟩]
  rintro (k | k)
  · omega
  · obtain ⟨c, hc, hb⟩ := List.any_eq_true.1 k
    have := hv c hc
    unfold bigC at hb
    rw [decide_eq_true_eq] at hb
    omega
/-- nothing comes ahead of a version without a key -/
theorem from_least {l : List Ci} (h : ∀ c ∈ l, c.key ≠ []) (n : Nat) (hn : l.length ≤ n) : (l.filter (fun c => !vless c.vr ⟨[], 0, 0⟩)).take n = l := by
  have e : l.filter (fun c => !vless c.vr ⟨[], 0, 0⟩) = l := by
    rw [List.filter_eq_self]
    intro c hc
    have hk := h c hc
    obtain ⟨k, s, d, v⟩ := c
    cases k with
    | nil => exact absurd rfl hk
    | cons x t => simp [vless, Ci.vr, lessF, Go.Op.bytesLess]
  rw [e, List.take_of_length_le hn]
theorem Gr.boxC {w w' : World} {c : Ci} {t : TypeId} (g : Gr (w.alloc (.cells #[.string (str c.key), .int .i64 c.seq, .int .i64 c.kind, .string (str c.val)] t)) w') :
    w'.cell? ⟨w.heap.size, 0, none⟩ = some (.string (str c.key)) ∧ w'.cell? ⟨w.heap.size, 1, none⟩ = some (.int .i64 c.seq) ∧ w'.cell? ⟨w.heap.size, 2, none⟩ = some (.int .i64 c.kind) ∧ w'.cell? ⟨w.heap.size, 3, none⟩ = some (.string (str c.val)) := by
  have h := heap_alloc_new w (.cells #[.string (str c.key), .int .i64 c.seq, .int .i64 c.kind, .string (str c.val)] t)
  refine ⟨g.cell ?_, g.cell ?_, g.cell ?_, g.cell ?_⟩ <;> (rw [cell_of_row _ _ _ _ _ _ h]; rfl)
theorem drop_asc {A : List Ci} (h : A.Pairwise AscI) {i : Nat} (hi : i < A.length) : ∀ x ∈ A.drop (i + 1), AscI A[i] x := by
  have hs : A.drop i = A[i] :: A.drop (i + 1) := List.drop_eq_getElem_cons hi
  have h2 := h.sublist (List.drop_sublist i A)
  rw [hs, List.pairwise_cons] at h2
  exact h2.1
theorem LsW.leq {w0 w : World} {g gl ge bl bp now m q q' : Nat} {K : List Era} {A : List Ci} (h : LsW w0 g gl ge bl bp now K A m q w) (hq : q ≤ q') : LsW w0 g gl ge bl bp now K A m q' w := by
  obtain ⟨S, p, L, N, h⟩ := h
  exact ⟨S, p, L, N, h.sl, h.ca, h.fz, h.ep, h.out, h.cnt, h.size, h.er, h.oth, fun i => Nat.le_trans (h.gen i) hq, h.rd⟩
set_option maxRecDepth 100000 in
set_option maxHeartbeats 8000000 in
theorem AssartLists_any (ad : Option Addr) (cap : Nat) (l : List Ci) (adh : Option Addr) (caph : Nat) (lh : List Int) (s : Int) (w : World) (hr : Row w ad (cv l)) (hl : l.length ≤ 9223372036854775807) (hvl : ∀ c ∈ l, c.val.length ≤ 9223372036854775807) (hrh : Row w adh (zv lh)) (hch : lh.length ≤ caph) (hmh : caph ≤ 9223372036854775807) :
    Calls Tryz.prog 4 #[.slice ad l.length cap, .slice adh lh.length caph, .int .i64 s] w fun e w' => e = .returned (.bool true) ∧ Gr w w' := by
  have HCa := Lib.hid (fun w' (k : Gr w w') => cells_any ad cap l w' (hr.gr k) hl hvl)
  have hsC := gather_sorted okT l (min l.length 50)
  have hlC := gather_len okT l (min l.length 50)
  have hmC := gather_mem okT l (min l.length 50) (by omega)
  have hlC : (gatherN okT l (min l.length 50)).length ≤ 50 := by omega
  generalize gatherN okT l (min l.length 50) = C at *
  have HSC := Lib.hid hsC
  have HT := Lib.hid (fun c hc => (hmC c hc).2)
  have HM := Lib.hid (fun c hc => okT_c (hmC c hc).2)
  have HOr := Lib.hid (asc_ord hsC (fun c hc => (HM.out c hc).1))
  have HRH := Lib.hid hrh
  clear hsC hmC hr hvl hrh
  go_enter Tryz.func4, Tryz.ntmps4
  go_wp2_with (first
    | (go_at_call 6; go_must (refine (awake_any _).mono ?_); rintro e w1 ⟨rfl, g1⟩)
    | (go_at_call 7; go_must (refine (HCa.out _ g1).mono ?_); rintro e V0 ⟨adC, cpC, rfl, oC, g2⟩
       have hcC := oC.2.1)
    | (go_at_call 15; go_must (refine (show Calls Tryz.prog 15 #[.int .i64 4096, .int .i64 200] V0 _ from New_pl (Gr.refl V0) 4096 200 (by decide) (by decide) (by decide) (by decide) (by decide) (by decide)).mono ?_); rintro e w4 ⟨g, S0, rfl, g4, _, P4, _⟩)
    | (go_at_call 16; go_must (refine (lists_skip g4 P4).mono ?_); rintro e w5 ⟨gl, rfl, h5⟩)
    | (go_at_call 17; go_must (refine (lists_epoch h5).mono ?_); rintro e w6 ⟨ge, rfl, bl, bp, E0, hE0, h6⟩; have HO := Lib.hid h6)
    | fail)
  have HRC := Lib.hid oC.row
  have GV := Lib.hid (g1.trans g2)
  have HRH2 := Lib.hid (HRH.out.gr GV.out)
  clear h5 h6 P4 g4 oC g1 g2 HCa HRH
  go_loopw [13] (fun vi wr => ∃ (j now : Nat) (k : Int) (E : Era), vi = .int .i64 k ∧ k = (j : Int) - 1 ∧ j ≤ C.length ∧ E.k = now ∧ now ≤ 1 + (C.length - j) ∧ E.m ≤ C.length - j ∧ E.c ≤ 64 * (C.length - j) ∧ LsW V0 g gl ge bl bp now [E] (C.drop j) (200 - 2 * (C.length - j)) (1 + (C.length - j)) wr) (fun vi _ => (intOf vi + 1).toNat)
  case atStart =>
    refine ⟨C.length, 1, (C.length : Int) - 1, E0, by go_num, rfl, Nat.le_refl _, hE0.1, by omega, by omega, by omega, ?_⟩
    rw [List.drop_length, Nat.sub_self]
    exact HO.out
  case round =>
    clear HO hE0
    obtain ⟨j, now, k, E, rfl, hk, hj, hEk, hnow, hEm, hEc, hO⟩ := hrel
    by_cases hlt : 0 < j
    · obtain ⟨i, rfl⟩ : ∃ i, j = i + 1 := ⟨j - 1, by omega⟩
      obtain rfl : k = (i : Int) := by omega
      have hi : i < C.length := hj
      obtain ⟨b, off, hade, e0, e1, e2, e3⟩ := HRC.out.ci i hi
      subst hade
      have HE := Lib.hid (And.intro e0 (And.intro e1 (And.intro e2 e3)))
      have e0 := hO.gr.cell e0
      have e1 := hO.gr.cell e1
      have e2 := hO.gr.cell e2
      have e3 := hO.gr.cell e3
      have hTi := HT.out _ (List.getElem_mem hi)
      have hMi := HM.out _ (List.getElem_mem hi)
      have hO' : LsW V0 g gl ge bl bp now [E] (C.drop (i + 1)) (200 - 2 * (C.length - i) + 1 + 1) (1 + (C.length - (i + 1))) wr := hO.le (by omega)
      have HI := Lib.hid (fun t h1 h2 => hO'.ins (drop_asc HSC.out hi) hTi (t := t) h1 h2 (by rw [List.length_drop]; omega))
      rw [← List.drop_eq_getElem_cons hi] at HI
      have HDr := Lib.hid hO.gr
      generalize C[i] = c at *
      clear hO hO' hTi
      have fin : ∀ W, (∃ (now' : Nat) (E' : Era), E'.k = now' ∧ now' ≤ 1 + (C.length - i) ∧ E'.m ≤ C.length - i ∧ E'.c ≤ 64 * (C.length - i) ∧ LsW V0 g gl ge bl bp now' [E'] (C.drop i) (200 - 2 * (C.length - i)) (1 + (C.length - (i + 1) + 1)) W) → ∃ (j now : Nat) (k : Int) (E : Era), Value.int .i64 ((i : Int) - 1) = .int .i64 k ∧ k = (j : Int) - 1 ∧ j ≤ C.length ∧ E.k = now ∧ now ≤ 1 + (C.length - j) ∧ E.m ≤ C.length - j ∧ E.c ≤ 64 * (C.length - j) ∧ LsW V0 g gl ge bl bp now [E] (C.drop j) (200 - 2 * (C.length - j)) (1 + (C.length - j)) W := by
        rintro W ⟨now', E', k1, k2, k3, k4, k5⟩
        refine ⟨i, now', (i : Int) - 1, E', rfl, rfl, by omega, k1, k2, k3, k4, ?_⟩
        rw [show 1 + (C.length - i) = 1 + (C.length - (i + 1) + 1) by omega]
        exact k5
      obtain ⟨t, ht1, ht2, htt⟩ : ∃ t : Int, 1 ≤ t ∧ t ≤ 12 ∧ ((∃ x a : Int, ∃ bh oh, i < lh.length ∧ adh = some ⟨bh, oh, none⟩ ∧ wr.cell? ⟨bh, oh + i, none⟩ = some (.int .i64 x) ∧ IntKind.i64.wrap ((IntKind.u64.wrap x).tmod 12) = a ∧ 1 + a = t) ∨ (lh.length ≤ i ∧ t = 1)) := by
        by_cases hh : i < lh.length
        · obtain ⟨bh, oh, e, z0⟩ := HRH2.out i (.int .i64 lh[i]) (by unfold zv; rw [List.getElem?_map, List.getElem?_eq_getElem hh]; rfl)
          obtain ⟨a, q1, q2⟩ := u64_mod lh[i] 12 (by decide) (by decide)
          exact ⟨1 + (a : Int), by omega, by omega, .inl ⟨lh[i], (a : Int), bh, oh, hh, e, HDr.out.cell z0, q1, rfl⟩⟩
        · exact ⟨1, by decide, by decide, .inr ⟨by omega, rfl⟩⟩
      have HI := Lib.hid (HI.out t ht1 ht2)
      obtain ⟨z, hz⟩ : ∃ z : Int, (i : Int).tmod 5 = z := ⟨_, rfl⟩
      have h11 : c.key.length ≤ maxLen := by unfold maxLen; omega
      have h12 : 1 ≤ c.key.length := by
        have := hMi.2.1
        cases hcc : c.key with
        | nil => exact absurd hcc this
        | cons => simp
      have HMi := Lib.hid hMi.2.2.1
      clear hMi
      have hf1 : 1 + (C.length - (i + 1)) ≤ 1000000 := by omega
      have hf2 : E.m ≤ 1000 := by omega
      have hf3 : E.c ≤ 1000000 := by omega
      have hf4 : now ≤ 1000000 := by omega
      have hw1 : (E.m + 1) ≤ C.length - i := by omega
      have hw2 : E.c + c.key.length ≤ 64 * (C.length - i) := by have := HMi.out; omega
      have hw3 : now ≤ 1 + (C.length - i) := by omega
      have hw4 : now + 1 ≤ 1 + (C.length - i) := by omega
      have hnow2 : now ≤ 1000 := by omega
      have hq2 : 1 + (C.length - (i + 1)) ≤ 1000 := by omega
      have HF := Lib.hid fin
      clear fin hnow hEm hEc hj hk
      have hb : ∃ z5 : Bool, (z == 0) = z5 := ⟨_, rfl⟩
      rcases htt with ⟨x, a, bh, oh, hh, rfl, z0, q1, q2⟩ | ⟨hh, rfl⟩
      all_goals
        by_cases hz0 : z = 0
        all_goals
          go_wp2_with (first
            | (go_at_call 18; go_must (refine HI.out.mono ?_); rintro e w7 ⟨rfl, h7⟩
               have hg7 := h7.gr
               obtain ⟨y0, y1, y2, y3⟩ := HE.out
               have y0 := hg7.cell y0
               obtain ⟨capr, w8, hrun, ob, gb, szb⟩ := bytes_str Tryz.underlying9 Tryz.underlying31 Tryz.underlying5 w7 c.key h11
               have hcr := ob.2.1
               have HH7 := Lib.hid h7
               clear h7)
            | (go_at_call 19; go_must (refine (HH7.out.retire hEk gb (some ⟨w7.heap.size, 0, none⟩) capr c.key c.key.length rfl ob.bytes (fun x hx => by cases hx; exact ⟨Nat.le_refl _, by rw [szb]; exact Nat.lt_succ_self _⟩) h12 HMi.out hf2 hf3 hf4 hf1).mono ?_)
               rintro e w9 ⟨⟨n0, n1, n2, n3, rfl⟩, h9⟩
               have HH9 := Lib.hid h9
               clear h9)
            | (go_at_call 20; go_must (refine ((HH9.out.more (Gr.alloc _ _)).adv hnow2 hq2).mono ?_); rintro e w10 ⟨rfl, F, hF, h10⟩; have HH10 := Lib.hid h10; clear h10)
            | (go_at_call 21; go_must (refine (HH10.out.coll hF.1 (by omega)).mono ?_); rintro e w11 ⟨rfl, h11'⟩)
            | fail)
          go_roundw
          case rel => first
            | exact HF.out _ ⟨now + 1, F, hF.1, hw4, by have := hF.2.1; omega, by have := hF.2.2; omega, h11'⟩
            | exact HF.out _ ⟨now, { E with m := E.m + 1, c := E.c + c.key.length }, hEk, hw3, hw1, hw2, (HH9.out.more (Gr.alloc _ _)).leq (Nat.le_succ _)⟩
          case measure => simp [intOf] <;> omega
    · obtain rfl : j = 0 := by omega
      obtain rfl : k = -1 := by omega
      rw [List.drop_zero] at hO
      have HO := Lib.hid hO
      have HG := Lib.hid hO.gr
      clear hO hEk hnow hEm hEc hk hj hlt
      generalize hnC : C.length = n at *
      by_cases hn : n = 0
      · have hn : (n : Int) = 0 := by omega
        have HCt := Lib.hid HO.out.count
        rw [hnC] at HCt
        go_wp2_with (first
          | (go_at_call 22; go_must (refine HCt.out.mono ?_); rintro e w' ⟨rfl, rfl⟩)
          | fail)
        go_ret
        exact ⟨rfl, GV.out.trans HG.out⟩
      · have hne : C ≠ [] := fun e => hn (by rw [← hnC, e]; rfl)
        have hkn : ∀ c ∈ C, c.key ≠ [] := fun c hc => (HM.out c hc).2.1
        have hc0 := chkT_piece (size := 200) (bits := 10) (by decide) (by decide) (by decide) (by decide) (by omega) (fun c hc => (HM.out c hc).2.2.2) hne HOr.out
        obtain ⟨b1, hb1⟩ := build_pair hc0
        have Bt := built_of hc0
        have hn1 : 0 < n := by omega
        have hnz : ¬ (n : Int) = 0 := by omega
        have HB := Lib.hid (tBuild_row C 200 10 0 b1 hb1 n hnC.symm (by omega) adC cpC wr hcC (HRC.out.gr HG.out))
        have HOp := Lib.hid (Open_row hc0 b1 hb1)
        have HCt := Lib.hid (fun w' g h => Count_any w' g C (buildF (keysF C) 10).1 h)
        have HF := Lib.hid (show ∀ w' g, TabAt w' g C (buildF (keysF C) 10).1 → Calls Tryz.prog 11 #[.pointer (some ⟨g, 0, none⟩), .agg #[.string ⟨#[]⟩, .int .i64 0, .int .i64 0], .int .i64 (n : Int)] w' (RetCs w' C) from fun w' g h => by
          have := Bt.from_ w' g h ⟨[], 0, 0⟩ (n : Int) (by omega)
          rw [from_least hkn _ (by omega)] at this
          exact this)
        have HCe := Lib.hid (fun w' ada ca (hr : Row w' ada (cv C)) (k : Gr wr w') => rCells_same ada adC n n ca cpC C w' hnC.symm hnC.symm hr ((HRC.out.gr HG.out).gr k) (by omega))
        have HGt := Lib.hid (fun w' g h key hk => Bt.get w' g h key hk s)
        rw [hnC] at HCt
        have HL := Lib.hid (fun w' (k : Gr wr w') => (HO.out.more k).count)
        rw [hnC] at HL
        clear Bt hc0 hb1 hne hkn hn
        generalize (buildF (keysF C) 10).1 = f at *
        go_wp2_with (first
          | (go_at_call 9; go_must (refine HB.out.mono ?_); rintro e w4 ⟨ad4, cp4, rfl, o4, g4⟩)
          | (go_at_call 10; go_must (refine (HOp.out ad4 cp4 _ w4 o4).mono ?_); rintro e w5 ⟨gx, rfl, t5, g5⟩; clear o4)
          | (go_at_call 11; go_must (refine (HF.out w5 gx t5).mono ?_); rintro e w6 ⟨ad6, cp6, rfl, o6, g6⟩
             rw [hnC] at o6 ⊢
             have hc6 := o6.2.1
             have HO6 := Lib.hid o6
             have HT6 := Lib.hid (t5.gr g6)
             have HG6 := Lib.hid ((g4.trans g5).trans g6)
             clear o6 t5 g4 g5 g6)
          | (go_at_call 14; go_must (refine (HCe.out _ ad6 cp6 HO6.out.row HG6.out).mono ?_); rintro e w7 ⟨rfl, g7⟩
             have HG7 := Lib.hid (HG6.out.trans g7)
             have HT7 := Lib.hid (HT6.out.gr g7)
             clear g7)
          | (go_at_call 22; go_must (refine (HL.out _ HG7.out).mono ?_); rintro e w' ⟨rfl, rfl⟩)
          | (go_at_call 12; go_must (refine (HCt.out _ gx HT7.out).mono ?_); rintro e w' ⟨rfl, rfl⟩)
          | (go_at_call 23; go_must (refine (HO.out.more HG7.out).cur.mono ?_); rintro e W5 ⟨rfl, h8, g8⟩)
          | fail)
        have HW8 := Lib.hid h8
        have HG8 := Lib.hid g8
        have hgk : w7.heap.size ≤ w7.heap.size := Nat.le_refl _
        have HB7 := Lib.hid (HG.out.trans HG7.out)
        clear h8 g8 HB HOp HF HCe HL HCt
        generalize hgkk : w7.heap.size = gk at *
        go_loopw [21] (fun vi wr => ∃ j : Nat, vi = .int .i64 (j : Int) ∧ j ≤ n ∧ WayL V0 g gl gk C j wr ∧ Gr w7 wr) (fun vi _ => n - (intOf vi).toNat)
        case atStart => exact ⟨0, rfl, Nat.zero_le _, HW8.out, HG8.out⟩
        case round =>
          clear HW8 HG8
          obtain ⟨j, rfl, hj, hW, hG⟩ := hrel
          by_cases hjl : j < n
          · have hjC : j < C.length := by omega
            obtain ⟨b, off, hade, e0, e1, e2, e3⟩ := HRC.out.ci j hjC
            subst hade
            have HE := Lib.hid (And.intro e0 (And.intro e1 (And.intro e2 e3)))
            have HN := Lib.hid (hW.next hjC)
            have HC := Lib.hid (fun w' (h : WayL V0 g gl gk C (j + 1) w') => h.cell hjC)
            have HGl := Lib.hid (fun w' (h : WayL V0 g gl gk C (j + 1) w') => h.get HT.out HSC.out C[j].key s)
            have hkl : C[j].key.length ≤ 9223372036854775807 := by have := (HM.out _ (List.getElem_mem hjC)).2.2.1; omega
            have HGt := Lib.hid (fun w' g h => HGt.out w' g h C[j].key hkl)
            have HG := Lib.hid hG
            generalize C[j] = c at *
            obtain ⟨⟨cx, ex⟩, hrg⟩ : ∃ r, rgetF C c.key s = r := ⟨_, rfl⟩
            rw [hrg] at HGl HGt
            unfold cellOf at HGl HGt
            simp only at HGl HGt
            clear hW hG e0 e1 e2 e3 hkl hrg
            go_wp2_with (first
              | (go_at_call 24; go_must (refine HN.out.mono ?_); rintro e w8 ⟨rfl, hW, hX⟩
                 have HG8 := Lib.hid (hX.gr HG.out (fun i e => by rw [e, hgkk]; exact Nat.le_refl _))
                 have HW8 := Lib.hid hW
                 clear hW hX)
              | (go_at_call 25; go_must (refine (HC.out _ HW8.out).mono ?_); rintro e w9 ⟨rfl, g9⟩
                 have gB := Gr.alloc w9 (.cells #[.string (str c.key), .int .i64 c.seq, .int .i64 c.kind, .string (str c.val)] 56)
                 have HG9 := Lib.hid ((HG8.out.trans g9).trans gB)
                 have HW9 := Lib.hid (HW8.out.more (g9.trans gB))
                 obtain ⟨y0, y1, y2, y3⟩ := HE.out
                 have y0 := HW9.out.gr.cell y0
                 clear g9 gB y1 y2 y3)
              | (go_at_call 26; go_must (refine (HGl.out _ HW9.out).mono ?_); rintro e w10 ⟨rfl, g10⟩
                 have gB := Gr.alloc w10 (.cells #[.string (str cx.key), .int .i64 cx.seq, .int .i64 cx.kind, .string (str cx.val)] 56)
                 have HX10 := Lib.hid (g10.trans gB)
                 have HG10 := Lib.hid (HG9.out.trans HX10.out)
                 have HW10 := Lib.hid (HW9.out.more HX10.out)
                 have y0 := HX10.out.cell y0
                 clear g10 gB)
              | (go_at_call 27; go_must (refine (HGt.out _ gx (HT7.out.gr HG10.out)).mono ?_); rintro e w11 ⟨rfl, g11⟩
                 have gB := Gr.alloc w11 (.cells #[.string (str cx.key), .int .i64 cx.seq, .int .i64 cx.kind, .string (str cx.val)] 56)
                 have HX11 := Lib.hid (g11.trans gB)
                 have HG11 := Lib.hid (HG10.out.trans HX11.out)
                 have HW11 := Lib.hid (HW10.out.more HX11.out)
                 obtain ⟨f0, f1, f2, f3⟩ := Gr.boxC (HX10.out.trans HX11.out)
                 obtain ⟨p0, p1, p2, p3⟩ := Gr.boxC HX11.out
                 obtain ⟨q0, q1, q2, q3⟩ := Gr.boxC (Gr.refl (w11.alloc (.cells #[.string (str cx.key), .int .i64 cx.seq, .int .i64 cx.kind, .string (str cx.val)] 56)))
                 obtain ⟨e0, e1, e2, e3⟩ := HE.out
                 have e0 := HW11.out.gr.cell e0
                 have e1 := HW11.out.gr.cell e1
                 have e2 := HW11.out.gr.cell e2
                 have e3 := HW11.out.gr.cell e3
                 clear y0 g11 gB)
              | fail)
            generalize w9.heap.size = bx at *
            generalize w10.heap.size = by_ at *
            go_quiet (fail)
            clear e0 e1 e2 e3 f0 f1 f2 f3 p0 p1 p2 p3 q0 q1 q2 q3
            go_wp2
            go_roundw
            case rel => exact ⟨j + 1, by go_num, hjl, HW11.out.more (Gr.drewN _ _), HG11.out.trans (Gr.drewN _ _)⟩
            case measure => simp [intOf] <;> omega
          · obtain rfl : j = n := by omega
            have HN := Lib.hid (hW.last hnC.symm hn1)
            have HG := Lib.hid hW.gr
            have HZ := Lib.hid (show V0.heap.size ≤ gk by rw [← hgkk]; exact HB7.out.size)
            clear hW hG hjl hj
            go_wp2_with (first
              | (go_at_call 24; go_must (refine HN.out.mono ?_); rintro e w8 ⟨rfl, hX⟩)
              | fail)
            go_ret
            exact ⟨rfl, GV.out.trans (hX.gr HG.out (fun i e => by rw [e]; exact HZ.out))⟩
end Go.Proofs.YtpaogoehgkoaeaaGreatDoor
