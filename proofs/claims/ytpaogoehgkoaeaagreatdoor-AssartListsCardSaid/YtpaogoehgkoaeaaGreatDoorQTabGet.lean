/- Layer 14 (table): Get walked. -/
import Derived.Test.YtpaogoehgkoaeaaGreatDoorQTabRank
namespace Go.Proofs.YtpaogoehgkoaeaaGreatDoor
set_option linter.unusedVariables false
set_option linter.unusedSimpArgs false
open Go.RowKit Tab
/-- the newest of a key up to a number, and the word with it -/
def getF (C : List Ci) (f key : List UInt8) (seq : Int) : Ci × Int :=
  if mayF f (Bloom.hashF key) = false then (zeroC, 7) else
    match C[rankI ⟨key, seq, 1⟩ C]? with
    | none => (zeroC, 7)
    | some c => if c.key = key then (c, 0) else (zeroC, 7)
def cellOf (c : Ci) : Value := .agg #[.string (str c.key), .int .i64 c.seq, .int .i64 c.kind, .string (str c.val)]
theorem got {w w2 : World} {gb : Nat} {L : List Value} (hgb : w.heap.size ≤ gb) (hb : Blk w2 gb 56 L) (hL : L.length = 4) (c : Ci) (g2 : Gr w w2) :
    Blk ((((w2.setCell ⟨gb, 0, none⟩ (.string (str c.key))).setCell ⟨gb, 1, none⟩ (.int .i64 c.seq)).setCell ⟨gb, 2, none⟩ (.int .i64 c.kind)).setCell ⟨gb, 3, none⟩ (.string (str c.val))) gb 56 (c4 c) ∧
    Gr w ((((w2.setCell ⟨gb, 0, none⟩ (.string (str c.key))).setCell ⟨gb, 1, none⟩ (.int .i64 c.seq)).setCell ⟨gb, 2, none⟩ (.int .i64 c.kind)).setCell ⟨gb, 3, none⟩ (.string (str c.val))) := by
  refine ⟨?_, ?_⟩
  · have := (((hb.set_ 0 (.string (str c.key))).set_ 1 (.int .i64 c.seq)).set_ 2 (.int .i64 c.kind)).set_ 3 (.string (str c.val))
    match L, hL with
    | [a0, a1, a2, a3], _ => exact this
  · have k := grown_trans (grown_trans (grown_trans (grown_set w2 gb 0 (.string (str c.key))) (grown_set _ gb 1 (.int .i64 c.seq))) (grown_set _ gb 2 (.int .i64 c.kind))) (grown_set _ gb 3 (.string (str c.val)))
    exact g2.of_far k (by omega)
set_option maxRecDepth 100000 in
set_option maxHeartbeats 1000000 in
theorem tGet_any (w : World) (g : Nat) (C : List Ci) (f key : List UInt8) (seq : Int) (h : TabAt w g C f) (hl : C.length ≤ 500000000) (hf : f.length ≤ 500000000) (hk : key.length ≤ 9223372036854775807) (hm : MonoV ⟨key, seq, 1⟩ C) :
    Calls Tryz.prog 27 #[.pointer (some ⟨g, 0, none⟩), .string (str key), .int .i64 seq] w fun e w' => e = .returned (.tuple #[cellOf (getF C f key seq).1, .int .i64 (getF C f key seq).2]) ∧ Gr w w' := by
  have HMy := Lib.hid (fun w' h' => tMay_any w' g C f key h' hf hk)
  have HRk := Lib.hid (fun w' h' => rank_any w' g C f ⟨key, seq, 1⟩ h' hl hm)
  have HT := Lib.hid h
  have HB := Lib.hid (Blk.new w 56 #[.string ⟨#[]⟩, .int .i64 0, .int .i64 0, .string ⟨#[]⟩])
  have HFIN := Lib.hid (fun (w2 : World) hb (g2 : Gr w w2) c => got (w := w) (w2 := w2) (gb := w.heap.size) (L := [.string ⟨#[]⟩, .int .i64 0, .int .i64 0, .string ⟨#[]⟩]) (Nat.le_refl _) hb rfl c g2)
  obtain ⟨q, hq⟩ : ∃ q, q = getF C f key seq := ⟨_, rfl⟩
  rw [← hq]
  have HQ := Lib.hid hq
  clear h hq hm
  unfold ver at HRk
  cases hy : mayF f (Bloom.hashF key) with
  | false =>
    rw [hy] at HMy
    have HX := Lib.hid (show q = (zeroC, 7) by rw [HQ.out]; unfold getF; rw [if_pos hy])
    clear hy HQ
    go_enter Tryz.func27, Tryz.ntmps27
    go_wp2_with (go_at_call 78; go_must (refine (HMy.out _ (HT.out.gr (Gr.alloc _ _))).mono ?_); rintro e w2 ⟨rfl, g2⟩
                 have hb := HB.out.gr g2
                 obtain ⟨f0, f1, f2, f3⟩ : _ ∧ _ ∧ _ ∧ _ := ⟨hb.frozen 0, hb.frozen 1, hb.frozen 2, hb.frozen 3⟩
                 obtain ⟨z0, z1, z2, z3⟩ : _ ∧ _ ∧ _ ∧ _ := ⟨hb.cell (i := 0) rfl, hb.cell (i := 1) rfl, hb.cell (i := 2) rfl, hb.cell (i := 3) rfl⟩
                 have HQ := Lib.hid (HFIN.out _ hb ((Gr.alloc _ _).trans g2))
                 clear hb)
    obtain ⟨hq, hgr⟩ := HQ.out zeroC
    have q0 := hq.cell (i := 0) rfl
    have q1 := hq.cell (i := 1) rfl
    have q2 := hq.cell (i := 2) rfl
    have q3 := hq.cell (i := 3) rfl
    rw [HX.out]
    unfold zeroC str at q0 q1 q2 q3
    refine bodyPost_ret (v := .tuple #[.agg #[.string ⟨#[]⟩, .int .i64 0, .int .i64 0, .string ⟨#[]⟩], .int .i64 7]) (by simp [results, Tryz.results27, go_sem, q0, q1, q2, q3]) rfl ?_
    exact ⟨rfl, hgr⟩
  | true =>
    rw [hy] at HMy
    have hX : q = match C[rankI ⟨key, seq, 1⟩ C]? with
      | none => (zeroC, 7)
      | some c => if c.key = key then (c, 0) else (zeroC, 7) := by rw [HQ.out]; unfold getF; rw [if_neg (by rw [hy]; decide)]
    have hri := rankI_le ⟨key, seq, 1⟩ C
    clear hy HQ
    generalize rankI ⟨key, seq, 1⟩ C = i at *
    by_cases hi : i < C.length
    · rw [List.getElem?_eq_getElem hi] at hX
      obtain ⟨c, hce⟩ : ∃ c, C[i] = c := ⟨_, rfl⟩
      have HCE := Lib.hid hce
      rw [hce] at hX
      simp only at hX
      clear hce
      have hne : ((i : Int) == (C.length : Int)) = false := by rw [beq_eq_false_iff_ne]; omega
      by_cases hk2 : c.key = key
      · rw [if_pos hk2] at hX
        have HX := Lib.hid hX
        have HK := Lib.hid hk2
        have hkb : (c.key == key) = true := by rw [hk2]; exact beq_self_eq_true _
        clear hX hk2
        go_enter Tryz.func27, Tryz.ntmps27
        go_wp2_with (first
          | (go_at_call 78; go_must (refine (HMy.out _ (HT.out.gr (Gr.alloc _ _))).mono ?_); rintro e w2 ⟨rfl, g2⟩; have HG2 := Lib.hid ((Gr.alloc _ _).trans g2))
          | (go_at_call 53; go_must (refine (HRk.out _ (HT.out.gr HG2.out)).mono ?_); rintro e w3 ⟨rfl, g3⟩
             have hb := ((HB.out.gr g2).gr g3)
             obtain ⟨f0, f1, f2, f3⟩ : _ ∧ _ ∧ _ ∧ _ := ⟨hb.frozen 0, hb.frozen 1, hb.frozen 2, hb.frozen 3⟩
             obtain ⟨z0, z1, z2, z3⟩ : _ ∧ _ ∧ _ ∧ _ := ⟨hb.cell (i := 0) rfl, hb.cell (i := 1) rfl, hb.cell (i := 2) rfl, hb.cell (i := 3) rfl⟩
             have HQ := Lib.hid (HFIN.out _ hb (HG2.out.trans g3))
             clear hb
             obtain ⟨adc, cc, adf, cf, ht, ht1, ht2, ht3, _⟩ := HT.out.gr (HG2.out.trans g3)
             have t0 := ht.cell (i := 0) rfl
             clear ht
             obtain ⟨bt, ot, rfl, y0, y1, y2, y3⟩ := ht3.ci i hi
             clear ht3
             rw [HCE.out] at y0 y1 y2 y3))
        obtain ⟨hq, hgr⟩ := HQ.out c
        have q0 := hq.cell (i := 0) rfl
        have q1 := hq.cell (i := 1) rfl
        have q2 := hq.cell (i := 2) rfl
        have q3 := hq.cell (i := 3) rfl
        rw [HX.out]
        refine bodyPost_ret (v := .tuple #[.agg #[.string (str c.key), .int .i64 c.seq, .int .i64 c.kind, .string (str c.val)], .int .i64 0]) (by simp [results, Tryz.results27, go_sem, q0, q1, q2, q3]) rfl ?_
        exact ⟨rfl, hgr⟩
      · rw [if_neg hk2] at hX
        have HX := Lib.hid hX
        have hkb : (c.key == key) = false := by rw [beq_eq_false_iff_ne]; exact hk2
        clear hX
        go_enter Tryz.func27, Tryz.ntmps27
        go_wp2_with (first
          | (go_at_call 78; go_must (refine (HMy.out _ (HT.out.gr (Gr.alloc _ _))).mono ?_); rintro e w2 ⟨rfl, g2⟩; have HG2 := Lib.hid ((Gr.alloc _ _).trans g2))
          | (go_at_call 53; go_must (refine (HRk.out _ (HT.out.gr HG2.out)).mono ?_); rintro e w3 ⟨rfl, g3⟩
             have hb := ((HB.out.gr g2).gr g3)
             obtain ⟨f0, f1, f2, f3⟩ : _ ∧ _ ∧ _ ∧ _ := ⟨hb.frozen 0, hb.frozen 1, hb.frozen 2, hb.frozen 3⟩
             obtain ⟨z0, z1, z2, z3⟩ : _ ∧ _ ∧ _ ∧ _ := ⟨hb.cell (i := 0) rfl, hb.cell (i := 1) rfl, hb.cell (i := 2) rfl, hb.cell (i := 3) rfl⟩
             have HQ := Lib.hid (HFIN.out _ hb (HG2.out.trans g3))
             clear hb
             obtain ⟨adc, cc, adf, cf, ht, ht1, ht2, ht3, _⟩ := HT.out.gr (HG2.out.trans g3)
             have t0 := ht.cell (i := 0) rfl
             clear ht
             obtain ⟨bt, ot, rfl, y0, y1, y2, y3⟩ := ht3.ci i hi
             clear ht3
             rw [HCE.out] at y0 y1 y2 y3))
        obtain ⟨hq, hgr⟩ := HQ.out zeroC
        have q0 := hq.cell (i := 0) rfl
        have q1 := hq.cell (i := 1) rfl
        have q2 := hq.cell (i := 2) rfl
        have q3 := hq.cell (i := 3) rfl
        rw [HX.out]
        unfold zeroC str at q0 q1 q2 q3
        refine bodyPost_ret (v := .tuple #[.agg #[.string ⟨#[]⟩, .int .i64 0, .int .i64 0, .string ⟨#[]⟩], .int .i64 7]) (by simp [results, Tryz.results27, go_sem, q0, q1, q2, q3]) rfl ?_
        exact ⟨rfl, hgr⟩
    · obtain rfl : i = C.length := by omega
      rw [List.getElem?_eq_none (Nat.le_refl _)] at hX
      have HX := Lib.hid hX
      clear hX
      go_enter Tryz.func27, Tryz.ntmps27
      go_wp2_with (first
        | (go_at_call 78; go_must (refine (HMy.out _ (HT.out.gr (Gr.alloc _ _))).mono ?_); rintro e w2 ⟨rfl, g2⟩; have HG2 := Lib.hid ((Gr.alloc _ _).trans g2))
        | (go_at_call 53; go_must (refine (HRk.out _ (HT.out.gr HG2.out)).mono ?_); rintro e w3 ⟨rfl, g3⟩
           have hb := ((HB.out.gr g2).gr g3)
           obtain ⟨f0, f1, f2, f3⟩ : _ ∧ _ ∧ _ ∧ _ := ⟨hb.frozen 0, hb.frozen 1, hb.frozen 2, hb.frozen 3⟩
           obtain ⟨z0, z1, z2, z3⟩ : _ ∧ _ ∧ _ ∧ _ := ⟨hb.cell (i := 0) rfl, hb.cell (i := 1) rfl, hb.cell (i := 2) rfl, hb.cell (i := 3) rfl⟩
           have HQ := Lib.hid (HFIN.out _ hb (HG2.out.trans g3))
           clear hb
           obtain ⟨adc, cc, adf, cf, ht, ht1, ht2, ht3, _⟩ := HT.out.gr (HG2.out.trans g3)
           have t0 := ht.cell (i := 0) rfl
           clear ht))
      obtain ⟨hq, hgr⟩ := HQ.out zeroC
      have q0 := hq.cell (i := 0) rfl
      have q1 := hq.cell (i := 1) rfl
      have q2 := hq.cell (i := 2) rfl
      have q3 := hq.cell (i := 3) rfl
      rw [HX.out]
      unfold zeroC str at q0 q1 q2 q3
      refine bodyPost_ret (v := .tuple #[.agg #[.string ⟨#[]⟩, .int .i64 0, .int .i64 0, .string ⟨#[]⟩], .int .i64 7]) (by simp [results, Tryz.results27, go_sem, q0, q1, q2, q3]) rfl ?_
      exact ⟨rfl, hgr⟩
end Go.Proofs.YtpaogoehgkoaeaaGreatDoor
