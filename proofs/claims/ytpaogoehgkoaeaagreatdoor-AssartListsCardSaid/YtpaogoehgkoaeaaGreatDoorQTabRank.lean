/- Layer 14 (table): the rank by halving. -/
import Derived.Test.YtpaogoehgkoaeaaGreatDoorQTabAsk
namespace Go.Proofs.YtpaogoehgkoaeaaGreatDoor
set_option linter.unusedVariables false
set_option linter.unusedSimpArgs false
open Go.RowKit Tab
/-- below a version, then not: what the halving needs -/
def MonoV (v : Vr) (C : List Ci) : Prop := ∀ i j : Nat, i ≤ j → (hj : j < C.length) → vless C[j].vr v = true → ∀ hi : i < C.length, vless C[i].vr v = true
theorem rankI_is (v : Vr) : ∀ (C : List Ci) (r : Nat), r ≤ C.length → (∀ x, (hx : x < C.length) → x < r → vless C[x].vr v = true) → (∀ h : r < C.length, vless C[r].vr v = false) → rankI v C = r
  | [], r, h, _, _ => by simp at h; subst h; rfl
  | c :: l, 0, _, _, h2 => by
    have := h2 (by simp)
    rw [List.getElem_cons_zero] at this
    rw [rankI, this]; rfl
  | c :: l, r + 1, h, h1, h2 => by
    have := h1 0 (by simp) (by omega)
    rw [List.getElem_cons_zero] at this
    rw [rankI, if_pos this, rankI_is v l r (by simpa using h) (fun x hx hr => h1 (x + 1) (Nat.succ_lt_succ hx) (by omega)) (fun hh => h2 (Nat.succ_lt_succ hh))]
set_option maxRecDepth 100000 in
set_option maxHeartbeats 1000000 in
theorem rank_any (w : World) (g : Nat) (C : List Ci) (f : List UInt8) (v : Vr) (h : TabAt w g C f) (hl : C.length ≤ 500000000) (hm : MonoV v C) : Calls Tryz.prog 53 #[.pointer (some ⟨g, 0, none⟩), ver v.key v.seq v.kind] w fun e w' => e = .returned (.int .i64 (rankI v C : Int)) ∧ Gr w w' := by
  obtain ⟨adc, cc, adf, cf, hb, h1, h2, h3, _⟩ := h
  have z0 := hb.cell (i := 0) rfl
  have HR := Lib.hid h3
  have HM := Lib.hid hm
  have HI := Lib.hid (rankI_is v C)
  have HLess := Lib.hid (fun (c : Ci) w => Less_any c.key v.key c.seq c.kind v.seq v.kind w)
  clear hb h3 hm
  unfold ver at *
  go_enter Tryz.func53, Tryz.ntmps53
  go_wp2
  have gW : Gr w (w.alloc (.cells #[.string (str v.key), .int .i64 v.seq, .int .i64 v.kind] 40)) := Gr.alloc _ _
  have bV := Blk.new w 40 #[.string (str v.key), .int .i64 v.seq, .int .i64 v.kind]
  obtain ⟨y0, y1, y2⟩ : _ ∧ _ ∧ _ := ⟨bV.cell (i := 0) rfl, bV.cell (i := 1) rfl, bV.cell (i := 2) rfl⟩
  replace z0 := gW.cell z0
  have HRW := Lib.hid (HR.out.gr gW)
  have HGW := Lib.hid gW
  clear bV HR gW
  generalize w.heap.size = gv at *
  generalize w.alloc (.cells #[.string (str v.key), .int .i64 v.seq, .int .i64 v.kind] 40) = W at *
  go_quiet (fail)
  go_wp2
  go_loopw [5, 6] (fun vi vj wr => ∃ (i j : Nat), i ≤ j ∧ j ≤ C.length ∧ vi = .int .i64 (i : Int) ∧ vj = .int .i64 (j : Int) ∧ Gr W wr ∧ (∀ x, (hx : x < C.length) → x < i → vless C[x].vr v = true) ∧ (∀ x, (hx : x < C.length) → j ≤ x → vless C[x].vr v = false)) (fun vi vj _ => (intOf vj).toNat - (intOf vi).toNat)
  case atStart => exact ⟨0, C.length, Nat.zero_le _, Nat.le_refl _, rfl, rfl, Gr.drewN _ _, fun x _ h => by omega, fun x h1 h2 => by omega⟩
  case round =>
    obtain ⟨i, j, hij, hjl, rfl, rfl, hg, hlo, hhi⟩ := hrel
    have HLO := Lib.hid hlo
    have HHI := Lib.hid hhi
    clear hlo hhi
    have HGr := Lib.hid hg
    replace z0 := hg.cell z0
    replace y0 := hg.cell y0
    replace y1 := hg.cell y1
    replace y2 := hg.cell y2
    by_cases h : i < j
    · obtain ⟨h, hh⟩ : ∃ h, h = (i + j) / 2 := ⟨_, rfl⟩
      have hh1 : i ≤ h := by omega
      have hh2 : h < j := by omega
      have hhl : h < C.length := by omega
      obtain ⟨bl, off, hb, hc1, hc2, hc3, hc4⟩ := (HRW.out.gr hg).ci h hhl
      subst hb
      have HC := Lib.hid (HLess.out C[h])
      clear hg
      have e1 : ((i : Int) + (j : Int)) / 2 = (h : Int) := by omega
      have HV := Lib.hid (show lessF C[h].key C[h].seq C[h].kind v.key v.seq v.kind = vless C[h].vr v from rfl)
      clear hh
      cases hlt : vless C[h].vr v with
      | true =>
        have HT := Lib.hid hlt
        rw [HV.out, hlt] at HC
        clear hlt
        generalize hce : C[h] = c at *
        have HCE := Lib.hid hce
        clear hce HV
        go_wp2
        simp only [e1]
        refine region_any_gr _ [Is (.pointer (some ⟨g, 0, none⟩)), Is (.pointer (some ⟨g, 0, none⟩)), Is (.pointer (some ⟨g, 0, none⟩)), Is (.slice (some ⟨bl, off, none⟩) C.length cc), Is (.int .i64 (h : Int)), Is (.pointer (some ⟨bl, off + h * 4, none⟩)), Is (.pointer (some ⟨bl, off + h * 4, none⟩)), Is (.agg #[.string (str c.key), .int .i64 c.seq, .int .i64 c.kind]), Is (.agg #[.string (str v.key), .int .i64 v.seq, .int .i64 v.kind]), Is (.bool true)] (by kernel_rfl) (by kernel_rfl) (by kernel_rfl) rfl rfl ⟨Is.stable _, Is.stable _, Is.stable _, Is.stable _, Is.stable _, Is.stable _, Is.stable _, Is.stable _, Is.stable _, Is.stable _, trivial⟩ ⟨?s0, ?s1, ?s2, ?s3, ?s4, ?s5, ?s6, ?s7, ?s8, ?s9, trivial⟩ ?fin
        case' s0 | s1 | s2 | s3 | s4 | s5 | s6 | s7 | s8 | s9 =>
          intro ρ wr hρ hg hK
          simp [readsOf, slotsOf, Op.operands, Call.operands, tmpOf, List.filterMap_cons, List.filterMap_nil, KnownAll, knownOf, srcOf, depsOf, dstOf, Region.binds, nth, Is] at hK
          obtain ⟨hc, hf, hgl⟩ := hρ
          try simp only [wantedBy, dstOf, boolOf, nth, List.getD_cons_zero, List.getD_cons_succ, List.getElem?_cons_zero, List.getElem?_cons_succ, Option.bind_some, if_true, hK, BEq.rfl]
          try go_simp
          first | exact rfl | (rw [if_pos (by omega)]; exact is_here rfl) | (rw [dif_pos (by omega)]; exact is_here rfl) | exact congrArg (Value.int _) (IntWalk.i64_in _ ⟨by omega, by omega⟩) | skip
        case s3 => have z0 := hg.cell z0; go_simp; exact rfl
        case s7 => have z0 := hg.cell hc1; have z1 := hg.cell hc2; have z2 := hg.cell hc3; go_simp; exact rfl
        case s8 => have z0 := hg.cell y0; have z1 := hg.cell y1; have z2 := hg.cell y2; go_simp; exact rfl
        case s9 => exact any_gr (HC.out _)
        case fin =>
          intro w1 val hg hH
          simp only [Holds, Is, Nat.zero_add, Nat.reduceAdd] at hH
          obtain ⟨h0, h1, h2, h3, h4, h5, h6, h7, h8, h9, _⟩ := hH
          simp only [List.take_succ_cons, List.take_zero, List.drop_succ_cons, List.drop_zero, putAll, h0, h1, h2, h3, h4, h5, h6, h7, h8, h9, Nat.zero_add, Nat.reduceAdd]
          go_simp
          go_wp2
          go_roundw
          case rel => exact ⟨h + 1, j, hh2, hjl, by go_num, rfl, HGr.out.trans hg, fun x hx hxl => HM.out x h (by omega) hhl (by rw [HCE.out]; exact HT.out) hx, HHI.out⟩
          case measure => simp [intOf]; omega
      | false =>
        have HT := Lib.hid hlt
        rw [HV.out, hlt] at HC
        clear hlt
        generalize hce : C[h] = c at *
        have HCE := Lib.hid hce
        clear hce HV
        go_wp2
        simp only [e1]
        refine region_any_gr _ [Is (.pointer (some ⟨g, 0, none⟩)), Is (.pointer (some ⟨g, 0, none⟩)), Is (.pointer (some ⟨g, 0, none⟩)), Is (.slice (some ⟨bl, off, none⟩) C.length cc), Is (.int .i64 (h : Int)), Is (.pointer (some ⟨bl, off + h * 4, none⟩)), Is (.pointer (some ⟨bl, off + h * 4, none⟩)), Is (.agg #[.string (str c.key), .int .i64 c.seq, .int .i64 c.kind]), Is (.agg #[.string (str v.key), .int .i64 v.seq, .int .i64 v.kind]), Is (.bool false)] (by kernel_rfl) (by kernel_rfl) (by kernel_rfl) rfl rfl ⟨Is.stable _, Is.stable _, Is.stable _, Is.stable _, Is.stable _, Is.stable _, Is.stable _, Is.stable _, Is.stable _, Is.stable _, trivial⟩ ⟨?s0x1, ?s1x1, ?s2x1, ?s3x1, ?s4x1, ?s5x1, ?s6x1, ?s7x1, ?s8x1, ?s9x1, trivial⟩ ?finx1
        case' s0x1 | s1x1 | s2x1 | s3x1 | s4x1 | s5x1 | s6x1 | s7x1 | s8x1 | s9x1 =>
          intro ρ wr hρ hg hK
          simp [readsOf, slotsOf, Op.operands, Call.operands, tmpOf, List.filterMap_cons, List.filterMap_nil, KnownAll, knownOf, srcOf, depsOf, dstOf, Region.binds, nth, Is] at hK
          obtain ⟨hc, hf, hgl⟩ := hρ
          try simp only [wantedBy, dstOf, boolOf, nth, List.getD_cons_zero, List.getD_cons_succ, List.getElem?_cons_zero, List.getElem?_cons_succ, Option.bind_some, if_true, hK, BEq.rfl]
          try go_simp
          first | exact rfl | (rw [if_pos (by omega)]; exact is_here rfl) | (rw [dif_pos (by omega)]; exact is_here rfl) | exact congrArg (Value.int _) (IntWalk.i64_in _ ⟨by omega, by omega⟩) | skip
        case s3x1 => have z0 := hg.cell z0; go_simp; exact rfl
        case s7x1 => have z0 := hg.cell hc1; have z1 := hg.cell hc2; have z2 := hg.cell hc3; go_simp; exact rfl
        case s8x1 => have z0 := hg.cell y0; have z1 := hg.cell y1; have z2 := hg.cell y2; go_simp; exact rfl
        case s9x1 => exact any_gr (HC.out _)
        case finx1 =>
          intro w1 val hg hH
          simp only [Holds, Is, Nat.zero_add, Nat.reduceAdd] at hH
          obtain ⟨h0, h1, h2, h3, h4, h5, h6, h7, h8, h9, _⟩ := hH
          simp only [List.take_succ_cons, List.take_zero, List.drop_succ_cons, List.drop_zero, putAll, h0, h1, h2, h3, h4, h5, h6, h7, h8, h9, Nat.zero_add, Nat.reduceAdd]
          go_simp
          go_wp2
          go_roundw
          case rel => exact ⟨i, h, hh1, by omega, rfl, rfl, HGr.out.trans hg, HLO.out, fun x hx hxl => by
            rw [Bool.eq_false_iff]; intro hq
            have := HM.out h x hxl hx hq hhl
            rw [HCE.out, HT.out] at this; cases this⟩
          case measure => simp [intOf]; omega
    · obtain rfl : i = j := by omega
      have HN := Lib.hid (HI.out i hjl HLO.out (fun hx => HHI.out i hx (Nat.le_refl _)))
      go_wp2
      go_ret
      rw [HN.out]
      exact ⟨rfl, HGW.out.trans HGr.out⟩
end Go.Proofs.YtpaogoehgkoaeaaGreatDoor
