/- Layer 14 (table): From walked; slices.Clone of cells. -/
import Derived.Test.YtpaogoehgkoaeaaGreatDoorQTabGet
namespace Go.Proofs.YtpaogoehgkoaeaaGreatDoor
set_option linter.unusedVariables false
set_option linter.unusedSimpArgs false
open Go.RowKit Tab
set_option maxRecDepth 100000 in
theorem cloneC_any (a : Addr) (n cap : Nat) (l : List Ci) (w : World) (hn : n = l.length) (hl : l.length ≤ 500000000) (hr : Row w (some a) (cv l)) :
    Calls Tryz.prog 54 #[.slice (some a) n cap] w fun e w' => ∃ ad' cap', e = .returned (.slice ad' n cap') ∧ Owns w' w.heap.size 56 4 ad' cap' n (cv l) ∧ Gr w w' := by
  have HO := Lib.hid hr
  have HE := fun w' => Lib.run_eql_slice_nil (P := Tryz.prog) w' 22 56 (some a) n cap 0 0 Tryz.underlying22
  have hm1 : 0 + n ≤ maxLen := by unfold maxLen; omega
  have hm2 : (0 + n) * 48 ≤ 140737488355328 := by omega
  have HL := Lib.hid (show (cv l).length = n * 4 by rw [cv_length, hn])
  clear hr hn
  go_enter Tryz.func54, Tryz.ntmps54
  go_wp2_with (first
    | (at_builtin; go_must (refine wp_append elemC rfl _ _ rfl rfl (Owns.void w w.heap.size 56 4 (Nat.le_refl _)) rfl (show Src Tryz.prog _ _ 4 _ _ _ from ⟨HL.out, cv_one l, .inl ⟨some a, cap, _, rfl, HO.out.gr (Gr.alloc _ _), Tryz.underlying22⟩⟩) hm1 hm2 (by simp) ?_); intro ad7 c7 w7 o7 k7 f7)
    | fail)
  go_ret
  refine ⟨ad7, c7, by simp, ?_, (Gr.alloc _ _).grown k7 (fun g h => by cases h; exact Nat.le_refl _)⟩
  simpa using o7
/-- so many from the first on that doesn't come ahead -/
def fromF (C : List Ci) (v : Vr) (most : Int) : List Ci := (C.drop (rankI v C)).take most.toNat
/-- cells of its own, and the word -/
def RetCs (w : World) (l : List Ci) : Ending → World → Prop := fun e w' => ∃ ad cap, e = .returned (.tuple #[.slice ad l.length cap, .int .i64 0]) ∧ Owns w' w.heap.size 56 4 ad cap l.length (cv l) ∧ Gr w w'
set_option maxRecDepth 100000 in
set_option maxHeartbeats 1000000 in
theorem tFrom_any (w : World) (g : Nat) (C : List Ci) (f : List UInt8) (v : Vr) (most : Int) (h : TabAt w g C f) (hC : C ≠ []) (hl : C.length ≤ 500000000) (hm : MonoV v C) (h0 : 0 ≤ most) :
    Calls Tryz.prog 11 #[.pointer (some ⟨g, 0, none⟩), ver v.key v.seq v.kind, .int .i64 most] w (RetCs w (fromF C v most)) := by
  have HRk := Lib.hid (fun w' h' => rank_any w' g C f v h' hl hm)
  have HT := Lib.hid h
  obtain ⟨L, hL⟩ : ∃ L, L = fromF C v most := ⟨_, rfl⟩
  rw [← hL]
  obtain ⟨adc, cc, adf, cf, ht, ht1, ht2, ht3, _⟩ := h
  have t0 := ht.cell (i := 0) rfl
  obtain ⟨bt, ot, rfl, -⟩ := ht3.ci 0 (by cases C with | nil => exact absurd rfl hC | cons => simp)
  have hr := rankI_le v C
  have HRow := Lib.hid (show Row w (some ⟨bt, ot + rankI v C * 4, none⟩) (cv (C.drop (rankI v C))) by rw [cv_drop]; exact ht3.drop_ _)
  unfold fromF at hL
  obtain ⟨r, hre⟩ : ∃ r, r = rankI v C := ⟨_, rfl⟩
  rw [← hre] at hr hL
  rw [← hre] at HRow
  simp only [← hre] at HRk
  clear hre
  obtain ⟨m, hm2⟩ : ∃ m, m = L.length := ⟨_, rfl⟩
  have hmm : m = min most.toNat (C.length - r) := by rw [hm2, hL, List.length_take, List.length_drop]
  have HRow2 := Lib.hid (show Row w (some ⟨bt, ot + r * 4, none⟩) (cv L) by rw [hL, cv_take]; intro i u hi; rw [List.getElem?_take] at hi; split at hi <;> first | exact HRow.out i u hi | cases hi)
  have hdm : decide (most < 0) = false := decide_eq_false (by omega)
  have hcm : C.length ≤ 9223372036854775807 := by omega
  have hccm : cc ≤ 9223372036854775807 := by unfold maxLen at ht2; omega
  have HAD := Lib.hid (show ∃ a, (if cc = r then some ⟨bt, ot, none⟩ else some ⟨bt, ot + r * 4, none⟩) = some a ∧ Row w (some a) (cv L) from by
    by_cases hc : cc = r
    · rw [if_pos hc]
      refine ⟨_, rfl, ?_⟩
      have : L = [] := List.eq_nil_of_length_eq_zero (by omega)
      rw [this]; intro i u hi; cases hi
    · rw [if_neg hc]; exact ⟨_, rfl, HRow2.out⟩)
  clear ht ht3 hm HRow hC hL
  unfold ver at *
  go_enter Tryz.func11, Tryz.ntmps11
  go_wp2
  have gW : Gr w (w.alloc (.cells #[.string (str v.key), .int .i64 v.seq, .int .i64 v.kind] 40)) := Gr.alloc _ _
  have bV := Blk.new w 40 #[.string (str v.key), .int .i64 v.seq, .int .i64 v.kind]
  obtain ⟨y0, y1, y2⟩ : _ ∧ _ ∧ _ := ⟨bV.cell (i := 0) rfl, bV.cell (i := 1) rfl, bV.cell (i := 2) rfl⟩
  have HGW := Lib.hid gW
  have t1 := gW.cell t0
  clear bV gW t0
  generalize w.heap.size = gv at *
  generalize w.alloc (.cells #[.string (str v.key), .int .i64 v.seq, .int .i64 v.kind] 40) = W at *
  refine region_any_gr _ [Is (.pointer (some ⟨g, 0, none⟩)), Is (.pointer (some ⟨g, 0, none⟩)), Is (.pointer (some ⟨g, 0, none⟩)), Is (.slice (some ⟨bt, ot, none⟩) C.length cc), Is (.pointer (some ⟨g, 0, none⟩)), Is (.agg #[.string (str v.key), .int .i64 v.seq, .int .i64 v.kind]), Is (.int .i64 (r : Int)), Is (.slice (if cc = r then some ⟨bt, ot, none⟩ else some ⟨bt, ot + r * 4, none⟩) (C.length - r) (cc - r)), Is (.slice (if cc = r then some ⟨bt, ot, none⟩ else some ⟨bt, ot + r * 4, none⟩) (C.length - r) (cc - r))] (by kernel_rfl) (by kernel_rfl) (by kernel_rfl) rfl rfl ⟨Is.stable _, Is.stable _, Is.stable _, Is.stable _, Is.stable _, Is.stable _, Is.stable _, Is.stable _, Is.stable _, trivial⟩ ⟨?s0, ?s1, ?s2, ?s3, ?s4, ?s5, ?s6, ?s7, ?s8, trivial⟩ ?fin
  case' s0 | s1 | s2 | s3 | s4 | s5 | s6 | s7 | s8 =>
    intro ρ wr hρ hg hK
    simp [readsOf, slotsOf, Op.operands, Call.operands, tmpOf, List.filterMap_cons, List.filterMap_nil, KnownAll, knownOf, srcOf, depsOf, dstOf, Region.binds, nth, Is] at hK
    obtain ⟨hc, hf, hgl⟩ := hρ
    try simp only [wantedBy, dstOf, boolOf, nth, List.getD_cons_zero, List.getD_cons_succ, List.getElem?_cons_zero, List.getElem?_cons_succ, Option.bind_some, if_true, hK, BEq.rfl]
    try go_simp
    first | exact rfl | (rw [if_pos (by omega)]; exact is_here rfl) | (rw [dif_pos (by omega)]; exact is_here rfl) | exact congrArg (Value.int _) (IntWalk.i64_in _ ⟨by omega, by omega⟩) | skip
  case s3 => have z0 := hg.cell t1; go_simp; exact rfl
  case s5 => have z0 := hg.cell y0; have z1 := hg.cell y1; have z2 := hg.cell y2; go_simp; exact rfl
  case s6 => exact any_gr (HRk.out wr (HT.out.gr (HGW.out.trans hg)))
  case fin =>
    intro w1 val hg hH
    simp only [Holds, Is, Nat.zero_add, Nat.reduceAdd] at hH
    obtain ⟨h0, h1, h2, h3, h4, h5, h6, h7, h8, _⟩ := hH
    simp only [List.take_succ_cons, List.take_zero, List.drop_succ_cons, List.drop_zero, putAll, h0, h1, h2, h3, h4, h5, h6, h7, h8, Nat.zero_add, Nat.reduceAdd]
    have HG3 := Lib.hid (HGW.out.trans hg)
    have hmn : (min most ((C.length - r : Nat) : Int)).toNat = m := by omega
    have hLl : L.length ≤ 500000000 := by omega
    obtain ⟨a, ha, hra⟩ := HAD.out
    have HCl := Lib.hid (fun cap => cloneC_any a L.length cap L _ rfl hLl (hra.gr HG3.out))
    clear hra
    go_simp
    go_wp2_with (go_at_call 54; go_must (refine (HCl.out _).mono ?_); rintro e w4 ⟨ad4, cp4, rfl, o4, g4⟩)
    go_ret2
    exact ⟨ad4, cp4, rfl, o4.base HG3.out.size, HG3.out.trans g4⟩
end Go.Proofs.YtpaogoehgkoaeaaGreatDoor
