/- Layer 14 (table): the reference's Cells, and its table's Get, From and Ahead walked. -/
import Derived.Test.YtlfbelocdpboeaaDoorTabRev
import Derived.Test.YtlfbelocdpboeaaDoorTabSpoilM
namespace Go.Proofs.YtlfbelocdpboeaaDoor
set_option linter.unusedVariables false
set_option linter.unusedSimpArgs false
open Go.RowKit Tab
instance : DecidableEq Ci := fun a b => decidable_of_iff (a.key = b.key ∧ a.seq = b.seq ∧ a.kind = b.kind ∧ a.val = b.val) ⟨fun ⟨h1, h2, h3, h4⟩ => by cases a; cases b; simp_all, fun h => by rw [h]; exact ⟨rfl, rfl, rfl, rfl⟩⟩
set_option maxRecDepth 100000 in
set_option maxHeartbeats 1000000 in
theorem rCells_any (ad ad' : Option Addr) (cap cap' : Nat) (A B : List Ci) (w : World) (ha : Row w ad (cv A)) (hb : Row w ad' (cv B)) (hl : A.length ≤ 500000000) (hl' : B.length ≤ 500000000) :
    Calls Tryd.prog 14 #[.slice ad A.length cap, .slice ad' B.length cap'] w fun e w' => e = .returned (.bool (decide (A = B))) ∧ Gr w w' := by
  have HA := Lib.hid ha.ci
  have HB := Lib.hid hb.ci
  clear ha hb
  by_cases hn : A.length = B.length
  · have HN := Lib.hid hn
    have hnb : ((A.length : Int) != (B.length : Int)) = false := by rw [bne_eq_false_iff_eq]; omega
    clear hn
    go_enter Tryd.func14, Tryd.ntmps14
    go_wp2
    go_loopw [5] (fun vi wr => ∃ i : Nat, vi = .int .i64 (i : Int) ∧ i ≤ A.length ∧ A.take i = B.take i ∧ Gr w wr) (fun vi _ => A.length - (intOf vi).toNat)
    case atStart => exact ⟨0, rfl, Nat.zero_le _, rfl, Gr.refl _⟩
    case round =>
      obtain ⟨i, rfl, hi, hT, hG⟩ := hrel
      have HT := Lib.hid hT
      have HG := Lib.hid hG
      clear hT
      by_cases hlt : i < A.length
      · have hlt2 : i < B.length := by rw [← HN.out]; exact hlt
        obtain ⟨b, off, hade, e0, e1, e2, e3⟩ := HA.out i hlt
        subst hade
        obtain ⟨b', off', hade', z0, z1, z2, z3⟩ := HB.out i hlt2
        subst hade'
        have f0 := hG.cell e0
        have f1 := hG.cell e1
        have f2 := hG.cell e2
        have f3 := hG.cell e3
        have k0 := hG.cell z0
        have k1 := hG.cell z1
        have k2 := hG.cell z2
        have k3 := hG.cell z3
        have HS := Lib.hid (fun (h : A[i] = B[i]) => show A.take (i + 1) = B.take (i + 1) by rw [List.take_succ_eq_append_getElem hlt, List.take_succ_eq_append_getElem hlt2, h, HT.out])
        have HS2 := Lib.hid (fun (h : A = B) => show A[i] = B[i] by subst h; rfl)
        clear e0 e1 e2 e3 z0 z1 z2 z3 HA HB hG
        generalize A[i] = x at *
        generalize B[i] = y at *
        by_cases hxy : x = y
        · have HX := Lib.hid (HS.out hxy)
          subst hxy
          clear HS HS2
          go_wp2
          refine region_any_gr _ [Is (.slice (some ⟨b, off, none⟩) A.length cap), Is (.int .i64 (i : Int)), Is (.pointer (some ⟨b, off + i * 4, none⟩)), Is (.agg #[.string (str x.key), .int .i64 x.seq, .int .i64 x.kind, .string (str x.val)]), Is (.slice (some ⟨b', off', none⟩) B.length cap'), Is (.int .i64 (i : Int)), Is (.pointer (some ⟨b', off' + i * 4, none⟩)), Is (.agg #[.string (str x.key), .int .i64 x.seq, .int .i64 x.kind, .string (str x.val)]), Is (.bool false)] (by kernel_rfl) (by kernel_rfl) (by kernel_rfl) rfl rfl ⟨Is.stable _, Is.stable _, Is.stable _, Is.stable _, Is.stable _, Is.stable _, Is.stable _, Is.stable _, Is.stable _, trivial⟩ ⟨?s0, ?s1, ?s2, ?s3, ?s4, ?s5, ?s6, ?s7, ?s8, trivial⟩ ?fin
          case' s0 | s1 | s2 | s3 | s4 | s5 | s6 | s7 | s8 =>
            intro ρ wr hρ hg hK
            simp [readsOf, slotsOf, Op.operands, Call.operands, tmpOf, List.filterMap_cons, List.filterMap_nil, KnownAll, knownOf, srcOf, depsOf, dstOf, Region.binds, nth, Is] at hK
            obtain ⟨hc, hf, hgl⟩ := hρ
            try simp only [wantedBy, dstOf, boolOf, nth, List.getD_cons_zero, List.getD_cons_succ, List.getElem?_cons_zero, List.getElem?_cons_succ, Option.bind_some, if_true, hK, BEq.rfl]
            try go_simp
            first | exact rfl | (rw [if_pos (by omega)]; exact is_here rfl) | (rw [dif_pos (by omega)]; exact is_here rfl) | exact congrArg (Value.int _) (IntWalk.i64_in _ ⟨by omega, by omega⟩) | skip
          case s3 => have z0 := hg.cell f0; have z1 := hg.cell f1; have z2 := hg.cell f2; have z3 := hg.cell f3; go_simp; exact rfl
          case s7 => have z0 := hg.cell k0; have z1 := hg.cell k1; have z2 := hg.cell k2; have z3 := hg.cell k3; go_simp; exact rfl
          case fin =>
            intro w1 val hg hH
            simp only [Holds, Is, Nat.zero_add, Nat.reduceAdd] at hH
            obtain ⟨h0, h1, h2, h3, h4, h5, h6, h7, h8, _⟩ := hH
            simp only [List.take_succ_cons, List.take_zero, List.drop_succ_cons, List.drop_zero, putAll, h0, h1, h2, h3, h4, h5, h6, h7, h8, Nat.zero_add, Nat.reduceAdd]
            go_simp
            go_wp2
            go_roundw
            case rel => exact ⟨i + 1, by go_num, hlt, HX.out, HG.out.trans hg⟩
            case measure => simp [intOf]; omega
        · have hD : decide (A = B) = false := decide_eq_false (fun h => hxy (HS2.out h))
          obtain ⟨xk, xs, xd, xv⟩ := x
          obtain ⟨yk, ys, yd, yv⟩ := y
          have HQ := Lib.hid (show xk = yk → xs = ys → xd = yd → xv = yv → False from fun q1 q2 q3 q4 => hxy (by rw [q1, q2, q3, q4]))
          simp only at f0 f1 f2 f3 k0 k1 k2 k3
          have HD := Lib.hid hD
          clear HS HS2 hxy hD
          go_wp2
          refine region_any_gr _ [Is (.slice (some ⟨b, off, none⟩) A.length cap), Is (.int .i64 (i : Int)), Is (.pointer (some ⟨b, off + i * 4, none⟩)), Is (.agg #[.string (str xk), .int .i64 xs, .int .i64 xd, .string (str xv)]), Is (.slice (some ⟨b', off', none⟩) B.length cap'), Is (.int .i64 (i : Int)), Is (.pointer (some ⟨b', off' + i * 4, none⟩)), Is (.agg #[.string (str yk), .int .i64 ys, .int .i64 yd, .string (str yv)]), Is (.bool true)] (by kernel_rfl) (by kernel_rfl) (by kernel_rfl) rfl rfl ⟨Is.stable _, Is.stable _, Is.stable _, Is.stable _, Is.stable _, Is.stable _, Is.stable _, Is.stable _, Is.stable _, trivial⟩ ⟨?s0x1, ?s1x1, ?s2x1, ?s3x1, ?s4x1, ?s5x1, ?s6x1, ?s7x1, ?s8x1, trivial⟩ ?finx1
          case' s0x1 | s1x1 | s2x1 | s3x1 | s4x1 | s5x1 | s6x1 | s7x1 | s8x1 =>
            intro ρ wr hρ hg hK
            simp [readsOf, slotsOf, Op.operands, Call.operands, tmpOf, List.filterMap_cons, List.filterMap_nil, KnownAll, knownOf, srcOf, depsOf, dstOf, Region.binds, nth, Is] at hK
            obtain ⟨hc, hf, hgl⟩ := hρ
            try simp only [wantedBy, dstOf, boolOf, nth, List.getD_cons_zero, List.getD_cons_succ, List.getElem?_cons_zero, List.getElem?_cons_succ, Option.bind_some, if_true, hK, BEq.rfl]
            try go_simp
            first | exact rfl | (rw [if_pos (by omega)]; exact is_here rfl) | (rw [dif_pos (by omega)]; exact is_here rfl) | exact congrArg (Value.int _) (IntWalk.i64_in _ ⟨by omega, by omega⟩) | skip
          case s3x1 => have z0 := hg.cell f0; have z1 := hg.cell f1; have z2 := hg.cell f2; have z3 := hg.cell f3; go_simp; exact rfl
          case s7x1 => have z0 := hg.cell k0; have z1 := hg.cell k1; have z2 := hg.cell k2; have z3 := hg.cell k3; go_simp; exact rfl
          case s8x1 =>
            split
            · rename_i q1
              split
              · rename_i q2
                split
                · rename_i q3
                  split
                  · rename_i q4
                    exact (HQ.out q1 q2 q3 q4).elim
                  · exact is_here rfl
                · exact is_here rfl
              · exact is_here rfl
            · exact is_here rfl
          case finx1 =>
            intro w1 val hg hH
            simp only [Holds, Is, Nat.zero_add, Nat.reduceAdd] at hH
            obtain ⟨h0, h1, h2, h3, h4, h5, h6, h7, h8, _⟩ := hH
            simp only [List.take_succ_cons, List.take_zero, List.drop_succ_cons, List.drop_zero, putAll, h0, h1, h2, h3, h4, h5, h6, h7, h8, Nat.zero_add, Nat.reduceAdd]
            go_simp
            go_wp2
            go_ret
            rw [HD.out]
            exact ⟨rfl, HG.out.trans hg⟩
      · obtain rfl : i = A.length := by omega
        have HE := Lib.hid (show decide (A = B) = true from decide_eq_true (by
          have h1 := HT.out
          rw [List.take_length, HN.out, List.take_length] at h1
          exact h1))
        go_wp2
        go_ret
        rw [HE.out]
        exact ⟨rfl, HG.out⟩
  · have hnb : ((A.length : Int) != (B.length : Int)) = true := by rw [bne_iff_ne]; omega
    have HE := Lib.hid (show decide (A = B) = false from decide_eq_false (fun h => hn (by rw [h])))
    clear hn
    go_enter Tryd.func14, Tryd.ntmps14
    go_wp2
    go_ret
    rw [HE.out]
    exact ⟨rfl, Gr.refl _⟩
/-- the reference's table in memory -/
def RefAt (w : World) (g : Nat) (C : List Ci) : Prop := ∃ ad cc z, Blk w g 52 [.slice ad C.length cc, z] ∧ Row w ad (cv C)
theorem RefAt.gr {w w' : World} {g : Nat} {C : List Ci} (h : RefAt w g C) (k : Gr w w') : RefAt w' g C := by
  obtain ⟨ad, cc, z, h1, h2⟩ := h
  exact ⟨ad, cc, z, h1.gr k, h2.gr k⟩
theorem filterC_next {C : List Ci} {i : Nat} (p : Ci → Bool) (hi : i < C.length) : (C.take (i + 1)).filter p = if p C[i] = true then (C.take i).filter p ++ [C[i]] else (C.take i).filter p := by
  rw [List.take_succ_eq_append_getElem hi, List.filter_append]
  split
  · rename_i h; rw [List.filter_cons_of_pos h]; rfl
  · rename_i h; rw [List.filter_cons_of_neg h]; simp
theorem filterC_stop {C : List Ci} {i n : Nat} (p : Ci → Bool) (h : ((C.take i).filter p).length = n) : (C.filter p).take n = (C.take i).filter p := by
  have : C.filter p = (C.take i).filter p ++ (C.drop i).filter p := by rw [← List.filter_append, List.take_append_drop]
  rw [this]
  exact List.take_left' h
theorem filterC_len {C : List Ci} {i : Nat} (p : Ci → Bool) : ((C.take i).filter p).length ≤ i := by
  have h1 := List.length_filter_le p (C.take i)
  rw [List.length_take] at h1; omega
set_option maxRecDepth 100000 in
theorem rFrom_neg (w : World) (p : Value) (v : Vr) (most : Int) (hm : most < 0) : Calls Tryd.prog 20 #[p, ver v.key v.seq v.kind, .int .i64 most] w fun e w' => e = .returned (.tuple #[.slice none 0 0, .int .i64 1]) ∧ Gr w w' := by
  unfold ver
  go_enter Tryd.func20, Tryd.ntmps20
  go_wp2
  go_ret2
  exact ⟨rfl, Gr.alloc _ _⟩
set_option maxRecDepth 100000 in
set_option maxHeartbeats 4000000 in
theorem rFrom_any (w : World) (g : Nat) (C : List Ci) (v : Vr) (most : Int) (h : RefAt w g C) (hl : C.length ≤ 500000000) (h0 : 0 ≤ most) :
    Calls Tryd.prog 20 #[.pointer (some ⟨g, 0, none⟩), ver v.key v.seq v.kind, .int .i64 most] w (RetCs w ((C.filter (fun c => !vless c.vr v)).take most.toNat)) := by
  obtain ⟨ad, cc, z, hb, hr⟩ := h
  have t0 := hb.cell (i := 0) rfl
  have HL := Lib.hid (show ∀ (x : Ci) (w : World), Calls Tryd.prog 29 #[ver x.key x.seq x.kind, ver v.key v.seq v.kind] w fun e w' => e = .returned (.bool (vless x.vr v)) ∧ Gr w w' from fun x w => rLess_any x.key v.key x.seq x.kind v.seq v.kind w)
  have HRC := Lib.hid hr
  have HFN := Lib.hid (fun i (hi : i < C.length) => filterC_next (i := i) (fun c => !vless c.vr v) hi)
  have HFS := Lib.hid (fun i n => filterC_stop (C := C) (i := i) (n := n) (fun c => !vless c.vr v))
  have HFL := Lib.hid (fun i => filterC_len (C := C) (i := i) (fun c => !vless c.vr v))
  have HFA := Lib.hid (show (C.take C.length).filter (fun c => !vless c.vr v) = C.filter (fun c => !vless c.vr v) by rw [List.take_length])
  have hdm : decide (most < 0) = false := decide_eq_false (by omega)
  obtain ⟨R, hR⟩ : ∃ R : Nat → List Ci, R = fun i => (C.take i).filter (fun c => !vless c.vr v) := ⟨_, rfl⟩
  have hRi : ∀ i, (C.take i).filter (fun c => !vless c.vr v) = R i := fun i => by rw [hR]
  simp only [hRi] at HFN HFS HFL HFA
  have HR0 := Lib.hid (show R 0 = [] by rw [hR]; rfl)
  clear hb hr hRi hR
  generalize C.filter (fun c => !vless c.vr v) = FC at *
  unfold ver at *
  go_enter Tryd.func20, Tryd.ntmps20
  go_wp2
  have gW : Gr w (w.alloc (.cells #[.string (str v.key), .int .i64 v.seq, .int .i64 v.kind] 39)) := Gr.alloc _ _
  have bV := Blk.new w 39 #[.string (str v.key), .int .i64 v.seq, .int .i64 v.kind]
  obtain ⟨y0, y1, y2⟩ : _ ∧ _ ∧ _ := ⟨bV.cell (i := 0) rfl, bV.cell (i := 1) rfl, bV.cell (i := 2) rfl⟩
  have HGW := Lib.hid gW
  have HRow := Lib.hid (HRC.out.gr gW).ci
  replace t0 := gW.cell t0
  clear bV gW HRC
  generalize w.heap.size = gv at *
  generalize w.alloc (.cells #[.string (str v.key), .int .i64 v.seq, .int .i64 v.kind] 39) = W at *
  go_loopw [8, 9] (fun vo vi wr => ∃ (i : Nat) (adO : Option Addr) (co : Nat), vi = .int .i64 (i : Int) ∧ i ≤ C.length ∧ vo = .slice adO (R i).length co ∧ Owns wr W.heap.size 44 4 adO co (R i).length (cv (R i)) ∧ Gr W wr ∧ ((R i).length : Int) ≤ most) (fun _ vi _ => C.length - (intOf vi).toNat)
  case atStart => exact ⟨0, none, 0, rfl, Nat.zero_le _, by rw [HR0.out]; rfl, by rw [HR0.out]; exact Owns.empty _ _ _ _, Gr.refl _, by rw [HR0.out]; exact h0⟩
  case round =>
    obtain ⟨i, adO, co, rfl, hi, rfl, hO, hG, hM⟩ := hrel
    have HO := Lib.hid hO
    have HG := Lib.hid hG
    have s0 := hG.cell t0
    have x0 := hG.cell y0
    have x1 := hG.cell y1
    have x2 := hG.cell y2
    have hRl := HFL.out i
    clear hO
    by_cases hlt : i < C.length
    · obtain ⟨bt, ot, hade, e0, e1, e2, e3⟩ := HRow.out i hlt
      subst hade
      replace e0 := hG.cell e0
      replace e1 := hG.cell e1
      replace e2 := hG.cell e2
      replace e3 := hG.cell e3
      have HN := Lib.hid (HFN.out i hlt)
      clear HFN hG HRow
      generalize C[i] = c at *
      by_cases hmt : ((R i).length : Int) < most
      · have HC := Lib.hid (HL.out c)
        cases hb : vless c.vr v with
        | true =>
          rw [hb] at HC HN
          have HX := Lib.hid (show R (i + 1) = R i by rw [HN.out]; rfl)
          clear HN hb
          generalize R i = o at *
          go_wp2
          refine region_any_gr _ [Is (.pointer (some ⟨g, 0, none⟩)), Is (.pointer (some ⟨g, 0, none⟩)), Is (.pointer (some ⟨g, 0, none⟩)), Is (.slice (some ⟨bt, ot, none⟩) C.length cc), Is (.int .i64 (i : Int)), Is (.pointer (some ⟨bt, ot + i * 4, none⟩)), Is (.pointer (some ⟨bt, ot + i * 4, none⟩)), Is (.agg #[.string (str c.key), .int .i64 c.seq, .int .i64 c.kind]), Is (.agg #[.string (str v.key), .int .i64 v.seq, .int .i64 v.kind]), Is (.bool true), Is (.bool false)] (by kernel_rfl) (by kernel_rfl) (by kernel_rfl) rfl rfl ⟨Is.stable _, Is.stable _, Is.stable _, Is.stable _, Is.stable _, Is.stable _, Is.stable _, Is.stable _, Is.stable _, Is.stable _, Is.stable _, trivial⟩ ⟨?s0x2, ?s1x2, ?s2x2, ?s3x2, ?s4x2, ?s5x2, ?s6x2, ?s7x2, ?s8x2, ?s9x2, ?s10x2, trivial⟩ ?finx2
          case' s0x2 | s1x2 | s2x2 | s3x2 | s4x2 | s5x2 | s6x2 | s7x2 | s8x2 | s9x2 | s10x2 =>
            intro ρ wr hρ hg hK
            simp [readsOf, slotsOf, Op.operands, Call.operands, tmpOf, List.filterMap_cons, List.filterMap_nil, KnownAll, knownOf, srcOf, depsOf, dstOf, Region.binds, nth, Is] at hK
            obtain ⟨hc, hf, hgl⟩ := hρ
            try simp only [wantedBy, dstOf, boolOf, nth, List.getD_cons_zero, List.getD_cons_succ, List.getElem?_cons_zero, List.getElem?_cons_succ, Option.bind_some, if_true, hK, BEq.rfl]
            try go_simp
            first | exact rfl | (rw [if_pos (by omega)]; exact is_here rfl) | (rw [dif_pos (by omega)]; exact is_here rfl) | exact congrArg (Value.int _) (IntWalk.i64_in _ ⟨by omega, by omega⟩) | skip
          case s3x2 => have z0 := hg.cell s0; go_simp; exact rfl
          case s7x2 => have z0 := hg.cell e0; have z1 := hg.cell e1; have z2 := hg.cell e2; go_simp; exact rfl
          case s8x2 => have z0 := hg.cell x0; have z1 := hg.cell x1; have z2 := hg.cell x2; go_simp; exact rfl
          case s9x2 => exact any_gr (HC.out _)
          case finx2 =>
            intro w1 val hg hH
            simp only [Holds, Is, Nat.zero_add, Nat.reduceAdd] at hH
            obtain ⟨h0, h1, h2, h3, h4, h5, h6, h7, h8, h9, h10, _⟩ := hH
            simp only [List.take_succ_cons, List.take_zero, List.drop_succ_cons, List.drop_zero, putAll, h0, h1, h2, h3, h4, h5, h6, h7, h8, h9, h10, Nat.zero_add, Nat.reduceAdd]
            go_simp
            go_wp2
            go_roundw
            case rel => exact ⟨i + 1, adO, co, by go_num, hlt, by rw [HX.out], by rw [HX.out]; exact HO.out.gr hg, HG.out.trans hg, by rw [HX.out]; exact hM⟩
            case measure => simp [intOf]; omega
        | false =>
          rw [hb] at HC HN
          have HX := Lib.hid (show R (i + 1) = R i ++ [c] by rw [HN.out]; rfl)
          clear HN hb
          generalize R i = o at *
          have m1 : o.length + 1 ≤ maxLen := by unfold maxLen; omega
          have m2 : (o.length + 1) * 48 ≤ 140737488355328 := by omega
          go_wp2
          refine region_any_gr _ [Is (.pointer (some ⟨g, 0, none⟩)), Is (.pointer (some ⟨g, 0, none⟩)), Is (.pointer (some ⟨g, 0, none⟩)), Is (.slice (some ⟨bt, ot, none⟩) C.length cc), Is (.int .i64 (i : Int)), Is (.pointer (some ⟨bt, ot + i * 4, none⟩)), Is (.pointer (some ⟨bt, ot + i * 4, none⟩)), Is (.agg #[.string (str c.key), .int .i64 c.seq, .int .i64 c.kind]), Is (.agg #[.string (str v.key), .int .i64 v.seq, .int .i64 v.kind]), Is (.bool false), Is (.bool true)] (by kernel_rfl) (by kernel_rfl) (by kernel_rfl) rfl rfl ⟨Is.stable _, Is.stable _, Is.stable _, Is.stable _, Is.stable _, Is.stable _, Is.stable _, Is.stable _, Is.stable _, Is.stable _, Is.stable _, trivial⟩ ⟨?s0x3, ?s1x3, ?s2x3, ?s3x3, ?s4x3, ?s5x3, ?s6x3, ?s7x3, ?s8x3, ?s9x3, ?s10x3, trivial⟩ ?finx3
          case' s0x3 | s1x3 | s2x3 | s3x3 | s4x3 | s5x3 | s6x3 | s7x3 | s8x3 | s9x3 | s10x3 =>
            intro ρ wr hρ hg hK
            simp [readsOf, slotsOf, Op.operands, Call.operands, tmpOf, List.filterMap_cons, List.filterMap_nil, KnownAll, knownOf, srcOf, depsOf, dstOf, Region.binds, nth, Is] at hK
            obtain ⟨hc, hf, hgl⟩ := hρ
            try simp only [wantedBy, dstOf, boolOf, nth, List.getD_cons_zero, List.getD_cons_succ, List.getElem?_cons_zero, List.getElem?_cons_succ, Option.bind_some, if_true, hK, BEq.rfl]
            try go_simp
            first | exact rfl | (rw [if_pos (by omega)]; exact is_here rfl) | (rw [dif_pos (by omega)]; exact is_here rfl) | exact congrArg (Value.int _) (IntWalk.i64_in _ ⟨by omega, by omega⟩) | skip
          case s3x3 => have z0 := hg.cell s0; go_simp; exact rfl
          case s7x3 => have z0 := hg.cell e0; have z1 := hg.cell e1; have z2 := hg.cell e2; go_simp; exact rfl
          case s8x3 => have z0 := hg.cell x0; have z1 := hg.cell x1; have z2 := hg.cell x2; go_simp; exact rfl
          case s9x3 => exact any_gr (HC.out _)
          case finx3 =>
            intro w1 val hg hH
            simp only [Holds, Is, Nat.zero_add, Nat.reduceAdd] at hH
            obtain ⟨h0, h1, h2, h3, h4, h5, h6, h7, h8, h9, h10, _⟩ := hH
            simp only [List.take_succ_cons, List.take_zero, List.drop_succ_cons, List.drop_zero, putAll, h0, h1, h2, h3, h4, h5, h6, h7, h8, h9, h10, Nat.zero_add, Nat.reduceAdd]
            replace s0 := hg.cell s0
            replace e0 := hg.cell e0
            replace e1 := hg.cell e1
            replace e2 := hg.cell e2
            replace e3 := hg.cell e3
            have HO1 := Lib.hid (HO.out.gr (hg.trans (Gr.alloc w1 (.cells #[.string (str c.key), .int .i64 c.seq, .int .i64 c.kind, .string (str c.val)] 44))))
            have HG1 := Lib.hid (HG.out.trans (hg.trans (Gr.alloc w1 (.cells #[.string (str c.key), .int .i64 c.seq, .int .i64 c.kind, .string (str c.val)] 44))))
            go_simp
            go_wp2_with (first
              | (at_builtin; go_must (refine wp_append elemC rfl _ _ rfl rfl HO1.out rfl (src_c4 _ c _ Tryd.underlying22 _ (by simp)) m1 m2 HG1.out.size ?_); intro ad7 c7 w7 o7 k7 f7)
              | fail)
            go_roundw
            case rel =>
              refine ⟨i + 1, ad7, c7, by go_num, hlt, by rw [HX.out]; simp, ?_, ?_, by rw [HX.out]; simp; omega⟩
              · rw [HX.out, cv_append, List.length_append]
                exact o7
              · exact HG1.out.grown k7 (fun k hk => by
                  obtain ⟨y, hy, e⟩ := Option.map_eq_some_iff.1 hk
                  exact e ▸ (HO1.out.lt y hy).1)
            case measure => simp [intOf]; omega
      · have HE := Lib.hid (HFS.out i most.toNat (by omega))
        clear HFS HFA HN
        generalize R i = o at *
        go_wp2
        go_ret2
        exact ⟨adO, co, by rw [HE.out]; rfl, by rw [HE.out]; exact HO.out.base HGW.out.size, HGW.out.trans HG.out⟩
    · obtain rfl : i = C.length := by omega
      have HE := Lib.hid (show FC.take most.toNat = R C.length by
        rw [← HFA.out]
        exact List.take_of_length_le (by omega))
      clear HFN HFS HFA hG HRow
      generalize R C.length = o at *
      go_wp2
      go_ret2
      exact ⟨adO, co, by rw [HE.out]; rfl, by rw [HE.out]; exact HO.out.base HGW.out.size, HGW.out.trans HG.out⟩
theorem filterC_back {C : List Ci} {i : Nat} (p : Ci → Bool) (hi : i < C.length) : ((C.drop i).filter p).reverse = if p C[i] = true then ((C.drop (i + 1)).filter p).reverse ++ [C[i]] else ((C.drop (i + 1)).filter p).reverse := by
  rw [List.drop_eq_getElem_cons hi]
  split
  · rename_i h; rw [List.filter_cons_of_pos h, List.reverse_cons]
  · rename_i h; rw [List.filter_cons_of_neg h]
theorem filterC_halt {C : List Ci} {i n : Nat} (p : Ci → Bool) (h : ((C.drop i).filter p).reverse.length = n) : (C.filter p).reverse.take n = ((C.drop i).filter p).reverse := by
  have : C.filter p = (C.take i).filter p ++ (C.drop i).filter p := by rw [← List.filter_append, List.take_append_drop]
  rw [this, List.reverse_append]
  exact List.take_left' h
theorem filterC_left {C : List Ci} {i : Nat} (p : Ci → Bool) : ((C.drop i).filter p).reverse.length ≤ C.length - i := by
  have h1 := List.length_filter_le p (C.drop i)
  rw [List.length_drop] at h1
  rw [List.length_reverse]; omega
set_option maxRecDepth 100000 in
theorem rAhead_neg (w : World) (p : Value) (v : Vr) (most : Int) (hm : most < 0) : Calls Tryd.prog 22 #[p, ver v.key v.seq v.kind, .int .i64 most] w fun e w' => e = .returned (.tuple #[.slice none 0 0, .int .i64 1]) ∧ Gr w w' := by
  unfold ver
  go_enter Tryd.func22, Tryd.ntmps22
  go_wp2
  go_ret2
  exact ⟨rfl, Gr.alloc _ _⟩
set_option maxRecDepth 100000 in
set_option maxHeartbeats 4000000 in
theorem rAhead_any (w : World) (g : Nat) (C : List Ci) (v : Vr) (most : Int) (h : RefAt w g C) (hl : C.length ≤ 500000000) (h0 : 0 ≤ most) :
    Calls Tryd.prog 22 #[.pointer (some ⟨g, 0, none⟩), ver v.key v.seq v.kind, .int .i64 most] w (RetCs w ((C.filter (fun c => vless c.vr v)).reverse.take most.toNat)) := by
  obtain ⟨ad, cc, z, hb, hr⟩ := h
  have t0 := hb.cell (i := 0) rfl
  have HL := Lib.hid (show ∀ (x : Ci) (w : World), Calls Tryd.prog 29 #[ver x.key x.seq x.kind, ver v.key v.seq v.kind] w fun e w' => e = .returned (.bool (vless x.vr v)) ∧ Gr w w' from fun x w => rLess_any x.key v.key x.seq x.kind v.seq v.kind w)
  have HRC := Lib.hid hr
  have HFN := Lib.hid (fun i (hi : i < C.length) => filterC_back (i := i) (fun c => vless c.vr v) hi)
  have HFS := Lib.hid (fun i n => filterC_halt (C := C) (i := i) (n := n) (fun c => vless c.vr v))
  have HFL := Lib.hid (fun i => filterC_left (C := C) (i := i) (fun c => vless c.vr v))
  have HFA := Lib.hid (show ((C.drop 0).filter (fun c => vless c.vr v)).reverse = (C.filter (fun c => vless c.vr v)).reverse by rw [List.drop_zero])
  have hdm : decide (most < 0) = false := decide_eq_false (by omega)
  obtain ⟨R, hR⟩ : ∃ R : Nat → List Ci, R = fun i => ((C.drop i).filter (fun c => vless c.vr v)).reverse := ⟨_, rfl⟩
  have hRi : ∀ i, ((C.drop i).filter (fun c => vless c.vr v)).reverse = R i := fun i => by rw [hR]
  simp only [hRi] at HFN HFS HFL HFA
  have HR0 := Lib.hid (show R C.length = [] by rw [hR]; simp)
  clear hb hr hRi hR
  generalize (C.filter (fun c => vless c.vr v)).reverse = FC at *
  unfold ver at *
  have t1 := (Gr.alloc w (.cells #[.string (str v.key), .int .i64 v.seq, .int .i64 v.kind] 39)).cell t0
  have hcl : (C.length : Int) ≤ 500000000 := by omega
  go_enter Tryd.func22, Tryd.ntmps22
  go_wp2
  have gW : Gr w (w.alloc (.cells #[.string (str v.key), .int .i64 v.seq, .int .i64 v.kind] 39)) := Gr.alloc _ _
  have bV := Blk.new w 39 #[.string (str v.key), .int .i64 v.seq, .int .i64 v.kind]
  obtain ⟨y0, y1, y2⟩ : _ ∧ _ ∧ _ := ⟨bV.cell (i := 0) rfl, bV.cell (i := 1) rfl, bV.cell (i := 2) rfl⟩
  have HGW := Lib.hid gW
  have HRow := Lib.hid (HRC.out.gr gW).ci
  clear bV gW HRC t0
  generalize w.heap.size = gv at *
  generalize w.alloc (.cells #[.string (str v.key), .int .i64 v.seq, .int .i64 v.kind] 39) = W at *
  go_wp2
  go_loopw [8, 9] (fun vo vi wr => ∃ (j : Nat) (adO : Option Addr) (co : Nat), vi = .int .i64 ((j : Int) - 1) ∧ j ≤ C.length ∧ vo = .slice adO (R j).length co ∧ Owns wr W.heap.size 44 4 adO co (R j).length (cv (R j)) ∧ Gr W wr ∧ ((R j).length : Int) ≤ most) (fun _ vi _ => (intOf vi + 1).toNat)
  case atStart => exact ⟨C.length, none, 0, rfl, Nat.le_refl _, by rw [HR0.out]; rfl, by rw [HR0.out]; exact Owns.empty _ _ _ _, Gr.refl _, by rw [HR0.out]; exact h0⟩
  case round =>
    obtain ⟨j, adO, co, rfl, hi, rfl, hO, hG, hM⟩ := hrel
    have HO := Lib.hid hO
    have HG := Lib.hid hG
    have s0 := hG.cell t1
    have x0 := hG.cell y0
    have x1 := hG.cell y1
    have x2 := hG.cell y2
    have hRl := HFL.out j
    clear hO
    by_cases hlt : 0 < j
    · obtain ⟨i, rfl⟩ : ∃ i, j = i + 1 := ⟨j - 1, by omega⟩
      have hii : ((i + 1 : Nat) : Int) - 1 = (i : Int) := by omega
      simp only [hii]
      clear hlt
      obtain ⟨bt, ot, hade, e0, e1, e2, e3⟩ := HRow.out i hi
      subst hade
      replace e0 := hG.cell e0
      replace e1 := hG.cell e1
      replace e2 := hG.cell e2
      replace e3 := hG.cell e3
      have HN := Lib.hid (HFN.out i hi)
      clear HFN hG HRow hii
      generalize C[i] = c at *
      by_cases hmt : ((R (i + 1)).length : Int) < most
      · have HC := Lib.hid (HL.out c)
        cases hb : vless c.vr v with
        | false =>
          rw [hb] at HC HN
          have HX := Lib.hid (show R i = R (i + 1) by rw [HN.out]; rfl)
          clear HN hb
          generalize R (i + 1) = o at *
          go_wp2
          refine region_any_gr _ [Is (.pointer (some ⟨g, 0, none⟩)), Is (.pointer (some ⟨g, 0, none⟩)), Is (.pointer (some ⟨g, 0, none⟩)), Is (.slice (some ⟨bt, ot, none⟩) C.length cc), Is (.int .i64 (i : Int)), Is (.pointer (some ⟨bt, ot + i * 4, none⟩)), Is (.pointer (some ⟨bt, ot + i * 4, none⟩)), Is (.agg #[.string (str c.key), .int .i64 c.seq, .int .i64 c.kind]), Is (.agg #[.string (str v.key), .int .i64 v.seq, .int .i64 v.kind]), Is (.bool false)] (by kernel_rfl) (by kernel_rfl) (by kernel_rfl) rfl rfl ⟨Is.stable _, Is.stable _, Is.stable _, Is.stable _, Is.stable _, Is.stable _, Is.stable _, Is.stable _, Is.stable _, Is.stable _, trivial⟩ ⟨?s0x4, ?s1x4, ?s2x4, ?s3x4, ?s4x4, ?s5x4, ?s6x4, ?s7x4, ?s8x4, ?s9x4, trivial⟩ ?finx4
          case' s0x4 | s1x4 | s2x4 | s3x4 | s4x4 | s5x4 | s6x4 | s7x4 | s8x4 | s9x4 =>
            intro ρ wr hρ hg hK
            simp [readsOf, slotsOf, Op.operands, Call.operands, tmpOf, List.filterMap_cons, List.filterMap_nil, KnownAll, knownOf, srcOf, depsOf, dstOf, Region.binds, nth, Is] at hK
            obtain ⟨hc, hf, hgl⟩ := hρ
            try simp only [wantedBy, dstOf, boolOf, nth, List.getD_cons_zero, List.getD_cons_succ, List.getElem?_cons_zero, List.getElem?_cons_succ, Option.bind_some, if_true, hK, BEq.rfl]
            try go_simp
            first | exact rfl | (rw [if_pos (by omega)]; exact is_here rfl) | (rw [dif_pos (by omega)]; exact is_here rfl) | exact congrArg (Value.int _) (IntWalk.i64_in _ ⟨by omega, by omega⟩) | skip
          case s3x4 => have z0 := hg.cell s0; go_simp; exact rfl
          case s7x4 => have z0 := hg.cell e0; have z1 := hg.cell e1; have z2 := hg.cell e2; go_simp; exact rfl
          case s8x4 => have z0 := hg.cell x0; have z1 := hg.cell x1; have z2 := hg.cell x2; go_simp; exact rfl
          case s9x4 => exact any_gr (HC.out _)
          case finx4 =>
            intro w1 val hg hH
            simp only [Holds, Is, Nat.zero_add, Nat.reduceAdd] at hH
            obtain ⟨h0, h1, h2, h3, h4, h5, h6, h7, h8, h9, _⟩ := hH
            simp only [List.take_succ_cons, List.take_zero, List.drop_succ_cons, List.drop_zero, putAll, h0, h1, h2, h3, h4, h5, h6, h7, h8, h9, Nat.zero_add, Nat.reduceAdd]
            go_simp
            go_wp2
            go_roundw
            case rel => exact ⟨i, adO, co, rfl, by omega, by rw [HX.out], by rw [HX.out]; exact HO.out.gr hg, HG.out.trans hg, by rw [HX.out]; exact hM⟩
            case measure => simp [intOf] <;> omega
        | true =>
          rw [hb] at HC HN
          have HX := Lib.hid (show R i = R (i + 1) ++ [c] by rw [HN.out]; rfl)
          clear HN hb
          generalize R (i + 1) = o at *
          have m1 : o.length + 1 ≤ maxLen := by unfold maxLen; omega
          have m2 : (o.length + 1) * 48 ≤ 140737488355328 := by omega
          go_wp2
          refine region_any_gr _ [Is (.pointer (some ⟨g, 0, none⟩)), Is (.pointer (some ⟨g, 0, none⟩)), Is (.pointer (some ⟨g, 0, none⟩)), Is (.slice (some ⟨bt, ot, none⟩) C.length cc), Is (.int .i64 (i : Int)), Is (.pointer (some ⟨bt, ot + i * 4, none⟩)), Is (.pointer (some ⟨bt, ot + i * 4, none⟩)), Is (.agg #[.string (str c.key), .int .i64 c.seq, .int .i64 c.kind]), Is (.agg #[.string (str v.key), .int .i64 v.seq, .int .i64 v.kind]), Is (.bool true)] (by kernel_rfl) (by kernel_rfl) (by kernel_rfl) rfl rfl ⟨Is.stable _, Is.stable _, Is.stable _, Is.stable _, Is.stable _, Is.stable _, Is.stable _, Is.stable _, Is.stable _, Is.stable _, trivial⟩ ⟨?s0x5, ?s1x5, ?s2x5, ?s3x5, ?s4x5, ?s5x5, ?s6x5, ?s7x5, ?s8x5, ?s9x5, trivial⟩ ?finx5
          case' s0x5 | s1x5 | s2x5 | s3x5 | s4x5 | s5x5 | s6x5 | s7x5 | s8x5 | s9x5 =>
            intro ρ wr hρ hg hK
            simp [readsOf, slotsOf, Op.operands, Call.operands, tmpOf, List.filterMap_cons, List.filterMap_nil, KnownAll, knownOf, srcOf, depsOf, dstOf, Region.binds, nth, Is] at hK
            obtain ⟨hc, hf, hgl⟩ := hρ
            try simp only [wantedBy, dstOf, boolOf, nth, List.getD_cons_zero, List.getD_cons_succ, List.getElem?_cons_zero, List.getElem?_cons_succ, Option.bind_some, if_true, hK, BEq.rfl]
            try go_simp
            first | exact rfl | (rw [if_pos (by omega)]; exact is_here rfl) | (rw [dif_pos (by omega)]; exact is_here rfl) | exact congrArg (Value.int _) (IntWalk.i64_in _ ⟨by omega, by omega⟩) | skip
          case s3x5 => have z0 := hg.cell s0; go_simp; exact rfl
          case s7x5 => have z0 := hg.cell e0; have z1 := hg.cell e1; have z2 := hg.cell e2; go_simp; exact rfl
          case s8x5 => have z0 := hg.cell x0; have z1 := hg.cell x1; have z2 := hg.cell x2; go_simp; exact rfl
          case s9x5 => exact any_gr (HC.out _)
          case finx5 =>
            intro w1 val hg hH
            simp only [Holds, Is, Nat.zero_add, Nat.reduceAdd] at hH
            obtain ⟨h0, h1, h2, h3, h4, h5, h6, h7, h8, h9, _⟩ := hH
            simp only [List.take_succ_cons, List.take_zero, List.drop_succ_cons, List.drop_zero, putAll, h0, h1, h2, h3, h4, h5, h6, h7, h8, h9, Nat.zero_add, Nat.reduceAdd]
            replace s0 := hg.cell s0
            replace e0 := hg.cell e0
            replace e1 := hg.cell e1
            replace e2 := hg.cell e2
            replace e3 := hg.cell e3
            have HO1 := Lib.hid (HO.out.gr (hg.trans (Gr.alloc w1 (.cells #[.string (str c.key), .int .i64 c.seq, .int .i64 c.kind, .string (str c.val)] 44))))
            have HG1 := Lib.hid (HG.out.trans (hg.trans (Gr.alloc w1 (.cells #[.string (str c.key), .int .i64 c.seq, .int .i64 c.kind, .string (str c.val)] 44))))
            go_simp
            go_wp2_with (first
              | (at_builtin; go_must (refine wp_append elemC rfl _ _ rfl rfl HO1.out rfl (src_c4 _ c _ Tryd.underlying22 _ (by simp)) m1 m2 HG1.out.size ?_); intro ad7 c7 w7 o7 k7 f7)
              | fail)
            go_roundw
            case rel =>
              refine ⟨i, ad7, c7, rfl, by omega, by rw [HX.out]; simp, ?_, ?_, by rw [HX.out]; simp; omega⟩
              · rw [HX.out, cv_append, List.length_append]
                exact o7
              · exact HG1.out.grown k7 (fun k hk => by
                  obtain ⟨y, hy, e⟩ := Option.map_eq_some_iff.1 hk
                  exact e ▸ (HO1.out.lt y hy).1)
            case measure => simp [intOf] <;> omega
      · have HE := Lib.hid (HFS.out (i + 1) most.toNat (by omega))
        clear HFS HFA HN
        generalize R (i + 1) = o at *
        go_wp2
        go_ret2
        exact ⟨adO, co, by rw [HE.out]; rfl, by rw [HE.out]; exact HO.out.base HGW.out.size, HGW.out.trans HG.out⟩
    · obtain rfl : j = 0 := by omega
      have HE := Lib.hid (show FC.take most.toNat = R 0 by
        rw [← HFA.out]
        exact List.take_of_length_le (by omega))
      clear HFN HFS HFA hG HRow
      generalize R 0 = o at *
      go_wp2
      go_ret2
      exact ⟨adO, co, by rw [HE.out]; rfl, by rw [HE.out]; exact HO.out.base HGW.out.size, HGW.out.trans HG.out⟩
def hitF (key : List UInt8) (seq : Int) (c : Ci) : Bool := c.key == key && decide (c.seq ≤ seq)
def rgetF (C : List Ci) (key : List UInt8) (seq : Int) : Ci × Int := match C.find? (hitF key seq) with | some c => (c, 0) | none => (zeroC, 7)
theorem rget_go {C : List Ci} {i : Nat} {key : List UInt8} {seq : Int} (hi : i < C.length) (h : hitF key seq C[i] = false) : rgetF (C.drop i) key seq = rgetF (C.drop (i + 1)) key seq := by
  unfold rgetF
  rw [List.drop_eq_getElem_cons hi, List.find?_cons_of_neg (by rw [h]; decide)]
theorem rget_hit {C : List Ci} {i : Nat} {key : List UInt8} {seq : Int} (hi : i < C.length) (h : hitF key seq C[i] = true) : rgetF (C.drop i) key seq = (C[i], 0) := by
  unfold rgetF
  rw [List.drop_eq_getElem_cons hi, List.find?_cons_of_pos h]
theorem rget_end {C : List Ci} {i : Nat} {key : List UInt8} {seq : Int} (h : C.length ≤ i) : rgetF (C.drop i) key seq = (zeroC, 7) := by
  rw [List.drop_of_length_le h]; rfl
set_option maxRecDepth 100000 in
set_option maxHeartbeats 4000000 in
theorem rGet_of (w : World) (g : Nat) (C : List Ci) (key : List UInt8) (seq : Int) (h : RefAt w g C) (hl : C.length ≤ 500000000) :
    Calls Tryd.prog 19 #[.pointer (some ⟨g, 0, none⟩), .string (str key), .int .i64 seq] w fun e w' => e = .returned (.tuple #[cellOf (rgetF C key seq).1, .int .i64 (rgetF C key seq).2]) ∧ Gr w w' := by
  obtain ⟨ad, cc, z, hb, hr⟩ := h
  have HB := Lib.hid (Blk.new w 44 #[.string ⟨#[]⟩, .int .i64 0, .int .i64 0, .string ⟨#[]⟩])
  have HFIN := Lib.hid (fun (w2 : World) hb (g2 : Gr w w2) c => got (w := w) (w2 := w2) (gb := w.heap.size) (L := [.string ⟨#[]⟩, .int .i64 0, .int .i64 0, .string ⟨#[]⟩]) (Nat.le_refl _) hb rfl c g2)
  have g1 : Gr w (w.alloc (.cells #[.string ⟨#[]⟩, .int .i64 0, .int .i64 0, .string ⟨#[]⟩] 44)) := Gr.alloc _ _
  have t0 := (hb.gr g1).cell (i := 0) rfl
  have HRow := Lib.hid (hr.gr g1).ci
  have HG1 := Lib.hid g1
  have HS := Lib.hid (show rgetF C key seq = rgetF (C.drop 0) key seq by rw [List.drop_zero])
  obtain ⟨q, hq⟩ : ∃ q, q = rgetF C key seq := ⟨_, rfl⟩
  rw [← hq] at HS ⊢
  clear hb hr g1 hq
  go_enter Tryd.func19, Tryd.ntmps19
  go_wp2
  go_loopw [8] (fun vi wr => ∃ i : Nat, vi = .int .i64 (i : Int) ∧ i ≤ C.length ∧ wr = w.alloc (.cells #[.string ⟨#[]⟩, .int .i64 0, .int .i64 0, .string ⟨#[]⟩] 44) ∧ q = rgetF (C.drop i) key seq) (fun vi _ => C.length - (intOf vi).toNat)
  case atStart => exact ⟨0, rfl, Nat.zero_le _, rfl, HS.out⟩
  case round =>
    obtain ⟨i, rfl, hi, hW, hE⟩ := hrel
    subst hW
    have HE := Lib.hid hE
    have hb := HB.out
    obtain ⟨f0, f1, f2, f3⟩ : _ ∧ _ ∧ _ ∧ _ := ⟨hb.frozen 0, hb.frozen 1, hb.frozen 2, hb.frozen 3⟩
    obtain ⟨z0, z1, z2, z3⟩ : _ ∧ _ ∧ _ ∧ _ := ⟨hb.cell (i := 0) rfl, hb.cell (i := 1) rfl, hb.cell (i := 2) rfl, hb.cell (i := 3) rfl⟩
    have HQ := Lib.hid (HFIN.out _ hb HG1.out)
    clear hE hb
    by_cases hlt : i < C.length
    · obtain ⟨bt, ot, hade, e0, e1, e2, e3⟩ := HRow.out i hlt
      subst hade
      have HN := Lib.hid (fun h => HE.out.trans (rget_go (key := key) (seq := seq) hlt h))
      have HH := Lib.hid (fun h => HE.out.trans (rget_hit (key := key) (seq := seq) hlt h))
      clear HE
      generalize C[i] = c at *
      by_cases hk : c.key = key
      · by_cases hs : c.seq ≤ seq
        · have HX := Lib.hid (HH.out (by unfold hitF; simp [hk, hs]))
          have hkb : (c.key == key) = true := by rw [hk]; exact beq_self_eq_true _
          clear hk HN HH
          go_wp2
          obtain ⟨hq, hgr⟩ := HQ.out c
          have q0 := hq.cell (i := 0) rfl
          have q1 := hq.cell (i := 1) rfl
          have q2 := hq.cell (i := 2) rfl
          have q3 := hq.cell (i := 3) rfl
          rw [HX.out]
          refine bodyPost_ret (v := .tuple #[.agg #[.string (str c.key), .int .i64 c.seq, .int .i64 c.kind, .string (str c.val)], .int .i64 0]) (by simp [results, Tryd.results19, go_sem, q0, q1, q2, q3]) rfl ?_
          exact ⟨rfl, Gr.alloc _ _⟩
        · have HX := Lib.hid (HN.out (by unfold hitF; simp [hs]))
          have hkb : (c.key == key) = true := by rw [hk]; exact beq_self_eq_true _
          clear hk HN HH
          go_wp2
          go_roundw
          case rel => exact ⟨i + 1, by go_num, hlt, trivial, HX.out⟩
          case measure => simp [intOf]; omega
      · have HX := Lib.hid (HN.out (by unfold hitF; simp [hk]))
        have hkb : (c.key == key) = false := by rw [beq_eq_false_iff_ne]; exact hk
        clear hk HN HH
        go_wp2
        go_roundw
        case rel => exact ⟨i + 1, by go_num, hlt, trivial, HX.out⟩
        case measure => simp [intOf]; omega
    · have HX := Lib.hid (HE.out.trans (rget_end (key := key) (seq := seq) (show C.length ≤ i by omega)))
      obtain rfl : i = C.length := by omega
      clear HE
      go_wp2
      obtain ⟨hq, hgr⟩ := HQ.out zeroC
      have q0 := hq.cell (i := 0) rfl
      have q1 := hq.cell (i := 1) rfl
      have q2 := hq.cell (i := 2) rfl
      have q3 := hq.cell (i := 3) rfl
      rw [HX.out]
      unfold zeroC str at q0 q1 q2 q3
      refine bodyPost_ret (v := .tuple #[.agg #[.string ⟨#[]⟩, .int .i64 0, .int .i64 0, .string ⟨#[]⟩], .int .i64 7]) (by simp [results, Tryd.results19, go_sem, q0, q1, q2, q3]) rfl ?_
      exact ⟨rfl, Gr.alloc _ _⟩
end Go.Proofs.YtlfbelocdpboeaaDoor
