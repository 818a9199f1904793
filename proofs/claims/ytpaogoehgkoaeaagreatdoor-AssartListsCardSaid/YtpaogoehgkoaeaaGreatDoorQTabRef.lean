/- Layer 14 (table): the reference's Cells, and its table's Get, From and Ahead walked. -/
import Derived.Test.YtpaogoehgkoaeaaGreatDoorQTabRev
import Derived.Test.YtpaogoehgkoaeaaGreatDoorQTabSpoilM
namespace Go.Proofs.YtpaogoehgkoaeaaGreatDoor
set_option linter.unusedVariables false
set_option linter.unusedSimpArgs false
open Go.RowKit Tab
instance : DecidableEq Ci := fun a b => decidable_of_iff (a.key = b.key ∧ a.seq = b.seq ∧ a.kind = b.kind ∧ a.val = b.val) ⟨fun ⟨h1, h2, h3, h4⟩ => by cases a; cases b; simp_all, fun h => by rw [h]; exact ⟨rfl, rfl, rfl, rfl⟩⟩
set_option maxRecDepth 100000 in
set_option maxHeartbeats 1000000 in
theorem rCells_any (ad ad' : Option Addr) (cap cap' : Nat) (A B : List Ci) (w : World) (ha : Row w ad (cv A)) (hb : Row w ad' (cv B)) (hl : A.length ≤ 500000000) (hl' : B.length ≤ 500000000) :
    Calls Tryz.prog 14 #[.slice ad A.length cap, .slice ad' B.length cap'] w fun e w' => e = .returned (.bool (decide (A = B))) ∧ Gr w w' := by
  have HA := Lib.hid ha.ci
  have HB := Lib.hid hb.ci
  clear ha hb
  by_cases hn : A.length = B.length
  · have HN := Lib.hid hn
    have hnb : ((A.length : Int) != (B.length : Int)) = false := by rw [bne_eq_false_iff_eq]; omega
    clear hn
    go_enter Tryz.func14, Tryz.ntmps14
    go_wp2
    go_loopw [5] (fun vi wr => ∃ i : Nat, vi = .int .i64 (i : Int) ∧ i ≤ A.length ∧ A.take i = B.take i ∧ Gr w wr) (fun vi _ => A.length - (intOf vi).toNat)
    case atStart => exact ⟨0, rfl, Nat.zero_le _, rfl, Gr.refl _⟩
    case round =>
      obtain ⟨i, rfl, hi, hT, hG⟩ := hrel
      have HT := Lib.hid hT
      have HG := Lib.hid hG
      clear hT
      by_cases hlt : i < A.length
      · have hlt2 : i < B.length := by rw [← HN.out]; exact hlt
        obtain ⟨b, off, hade, e0, e1, e2, e3⟩ := HA.out i hlt
        subst hade
        obtain ⟨b', off', hade', z0, z1, z2, z3⟩ := HB.out i hlt2
        subst hade'
        have f0 := hG.cell e0
        have f1 := hG.cell e1
        have f2 := hG.cell e2
        have f3 := hG.cell e3
        have k0 := hG.cell z0
        have k1 := hG.cell z1
        have k2 := hG.cell z2
        have k3 := hG.cell z3
        have HS := Lib.hid (fun (h : A[i] = B[i]) => show A.take (i + 1) = B.take (i + 1) by rw [List.take_succ_eq_append_getElem hlt, List.take_succ_eq_append_getElem hlt2, h, HT.out])
        have HS2 := Lib.hid (fun (h : A = B) => show A[i] = B[i] by subst h; rfl)
        clear e0 e1 e2 e3 z0 z1 z2 z3 HA HB hG
        generalize A[i] = x at *
        generalize B[i] = y at *
        by_cases hxy : x = y
        · have HX := Lib.hid (HS.out hxy)
          subst hxy
          clear HS HS2
          go_wp2
          refine region_any_gr _ [Is (.slice (some ⟨b, off, none⟩) A.length cap), Is (.int .i64 (i : Int)), Is (.pointer (some ⟨b, off + i * 4, none⟩)), Is (.agg #[.string (str x.key), .int .i64 x.seq, .int .i64 x.kind, .string (str x.val)]), Is (.slice (some ⟨b', off', none⟩) B.length cap'), Is (.int .i64 (i : Int)), Is (.pointer (some ⟨b', off' + i * 4, none⟩)), Is (.agg #[.string (str x.key), .int .i64 x.seq, .int .i64 x.kind, .string (str x.val)]), Is (.bool false)] (by kernel_rfl) (by kernel_rfl) (by kernel_rfl) rfl rfl ⟨Is.stable _, Is.stable _, Is.stable _, Is.stable _, Is.stable _, Is.stable _, Is.stable _, Is.stable _, Is.stable _, trivial⟩ ⟨?s0, ?s1, ?s2, ?s3, ?s4, ?s5, ?s6, ?s7, ?s8, trivial⟩ ?fin
          case' s0 | s1 | s2 | s3 | s4 | s5 | s6 | s7 | s8 =>
            intro ρ wr hρ hg hK
            simp [readsOf, slotsOf, Op.operands, Call.operands, tmpOf, List.filterMap_cons, List.filterMap_nil, KnownAll, knownOf, srcOf, depsOf, dstOf, Region.binds, nth, Is] at hK
            obtain ⟨hc, hf, hgl⟩ := hρ
            try simp only [wantedBy, dstOf, boolOf, nth, List.getD_cons_zero, List.getD_cons_succ, List.getElem?_cons_zero, List.getElem?_cons_succ, Option.bind_some, if_true, hK, BEq.rfl]
            try go_simp
            first | exact rfl | (rw [if_pos (by omega)]; exact is_here rfl) | (rw [dif_pos (by omega)]; exact is_here rfl) | exact congrArg (Value.int _) (IntWalk.i64_in _ ⟨by omega, by omega⟩) | skip
          case s3 => have z0 := hg.cell f0; have z1 := hg.cell f1; have z2 := hg.cell f2; have z3 := hg.cell f3; go_simp; exact rfl
          case s7 => have z0 := hg.cell k0; have z1 := hg.cell k1; have z2 := hg.cell k2; have z3 := hg.cell k3; go_simp; exact rfl
          case fin =>
            intro w1 val hg hH
            simp only [Holds, Is, Nat.zero_add, Nat.reduceAdd] at hH
            obtain ⟨h0, h1, h2, h3, h4, h5, h6, h7, h8, _⟩ := hH
            simp only [List.take_succ_cons, List.take_zero, List.drop_succ_cons, List.drop_zero, putAll, h0, h1, h2, h3, h4, h5, h6, h7, h8, Nat.zero_add, Nat.reduceAdd]
            go_simp
            go_wp2
            go_roundw
            case rel => exact ⟨i + 1, by go_num, hlt, HX.out, HG.out.trans hg⟩
            case measure => simp [intOf]; omega
        · have hD : decide (A = B) = false := decide_eq_false (fun h => hxy (HS2.out h))
          obtain ⟨xk, xs, xd, xv⟩ := x
          obtain ⟨yk, ys, yd, yv⟩ := y
          have HQ := Lib.hid (show xk = yk → xs = ys → xd = yd → xv = yv → False from fun q1 q2 q3 q4 => hxy (by rw [q1, q2, q3, q4]))
          simp only at f0 f1 f2 f3 k0 k1 k2 k3
          have HD := Lib.hid hD
          clear HS HS2 hxy hD
          go_wp2
          refine region_any_gr _ [Is (.slice (some ⟨b, off, none⟩) A.length cap), Is (.int .i64 (i : Int)), Is (.pointer (some ⟨b, off + i * 4, none⟩)), Is (.agg #[.string (str xk), .int .i64 xs, .int .i64 xd, .string (str xv)]), Is (.slice (some ⟨b', off', none⟩) B.length cap'), Is (.int .i64 (i : Int)), Is (.pointer (some ⟨b', off' + i * 4, none⟩)), Is (.agg #[.string (str yk), .int .i64 ys, .int .i64 yd, .string (str yv)]), Is (.bool true)] (by kernel_rfl) (by kernel_rfl) (by kernel_rfl) rfl rfl ⟨Is.stable _, Is.stable _, Is.stable _, Is.stable _, Is.stable _, Is.stable _, Is.stable _, Is.stable _, Is.stable _, trivial⟩ ⟨?s0x1, ?s1x1, ?s2x1, ?s3x1, ?s4x1, ?s5x1, ?s6x1, ?s7x1, ?s8x1, trivial⟩ ?finx1
          case' s0x1 | s1x1 | s2x1 | s3x1 | s4x1 | s5x1 | s6x1 | s7x1 | s8x1 =>
            intro ρ wr hρ hg hK
            simp [readsOf, slotsOf, Op.operands, Call.operands, tmpOf, List.filterMap_cons, List.filterMap_nil, KnownAll, knownOf, srcOf, depsOf, dstOf, Region.binds, nth, Is] at hK
            obtain ⟨hc, hf, hgl⟩ := hρ
            try simp only [wantedBy, dstOf, boolOf, nth, List.getD_cons_zero, List.getD_cons_succ, List.getElem?_cons_zero, List.getElem?_cons_succ, Option.bind_some, if_true, hK, BEq.rfl]
            try go_simp
            first | exact rfl | (rw [if_pos (by omega)]; exact is_here rfl) | (rw [dif_pos (by omega)]; exact is_here rfl) | exact congrArg (Value.int _) (IntWalk.i64_in _ ⟨by omega, by omega⟩) | skip
          case s3x1 => have z0 := hg.cell f0; have z1 := hg.cell f1; have z2 := hg.cell f2; have z3 := hg.cell f3; go_simp; exact rfl
          case s7x1 => have z0 := hg.cell k0; have z1 := hg.cell k1; have z2 := hg.cell k2; have z3 := hg.cell k3; go_simp; exact rfl
          case s8x1 =>
            split
            · rename_i q1
              split
              · rename_i q2
                split
                · rename_i q3
                  split
                  · rename_i q4
                    exact (HQ.out q1 q2 q3 q4).elim
                  · exact is_here rfl
                · exact is_here rfl
              · exact is_here rfl
            · exact is_here rfl
          case finx1 =>
            intro w1 val hg hH
            simp only [Holds, Is, Nat.zero_add, Nat.reduceAdd] at hH
            obtain ⟨h0, h1, h2, h3, h4, h5, h6, h7, h8, _⟩ := hH
            simp only [List.take_succ_cons, List.take_zero, List.drop_succ_cons, List.drop_zero, putAll, h0, h1, h2, h3, h4, h5, h6, h7, h8, Nat.zero_add, Nat.reduceAdd]
            go_simp
            go_wp2
            go_ret
            rw [HD.out]
            exact ⟨rfl, HG.out.trans hg⟩
      · obtain rfl : i = A.length := by omega
        have HE := Lib.hid (show decide (A = B) = true from decide_eq_true (by
          have h1 := HT.out
          rw [List.take_length, HN.out, List.take_length] at h1
          exact h1))
        go_wp2
        go_ret
        rw [HE.out]
        exact ⟨rfl, HG.out⟩
  · have hnb : ((A.length : Int) != (B.length : Int)) = true := by rw [bne_iff_ne]; omega
    have HE := Lib.hid (show decide (A = B) = false from decide_eq_false (fun h => hn (by rw [h])))
    clear hn
    go_enter Tryz.func14, Tryz.ntmps14
    go_wp2
    go_ret
    rw [HE.out]
    exact ⟨rfl, Gr.refl _⟩
def hitF (key : List UInt8) (seq : Int) (c : Ci) : Bool := c.key == key && decide (c.seq ≤ seq)
def rgetF (C : List Ci) (key : List UInt8) (seq : Int) : Ci × Int := match C.find? (hitF key seq) with | some c => (c, 0) | none => (zeroC, 7)
end Go.Proofs.YtpaogoehgkoaeaaGreatDoor
