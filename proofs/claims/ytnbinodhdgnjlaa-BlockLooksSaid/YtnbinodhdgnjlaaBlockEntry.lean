/- Layer 13 (block): entry. -/
import Derived.Test.YtnbinodhdgnjlaaBlockParts
import Derived.Test.YtnbinodhdgnjlaaAnyS
namespace Go.Proofs.Ytnbinodhdgnjlaa
set_option linter.unusedVariables false
set_option linter.unusedSimpArgs false
open Go.RowKit Bk
def EntryIs (o : Option (Pr × Nat)) (p : Pr) (t : Int) (ok : Bool) : Prop :=
  match o with
  | none => ok = false
  | some (p', t') => ok = true ∧ p = p' ∧ t = (t' : Int)
def RetEntry (w : World) (o : Option (Pr × Nat)) : Ending → World → Prop := fun x w' =>
  ∃ (p : Pr) (t : Int) (ok : Bool), x = .returned (.tuple #[.agg #[.string (str p.1), .string (str p.2)], .int .i64 t, .bool ok]) ∧ Gr w w' ∧ EntryIs o p t ok
theorem Get_from (b : List UInt8) (bl off cap a n k e : Nat) (w : World) (hg : Varint.getF (b.drop a) = (n, k, e)) (hc : b.length < cap) (hm : cap ≤ maxLen) (hb : Bytes w (some ⟨bl, off, none⟩) b) (m : Nat) (hmm : m = b.length - a) (c : Nat) :
    Calls Try.prog 54 #[.slice (some ⟨bl, off + a, none⟩) m c] w fun x w' => x = .returned (.tuple #[.int .u64 (n : Int), .int .i64 (k : Int), .int .i64 (e : Int)]) ∧ w = w' := by
  have h := Get_any (some ⟨bl, off + a, .none⟩) m c (b.drop a) w (by rw [List.length_drop]; omega) (by omega) (hb.drop a)
  rw [hg] at h
  exact h
theorem get_parts (b : List UInt8) (a : Nat) (ha : a ≤ b.length) : ∃ n k e, Varint.getF (b.drop a) = (n, k, e) ∧ n < 18446744073709551616 ∧ a + k ≤ b.length := by
  have h := Varint.getF_le (b.drop a)
  rw [List.length_drop] at h
  exact ⟨(Varint.getF (b.drop a)).1, (Varint.getF (b.drop a)).2.1, (Varint.getF (b.drop a)).2.2, rfl, Varint.getF_lt _, by omega⟩
set_option maxRecDepth 100000 in
set_option maxHeartbeats 4000000 in
theorem entry_any (bl off cap : Nat) (b : List UInt8) (a : Nat) (key : List UInt8) (w : World) (hl : b.length ≤ 1000000000) (hc : b.length < cap) (hm : cap ≤ maxLen) (ha : a ≤ b.length) (hk : key.length ≤ 1000000000) (hbl : bl < w.heap.size) (hb : Bytes w (some ⟨bl, off, none⟩) b) :
    Calls Try.prog 35 #[.slice (some ⟨bl, off, none⟩) b.length cap, .int .i64 (a : Int), .string (str key)] w (RetEntry w (entryF b a key)) := by
  have hmx : cap ≤ 9223372036854775807 := by unfold maxLen at hm; omega
  obtain ⟨n0, k0, e0, g0, hn0, ha1⟩ := get_parts b a ha
  obtain ⟨a1, ha1e⟩ : ∃ a1, a1 = a + k0 := ⟨_, rfl⟩
  obtain ⟨n1, k1, e1, g1, hn1, ha2⟩ := get_parts b a1 (by omega)
  obtain ⟨a2, ha2e⟩ : ∃ a2, a2 = a1 + k1 := ⟨_, rfl⟩
  obtain ⟨n2, k2, e2, g2, hn2, ha3⟩ := get_parts b a2 (by omega)
  obtain ⟨t, hte⟩ : ∃ t, t = a2 + k2 := ⟨_, rfl⟩
  have HE := Lib.hid (show entryF b a key = if e0 ≠ 0 then none else if e1 ≠ 0 then none else if e2 ≠ 0 then none else if key.length < n0 ∨ 200 < n1 ∨ 2000 < n2 ∨ b.length - t < n1 + n2 then none else
      some ((key.take n0 ++ (b.drop t).take n1, (b.drop (t + n1)).take n2), t + n1 + n2) by
    unfold entryF; simp only [g0, ← ha1e, g1, ← ha2e, g2, ← hte])
  have HG0 := Lib.hid (fun w' (g : Gr w w') m hmm c => Get_from b bl off cap a n0 k0 e0 w' g0 hc hm (hb.gr g) m hmm c)
  have HG1 := Lib.hid (fun w' (g : Gr w w') m hmm c => Get_from b bl off cap a1 n1 k1 e1 w' g1 hc hm (hb.gr g) m hmm c)
  have HG2 := Lib.hid (fun w' (g : Gr w w') m hmm c => Get_from b bl off cap a2 n2 k2 e2 w' g2 hc hm (hb.gr g) m hmm c)
  have hx1 : (a : Int) + (k0 : Int) = (a1 : Int) := by omega
  have hx2 : (a1 : Int) + (k1 : Int) = (a2 : Int) := by omega
  have hx3 : (a2 : Int) + (k2 : Int) = (t : Int) := by omega
  have hB := Lib.hid hb
  have htl : t ≤ b.length := by omega
  have ht1 : a1 ≤ b.length := by omega
  have ht2 : a2 ≤ b.length := by omega
  clear g0 g1 g2 hb ha1e ha2e hte ha1 ha2 ha3
  by_cases h0 : e0 = 0
  · have z0 : ((e0 : Int) != 0) = false := by rw [bne_eq_false_iff_eq]; omega
    have HE1 := Lib.hid (HE.out.trans (if_neg (show ¬ e0 ≠ 0 by omega)))
    clear HE
    by_cases h1 : e1 = 0
    · have z1 : ((e1 : Int) != 0) = false := by rw [bne_eq_false_iff_eq]; omega
      have HE2 := Lib.hid (HE1.out.trans (if_neg (show ¬ e1 ≠ 0 by omega)))
      clear HE1
      by_cases h2 : e2 = 0
      · have z2 : ((e2 : Int) != 0) = false := by rw [bne_eq_false_iff_eq]; omega
        have HE3 := Lib.hid (HE2.out.trans (if_neg (show ¬ e2 ≠ 0 by omega)))
        clear HE2
        by_cases hb : key.length < n0 ∨ 200 < n1 ∨ 2000 < n2 ∨ b.length - t < n1 + n2
        · have HN := Lib.hid (HE3.out.trans (if_pos hb))
          have hb4 : key.length < n0 ∨ (n0 ≤ key.length ∧ 200 < n1) ∨ (n0 ≤ key.length ∧ n1 ≤ 200 ∧ 2000 < n2) ∨ (n0 ≤ key.length ∧ n1 ≤ 200 ∧ n2 ≤ 2000 ∧ b.length < n1 + n2 + t) := by omega
          clear hb h0 h1 h2
          rcases hb4 with hb4 | ⟨hb4, hb5⟩ | ⟨hb4, hb5, hb6⟩ | ⟨hb4, hb5, hb6, hb7⟩
          · go_enter Try.func35, Try.ntmps35
            go_wp2
            refine wp_loop_rounds 4 ?_
            rw [rounds_succ]
            go_wp2_with (go_at_call 54; (with_reducible refine (HG0.out _ ((Gr.alloc _ _).trans (Gr.alloc _ _)) _ rfl _).mono ?_); rintro e w' ⟨rfl, rfl⟩)
            rw [rounds_succ]
            go_wp2_with (go_at_call 54; (with_reducible refine (HG1.out _ ((Gr.alloc _ _).trans (Gr.alloc _ _)) _ rfl _).mono ?_); rintro e w' ⟨rfl, rfl⟩)
            rw [rounds_succ]
            go_wp2_with (go_at_call 54; (with_reducible refine (HG2.out _ ((Gr.alloc _ _).trans (Gr.alloc _ _)) _ rfl _).mono ?_); rintro e w' ⟨rfl, rfl⟩)
            rw [rounds_succ]
            go_wp2
            refine bodyPost_ret (v := .tuple #[.agg #[.string ⟨#[]⟩, .string ⟨#[]⟩], .int .i64 0, .bool false]) (by simp [results, Try.results35, go_sem]) rfl ?_
            rw [HN.out]
            exact ⟨([], []), _, _, rfl, (Gr.alloc _ _).trans (Gr.alloc _ _), rfl⟩
          · go_enter Try.func35, Try.ntmps35
            go_wp2
            refine wp_loop_rounds 4 ?_
            rw [rounds_succ]
            go_wp2_with (go_at_call 54; (with_reducible refine (HG0.out _ ((Gr.alloc _ _).trans (Gr.alloc _ _)) _ rfl _).mono ?_); rintro e w' ⟨rfl, rfl⟩)
            rw [rounds_succ]
            go_wp2_with (go_at_call 54; (with_reducible refine (HG1.out _ ((Gr.alloc _ _).trans (Gr.alloc _ _)) _ rfl _).mono ?_); rintro e w' ⟨rfl, rfl⟩)
            rw [rounds_succ]
            go_wp2_with (go_at_call 54; (with_reducible refine (HG2.out _ ((Gr.alloc _ _).trans (Gr.alloc _ _)) _ rfl _).mono ?_); rintro e w' ⟨rfl, rfl⟩)
            rw [rounds_succ]
            go_wp2
            refine bodyPost_ret (v := .tuple #[.agg #[.string ⟨#[]⟩, .string ⟨#[]⟩], .int .i64 0, .bool false]) (by simp [results, Try.results35, go_sem]) rfl ?_
            rw [HN.out]
            exact ⟨([], []), _, _, rfl, (Gr.alloc _ _).trans (Gr.alloc _ _), rfl⟩
          · go_enter Try.func35, Try.ntmps35
            go_wp2
            refine wp_loop_rounds 4 ?_
            rw [rounds_succ]
            go_wp2_with (go_at_call 54; (with_reducible refine (HG0.out _ ((Gr.alloc _ _).trans (Gr.alloc _ _)) _ rfl _).mono ?_); rintro e w' ⟨rfl, rfl⟩)
            rw [rounds_succ]
            go_wp2_with (go_at_call 54; (with_reducible refine (HG1.out _ ((Gr.alloc _ _).trans (Gr.alloc _ _)) _ rfl _).mono ?_); rintro e w' ⟨rfl, rfl⟩)
            rw [rounds_succ]
            go_wp2_with (go_at_call 54; (with_reducible refine (HG2.out _ ((Gr.alloc _ _).trans (Gr.alloc _ _)) _ rfl _).mono ?_); rintro e w' ⟨rfl, rfl⟩)
            rw [rounds_succ]
            go_wp2
            refine bodyPost_ret (v := .tuple #[.agg #[.string ⟨#[]⟩, .string ⟨#[]⟩], .int .i64 0, .bool false]) (by simp [results, Try.results35, go_sem]) rfl ?_
            rw [HN.out]
            exact ⟨([], []), _, _, rfl, (Gr.alloc _ _).trans (Gr.alloc _ _), rfl⟩
          · go_enter Try.func35, Try.ntmps35
            go_wp2
            refine wp_loop_rounds 4 ?_
            rw [rounds_succ]
            go_wp2_with (go_at_call 54; (with_reducible refine (HG0.out _ ((Gr.alloc _ _).trans (Gr.alloc _ _)) _ rfl _).mono ?_); rintro e w' ⟨rfl, rfl⟩)
            rw [rounds_succ]
            go_wp2_with (go_at_call 54; (with_reducible refine (HG1.out _ ((Gr.alloc _ _).trans (Gr.alloc _ _)) _ rfl _).mono ?_); rintro e w' ⟨rfl, rfl⟩)
            rw [rounds_succ]
            go_wp2_with (go_at_call 54; (with_reducible refine (HG2.out _ ((Gr.alloc _ _).trans (Gr.alloc _ _)) _ rfl _).mono ?_); rintro e w' ⟨rfl, rfl⟩)
            rw [rounds_succ]
            go_wp2
            refine bodyPost_ret (v := .tuple #[.agg #[.string ⟨#[]⟩, .string ⟨#[]⟩], .int .i64 0, .bool false]) (by simp [results, Try.results35, go_sem]) rfl ?_
            rw [HN.out]
            exact ⟨([], []), _, _, rfl, (Gr.alloc _ _).trans (Gr.alloc _ _), rfl⟩
        · have HN := Lib.hid (HE3.out.trans (if_neg hb))
          obtain ⟨y0, y1, y2, y3⟩ : n0 ≤ key.length ∧ n1 ≤ 200 ∧ n2 ≤ 2000 ∧ n1 + n2 + t ≤ b.length := by omega
          clear hb h0 h1 h2
          go_enter Try.func35, Try.ntmps35
          go_wp2
          refine wp_loop_rounds 4 ?_
          rw [rounds_succ]
          go_wp2_with (go_at_call 54; (with_reducible refine (HG0.out _ ((Gr.alloc _ _).trans (Gr.alloc _ _)) _ rfl _).mono ?_); rintro e w' ⟨rfl, rfl⟩)
          rw [rounds_succ]
          go_wp2_with (go_at_call 54; (with_reducible refine (HG1.out _ ((Gr.alloc _ _).trans (Gr.alloc _ _)) _ rfl _).mono ?_); rintro e w' ⟨rfl, rfl⟩)
          rw [rounds_succ]
          go_wp2_with (go_at_call 54; (with_reducible refine (HG2.out _ ((Gr.alloc _ _).trans (Gr.alloc _ _)) _ rfl _).mono ?_); rintro e w' ⟨rfl, rfl⟩)
          rw [rounds_succ]
          go_wp2
          have gW : Gr w ((w.alloc (.cells #[.string ⟨#[]⟩, .string ⟨#[]⟩] 31)).alloc (.cells #[.int .u64 (n0 : Int), .int .u64 (n1 : Int), .int .u64 (n2 : Int)] 86)) := (Gr.alloc _ _).trans (Gr.alloc _ _)
          have bP := Blk.of2a (Gr.refl ((w.alloc (.cells #[.string ⟨#[]⟩, .string ⟨#[]⟩] 31)).alloc (.cells #[.int .u64 (n0 : Int), .int .u64 (n1 : Int), .int .u64 (n2 : Int)] 86)))
          have bA := Blk.of2b (Gr.refl ((w.alloc (.cells #[.string ⟨#[]⟩, .string ⟨#[]⟩] 31)).alloc (.cells #[.int .u64 (n0 : Int), .int .u64 (n1 : Int), .int .u64 (n2 : Int)] 86)))
          obtain ⟨cA, _, _, _⟩ := bA.three
          have bWb := hB.out.gr gW
          have BW := Lib.hid bWb
          have BP := Lib.hid bP
          clear bWb bA bP
          generalize ((w.alloc (.cells #[.string ⟨#[]⟩, .string ⟨#[]⟩] 31)).alloc (.cells #[.int .u64 (n0 : Int), .int .u64 (n1 : Int), .int .u64 (n2 : Int)] 86)) = W at *
          generalize hP1 : (b.drop t).take n1 = s1 at *
          generalize hP2 : (b.drop (t + n1)).take n2 = s2 at *
          have hs1 : s1.length = n1 := by rw [← hP1]; simp; omega
          have hs2 : s2.length = n2 := by rw [← hP2]; simp; omega
          have HS1 := Lib.hid hs1; have HS2 := Lib.hid hs2; have HP1 := Lib.hid hP1; have HP2 := Lib.hid hP2
          clear hP1 hP2
          have htk : (key.take n0).length = n0 := by simp; omega
          have HTK := Lib.hid htk
          clear hs1 hs2 htk
          have f1 : off + t < off + cap := by omega
          obtain ⟨Po, hPo⟩ : ∃ Po, Po = w.heap.size := ⟨_, rfl⟩
          have hPW : Po < W.heap.size := by rw [hPo]; exact BP.out.lt
          have hPb : bl ≠ Po := by omega
          have hPA : (some (Po + 1) : Option Nat) ≠ some Po := by simp
          have BP2 : Blk W Po 31 [.string ⟨#[]⟩, .string ⟨#[]⟩] := by rw [hPo]; exact BP.out
          have BP := Lib.hid BP2
          have HPO := Lib.hid hPo
          rw [← hPo] at cA ⊢
          obtain ⟨A, hA⟩ : ∃ A, A = W.heap[Po]? := ⟨_, rfl⟩
          have HA := Lib.hid hA
          clear hPo BP2 hA
          have hblk : ∀ x : Addr, x.block = bl → some x.block ≠ some Po := fun x hx h => by rw [hx] at h; cases h; exact hPb rfl
          have HBK := Lib.hid hblk; clear hblk
          refine region_store_once (some Po) A (some (.cells #[.string (str (key.take n0 ++ s1)), .string (str s2)] 31 (0, 0))) _ [Is (.string (str key)), Is (.pointer (some ⟨Po + 1, 0, none⟩)), Is (.int .u64 (n0 : Int)), Is (.string (str (key.take n0))), Is (.slice (some ⟨bl, off, none⟩) b.length cap), Is (.int .i64 (t : Int)), Is (.int .i64 ((t : Int) + (n1 : Int))), Is (.slice (some ⟨bl, off + t, none⟩) n1 (cap - t)), Is (.string (str s1)), Is (.string (str (key.take n0 ++ s1))), Is (.slice (some ⟨bl, off, none⟩) b.length cap), Is (.int .i64 ((t : Int) + (n1 : Int))), Is (.int .i64 ((t : Int) + (n1 : Int) + (n2 : Int))), Is (.slice (some ⟨bl, off + (t + n1), none⟩) n2 (cap - (t + n1))), Is (.string (str s2)), Is (.agg #[.string (str (key.take n0 ++ s1)), .string (str s2)]), Is (.int .i64 ((t : Int) + (n1 : Int) + (n2 : Int))), StoredB (some Po) (some (.cells #[.string (str (key.take n0 ++ s1)), .string (str s2)] 31 (0, 0))), Is (.int .i64 ((t : Int) + (n1 : Int) + (n2 : Int))), Is (.bool true)] (by kernel_rfl) (by kernel_rfl) (by kernel_rfl) rfl rfl ⟨Is.stable _, Is.stable _, Is.stable _, Is.stable _, Is.stable _, Is.stable _, Is.stable _, Is.stable _, Is.stable _, Is.stable _, Is.stable _, Is.stable _, Is.stable _, Is.stable _, Is.stable _, Is.stable _, Is.stable _, StoredB.stable, Is.stable _, Is.stable _, trivial⟩ ⟨?s0, ?s1, ?s2, ?s3, ?s4, ?s5, ?s6, ?s7, ?s8, ?s9, ?s10, ?s11, ?s12, ?s13, ?s14, ?s15, ?s16, ?s17, ?s18, ?s19, trivial⟩ ?fin
          case' s0 | s1 | s2 | s3 | s4 | s5 | s6 | s7 | s8 | s9 | s10 | s11 | s12 | s13 | s14 | s15 | s16 | s17 | s18 | s19 =>
            intro ρ wr hρ hg hK
            simp [readsOf, slotsOf, Op.operands, Call.operands, tmpOf, List.filterMap_cons, List.filterMap_nil, KnownAll, knownOf, srcOf, depsOf, dstOf, Region.binds, nth, Is] at hK
            obtain ⟨hc, hf, hgl⟩ := hρ
            try simp only [wantedBy, dstOf, boolOf, nth, List.getD_cons_zero, List.getD_cons_succ, List.getElem?_cons_zero, List.getElem?_cons_succ, Option.bind_some, if_true, hK, BEq.rfl]
            try go_simp
            first | exact rfl | (rw [if_pos (by omega)]; exact is_here rfl) | (rw [dif_pos (by omega)]; exact is_here rfl) | exact congrArg (Value.int _) (IntWalk.i64_in _ ⟨by omega, by omega⟩) | skip
          case s2 => have := hg.cell cA hPA; go_simp; exact rfl
          case s7 =>
            rw [if_pos ⟨by omega, by omega⟩, if_pos (by omega)]
            refine ⟨Once.refl _, ?_⟩
            rw [if_neg (by omega), show ((t : Int) + (n1 : Int)).toNat - t = n1 by omega]
            exact rfl
          case s8 =>
            rw [run_string (P := Try.prog) Try.underlying26 Try.underlying5 Try.underlying9 HS1.out (hg.bytes (by rw [← HP1.out]; exact (BW.out.drop t).take n1) (fun x hx => by cases hx; exact HBK.out _ rfl))]
            exact ⟨Once.refl _, rfl⟩
          case s9 =>
            rw [if_neg (by have := HS1.out; omega)]
            exact ⟨Once.refl _, rfl⟩
          case s13 =>
            rw [if_pos ⟨by omega, by omega⟩, if_pos ⟨by omega, by omega⟩]
            refine ⟨Once.refl _, ?_⟩
            have q1 : ((t : Int) + (n1 : Int)).toNat = t + n1 := by omega
            have q2 : ((t : Int) + (n1 : Int) + (n2 : Int)).toNat - (t + n1) = n2 := by omega
            rw [q1, q2, if_neg (by omega)]
            exact rfl
          case s14 =>
            rw [run_string (P := Try.prog) Try.underlying26 Try.underlying5 Try.underlying9 HS2.out (hg.bytes (by rw [← HP2.out]; exact (BW.out.drop (t + n1)).take n2) (fun x hx => by cases hx; exact HBK.out _ rfl))]
            exact ⟨Once.refl _, rfl⟩
          case s17 =>
            have hcs := hg.2 Po rfl
            have hbk : ∃ x y, Blk wr Po 31 [x, y] := by
              rcases hcs with h | ⟨_, h⟩
              · exact ⟨_, _, h.trans BP.out⟩
              · exact ⟨_, _, h⟩
            obtain ⟨x, y, hbk⟩ := hbk
            obtain ⟨u0, u1⟩ := hbk.two
            have fz0 := hbk.frozen 0
            have fz1 := hbk.frozen 1
            have hb2 := (hbk.set_ 0 (.string (str (key.take n0 ++ s1)))).set_ 1 (.string (str s2))
            simp only [List.set_cons_zero, List.set_cons_succ] at hb2
            go_simp
            refine ⟨⟨grown_trans (grown_set wr Po 0 _) (grown_set _ Po 1 _), fun g hg' => ?_⟩, fun g hg' => by cases hg'; exact hb2⟩
            cases hg'
            rcases hcs with h | ⟨_, h⟩
            · exact .inr ⟨h.trans HA.out.symm, hb2⟩
            · exact .inl (hb2.trans h.symm)
          case fin =>
            intro w1 val hg hH
            simp only [Holds, Is, Nat.zero_add, Nat.reduceAdd] at hH
            obtain ⟨h0, h1, h2, h3, h4, h5, h6, h7, h8, h9, h10, h11, h12, h13, h14, h15, h16, h17, h18, h19, _⟩ := hH
            simp only [List.take_succ_cons, List.take_zero, List.drop_succ_cons, List.drop_zero, putAll, h0, h1, h2, h3, h4, h5, h6, h7, h8, h9, h10, h11, h12, h13, h14, h15, h16, h18, h19, Nat.zero_add, Nat.reduceAdd]
            have hb2 : Blk w1 Po 31 [.string (str (key.take n0 ++ s1)), .string (str s2)] := h17 Po rfl
            obtain ⟨d0, d1⟩ := hb2.two
            have gE : Gr w w1 := gW.grown hg.1 (fun g e => by cases e; exact Nat.le_of_eq HPO.out.symm)
            go_simp
            go_wp2
            refine bodyPost_ret (v := .tuple #[.agg #[.string (str (key.take n0 ++ s1)), .string (str s2)], .int .i64 ((t : Int) + (n1 : Int) + (n2 : Int)), .bool true]) (by simp [results, Try.results35, go_sem, d0, d1]) rfl ?_
            refine ⟨(key.take n0 ++ s1, s2), _, _, rfl, gE, ?_⟩
            rw [HN.out]
            exact ⟨rfl, rfl, by omega⟩
      · have z2 : ((e2 : Int) != 0) = true := by rw [bne_iff_ne]; omega
        have HN := Lib.hid (HE2.out.trans (if_pos h2))
        clear h0 h1 h2
        go_enter Try.func35, Try.ntmps35
        go_wp2
        refine wp_loop_rounds 4 ?_
        rw [rounds_succ]
        go_wp2_with (go_at_call 54; (with_reducible refine (HG0.out _ ((Gr.alloc _ _).trans (Gr.alloc _ _)) _ rfl _).mono ?_); rintro e w' ⟨rfl, rfl⟩)
        rw [rounds_succ]
        go_wp2_with (go_at_call 54; (with_reducible refine (HG1.out _ ((Gr.alloc _ _).trans (Gr.alloc _ _)) _ rfl _).mono ?_); rintro e w' ⟨rfl, rfl⟩)
        rw [rounds_succ]
        go_wp2_with (go_at_call 54; (with_reducible refine (HG2.out _ ((Gr.alloc _ _).trans (Gr.alloc _ _)) _ rfl _).mono ?_); rintro e w' ⟨rfl, rfl⟩)
        refine bodyPost_ret (v := .tuple #[.agg #[.string ⟨#[]⟩, .string ⟨#[]⟩], .int .i64 0, .bool false]) (by simp [results, Try.results35, go_sem]) rfl ?_
        rw [HN.out]
        exact ⟨([], []), _, _, rfl, (Gr.alloc _ _).trans (Gr.alloc _ _), rfl⟩
    · have z1 : ((e1 : Int) != 0) = true := by rw [bne_iff_ne]; omega
      have HN := Lib.hid (HE1.out.trans (if_pos h1))
      clear h0 h1
      go_enter Try.func35, Try.ntmps35
      go_wp2
      refine wp_loop_rounds 4 ?_
      rw [rounds_succ]
      go_wp2_with (go_at_call 54; (with_reducible refine (HG0.out _ ((Gr.alloc _ _).trans (Gr.alloc _ _)) _ rfl _).mono ?_); rintro e w' ⟨rfl, rfl⟩)
      rw [rounds_succ]
      go_wp2_with (go_at_call 54; (with_reducible refine (HG1.out _ ((Gr.alloc _ _).trans (Gr.alloc _ _)) _ rfl _).mono ?_); rintro e w' ⟨rfl, rfl⟩)
      refine bodyPost_ret (v := .tuple #[.agg #[.string ⟨#[]⟩, .string ⟨#[]⟩], .int .i64 0, .bool false]) (by simp [results, Try.results35, go_sem]) rfl ?_
      rw [HN.out]
      exact ⟨([], []), _, _, rfl, (Gr.alloc _ _).trans (Gr.alloc _ _), rfl⟩
  · have z0 : ((e0 : Int) != 0) = true := by rw [bne_iff_ne]; omega
    have HN := Lib.hid (HE.out.trans (if_pos h0))
    clear h0
    go_enter Try.func35, Try.ntmps35
    go_wp2
    refine wp_loop_rounds 4 ?_
    rw [rounds_succ]
    go_wp2_with (go_at_call 54; (with_reducible refine (HG0.out _ ((Gr.alloc _ _).trans (Gr.alloc _ _)) _ rfl _).mono ?_); rintro e w' ⟨rfl, rfl⟩)
    refine bodyPost_ret (v := .tuple #[.agg #[.string ⟨#[]⟩, .string ⟨#[]⟩], .int .i64 0, .bool false]) (by simp [results, Try.results35, go_sem]) rfl ?_
    rw [HN.out]
    exact ⟨([], []), _, _, rfl, (Gr.alloc _ _).trans (Gr.alloc _ _), rfl⟩
end Go.Proofs.Ytnbinodhdgnjlaa
