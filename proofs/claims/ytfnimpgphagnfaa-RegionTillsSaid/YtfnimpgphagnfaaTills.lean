/- Layer 1 (region): RegionTills answers true. -/
import Derived.Test.YtfnimpgphagnfaaTillArm
import Derived.Deep.DeepCutAuto
import Derived.Deep.CutBlock
import Derived.Outline
namespace Go.Proofs.Ytfnimpgphagnfaa
set_option linter.unusedVariables false
set_option linter.unusedSimpArgs false
open Go.RowKit
set_option maxRecDepth 100000 in
set_option maxHeartbeats 40000000 in
theorem RegionTills_any (size slabs : Int) (ad : Option Addr) (cap : Nat) (l : List Tl) (w : World) (hr : Row w ad (tlv l)) (hl : l.length ≤ 9223372036854775807) (hdl : ∀ t ∈ l, t.data.length ≤ 9223372036854775807) :
    Calls Try.prog 9 #[.int .i64 size, .int .i64 slabs, .slice ad l.length cap] w fun e w' => e = .returned (.bool true) ∧ Gr w w' := by
  cases hok : newOk size slabs with
  | false =>
    have HB := Lib.hid (fun w => New_bad w size slabs hok)
    have HB2 := Lib.hid (fun w => rNew_bad w size slabs hok)
    clear hok hr
    --<<bad
    as_aux_lemma =>
      go_enter Try.func9, Try.ntmps9
      go_wp2_with (first
        | (go_at_call 21; go_must (refine (wild_any _).mono ?_); rintro e w' ⟨rfl, rfl⟩)
        | (go_at_call 12; go_must (refine (Make_nil _).mono ?_); rintro e w' ⟨rfl, rfl⟩)
        | (go_at_call 10; go_must (refine (fertile_any _).mono ?_); rintro e w1 ⟨rfl, g1⟩)
        | (go_at_call 20; go_must (refine (pIdle_nil _).mono ?_); rintro e w' ⟨rfl, rfl⟩)
        | (go_at_call 17; go_must (refine (pFree_nil _ _).mono ?_); rintro e w' ⟨rfl, rfl⟩)
        | (go_at_call 11; go_must (refine (HB.out _).mono ?_); rintro e w' ⟨rfl, rfl⟩)
        | (go_at_call 22; go_must (refine (HB2.out _).mono ?_); rintro e w' ⟨rfl, rfl⟩)
        | fail)
      go_ret
      exact ⟨rfl, g1⟩
    -->>bad
  | true =>
    unfold newOk at hok
    simp only [Bool.and_eq_true, decide_eq_true_eq] at hok
    obtain ⟨⟨⟨⟨⟨h1, h2⟩, h3⟩, h4⟩, h5⟩, h6⟩ := hok
    obtain ⟨a, rfl⟩ := Int.eq_ofNat_of_zero_le (show 0 ≤ size by omega)
    obtain ⟨n, rfl⟩ := Int.eq_ofNat_of_zero_le (show 0 ≤ slabs by omega)
    obtain ⟨q, hq⟩ : ∃ q, q = a * n := ⟨_, rfl⟩
    have hqi : (a : Int) * (n : Int) = (q : Int) := by rw [hq]; simp
    rw [hqi] at h6
    have hql : q ≤ 4194304 := by omega
    have hqw : IntKind.i64.wrap (q : Int) = (q : Int) := by rw [IntKind.wrap_i64]; omega
    have hn4 : n ≤ 4096 := by omega
    have HN1 := Lib.hid (fun (w1 : World) (k : Gr w w1) => New_pl k a n (by omega) (by omega) (by omega) (by omega) (by omega) (by rw [← hq]; exact hql))
    have HN2 := Lib.hid (fun (w1 : World) => rNew_good w1 a n (by omega) (by omega) (by omega) (by omega) (by omega) (by rw [← hq]; exact hql))
    have HOK := Lib.hid (new_ok (size := a) (slabs := n) (by omega) (by omega) (by omega) (by omega) (by omega))
    have HR := Lib.hid hr
    have HDL := Lib.hid hdl
    clear hr hdl h1 h2 h3 h4 h5 h6 hq
    have HSZ := Lib.hid (show ∀ (w' : World) (g gm : Nat), Tz w g gm (ZD none) (newF a n) (newF a n) w' → Calls Try.prog 23 #[.pointer (some ⟨g, 0, none⟩)] w' (fun e w'' => e = .returned (.int .i64 (a : Int)) ∧ w' = w'') from fun w' g gm h => Size_tz h)
    by_cases hq2 : q > 20000
    · clear HR HDL
      --<<big
      as_aux_lemma =>
        go_enter Try.func9, Try.ntmps9
        go_wp2_with (first
          | (go_at_call 21; go_must (refine (wild_any _).mono ?_); rintro e w' ⟨rfl, rfl⟩)
          | (go_at_call 12; go_must (refine (Make_nil _).mono ?_); rintro e w' ⟨rfl, rfl⟩)
          | (go_at_call 10; go_must (refine (fertile_any _).mono ?_); rintro e w1 ⟨rfl, g1⟩)
          | (go_at_call 20; (with_reducible refine (pIdle_nil _).mono ?_); rintro e w' ⟨rfl, rfl⟩)
          | (go_at_call 17; go_must (refine (pFree_nil _ _).mono ?_); rintro e w' ⟨rfl, rfl⟩)
          | (go_at_call 11; go_must (refine (HN1.out _ g1).mono ?_); rintro e w2 ⟨g, S, rfl, k2, hg2, P2, b2⟩)
          | (go_at_call 22; go_must (refine (HN2.out _).mono ?_); rintro e w3 ⟨gm, Sm, rfl, k3, r3, b3⟩; have HT := Lib.hid (Tz.start (w1 := w) P2 HOK.out k3 r3 b3); clear P2 r3 b3 b2 k2 hg2 k3 g1)
          | (go_at_call 23; (with_reducible refine (pSize_nil _).mono ?_); rintro e w' ⟨rfl, rfl⟩)
          | (go_at_call 23; (with_reducible refine (HSZ.out _ _ _ HT.out).mono ?_); rintro e w' ⟨rfl, rfl⟩)
          | (go_at_call 24; go_must (refine (rIdle_tz HT.out).mono ?_); rintro e w' ⟨rfl, rfl⟩)
          | (go_at_call 20; (with_reducible refine (Idle_tz HT.out).mono ?_); rintro e w' ⟨rfl, rfl⟩)
          | fail)
        go_ret
        exact ⟨rfl, HT.out.gr⟩
      -->>big
    · go_enter Try.func9, Try.ntmps9
      go_wp2_with (first
        | (go_at_call 21; go_must (refine (wild_any _).mono ?_); rintro e w' ⟨rfl, rfl⟩)
        | (go_at_call 12; go_must (refine (Make_nil _).mono ?_); rintro e w' ⟨rfl, rfl⟩)
        | (go_at_call 10; go_must (refine (fertile_any _).mono ?_); rintro e w1 ⟨rfl, g1⟩)
        | (go_at_call 20; (with_reducible refine (pIdle_nil _).mono ?_); rintro e w' ⟨rfl, rfl⟩)
        | (go_at_call 17; go_must (refine (pFree_nil _ _).mono ?_); rintro e w' ⟨rfl, rfl⟩)
        | (go_at_call 11; go_must (refine (HN1.out _ g1).mono ?_); rintro e w2 ⟨g, S, rfl, k2, hg2, P2, b2⟩)
        | (go_at_call 22; go_must (refine (HN2.out _).mono ?_); rintro e w3 ⟨gm, Sm, rfl, k3, r3, b3⟩; have HT := Lib.hid (Tz.start (w1 := w) P2 HOK.out k3 r3 b3); clear P2 r3 b3 b2 k2 hg2 k3 g1)
        | (go_at_call 23; (with_reducible refine (pSize_nil _).mono ?_); rintro e w' ⟨rfl, rfl⟩)
        | (go_at_call 23; (with_reducible refine (HSZ.out _ _ _ HT.out).mono ?_); rintro e w' ⟨rfl, rfl⟩)
        | fail)
      have HI0 := Lib.hid (TI.mk (n := n) (i := 0) (cap := 0) (D := []) HT.out (Gens.new a n) (Owns.empty _ _ _ _) List.length_replicate (Nat.zero_le _))
      clear HT HSZ HN1 HN2 HOK hqw hqi hql hq2
      go_loopw [13, 14] (fun vd vi wr => ∃ (i : Nat) (p : PoolF) (adD : Option Addr) (cD : Nat) (D : List Hd), i ≤ l.length ∧ i ≤ 80 ∧ vd = .slice adD D.length cD ∧ vi = .int .i64 (i : Int) ∧ TI w g gm n i p adD cD D wr) (fun _ vi _ => 80 - (intOf vi).toNat)
      case atStart => exact ⟨0, newF a n, none, 0, [], Nat.zero_le _, Nat.zero_le _, rfl, rfl, HI0.out⟩
      case round =>
        clear HI0
        obtain ⟨i, p, adD, cD, D, hi, hi80, rfl, rfl, hI⟩ := hrel
        by_cases hlt : i < l.length ∧ i < 80
        · obtain ⟨hlt, hlt2⟩ := hlt
          obtain ⟨bl, off, rfl, f0, f1, f2, f3, f4, f5⟩ := (HR.out.gr hI.tz.gr).tilth i hlt
          have hdt := HDL.out l[i] (List.getElem_mem hlt)
          clear HR HDL
          generalize l[i] = t at *
          obtain ⟨tk, ta, tb, tc, tt, td⟩ := t
          simp only at f0 f1 f2 f3 f4 f5 hdt
          have HI := Lib.hid hI
          clear hI
          go_upto_block 2 with (fail)
          obtain ⟨bx, hbx⟩ : ∃ x, x = wr.heap.size := ⟨_, rfl⟩
          obtain ⟨wb, hwb⟩ : ∃ x, x = wr.alloc (.cells #[.int .i64 tk, .int .i64 ta, .int .i64 tb, .int .i64 tc, .int .i64 tt, .string (str td)] 52) := ⟨_, rfl⟩
          rw [← hwb, ← hbx]
          have gb : Gr wr wb := by rw [hwb]; exact Gr.alloc _ _
          have hB : Blk wb bx 52 [.int .i64 tk, .int .i64 ta, .int .i64 tb, .int .i64 tc, .int .i64 tt, .string (str td)] := by rw [hwb, hbx]; exact Blk.new _ _ _
          have hA : AT w g gm (fun j => ZD adD j ∨ j = bx) bx [.int .i64 tk, .int .i64 ta, .int .i64 tb, .int .i64 tc, .int .i64 tt, .string (str td)] adD cD D p p wb :=
            ⟨HI.out.tz.lay gb (fun j hj => hj.imp id (fun e => ⟨by rw [e, hbx]; exact Nat.le_refl _, by rw [e]; exact hB.lt⟩)), HI.out.own.gr gb, hB, .inr rfl, fun x hx => .inl ⟨x, hx, rfl⟩⟩
          have HA := Lib.hid hA
          have HG := Lib.hid HI.out.gens
          have HP := Lib.hid HI.out.tz.okp
          have HNB := Lib.hid HI.out.nb
          have HDl := Lib.hid HI.out.dl
          obtain ⟨x0, x1, x2, x3, x4, x5⟩ := six_cells hB
          clear HI hA hB gb hwb hbx f0 f1 f2 f3 f4 f5
          go_cut [13] (fun s13 wx => ∃ (p : PoolF) (adD : Option Addr) (cD : Nat) (D : List Hd), s13 = .slice adD D.length cD ∧ TI w g gm n (i + 1) p adD cD D wx)
          case first =>
            by_cases n1 : tk = 1
            · subst n1
              have HM1 := Lib.hid (Make_tz HA.out.tz (fun j hj => Nat.le_trans (HG.out j hj) (by omega)))
              have HM2 := Lib.hid (fun w' (h : Tz w g gm (fun j => ZD adD j ∨ j = bx) (makeR p).2.2 p w') => rMake_tz h (fun j hj => Nat.le_trans (HG.out j hj) (by omega)))
              --<<one
              as_aux_lemma =>
                go_wp2_with (first
                  | (go_at_call 12; go_must (refine HM1.out.mono ?_); rintro e w4 ⟨rfl, c4, t4⟩)
                  | (go_at_call 25; go_must (refine (HM2.out _ t4).mono ?_); rintro e w5 ⟨rfl, c5, t5⟩)
                  | fail)
                go_meet
                exact ⟨_, _, _, _, rfl, ((HA.out.step c4 t4).step c5 t5).fin (HG.out.make HP.out) (by rw [make_len]; exact HNB.out) (Nat.le_succ_of_le HDl.out)⟩
              -->>one
            by_cases n2 : tk = 2
            · subst n2
              rcases hal : allocF p ta tb tc with ⟨⟨yr, yg, yo, yl⟩, en, p1⟩
              have HA1 := Lib.hid (show Calls Try.prog 13 #[.pointer (some ⟨g, 0, none⟩), .int .i64 ta, .int .i64 tb, .int .i64 tc] wb fun e w' => e = .returned (.tuple #[.agg #[.int .i64 yr, .int .i64 yg, .int .i64 yo, .int .i64 yl], .int .i64 (en : Int)]) ∧ AT w g gm (fun j => ZD adD j ∨ j = bx) bx [.int .i64 2, .int .i64 ta, .int .i64 tb, .int .i64 tc, .int .i64 tt, .string (str td)] adD cD D p1 p w' from by
                have := Alloc_tz HA.out.tz ta tb tc
                rw [hal] at this
                exact this.mono fun e w' ⟨h1, h2, h3⟩ => ⟨h1, HA.out.step h2 h3⟩)
              have HA2 := Lib.hid (show ∀ (Z : Nat → Prop) w4, AT w g gm Z bx [.int .i64 2, .int .i64 ta, .int .i64 tb, .int .i64 tc, .int .i64 tt, .string (str td)] adD cD D p1 p w4 → Calls Try.prog 26 #[.pointer (some ⟨gm, 0, none⟩), .int .i64 ta, .int .i64 tb, .int .i64 tc] w4 fun e w' => e = .returned (.tuple #[.agg #[.int .i64 yr, .int .i64 yg, .int .i64 yo, .int .i64 yl], .int .i64 (en : Int)]) ∧ Chg (Tk w Z) w4 w' ∧ AT w g gm Z bx [.int .i64 2, .int .i64 ta, .int .i64 tb, .int .i64 tc, .int .i64 tt, .string (str td)] adD cD D p1 p1 w' from fun Z w4 h => by
                have := rAlloc_tz h.tz ta tb tc
                rw [hal] at this
                exact this.mono fun e w' ⟨h1, h2, h3⟩ => ⟨h1, h2, h.step h2 h3⟩)
              have HGn := Lib.hid (show Gens p1 (i + 1) from by have := HG.out.alloc HP.out ta tb tc; rw [hal] at this; exact this)
              have HNn := Lib.hid (show p1.bytes.length = n from by have := alloc_len p ta tb tc; rw [hal] at this; exact this.trans HNB.out)
              clear hal
              have m1 : D.length + 1 ≤ maxLen := by have := HDl.out; unfold maxLen; omega
              have m2 : (D.length + 1) * 32 ≤ 140737488355328 := by have := HDl.out; omega
              --<<two
              as_aux_lemma =>
                go_upto_region 27 with (first
                  | (go_at_call 13; go_must (refine HA1.out.mono ?_); rintro e w4 ⟨rfl, A4⟩
                     have A5 := A4.lay (Z' := fun j => (ZD adD j ∨ j = bx) ∨ j = w4.heap.size) (Gr.alloc w4 (.cells #[.int .i64 yr, .int .i64 yg, .int .i64 yo, .int .i64 yl] 33)) (fun j hj => .inl hj) (fun j hj => hj.imp id (fun e => by rw [e]; simp))
                     have b5 := Blk.new w4 33 #[.int .i64 yr, .int .i64 yg, .int .i64 yo, .int .i64 yl]
                     clear x0 x1 x2 x3 x4 x5
                     obtain ⟨x0, x1, x2, x3, x4, x5⟩ := six_cells A5.blk)
                  | (go_at_call 26; go_must (refine (HA2.out _ _ A5).mono ?_); rintro e w6 ⟨rfl, c6, A6⟩
                     have k6 := Gr.alloc w6 (.cells #[.int .i64 yr, .int .i64 yg, .int .i64 yo, .int .i64 yl] 61)
                     have b6 := Lib.hid ((c6.blk b5 (fun e => e.2 (.inr rfl))).gr k6)
                     have m6 := Lib.hid (Blk.new w6 61 #[.int .i64 yr, .int .i64 yg, .int .i64 yo, .int .i64 yl])
                     have A7 := Lib.hid (A6.more k6)
                     clear c6 b5 A4 A5 A6 k6 x0 x1 x2 x3 x4 x5)
                  | fail)
                generalize w4.heap.size = b1 at *
                generalize w6.heap.size = b2 at *
                generalize w6.alloc (.cells #[.int .i64 yr, .int .i64 yg, .int .i64 yo, .int .i64 yl] 61) = W at *
                refine region_any_gr _ [Is (.agg #[.int .i64 yr, .int .i64 yg, .int .i64 yo, .int .i64 yl]), Is (.agg #[.int .i64 yr, .int .i64 yg, .int .i64 yo, .int .i64 yl]), Is (.agg #[.int .i64 yr, .int .i64 yg, .int .i64 yo, .int .i64 yl]), Is (.bool false), Is (.bool false), Is (.int .i64 (en : Int)), Is (.int .i64 (en : Int)), Is (.bool false), Is (.bool false)] (by kernel_rfl) (by kernel_rfl) (by kernel_rfl) rfl rfl ⟨Is.stable _, Is.stable _, Is.stable _, Is.stable _, Is.stable _, Is.stable _, Is.stable _, Is.stable _, Is.stable _, trivial⟩ ⟨?s0, ?s1, ?s2, ?s3, ?s4, ?s5, ?s6, ?s7, ?s8, trivial⟩ ?fin
                case' s0 | s1 | s2 | s3 | s4 | s5 | s6 | s7 | s8 =>
                  intro ρ wr hρ hg hK
                  simp [readsOf, slotsOf, Op.operands, Call.operands, tmpOf, List.filterMap_cons, List.filterMap_nil, KnownAll, knownOf, srcOf, depsOf, dstOf, Region.binds, nth, Is] at hK
                  obtain ⟨hc, hf, hgl⟩ := hρ
                  try simp only [wantedBy, dstOf, boolOf, nth, List.getD_cons_zero, List.getD_cons_succ, List.getElem?_cons_zero, List.getElem?_cons_succ, Option.bind_some, if_true, hK, BEq.rfl]
                  try go_simp
                  first | exact rfl | (rw [if_pos (by omega)]; exact is_here rfl) | (rw [dif_pos (by omega)]; exact is_here rfl) | exact congrArg (Value.int _) (IntWalk.i64_in _ ⟨by omega, by omega⟩) | skip
                case s0 =>
                  obtain ⟨z0, z1, z2, z3, _⟩ := Blk.four (b6.out.gr hg)
                  go_simp
                  exact rfl
                case s2 =>
                  obtain ⟨z0, z1, z2, z3, _⟩ := Blk.four (m6.out.gr hg)
                  go_simp
                  exact rfl
                case s1 => exact any_gr (like_any wr ⟨yr, yg, yo, yl⟩)
                case fin =>
                  intro w1 val hg hH
                  simp only [Holds, Is, Nat.zero_add, Nat.reduceAdd] at hH
                  obtain ⟨h0, h1, h2, h3, h4, h5, h6, h7, h8, _⟩ := hH
                  simp only [List.take_succ_cons, List.take_zero, List.drop_succ_cons, List.drop_zero, putAll, h0, h1, h2, h3, h4, h5, h6, h7, h8, Nat.zero_add, Nat.reduceAdd]
                  have A8 := A7.out.more hg
                  have b8 := b6.out.gr hg
                  clear hg A7 b6 m6
                  go_simp
                  by_cases h0 : en = 0
                  · subst h0
                    obtain ⟨z0, z1, z2, z3, _⟩ := Blk.four b8
                    have hbs := A8.tz.gr.size
                    have HA8 := Lib.hid A8
                    clear A8 b8
                    go_wp2_with (first
                      | (at_builtin; go_must (refine wp_append elemH rfl _ _ rfl rfl (HA8.out.own.gr (Gr.alloc _ _)) rfl (src_hand _ ⟨yr, yg, yo, yl⟩ _ Try.underlying29 _ (by simp)) m1 m2 (Nat.le_trans hbs (Gr.alloc _ _).size) ?_); intro ad9 c9 w9 o9 k9 f9)
                      | fail)
                    go_meet
                    have hA9 := HA8.out.more (Gr.alloc w1 (.cells #[.int .i64 yr, .int .i64 yg, .int .i64 yo, .int .i64 yl] 33))
                    have hln : D.length + 1 = (D ++ [(⟨yr, yg, yo, yl⟩ : Hd)]).length := by simp
                    refine ⟨p1, ad9, c9, D ++ [⟨yr, yg, yo, yl⟩], by rw [hln], ⟨hA9.tz.append k9 (fun b hb => ?_) (fun j ⟨x, hx, e⟩ => ?_), HGn.out, ?_, HNn.out, by rw [← hln]; exact Nat.succ_le_succ HDl.out⟩⟩
                    · obtain ⟨y, had, hyb⟩ := Option.map_eq_some_iff.1 hb
                      exact hyb ▸ ⟨hA9.za y had, (hA9.own.lt y had).1⟩
                    · rcases f9 x hx with h1 | h1
                      · exact .inl (e ▸ hA9.za x h1)
                      · exact .inr ⟨e ▸ h1, e ▸ (o9.lt x hx).2⟩
                    · rw [hln] at o9
                      rw [hv_append]
                      simpa [hv] using o9
                  · have h1 : ((en : Int) == 0) = false := by simp; omega
                    have HA8 := Lib.hid A8
                    clear A8 b8 h0
                    go_wp2
                    go_meet
                    exact ⟨_, _, _, _, rfl, HA8.out.fin HGn.out HNn.out (Nat.le_succ_of_le HDl.out)⟩
              -->>two
            by_cases n3 : tk = 3
            · subst n3
              have HH := Lib.hid (show Calls Try.prog 28 #[.slice adD D.length cD, .agg #[.int .i64 3, .int .i64 ta, .int .i64 tb, .int .i64 tc, .int .i64 tt, .string (str td)]] wb fun e w' => ∃ yr yg yo yl, e = .returned (.agg #[.int .i64 yr, .int .i64 yg, .int .i64 yo, .int .i64 yl]) ∧ Gr wb w' from (handle_any wb _ adD cD D ⟨3, ta, tb, tc, tt, td⟩ HA.out.own (Nat.le_trans HDl.out (by omega))).mono fun e w' ⟨y, h1, h2⟩ => ⟨y.region, y.gen, y.off, y.len, h1, h2⟩)
              have HFn := Lib.hid (show ∀ w', AT w g gm (fun j => ZD adD j ∨ j = bx) bx [.int .i64 3, .int .i64 ta, .int .i64 tb, .int .i64 tc, .int .i64 tt, .string (str td)] adD cD D p p w' → TI w g gm n (i + 1) p adD cD D w' from fun w' h => h.fin HG.out.up HNB.out (Nat.le_succ_of_le HDl.out))
              --<<three
              as_aux_lemma =>
                go_wp2_with (first
                  | (go_at_call 28; go_must (refine HH.out.mono ?_); rintro e w4 ⟨yr, yg, yo, yl, rfl, g4⟩
                     have A5 := HA.out.more (g4.trans (Gr.alloc w4 (.cells #[.int .i64 yr, .int .i64 yg, .int .i64 yo, .int .i64 yl] 33)))
                     have b5 := Blk.new w4 33 #[.int .i64 yr, .int .i64 yg, .int .i64 yo, .int .i64 yl]
                     obtain ⟨z0, z1, z2, z3, _⟩ := Blk.four b5
                     rcases hL : loadF p ⟨yr, yg, yo, yl⟩ with ⟨L, eL⟩
                     have HL1 := Lib.hid (Load_tz A5.tz ⟨yr, yg, yo, yl⟩)
                     have HL2 := Lib.hid (fun w' (h : AT w g gm (fun j => ZD adD j ∨ j = bx) bx [.int .i64 3, .int .i64 ta, .int .i64 tb, .int .i64 tc, .int .i64 tt, .string (str td)] adD cD D p p w') => rLoad_tz h.tz ⟨yr, yg, yo, yl⟩)
                     rw [hL] at HL1 HL2
                     clear hL x0 x1 x2 x3 x4 x5 g4)
                  | (go_at_call 16; go_must (refine HL1.out.mono ?_); rintro e w6 ⟨ad6, c6, rfl, o6, g6⟩
                     clear z0 z1 z2 z3
                     obtain ⟨z0, z1, z2, z3, _⟩ := Blk.four (b5.gr g6))
                  | (go_at_call 27; go_must (refine (like_any _ ⟨yr, yg, yo, yl⟩).mono ?_); rintro e w7 ⟨rfl, g7⟩)
                  | (go_at_call 29; go_must (refine (HL2.out _ ((A5.more g6).more g7)).mono ?_); rintro e w8 ⟨rfl, g8⟩
                     have G8 := (g6.trans g7).trans g8
                     have o8 := (o6.gr g7).gr g8
                     have hst := run_string (P := Try.prog) Try.underlying23 Try.underlying5 Try.underlying9 (cap := c6) (len := L.length) (l := L) rfl o8.bytes)
                  | fail)
                have hLm : L.length ≤ 9223372036854775807 := by
                  have hc6 := o8.2.1; have hm6 := o8.2.2.1
                  unfold maxLen at hm6; omega
                obtain ⟨W5, hW5⟩ : ∃ x, x = w4.alloc (.cells #[.int .i64 yr, .int .i64 yg, .int .i64 yo, .int .i64 yl] 33) := ⟨_, rfl⟩
                rw [← hW5] at A5 G8 o8
                have HA5 := Lib.hid A5; have HGr := Lib.hid G8; have HOs := Lib.hid o8
                clear A5 G8 o8 o6 g6 g7 g8 hst b5 z0 z1 z2 z3 hW5 HL1 HL2
                go_loopw [29] (fun v wr => ∃ (k : Nat) (xs : List Value), k ≤ L.length ∧ v = .int .i64 (k : Int) ∧ Gr W5 wr ∧ Owns wr W5.heap.size 5 1 ad6 c6 L.length xs) (fun v _ => L.length - (intOf v).toNat)
                case atStart => exact ⟨0, _, Nat.zero_le _, rfl, HGr.out, HOs.out⟩
                case round =>
                  clear HGr HOs
                  obtain ⟨k, xs, hk, rfl, hgk, hok⟩ := hrel
                  by_cases hkl : k < L.length
                  · have hxl := hok.1
                    obtain ⟨vq, hvq⟩ : ∃ v, xs[k]? = some v := ⟨_, List.getElem?_eq_getElem (show k < xs.length by omega)⟩
                    obtain ⟨bq, hbq, hbs, zq⟩ := hok.at hvq
                    have hfz := hok.unfrozen hbq (show k < L.length * 1 by omega)
                    have HOn := Lib.hid (hok.store hbq hkl (.int .u8 17))
                    have HGn := Lib.hid (hgk.setCell (p := ⟨bq, k, none⟩) (show W5.heap.size ≤ bq from (hok.lt _ hbq).1) (.int .u8 17))
                    subst hbq
                    clear hgk hok hxl hbs hvq
                    go_wp2
                    go_roundw
                    case rel => exact ⟨k + 1, _, hkl, by go_num, HGn.out, HOn.out⟩
                    case measure => simp [intOf]; omega
                  · obtain rfl : k = L.length := by omega
                    have HGn := Lib.hid hgk
                    clear hgk hok
                    go_wp2
                    go_meet
                    exact ⟨_, _, _, _, rfl, HFn.out _ (HA5.out.more HGn.out)⟩
              -->>three
            by_cases n4 : tk = 4
            · subst n4
              have HH := Lib.hid (show Calls Try.prog 28 #[.slice adD D.length cD, .agg #[.int .i64 4, .int .i64 ta, .int .i64 tb, .int .i64 tc, .int .i64 tt, .string (str td)]] wb fun e w' => ∃ yr yg yo yl, e = .returned (.agg #[.int .i64 yr, .int .i64 yg, .int .i64 yo, .int .i64 yl]) ∧ Gr wb w' from (handle_any wb _ adD cD D ⟨4, ta, tb, tc, tt, td⟩ HA.out.own (Nat.le_trans HDl.out (by omega))).mono fun e w' ⟨y, h1, h2⟩ => ⟨y.region, y.gen, y.off, y.len, h1, h2⟩)
              have HFn := Lib.hid (show ∀ x (Z : Nat → Prop) w', AT w g gm Z bx [.int .i64 4, .int .i64 ta, .int .i64 tb, .int .i64 tc, .int .i64 tt, .string (str td)] adD cD D (storeF p x tt td).2 (storeF p x tt td).2 w' → TI w g gm n (i + 1) (storeF p x tt td).2 adD cD D w' from fun x Z w' h => h.fin (HG.out.store x tt td) (by rw [store_len]; exact HNB.out) (Nat.le_succ_of_le HDl.out))
              --<<four
              as_aux_lemma =>
                go_upto_region 45 with (first
                  | (go_at_call 28; go_must (refine HH.out.mono ?_); rintro e w4 ⟨yr, yg, yo, yl, rfl, g4⟩
                     have A4 := HA.out.more g4
                     have A5 := A4.lay (Z' := fun j => (ZD adD j ∨ j = bx) ∨ j = w4.heap.size) (Gr.alloc w4 (.cells #[.int .i64 yr, .int .i64 yg, .int .i64 yo, .int .i64 yl] 33)) (fun j hj => .inl hj) (fun j hj => hj.imp id (fun e => by rw [e]; simp))
                     have b5 := Blk.new w4 33 #[.int .i64 yr, .int .i64 yg, .int .i64 yo, .int .i64 yl]
                     clear x0 x1 x2 x3 x4 x5
                     obtain ⟨x0, x1, x2, x3, x4, x5⟩ := six_cells A5.blk
                     obtain ⟨cpi, w5, hrun, oi, gi, si⟩ := bytes_str (P := Try.prog) Try.underlying9 Try.underlying23 Try.underlying5 (w4.alloc (.cells #[.int .i64 yr, .int .i64 yg, .int .i64 yo, .int .i64 yl] 33)) td (by unfold maxLen; omega)
                     rw [show (w4.alloc (.cells #[.int .i64 yr, .int .i64 yg, .int .i64 yo, .int .i64 yl] 33)).heap.size = w4.heap.size + 1 by simp] at hrun oi si
                     have A6 := A5.lay (Z' := fun j => ((ZD adD j ∨ j = bx) ∨ j = w4.heap.size) ∨ j = w4.heap.size + 1) gi (fun j hj => .inl hj) (fun j hj => hj.imp id (fun e => by rw [e, si]; exact ⟨by simp, Nat.lt_succ_self _⟩))
                     have b6 := b5.gr gi
                     obtain ⟨y0, y1, y2, y3, y4, y5⟩ := six_cells A6.blk
                     obtain ⟨z0, z1, z2, z3, _⟩ := Blk.four b6
                     have HS1 := Lib.hid (Store_tz A6.tz ⟨yr, yg, yo, yl⟩ tt (cap := cpi) oi.bytes hdt)
                     have HS2 := Lib.hid (fun (Z : Nat → Prop) w' (h : AT w g gm Z bx [.int .i64 4, .int .i64 ta, .int .i64 tb, .int .i64 tc, .int .i64 tt, .string (str td)] adD cD D (storeF p ⟨yr, yg, yo, yl⟩ tt td).2 p w') => rStore_tz h.tz ⟨yr, yg, yo, yl⟩ tt (b := td) hdt)
                     have HFy := Lib.hid (HFn.out ⟨yr, yg, yo, yl⟩)
                     rcases hS : storeF p ⟨yr, yg, yo, yl⟩ tt td with ⟨eS, p1⟩
                     rw [hS] at HS1 HS2 HFy
                     clear hS)
                  | (go_at_call 14; go_must (refine HS1.out.mono ?_); rintro e w7 ⟨rfl, c7, t7⟩)
                  | fail)
                have A7 := A6.step c7 t7
                have b7 := c7.blk b6 (fun e => e.2 (.inl (.inr rfl)))
                have o7 := c7.owns oi (fun x hx e => by cases hx; exact e.2 (.inr rfl))
                have hbl : bx ≠ w4.heap.size + 1 := by have := A4.blk.lt; omega
                have hal : ∀ x, adD = some x → x.block ≠ w4.heap.size + 1 := fun x hx => by have := (A4.own.lt x hx).2; omega
                have hwb : w.heap.size ≤ w4.heap.size + 1 := Nat.le_succ_of_le A4.tz.gr.size
                clear x0 x1 x2 x3 x4 x5 y0 y1 y2 y3 y4 y5 z0 z1 z2 z3 hrun oi gi si A4 A5 A6 b5 b6 HS1 HH HFn c7 t7
                obtain ⟨bi, hbi⟩ : ∃ bi, bi = w4.heap.size + 1 := ⟨_, rfl⟩
                rw [← hbi] at A7 o7 hbl hal hwb ⊢
                generalize w4.heap.size = b1 at *
                clear hbi
                have HK0 := Lib.hid (KInv.mk (K := TK (AT w g gm (fun j => ((ZD adD j ∨ j = bx) ∨ j = b1) ∨ j = bi) bx [.int .i64 4, .int .i64 ta, .int .i64 tb, .int .i64 tc, .int .i64 tt, .string (str td)] adD cD D p1 p) (AT w g gm (fun j => ((ZD adD j ∨ j = bx) ∨ j = b1) ∨ j = bi) bx [.int .i64 4, .int .i64 ta, .int .i64 tb, .int .i64 tc, .int .i64 tt, .string (str td)] adD cD D p1 p1) (AT w g gm (fun j => ((ZD adD j ∨ j = bx) ∨ j = b1) ∨ j = bi) bx [.int .i64 4, .int .i64 ta, .int .i64 tb, .int .i64 tc, .int .i64 tt, .string (str td)] adD cD D p1 p1)) (m := 1) (s := (w7.drew, 0)) (Nat.zero_le _) (A7.more (Gr.drew w7)))
                have HKm := Lib.hid (TK.more (A := (AT w g gm (fun j => ((ZD adD j ∨ j = bx) ∨ j = b1) ∨ j = bi) bx [.int .i64 4, .int .i64 ta, .int .i64 tb, .int .i64 tc, .int .i64 tt, .string (str td)] adD cD D p1 p)) (B := (AT w g gm (fun j => ((ZD adD j ∨ j = bx) ∨ j = b1) ∨ j = bi) bx [.int .i64 4, .int .i64 ta, .int .i64 tb, .int .i64 tc, .int .i64 tt, .string (str td)] adD cD D p1 p1)) (C := (AT w g gm (fun j => ((ZD adD j ∨ j = bx) ∨ j = b1) ∨ j = bi) bx [.int .i64 4, .int .i64 ta, .int .i64 tb, .int .i64 tc, .int .i64 tt, .string (str td)] adD cD D p1 p1)) (fun _ _ h k => h.more k) (fun _ _ h k => h.more k) (fun _ _ h k => h.more k))
                have HS3 := Lib.hid (show ∀ w', AT w g gm (fun j => ((ZD adD j ∨ j = bx) ∨ j = b1) ∨ j = bi) bx [.int .i64 4, .int .i64 ta, .int .i64 tb, .int .i64 tc, .int .i64 tt, .string (str td)] adD cD D p1 p w' → Calls Try.prog 30 #[.pointer (some ⟨gm, 0, none⟩), .agg #[.int .i64 yr, .int .i64 yg, .int .i64 yo, .int .i64 yl], .int .i64 tt, .string (str td)] w' fun e w'' => e = .returned (.int .i64 (eS : Int)) ∧ Chg (Tk w (fun j => ((ZD adD j ∨ j = bx) ∨ j = b1) ∨ j = bi)) w' w'' ∧ AT w g gm (fun j => ((ZD adD j ∨ j = bx) ∨ j = b1) ∨ j = bi) bx [.int .i64 4, .int .i64 ta, .int .i64 tb, .int .i64 tc, .int .i64 tt, .string (str td)] adD cD D p1 p1 w'' from fun w' h => (HS2.out _ w' h).mono fun e w'' ⟨h1, h2, h3⟩ => ⟨h1, h2, h.step h2 h3⟩)
                have HLk := Lib.hid (show ∀ w', Calls Try.prog 27 #[.agg #[.int .i64 yr, .int .i64 yg, .int .i64 yo, .int .i64 yl]] w' fun e w'' => e = .returned (.agg #[.int .i64 yr, .int .i64 yg, .int .i64 yo, .int .i64 yl]) ∧ Gr w' w'' from fun w' => like_any w' ⟨yr, yg, yo, yl⟩)
                have HCx := Lib.hid (six_cells (A7.blk.gr (Gr.drew w7)))
                have HCb := Lib.hid (Blk.four (b7.gr (Gr.drew w7)))
                have HOi := Lib.hid (o7.gr (Gr.drew w7))
                have HFe := Lib.hid (HFy.out (fun j => ((ZD adD j ∨ j = bx) ∨ j = b1) ∨ j = bi))
                have HQ := Lib.hid (And.intro hwb (And.intro hal hbl))
                clear A7 b7 o7 HS2 HFy HA hwb hal hbl
                refine region_ghostA (Le := KLe (Tk w (fun j => ((ZD adD j ∨ j = bx) ∨ j = b1) ∨ j = bi)) (TK (AT w g gm (fun j => ((ZD adD j ∨ j = bx) ∨ j = b1) ∨ j = bi) bx [.int .i64 4, .int .i64 ta, .int .i64 tb, .int .i64 tc, .int .i64 tt, .string (str td)] adD cD D p1 p) (AT w g gm (fun j => ((ZD adD j ∨ j = bx) ∨ j = b1) ∨ j = bi) bx [.int .i64 4, .int .i64 ta, .int .i64 tb, .int .i64 tc, .int .i64 tt, .string (str td)] adD cD D p1 p1) (AT w g gm (fun j => ((ZD adD j ∨ j = bx) ∨ j = b1) ∨ j = bi) bx [.int .i64 4, .int .i64 ta, .int .i64 tb, .int .i64 tc, .int .i64 tt, .string (str td)] adD cD D p1 p1)) 1) (PreK fun k => if k = 8 then 0 else 1) KLe.refl KLe.trans 0 PreK.start _ [IsG (.int .i64 (eS : Int)), IsG (.pointer (some ⟨gm, 0, none⟩)), IsG (.agg #[.int .i64 yr, .int .i64 yg, .int .i64 yo, .int .i64 yl]), IsG (.agg #[.int .i64 yr, .int .i64 yg, .int .i64 yo, .int .i64 yl]), IsG (.pointer (some ⟨bx, 4, none⟩)), IsG (.int .i64 tt), IsG (.pointer (some ⟨bx, 5, none⟩)), IsG (.string (str td)), IsS (.int .i64 (eS : Int)) (AtK 1), IsG (.bool false)] (by kernel_rfl) (by kernel_rfl) (by kernel_rfl) rfl rfl ⟨IsG.stable _, IsG.stable _, IsG.stable _, IsG.stable _, IsG.stable _, IsG.stable _, IsG.stable _, IsG.stable _, AtK.stable _ _, IsG.stable _, trivial⟩ ⟨?s0x1, ?s1x1, ?s2x1, ?s3x1, ?s4x1, ?s5x1, ?s6x1, ?s7x1, ?s8x1, ?s9x1, trivial⟩ ?finx1
                case' s0x1 | s1x1 | s2x1 | s3x1 | s4x1 | s5x1 | s6x1 | s7x1 | s9x1 =>
                  intro ρ wr gh hρ hg hK
                  simp [readsOf, slotsOf, Op.operands, Call.operands, tmpOf, List.filterMap_cons, List.filterMap_nil, KnownAll, knownOf, srcOf, depsOf, dstOf, Region.binds, nthG, IsG, IsS] at hK
                  obtain ⟨hc, hf, hgl⟩ := hρ
                  try simp only [wantedBy, dstOf, boolOf, nthG, List.getD_cons_zero, List.getD_cons_succ, List.getElem?_cons_zero, List.getElem?_cons_succ, Option.bind_some, if_true, hK, BEq.rfl]
                  try go_simp
                  first | exact rfl | exact pureG KLe.refl rfl | (refine pureG KLe.refl ?_; go_simp; done) | (refine pureG KLe.refl ?_; rfl) | (rw [if_pos (by omega)]; exact pureG KLe.refl rfl) | (rw [dif_pos (by omega)]; exact pureG KLe.refl rfl) | exact pureG KLe.refl (congrArg (Value.int _) (IntWalk.i64_in _ ⟨by omega, by omega⟩)) | skip
                case' s8x1 =>
                  intro ρ wr gh hρ hg hK
                  simp [readsOf, slotsOf, Op.operands, Call.operands, tmpOf, List.filterMap_cons, List.filterMap_nil, KnownAll, knownOf, srcOf, depsOf, dstOf, Region.binds, nthG, IsG, IsS] at hK
                  obtain ⟨hc, hf, hgl⟩ := hρ
                  try simp only [wantedBy, dstOf, boolOf, nthG, List.getD_cons_zero, List.getD_cons_succ, List.getElem?_cons_zero, List.getElem?_cons_succ, Option.bind_some, if_true, hK, BEq.rfl]
                case s2x1 =>
                  obtain ⟨z0, z1, z2, z3, _⟩ := HCb.out
                  have z0 := hg.1.chg.cell z0 (fun e => e.2 (.inl (.inr rfl)))
                  have z1 := hg.1.chg.cell z1 (fun e => e.2 (.inl (.inr rfl)))
                  have z2 := hg.1.chg.cell z2 (fun e => e.2 (.inl (.inr rfl)))
                  have z3 := hg.1.chg.cell z3 (fun e => e.2 (.inl (.inr rfl)))
                  go_simp
                  exact pureG KLe.refl rfl
                case s3x1 => exact stayK HKm.out (HLk.out wr)
                case s5x1 | s7x1 =>
                  obtain ⟨_, _, _, _, z4, z5⟩ := HCx.out
                  have z4 := hg.1.chg.cell z4 (fun e => e.2 (.inl (.inl (.inr rfl))))
                  have z5 := hg.1.chg.cell z5 (fun e => e.2 (.inl (.inl (.inr rfl))))
                  go_simp
                  exact pureG KLe.refl rfl
                case s8x1 =>
                  have HI := hg.1.inv HK0.out
                  have hz : gh ≤ 0 := hg.2.1 8 (by kernel_rfl)
                  obtain rfl : gh = 0 := by omega
                  have hP : (AT w g gm (fun j => ((ZD adD j ∨ j = bx) ∨ j = b1) ∨ j = bi) bx [.int .i64 4, .int .i64 ta, .int .i64 tb, .int .i64 tc, .int .i64 tt, .string (str td)] adD cD D p1 p) wr := HI.at_
                  have HPh := Lib.hid hP
                  clear HI hP hz hg
                  go_simp
                  exact enterK g1_ne (by decide) (HS3.out _ HPh.out)
                case finx1 =>
                  intro w1 g1 val hg hH
                  simp only [HoldsG, IsG, IsS, Nat.zero_add, Nat.reduceAdd] at hH
                  obtain ⟨h0, h1, h2, h3, h4, h5, h6, h7, h8, h9, _⟩ := hH
                  simp only [List.take_succ_cons, List.take_zero, List.drop_succ_cons, List.drop_zero, putAll, h0, h1, h2, h3, h4, h5, h6, h7, h9, Nat.zero_add, Nat.reduceAdd]
                  have h19b := h8.2
                  have h19b : 1 ≤ g1 := h19b
                  have HI := hg.inv HK0.out
                  have hle := HI.le
                  obtain rfl : g1 = 1 := by simp only at hle; omega
                  have hP : (AT w g gm (fun j => ((ZD adD j ∨ j = bx) ∨ j = b1) ∨ j = bi) bx [.int .i64 4, .int .i64 ta, .int .i64 tb, .int .i64 tc, .int .i64 tt, .string (str td)] adD cD D p1 p1) w1 := HI.at_
                  have HPn := Lib.hid hP
                  have HOs := Lib.hid (hg.chg.owns HOi.out (fun x hx e => by cases hx; exact e.2 (.inr rfl)))
                  clear HI hP hle hg HK0 HKm HS3 HLk HCx HCb HOi h8 h19b
                  go_simp
                  go_wp2
                  go_loopw [33] (fun v wr => ∃ (k : Nat) (xs : List Value), k ≤ td.length ∧ v = .int .i64 (k : Int) ∧ AT w g gm (fun j => ((ZD adD j ∨ j = bx) ∨ j = b1) ∨ j = bi) bx [.int .i64 4, .int .i64 ta, .int .i64 tb, .int .i64 tc, .int .i64 tt, .string (str td)] adD cD D p1 p1 wr ∧ Owns wr bi 5 1 (some ⟨bi, 0, none⟩) cpi td.length xs) (fun v _ => td.length - (intOf v).toNat)
                  case atStart => exact ⟨0, _, Nat.zero_le _, rfl, HPn.out, HOs.out⟩
                  case round =>
                    clear HPn HOs
                    obtain ⟨k, xs, hk, rfl, hgk, hok⟩ := hrel
                    by_cases hkl : k < td.length
                    · have hxl := hok.1
                      obtain ⟨vq, hvq⟩ : ∃ v, xs[k]? = some v := ⟨_, List.getElem?_eq_getElem (show k < xs.length by omega)⟩
                      obtain ⟨bq, hbq, hbs, zq⟩ := hok.at hvq
                      obtain rfl : bi = bq := by have := Option.some.inj hbq; exact congrArg Addr.block this
                      have hfz := hok.unfrozen hbq (show k < td.length * 1 by omega)
                      have HOn := Lib.hid (hok.store hbq hkl (.int .u8 34))
                      have HGn := Lib.hid (hgk.put k (.int .u8 34) (.inr rfl) HQ.out.1 HQ.out.2.2 HQ.out.2.1)
                      clear hgk hok hxl hbs hvq hbq
                      go_wp2
                      go_roundw
                      case rel => exact ⟨k + 1, _, hkl, by go_num, HGn.out, HOn.out⟩
                      case measure => simp [intOf]; omega
                    · obtain rfl : k = td.length := by omega
                      have HGn := Lib.hid hgk
                      clear hgk hok
                      go_wp2
                      go_meet
                      exact ⟨_, _, _, _, rfl, HFe.out _ HGn.out⟩
              -->>four
            by_cases n5 : tk = 5
            · subst n5
              have HF1 := Lib.hid (show ∀ w', AT w g gm (fun j => ZD adD j ∨ j = bx) bx [.int .i64 5, .int .i64 ta, .int .i64 tb, .int .i64 tc, .int .i64 tt, .string (str td)] adD cD D p p w' → Calls Try.prog 17 #[.pointer (some ⟨g, 0, none⟩), .int .i64 ta] w' fun e w'' => e = .returned (.int .i64 ((freeF p ta).1 : Int)) ∧ Chg (Tk w (fun j => ZD adD j ∨ j = bx)) w' w'' ∧ AT w g gm (fun j => ZD adD j ∨ j = bx) bx [.int .i64 5, .int .i64 ta, .int .i64 tb, .int .i64 tc, .int .i64 tt, .string (str td)] adD cD D (freeF p ta).2 p w'' from fun w' h => (Free_tz h.tz ta).mono fun e w'' ⟨h1, h2, h3⟩ => ⟨h1, h2, h.step h2 h3⟩)
              have HF2 := Lib.hid (show ∀ w', AT w g gm (fun j => ZD adD j ∨ j = bx) bx [.int .i64 5, .int .i64 ta, .int .i64 tb, .int .i64 tc, .int .i64 tt, .string (str td)] adD cD D (freeF p ta).2 p w' → Calls Try.prog 31 #[.pointer (some ⟨gm, 0, none⟩), .int .i64 ta] w' fun e w'' => e = .returned (.int .i64 ((freeF p ta).1 : Int)) ∧ Chg (Tk w (fun j => ZD adD j ∨ j = bx)) w' w'' ∧ AT w g gm (fun j => ZD adD j ∨ j = bx) bx [.int .i64 5, .int .i64 ta, .int .i64 tb, .int .i64 tc, .int .i64 tt, .string (str td)] adD cD D (freeF p ta).2 (freeF p ta).2 w'' from fun w' h => (rFree_tz h.tz ta).mono fun e w'' ⟨h1, h2, h3⟩ => ⟨h1, h2, h.step h2 h3⟩)
              have HFn := Lib.hid (show ∀ w', AT w g gm (fun j => ZD adD j ∨ j = bx) bx [.int .i64 5, .int .i64 ta, .int .i64 tb, .int .i64 tc, .int .i64 tt, .string (str td)] adD cD D (freeF p ta).2 (freeF p ta).2 w' → TI w g gm n (i + 1) (freeF p ta).2 adD cD D w' from fun w' h => h.fin (HG.out.free HP.out ta) (by rw [free_len]; exact HNB.out) (Nat.le_succ_of_le HDl.out))
              rcases hF : freeF p ta with ⟨eF, p1⟩
              rw [hF] at HF1 HF2 HFn
              simp only at HF1 HF2 HFn
              have z1 : wb.drew.cell? ⟨bx, 1, none⟩ = some (.int .i64 ta) := x1
              have HZ1 := Lib.hid z1
              clear hF x0 x1 x2 x3 x4 x5 z1
              have HK0 := Lib.hid (KInv.mk (K := TK (AT w g gm (fun j => ZD adD j ∨ j = bx) bx [.int .i64 5, .int .i64 ta, .int .i64 tb, .int .i64 tc, .int .i64 tt, .string (str td)] adD cD D p p) (AT w g gm (fun j => ZD adD j ∨ j = bx) bx [.int .i64 5, .int .i64 ta, .int .i64 tb, .int .i64 tc, .int .i64 tt, .string (str td)] adD cD D p1 p) (AT w g gm (fun j => ZD adD j ∨ j = bx) bx [.int .i64 5, .int .i64 ta, .int .i64 tb, .int .i64 tc, .int .i64 tt, .string (str td)] adD cD D p1 p1)) (m := 2) (s := (wb.drew, 0)) (Nat.zero_le _) (HA.out.more (Gr.drew wb)))
              --<<five
              as_aux_lemma =>
                go_wp2
                refine region_ghostA (Le := KLe (Tk w (fun j => ZD adD j ∨ j = bx)) (TK (AT w g gm (fun j => ZD adD j ∨ j = bx) bx [.int .i64 5, .int .i64 ta, .int .i64 tb, .int .i64 tc, .int .i64 tt, .string (str td)] adD cD D p p) (AT w g gm (fun j => ZD adD j ∨ j = bx) bx [.int .i64 5, .int .i64 ta, .int .i64 tb, .int .i64 tc, .int .i64 tt, .string (str td)] adD cD D p1 p) (AT w g gm (fun j => ZD adD j ∨ j = bx) bx [.int .i64 5, .int .i64 ta, .int .i64 tb, .int .i64 tc, .int .i64 tt, .string (str td)] adD cD D p1 p1)) 2) (PreK fun k => if k = 3 then 0 else if k = 7 then 1 else 2) KLe.refl KLe.trans 0 PreK.start _ [IsG (.pointer (some ⟨g, 0, none⟩)), IsG (.pointer (some ⟨bx, 1, none⟩)), IsG (.int .i64 ta), IsS (.int .i64 (eF : Int)) (AtK 1), IsG (.pointer (some ⟨gm, 0, none⟩)), IsG (.pointer (some ⟨bx, 1, none⟩)), IsG (.int .i64 ta), IsS (.int .i64 (eF : Int)) (AtK 2), IsG (.bool false)] (by kernel_rfl) (by kernel_rfl) (by kernel_rfl) rfl rfl ⟨IsG.stable _, IsG.stable _, IsG.stable _, AtK.stable _ _, IsG.stable _, IsG.stable _, IsG.stable _, AtK.stable _ _, IsG.stable _, trivial⟩ ⟨?s0x2, ?s1x2, ?s2x2, ?s3x2, ?s4x2, ?s5x2, ?s6x2, ?s7x2, ?s8x2, trivial⟩ ?finx2
                case' s0x2 | s1x2 | s2x2 | s4x2 | s5x2 | s6x2 | s8x2 =>
                  intro ρ wr gh hρ hg hK
                  simp [readsOf, slotsOf, Op.operands, Call.operands, tmpOf, List.filterMap_cons, List.filterMap_nil, KnownAll, knownOf, srcOf, depsOf, dstOf, Region.binds, nthG, IsG, IsS] at hK
                  obtain ⟨hc, hf, hgl⟩ := hρ
                  try simp only [wantedBy, dstOf, boolOf, nthG, List.getD_cons_zero, List.getD_cons_succ, List.getElem?_cons_zero, List.getElem?_cons_succ, Option.bind_some, if_true, hK, BEq.rfl]
                  try go_simp
                  first | exact rfl | exact pureG KLe.refl rfl | (refine pureG KLe.refl ?_; go_simp; done) | (refine pureG KLe.refl ?_; rfl) | (rw [if_pos (by omega)]; exact pureG KLe.refl rfl) | (rw [dif_pos (by omega)]; exact pureG KLe.refl rfl) | exact pureG KLe.refl (congrArg (Value.int _) (IntWalk.i64_in _ ⟨by omega, by omega⟩)) | skip
                case' s3x2 | s7x2 =>
                  intro ρ wr gh hρ hg hK
                  simp [readsOf, slotsOf, Op.operands, Call.operands, tmpOf, List.filterMap_cons, List.filterMap_nil, KnownAll, knownOf, srcOf, depsOf, dstOf, Region.binds, nthG, IsG, IsS] at hK
                  obtain ⟨hc, hf, hgl⟩ := hρ
                  try simp only [wantedBy, dstOf, boolOf, nthG, List.getD_cons_zero, List.getD_cons_succ, List.getElem?_cons_zero, List.getElem?_cons_succ, Option.bind_some, if_true, hK, BEq.rfl]
                case s2x2 | s6x2 =>
                  have z1 := hg.1.chg.cell HZ1.out (fun e => e.2 (.inr rfl))
                  go_simp
                  exact pureG KLe.refl rfl
                case s3x2 =>
                  have HI := hg.1.inv HK0.out
                  have hz : gh ≤ 0 := hg.2.1 3 (by kernel_rfl)
                  obtain rfl : gh = 0 := by omega
                  have hP : (AT w g gm (fun j => ZD adD j ∨ j = bx) bx [.int .i64 5, .int .i64 ta, .int .i64 tb, .int .i64 tc, .int .i64 tt, .string (str td)] adD cD D p p) wr := HI.at_
                  have HPh := Lib.hid hP
                  clear HI hP hz hg
                  go_simp
                  exact enterK (g2_ne (by decide)).1 (by decide) (HF1.out _ HPh.out)
                case s7x2 =>
                  have HI := hg.1.inv HK0.out
                  have hz : gh ≤ 1 := hg.2.1 7 (by kernel_rfl)
                  obtain ⟨v9, _, h9⟩ := hg.2.2 3 (by decide)
                  have h9 : 1 ≤ gh := h9
                  obtain rfl : gh = 1 := by omega
                  have hP : (AT w g gm (fun j => ZD adD j ∨ j = bx) bx [.int .i64 5, .int .i64 ta, .int .i64 tb, .int .i64 tc, .int .i64 tt, .string (str td)] adD cD D p1 p) wr := HI.at_
                  have HPh := Lib.hid hP
                  clear HI hP hz hg h9
                  go_simp
                  exact enterK (g2_ne (by decide)).2 (by decide) (HF2.out _ HPh.out)
                case finx2 =>
                  intro w1 g1 val hg hH
                  simp only [HoldsG, IsG, IsS, Nat.zero_add, Nat.reduceAdd] at hH
                  obtain ⟨h0, h1, h2, h3, h4, h5, h6, h7, h8, _⟩ := hH
                  simp only [List.take_succ_cons, List.take_zero, List.drop_succ_cons, List.drop_zero, putAll, h0, h1, h2, h4, h5, h6, h8, Nat.zero_add, Nat.reduceAdd]
                  have h19b := h7.2
                  have h19b : 2 ≤ g1 := h19b
                  clear h3 h7
                  have HI := hg.inv HK0.out
                  have hle := HI.le
                  obtain rfl : g1 = 2 := by simp only at hle; omega
                  have hP : (AT w g gm (fun j => ZD adD j ∨ j = bx) bx [.int .i64 5, .int .i64 ta, .int .i64 tb, .int .i64 tc, .int .i64 tt, .string (str td)] adD cD D p1 p1) w1 := HI.at_
                  have HPn := Lib.hid (HFn.out _ hP)
                  clear HI hP hle hg HK0 HF1 HF2
                  go_simp
                  go_wp2
                  go_meet
                  exact ⟨_, _, _, _, rfl, HPn.out⟩
              -->>five
            by_cases n6 : tk = 6
            · subst n6
              have HFn := Lib.hid (show ∀ w', AT w g gm (fun j => ZD adD j ∨ j = bx) bx [.int .i64 6, .int .i64 ta, .int .i64 tb, .int .i64 tc, .int .i64 tt, .string (str td)] adD cD D p p w' → TI w g gm n (i + 1) p adD cD D w' from fun w' h => h.fin HG.out.up HNB.out (Nat.le_succ_of_le HDl.out))
              have HS1 := Lib.hid (Slabs_tz HA.out.tz ta)
              have HS2 := Lib.hid (fun w' (h : AT w g gm (fun j => ZD adD j ∨ j = bx) bx [.int .i64 6, .int .i64 ta, .int .i64 tb, .int .i64 tc, .int .i64 tt, .string (str td)] adD cD D p p w') => rSlabs_tz h.tz ta)
              rcases hS : slabsF p ta with ⟨L, eS⟩
              rw [hS] at HS1 HS2
              simp only at HS1 HS2
              clear hS
              --<<six
              as_aux_lemma =>
                go_wp2_with (first
                  | (go_at_call 18; go_must (refine HS1.out.mono ?_); rintro e w4 ⟨ad4, c4, rfl, o4, g4⟩
                     have A4 := HA.out.more g4
                     clear x0 x1 x2 x3 x4 x5
                     obtain ⟨x0, x1, x2, x3, x4, x5⟩ := six_cells A4.blk
                     have hLm : L.length ≤ 9223372036854775807 := by
                       have hc6 := o4.2.1; have hm6 := o4.2.2.1
                       unfold maxLen at hm6; omega)
                  | (go_at_call 32; go_must (refine (HS2.out _ A4).mono ?_); rintro e w5 ⟨ad5, c5, rfl, r5, rfl⟩)
                  | (go_at_call 33; go_must (refine (Ints_any _ ad4 ad5 c4 c5 L hLm o4.row r5).mono ?_); rintro e w6 ⟨rfl, g6⟩
                     have G6 := g4.trans g6
                     have o6 := o4.gr g6)
                  | fail)
                have HGr := Lib.hid G6; have HOs := Lib.hid o6
                clear A4 x0 x1 x2 x3 x4 x5 G6 o6 o4 g4 g6 r5 HS1 HS2
                go_loopw [38] (fun v wr => ∃ (k : Nat) (xs : List Value), k ≤ L.length ∧ v = .int .i64 (k : Int) ∧ Gr wb wr ∧ Owns wr wb.heap.size 3 1 ad4 c4 L.length xs) (fun v _ => L.length - (intOf v).toNat)
                case atStart => exact ⟨0, _, Nat.zero_le _, rfl, HGr.out, HOs.out⟩
                case round =>
                  clear HGr HOs
                  obtain ⟨k, xs, hk, rfl, hgk, hok⟩ := hrel
                  by_cases hkl : k < L.length
                  · have hxl := hok.1
                    obtain ⟨vq, hvq⟩ : ∃ v, xs[k]? = some v := ⟨_, List.getElem?_eq_getElem (show k < xs.length by omega)⟩
                    obtain ⟨bq, hbq, hbs, zq⟩ := hok.at hvq
                    have hfz := hok.unfrozen hbq (show k < L.length * 1 by omega)
                    have HOn := Lib.hid (hok.store hbq hkl (.int .i64 (-5)))
                    have HGn := Lib.hid (hgk.setCell (p := ⟨bq, k, none⟩) (show wb.heap.size ≤ bq from (hok.lt _ hbq).1) (.int .i64 (-5)))
                    subst hbq
                    clear hgk hok hxl hbs hvq
                    go_wp2
                    go_roundw
                    case rel => exact ⟨k + 1, _, hkl, by go_num, HGn.out, HOn.out⟩
                    case measure => simp [intOf]; omega
                  · obtain rfl : k = L.length := by omega
                    have HGn := Lib.hid hgk
                    clear hgk hok
                    go_wp2
                    go_meet
                    exact ⟨_, _, _, _, rfl, HFn.out _ (HA.out.more HGn.out)⟩
              -->>six
            by_cases n7 : tk = 7
            · subst n7
              have HFn := Lib.hid (show ∀ w', AT w g gm (fun j => ZD adD j ∨ j = bx) bx [.int .i64 7, .int .i64 ta, .int .i64 tb, .int .i64 tc, .int .i64 tt, .string (str td)] adD cD D p p w' → TI w g gm n (i + 1) p adD cD D w' from fun w' h => h.fin HG.out.up HNB.out (Nat.le_succ_of_le HDl.out))
              have HR1 := Lib.hid (Raw_tz HA.out.tz ta)
              have HBy := Lib.hid (fun w' (h : AT w g gm (fun j => ZD adD j ∨ j = bx) bx [.int .i64 7, .int .i64 ta, .int .i64 tb, .int .i64 tc, .int .i64 tt, .string (str td)] adD cD D p p w') => h.tz.bytes)
              by_cases h0 : ta < 0 ∨ (n : Int) ≤ ta
              · have hraw : rawF p ta = ([], 1) := by unfold rawF; rw [if_pos (by rw [HNB.out]; omega)]
                rw [hraw] at HR1
                obtain ⟨L, hL⟩ : ∃ L : List UInt8, L = [] := ⟨_, rfl⟩
                simp only at HR1
                rw [← hL] at HR1
                have hl0 : L.length ≤ 0 := by rw [hL]; exact Nat.le_refl _
                have hl1 : ((L.length : Int) != 0) = false := by rw [hL]; rfl
                clear hL hraw
                --<<seven
                by_cases h1 : ta < 0
                · have hd1 : decide (0 ≤ ta) = false := decide_eq_false (by omega)
                  clear h0
                  as_aux_lemma =>
                    go_upto_region 65 with (first
                      | (go_at_call 19; go_must (refine HR1.out.mono ?_); rintro e w4 ⟨ad4, c4, rfl, o4, g4⟩)
                      | fail)
                    have A4 := HA.out.more (g4.trans (Gr.drew w4))
                    clear x0 x1 x2 x3 x4 x5
                    obtain ⟨x0, x1, x2, x3, x4, x5⟩ := six_cells (HA.out.more g4).blk
                    have hLm : L.length ≤ 9223372036854775807 := by
                      have hc6 := o4.2.1; have hm6 := o4.2.2.1
                      unfold maxLen at hm6; omega
                    go_quiet (fail)
                    have G6 := g4.trans (Gr.drewN w4 nq)
                    have o6 := o4.gr (Gr.drewN w4 nq)
                    clear A4 hl0 hl1
                    go_wp2
                    have HGr := Lib.hid G6; have HOs := Lib.hid o6
                    clear G6 o6 o4 g4 HR1 HBy x0 x1 x2 x3 x4 x5
                    go_loopw [41] (fun v wr => ∃ (k : Nat) (xs : List Value), k ≤ L.length ∧ v = .int .i64 (k : Int) ∧ Gr wb wr ∧ Owns wr wb.heap.size 5 1 ad4 c4 L.length xs) (fun v _ => L.length - (intOf v).toNat)
                    case atStart => exact ⟨0, _, Nat.zero_le _, rfl, HGr.out, HOs.out⟩
                    case round =>
                      clear HGr HOs
                      obtain ⟨k, xs, hk, rfl, hgk, hok⟩ := hrel
                      by_cases hkl : k < L.length
                      · have hxl := hok.1
                        obtain ⟨vq, hvq⟩ : ∃ v, xs[k]? = some v := ⟨_, List.getElem?_eq_getElem (show k < xs.length by omega)⟩
                        obtain ⟨bq, hbq, hbs, zq⟩ := hok.at hvq
                        have hfz := hok.unfrozen hbq (show k < L.length * 1 by omega)
                        have HOn := Lib.hid (hok.store hbq hkl (.int .u8 51))
                        have HGn := Lib.hid (hgk.setCell (p := ⟨bq, k, none⟩) (show wb.heap.size ≤ bq from (hok.lt _ hbq).1) (.int .u8 51))
                        subst hbq
                        clear hgk hok hxl hbs hvq
                        go_wp2
                        go_roundw
                        case rel => exact ⟨k + 1, _, hkl, by go_num, HGn.out, HOn.out⟩
                        case measure => simp [intOf]; omega
                      · obtain rfl : k = L.length := by omega
                        have HGn := Lib.hid hgk
                        clear hgk hok
                        go_wp2
                        go_meet
                        exact ⟨_, _, _, _, rfl, HFn.out _ (HA.out.more HGn.out)⟩
                · have hd1 : decide (0 ≤ ta) = true := decide_eq_true (by omega)
                  have hd2 : decide (ta < (n : Int)) = false := decide_eq_false (by omega)
                  clear h0
                  as_aux_lemma =>
                    go_upto_region 65 with (first
                      | (go_at_call 19; go_must (refine HR1.out.mono ?_); rintro e w4 ⟨ad4, c4, rfl, o4, g4⟩)
                      | fail)
                    have A4 := HA.out.more (g4.trans (Gr.drew w4))
                    clear x0 x1 x2 x3 x4 x5
                    obtain ⟨x0, x1, x2, x3, x4, x5⟩ := six_cells (HA.out.more g4).blk
                    have hLm : L.length ≤ 9223372036854775807 := by
                      have hc6 := o4.2.1; have hm6 := o4.2.2.1
                      unfold maxLen at hm6; omega
                    go_quiet (fail)
                    have G6 := g4.trans (Gr.drewN w4 nq)
                    have o6 := o4.gr (Gr.drewN w4 nq)
                    clear A4 hl0 hl1
                    go_wp2
                    have HGr := Lib.hid G6; have HOs := Lib.hid o6
                    clear G6 o6 o4 g4 HR1 HBy x0 x1 x2 x3 x4 x5
                    go_loopw [41] (fun v wr => ∃ (k : Nat) (xs : List Value), k ≤ L.length ∧ v = .int .i64 (k : Int) ∧ Gr wb wr ∧ Owns wr wb.heap.size 5 1 ad4 c4 L.length xs) (fun v _ => L.length - (intOf v).toNat)
                    case atStart => exact ⟨0, _, Nat.zero_le _, rfl, HGr.out, HOs.out⟩
                    case round =>
                      clear HGr HOs
                      obtain ⟨k, xs, hk, rfl, hgk, hok⟩ := hrel
                      by_cases hkl : k < L.length
                      · have hxl := hok.1
                        obtain ⟨vq, hvq⟩ : ∃ v, xs[k]? = some v := ⟨_, List.getElem?_eq_getElem (show k < xs.length by omega)⟩
                        obtain ⟨bq, hbq, hbs, zq⟩ := hok.at hvq
                        have hfz := hok.unfrozen hbq (show k < L.length * 1 by omega)
                        have HOn := Lib.hid (hok.store hbq hkl (.int .u8 51))
                        have HGn := Lib.hid (hgk.setCell (p := ⟨bq, k, none⟩) (show wb.heap.size ≤ bq from (hok.lt _ hbq).1) (.int .u8 51))
                        subst hbq
                        clear hgk hok hxl hbs hvq
                        go_wp2
                        go_roundw
                        case rel => exact ⟨k + 1, _, hkl, by go_num, HGn.out, HOn.out⟩
                        case measure => simp [intOf]; omega
                      · obtain rfl : k = L.length := by omega
                        have HGn := Lib.hid hgk
                        clear hgk hok
                        go_wp2
                        go_meet
                        exact ⟨_, _, _, _, rfl, HFn.out _ (HA.out.more HGn.out)⟩
                -->>seven
              · obtain ⟨tn, rfl⟩ := Int.eq_ofNat_of_zero_le (show 0 ≤ ta by omega)
                have htn : tn < n := by omega
                have hraw : rawF p (tn : Int) = (bytesAt p tn, 0) := by unfold rawF; rw [if_neg (by rw [HNB.out]; omega), Int.toNat_natCast]
                have HSv := Lib.hid (show (sv p.bytes)[tn]? = some (.string (str (bytesAt p tn))) from sv_at2 (by rw [HNB.out]; exact htn))
                have HPl := Lib.hid HNB.out
                rw [hraw] at HR1
                simp only at HR1
                generalize bytesAt p tn = L at HR1 HSv
                have hd1 : decide (0 ≤ (tn : Int)) = true := decide_eq_true (by omega)
                have hd2 : decide ((tn : Int) < (n : Int)) = true := decide_eq_true (by omega)
                clear h0 hraw
                --<<eight
                as_aux_lemma =>
                  go_upto_region 65 with (first
                    | (go_at_call 19; go_must (refine HR1.out.mono ?_); rintro e w4 ⟨ad4, c4, rfl, o4, g4⟩)
                    | fail)
                  have A4 := HA.out.more (g4.trans (Gr.drew w4))
                  clear x0 x1 x2 x3 x4 x5
                  obtain ⟨x0, x1, x2, x3, x4, x5⟩ := six_cells (HA.out.more g4).blk
                  have hLm : L.length ≤ 9223372036854775807 := by
                    have hc6 := o4.2.1; have hm6 := o4.2.2.1
                    unfold maxLen at hm6; omega
                  obtain ⟨ads, cs, q1, rq⟩ := HBy.out _ (HA.out.more g4)
                  rw [HPl.out] at q1
                  obtain ⟨bs, os_, e9, q2⟩ := rq tn _ HSv.out
                  subst e9
                  have HQ := Lib.hid (And.intro q1 q2)
                  have HO4 := Lib.hid o4
                  have HG4 := Lib.hid g4
                  have HX1 := Lib.hid x1
                  clear rq A4 q1 q2 o4 g4 x0 x1 x2 x3 x4 x5
                  refine region_any_gr _ [Is ?r0x3, Is ?r1x3, Is ?r2x3, Is (.int .i64 (tn : Int)), Is (.bool true), Is (.bool true), Is ?r6x3, Is (.int .i64 (tn : Int)), Is ?r8x3, Is (.bool true), Is (.bool true), Is (.bool false), Is (.bool false), Is ?r13x3, Is ?r14x3, Is (.bool true), Is ?r16x3, Is (.string (str L)), Is ?r18x3, Is ?r19x3, Is ?r20x3, Is (.slice (some ⟨bs, os_, none⟩) n cs), Is ?r22x3, Is (.int .i64 (tn : Int)), Is (.pointer (some ⟨bs, os_ + tn, none⟩)), Is (.string (str L)), Is (.bool false), Is (.bool false), Is (.bool false), Is (.bool false), Is ?r30x3, Is (.bool false), Is (.bool false), Is ?r33x3, Is ?r34x3, Is ?r35x3, Is ?r36x3, Is ?r37x3, Is ?r38x3, Is ?r39x3, Is (.bool false), Is (.bool false)] (by kernel_rfl) (by kernel_rfl) (by kernel_rfl) rfl rfl ⟨Is.stable _, Is.stable _, Is.stable _, Is.stable _, Is.stable _, Is.stable _, Is.stable _, Is.stable _, Is.stable _, Is.stable _, Is.stable _, Is.stable _, Is.stable _, Is.stable _, Is.stable _, Is.stable _, Is.stable _, Is.stable _, Is.stable _, Is.stable _, Is.stable _, Is.stable _, Is.stable _, Is.stable _, Is.stable _, Is.stable _, Is.stable _, Is.stable _, Is.stable _, Is.stable _, Is.stable _, Is.stable _, Is.stable _, Is.stable _, Is.stable _, Is.stable _, Is.stable _, Is.stable _, Is.stable _, Is.stable _, Is.stable _, Is.stable _, trivial⟩ ⟨?s0x3, ?s1x3, ?s2x3, ?s3x3, ?s4x3, ?s5x3, ?s6x3, ?s7x3, ?s8x3, ?s9x3, ?s10x3, ?s11x3, ?s12x3, ?s13x3, ?s14x3, ?s15x3, ?s16x3, ?s17x3, ?s18x3, ?s19x3, ?s20x3, ?s21x3, ?s22x3, ?s23x3, ?s24x3, ?s25x3, ?s26x3, ?s27x3, ?s28x3, ?s29x3, ?s30x3, ?s31x3, ?s32x3, ?s33x3, ?s34x3, ?s35x3, ?s36x3, ?s37x3, ?s38x3, ?s39x3, ?s40x3, ?s41x3, trivial⟩ ?finx3
                  case' s0x3 | s1x3 | s2x3 | s3x3 | s4x3 | s5x3 | s6x3 | s7x3 | s8x3 | s9x3 | s10x3 | s11x3 | s12x3 | s13x3 | s14x3 | s15x3 | s16x3 | s17x3 | s18x3 | s19x3 | s20x3 | s21x3 | s22x3 | s23x3 | s24x3 | s25x3 | s26x3 | s27x3 | s28x3 | s29x3 | s30x3 | s31x3 | s32x3 | s33x3 | s34x3 | s35x3 | s36x3 | s37x3 | s38x3 | s39x3 | s40x3 | s41x3 =>
                    intro ρ wr hρ hg hK
                    simp [readsOf, slotsOf, Op.operands, Call.operands, tmpOf, List.filterMap_cons, List.filterMap_nil, KnownAll, knownOf, srcOf, depsOf, dstOf, Region.binds, nth, Is] at hK
                    obtain ⟨hc, hf, hgl⟩ := hρ
                    try simp only [wantedBy, dstOf, boolOf, nth, List.getD_cons_zero, List.getD_cons_succ, List.getElem?_cons_zero, List.getElem?_cons_succ, Option.bind_some, if_true, hK, BEq.rfl]
                    try go_simp
                    first | exact rfl | (rw [if_pos (by omega)]; exact is_here rfl) | (rw [dif_pos (by omega)]; exact is_here rfl) | exact congrArg (Value.int _) (IntWalk.i64_in _ ⟨by omega, by omega⟩) | skip
                  case s3x3 | s7x3 | s23x3 =>
                    have z := hg.cell HX1.out
                    go_simp
                    exact rfl
                  case s17x3 => exact any_str Try.underlying23 Try.underlying5 Try.underlying9 ⟨ad4, c4, rfl, (HO4.out.gr hg).bytes⟩
                  case s21x3 =>
                    have z := hg.cell HQ.out.1
                    go_simp
                    exact rfl
                  case s25x3 =>
                    have z := hg.cell HQ.out.2
                    go_simp
                    exact rfl
                  case finx3 =>
                    intro w1 val hg hH
                    simp only [Holds, Is, Nat.zero_add, Nat.reduceAdd] at hH
                    obtain ⟨h0, h1, h2, h3, h4, h5, h6, h7, h8, h9, h10, h11, h12, h13, h14, h15, h16, h17, h18, h19, h20, h21, h22, h23, h24, h25, h26, h27, h28, h29, h30, h31, h32, h33, h34, h35, h36, h37, h38, h39, h40, h41, _⟩ := hH
                    simp only [List.take_succ_cons, List.take_zero, List.drop_succ_cons, List.drop_zero, putAll, h0, h1, h2, h3, h4, h5, h6, h7, h8, h9, h10, h11, h12, h13, h14, h15, h16, h17, h18, h19, h20, h21, h22, h23, h24, h25, h26, h27, h28, h29, h30, h31, h32, h33, h34, h35, h36, h37, h38, h39, h40, h41, Nat.zero_add, Nat.reduceAdd]
                    have G6 := HG4.out.trans hg
                    have o6 := HO4.out.gr hg
                    clear hg HQ HX1
                    go_simp
                    have HGr := Lib.hid G6; have HOs := Lib.hid o6
                    clear G6 o6 HO4 HG4 HR1 HBy
                    go_wp2
                    go_loopw [41] (fun v wr => ∃ (k : Nat) (xs : List Value), k ≤ L.length ∧ v = .int .i64 (k : Int) ∧ Gr wb wr ∧ Owns wr wb.heap.size 5 1 ad4 c4 L.length xs) (fun v _ => L.length - (intOf v).toNat)
                    case atStart => exact ⟨0, _, Nat.zero_le _, rfl, HGr.out, HOs.out⟩
                    case round =>
                      clear HGr HOs
                      obtain ⟨k, xs, hk, rfl, hgk, hok⟩ := hrel
                      by_cases hkl : k < L.length
                      · have hxl := hok.1
                        obtain ⟨vq, hvq⟩ : ∃ v, xs[k]? = some v := ⟨_, List.getElem?_eq_getElem (show k < xs.length by omega)⟩
                        obtain ⟨bq, hbq, hbs, zq⟩ := hok.at hvq
                        have hfz := hok.unfrozen hbq (show k < L.length * 1 by omega)
                        have HOn := Lib.hid (hok.store hbq hkl (.int .u8 51))
                        have HGn := Lib.hid (hgk.setCell (p := ⟨bq, k, none⟩) (show wb.heap.size ≤ bq from (hok.lt _ hbq).1) (.int .u8 51))
                        subst hbq
                        clear hgk hok hxl hbs hvq
                        go_wp2
                        go_roundw
                        case rel => exact ⟨k + 1, _, hkl, by go_num, HGn.out, HOn.out⟩
                        case measure => simp [intOf]; omega
                      · obtain rfl : k = L.length := by omega
                        have HGn := Lib.hid hgk
                        clear hgk hok
                        go_wp2
                        go_meet
                        exact ⟨_, _, _, _, rfl, HFn.out _ (HA.out.more HGn.out)⟩
                -->>eight
            have HE := Lib.hid (HA.out.fin HG.out.up HNB.out (Nat.le_succ_of_le HDl.out))
            --<<nine
            as_aux_lemma =>
              go_wp2
              go_meet
              exact ⟨_, _, _, _, rfl, HE.out⟩
            -->>nine
          case rest =>
            obtain ⟨p', adD', cD', D', rfl, hI⟩ := hcut
            have HI := Lib.hid hI
            clear hI HA HG HP HNB HDl
            --<<rest
            as_aux_lemma =>
              go_wp2_with (first
                | (go_at_call 24; go_must (refine (rIdle_tz HI.out.tz).mono ?_); rintro e w' ⟨rfl, rfl⟩)
                | (go_at_call 20; go_must (refine (Idle_tz HI.out.tz).mono ?_); rintro e w' ⟨rfl, rfl⟩)
                | fail)
              go_roundw
              case rel => exact ⟨i + 1, p', adD', cD', D', hlt, hlt2, rfl, by go_num, HI.out⟩
              case measure => simp [intOf]; omega
            -->>rest
        · have hx : l.length ≤ i ∨ (i < l.length ∧ 80 ≤ i) := by omega
          have HI := Lib.hid hI
          clear hI HR HDL hlt
          rcases hx with hx | ⟨hx, hx2⟩
          · --<<end
            as_aux_lemma =>
              go_wp2
              go_loopw [44] (fun v wr => ∃ s : Nat, s ≤ n ∧ v = .int .i64 (s : Int) ∧ TI w g gm n i p adD cD D wr) (fun v _ => n - (intOf v).toNat)
              case atStart => exact ⟨0, Nat.zero_le _, rfl, HI.out⟩
              case round =>
                clear HI
                obtain ⟨s, hs, rfl, hI⟩ := hrel
                by_cases hsn : s < n
                · have hraw : rawF p (s : Int) = (bytesAt p s, 0) := by unfold rawF; rw [if_neg (by rw [hI.nb]; omega), Int.toNat_natCast]
                  have HSv := Lib.hid (show (sv p.bytes)[s]? = some (.string (str (bytesAt p s))) from sv_at2 (by rw [hI.nb]; exact hsn))
                  have HR1 := Lib.hid (Raw_tz hI.tz (s : Int))
                  rw [hraw] at HR1
                  simp only at HR1
                  generalize bytesAt p s = L at HR1 HSv
                  have HI := Lib.hid hI
                  clear hraw hI
                  go_upto_region 78 with (first
                    | (go_at_call 19; go_must (refine HR1.out.mono ?_); rintro e w4 ⟨ad4, c4, rfl, o4, g4⟩)
                    | fail)
                  obtain ⟨ads, cs, q1, rq⟩ := (HI.out.tz.more g4).bytes
                  rw [HI.out.nb] at q1
                  obtain ⟨bs, os_, e9, q2⟩ := rq s _ HSv.out
                  subst e9
                  have HQ := Lib.hid (And.intro q1 q2)
                  have HO4 := Lib.hid o4
                  have HG4 := Lib.hid g4
                  clear rq q1 q2 o4 g4 HR1
                  refine region_any_gr _ [Is ?r0x4, Is ?r1x4, Is ?r2x4, Is ?r3x4, Is (.string (str L)), Is ?r5x4, Is ?r6x4, Is ?r7x4, Is (.slice (some ⟨bs, os_, none⟩) n cs), Is ?r9x4, Is (.pointer (some ⟨bs, os_ + s, none⟩)), Is (.string (str L)), Is (.bool false), Is (.bool false)] (by kernel_rfl) (by kernel_rfl) (by kernel_rfl) rfl rfl ⟨Is.stable _, Is.stable _, Is.stable _, Is.stable _, Is.stable _, Is.stable _, Is.stable _, Is.stable _, Is.stable _, Is.stable _, Is.stable _, Is.stable _, Is.stable _, Is.stable _, trivial⟩ ⟨?s0x4, ?s1x4, ?s2x4, ?s3x4, ?s4x4, ?s5x4, ?s6x4, ?s7x4, ?s8x4, ?s9x4, ?s10x4, ?s11x4, ?s12x4, ?s13x4, trivial⟩ ?finx4
                  case' s0x4 | s1x4 | s2x4 | s3x4 | s4x4 | s5x4 | s6x4 | s7x4 | s8x4 | s9x4 | s10x4 | s11x4 | s12x4 | s13x4 =>
                    intro ρ wr hρ hg hK
                    simp [readsOf, slotsOf, Op.operands, Call.operands, tmpOf, List.filterMap_cons, List.filterMap_nil, KnownAll, knownOf, srcOf, depsOf, dstOf, Region.binds, nth, Is] at hK
                    obtain ⟨hc, hf, hgl⟩ := hρ
                    try simp only [wantedBy, dstOf, boolOf, nth, List.getD_cons_zero, List.getD_cons_succ, List.getElem?_cons_zero, List.getElem?_cons_succ, Option.bind_some, if_true, hK, BEq.rfl]
                    try go_simp
                    first | exact rfl | (rw [if_pos (by omega)]; exact is_here rfl) | (rw [dif_pos (by omega)]; exact is_here rfl) | exact congrArg (Value.int _) (IntWalk.i64_in _ ⟨by omega, by omega⟩) | skip
                  case s4x4 => exact any_str Try.underlying23 Try.underlying5 Try.underlying9 ⟨ad4, c4, rfl, (HO4.out.gr hg).bytes⟩
                  case s8x4 =>
                    have z := hg.cell HQ.out.1
                    go_simp
                    exact rfl
                  case s11x4 =>
                    have z := hg.cell HQ.out.2
                    go_simp
                    exact rfl
                  case finx4 =>
                    intro w1 val hg hH
                    simp only [Holds, Is, Nat.zero_add, Nat.reduceAdd] at hH
                    obtain ⟨h0, h1, h2, h3, h4, h5, h6, h7, h8, h9, h10, h11, h12, h13, _⟩ := hH
                    simp only [List.take_succ_cons, List.take_zero, List.drop_succ_cons, List.drop_zero, putAll, h0, h1, h2, h3, h4, h5, h6, h7, h8, h9, h10, h11, h12, h13, Nat.zero_add, Nat.reduceAdd]
                    have G6 := Lib.hid (HG4.out.trans hg)
                    clear hg HQ HO4 HG4
                    go_simp
                    go_wp2
                    go_roundw
                    case rel => exact ⟨s + 1, hsn, by go_num, ⟨HI.out.tz.more G6.out, HI.out.gens, HI.out.own.gr G6.out, HI.out.nb, HI.out.dl⟩⟩
                    case measure => simp [intOf]; omega
                · obtain rfl : s = n := by omega
                  have HI := Lib.hid hI
                  clear hI
                  go_wp2
                  go_ret
                  exact ⟨rfl, HI.out.tz.gr⟩
            -->>end
          · --<<endb
            as_aux_lemma =>
              go_wp2
              go_loopw [44] (fun v wr => ∃ s : Nat, s ≤ n ∧ v = .int .i64 (s : Int) ∧ TI w g gm n i p adD cD D wr) (fun v _ => n - (intOf v).toNat)
              case atStart => exact ⟨0, Nat.zero_le _, rfl, HI.out⟩
              case round =>
                clear HI
                obtain ⟨s, hs, rfl, hI⟩ := hrel
                by_cases hsn : s < n
                · have hraw : rawF p (s : Int) = (bytesAt p s, 0) := by unfold rawF; rw [if_neg (by rw [hI.nb]; omega), Int.toNat_natCast]
                  have HSv := Lib.hid (show (sv p.bytes)[s]? = some (.string (str (bytesAt p s))) from sv_at2 (by rw [hI.nb]; exact hsn))
                  have HR1 := Lib.hid (Raw_tz hI.tz (s : Int))
                  rw [hraw] at HR1
                  simp only at HR1
                  generalize bytesAt p s = L at HR1 HSv
                  have HI := Lib.hid hI
                  clear hraw hI
                  go_upto_region 78 with (first
                    | (go_at_call 19; go_must (refine HR1.out.mono ?_); rintro e w4 ⟨ad4, c4, rfl, o4, g4⟩)
                    | fail)
                  obtain ⟨ads, cs, q1, rq⟩ := (HI.out.tz.more g4).bytes
                  rw [HI.out.nb] at q1
                  obtain ⟨bs, os_, e9, q2⟩ := rq s _ HSv.out
                  subst e9
                  have HQ := Lib.hid (And.intro q1 q2)
                  have HO4 := Lib.hid o4
                  have HG4 := Lib.hid g4
                  clear rq q1 q2 o4 g4 HR1
                  refine region_any_gr _ [Is ?r0x5, Is ?r1x5, Is ?r2x5, Is ?r3x5, Is (.string (str L)), Is ?r5x5, Is ?r6x5, Is ?r7x5, Is (.slice (some ⟨bs, os_, none⟩) n cs), Is ?r9x5, Is (.pointer (some ⟨bs, os_ + s, none⟩)), Is (.string (str L)), Is (.bool false), Is (.bool false)] (by kernel_rfl) (by kernel_rfl) (by kernel_rfl) rfl rfl ⟨Is.stable _, Is.stable _, Is.stable _, Is.stable _, Is.stable _, Is.stable _, Is.stable _, Is.stable _, Is.stable _, Is.stable _, Is.stable _, Is.stable _, Is.stable _, Is.stable _, trivial⟩ ⟨?s0x5, ?s1x5, ?s2x5, ?s3x5, ?s4x5, ?s5x5, ?s6x5, ?s7x5, ?s8x5, ?s9x5, ?s10x5, ?s11x5, ?s12x5, ?s13x5, trivial⟩ ?finx5
                  case' s0x5 | s1x5 | s2x5 | s3x5 | s4x5 | s5x5 | s6x5 | s7x5 | s8x5 | s9x5 | s10x5 | s11x5 | s12x5 | s13x5 =>
                    intro ρ wr hρ hg hK
                    simp [readsOf, slotsOf, Op.operands, Call.operands, tmpOf, List.filterMap_cons, List.filterMap_nil, KnownAll, knownOf, srcOf, depsOf, dstOf, Region.binds, nth, Is] at hK
                    obtain ⟨hc, hf, hgl⟩ := hρ
                    try simp only [wantedBy, dstOf, boolOf, nth, List.getD_cons_zero, List.getD_cons_succ, List.getElem?_cons_zero, List.getElem?_cons_succ, Option.bind_some, if_true, hK, BEq.rfl]
                    try go_simp
                    first | exact rfl | (rw [if_pos (by omega)]; exact is_here rfl) | (rw [dif_pos (by omega)]; exact is_here rfl) | exact congrArg (Value.int _) (IntWalk.i64_in _ ⟨by omega, by omega⟩) | skip
                  case s4x5 => exact any_str Try.underlying23 Try.underlying5 Try.underlying9 ⟨ad4, c4, rfl, (HO4.out.gr hg).bytes⟩
                  case s8x5 =>
                    have z := hg.cell HQ.out.1
                    go_simp
                    exact rfl
                  case s11x5 =>
                    have z := hg.cell HQ.out.2
                    go_simp
                    exact rfl
                  case finx5 =>
                    intro w1 val hg hH
                    simp only [Holds, Is, Nat.zero_add, Nat.reduceAdd] at hH
                    obtain ⟨h0, h1, h2, h3, h4, h5, h6, h7, h8, h9, h10, h11, h12, h13, _⟩ := hH
                    simp only [List.take_succ_cons, List.take_zero, List.drop_succ_cons, List.drop_zero, putAll, h0, h1, h2, h3, h4, h5, h6, h7, h8, h9, h10, h11, h12, h13, Nat.zero_add, Nat.reduceAdd]
                    have G6 := Lib.hid (HG4.out.trans hg)
                    clear hg HQ HO4 HG4
                    go_simp
                    go_wp2
                    go_roundw
                    case rel => exact ⟨s + 1, hsn, by go_num, ⟨HI.out.tz.more G6.out, HI.out.gens, HI.out.own.gr G6.out, HI.out.nb, HI.out.dl⟩⟩
                    case measure => simp [intOf]; omega
                · obtain rfl : s = n := by omega
                  have HI := Lib.hid hI
                  clear hI
                  go_wp2
                  go_ret
                  exact ⟨rfl, HI.out.tz.gr⟩
            -->>endb
end Go.Proofs.Ytfnimpgphagnfaa
