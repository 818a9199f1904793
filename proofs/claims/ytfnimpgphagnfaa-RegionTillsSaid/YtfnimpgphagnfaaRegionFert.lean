/- Layer 1 (region): fertile walked. -/
import Derived.Test.YtfnimpgphagnfaaRegionLaws
namespace Go.Proofs.Ytfnimpgphagnfaa
set_option linter.unusedVariables false
set_option linter.unusedSimpArgs false
open Go.RowKit
set_option maxRecDepth 100000 in
set_option maxHeartbeats 4000000 in
theorem fertile_any (w : World) : Calls Try.prog 10 #[] w fun e w' => e = .returned (.bool true) ∧ Gr w w' := by
  have T0 : RowKit.Hid True := trivial
  go_enter Try.func10, Try.ntmps10
  go_wp2_with (first
    | (go_at_call 11; go_must (refine (New_pl (Gr.refl w) 64 2 (by decide) (by decide) (by decide) (by decide) (by decide) (by decide)).mono ?_); rintro e w1 ⟨g, S1, rfl, k1, hg, P1, b1⟩)
    | (go_at_call 12; clear T0; go_must (refine (Make_pl P1 fgen0 fe1).mono ?_); rintro e w2 ⟨rfl, m2, P2⟩; have T1 : RowKit.Hid True := trivial)
    | (go_at_call 13; clear T1; go_must (refine (Alloc_pl P2 fe2).mono ?_); rintro e w3 ⟨rfl, S3, m3, P3⟩; have T2 : RowKit.Hid True := trivial)
    | (go_at_call 13; clear T2; go_must (refine (Alloc_pl (P3.more (Gr.alloc _ _)) fe3).mono ?_); rintro e w4 ⟨rfl, S4, m4, P4⟩; have T3 : RowKit.Hid True := trivial
       have oa := Out.new P3 (.cells #[.int .i64 0, .int .i64 1, .int .i64 0, .int .i64 10] 33)
       have ba := (m4.blk (Blk.new w3 33 #[.int .i64 0, .int .i64 1, .int .i64 0, .int .i64 10]) oa).alloc (.cells #[.int .i64 0, .int .i64 1, .int .i64 16, .int .i64 8] 33)
       have oa4 := (oa.moved m4).more (Gr.alloc w4 (.cells #[.int .i64 0, .int .i64 1, .int .i64 16, .int .i64 8] 33))
       obtain ⟨za0, za1, za2, za3, _⟩ := Blk.four ba
       have hab : w3.heap.size < w4.heap.size := (oa.moved m4).lt)
    | (go_at_call 14; clear T3
       go_must (refine (Store_pl (x := ⟨0, 1, 0, 10⟩) (P4.more ((Gr.alloc _ _).trans (Gr.alloc _ _))) (bytes_new _ #[.int .u8 9] 5 [9] rfl _ (by simp)) rfl (by decide) fe4).mono ?_)
       rintro e w5 ⟨rfl, m5, P5⟩
       have T4 : RowKit.Hid True := trivial
       have ba5 := m5.blk (ba.alloc (.cells #[.int .u8 9] 5)) (oa4.more (Gr.alloc _ (.cells #[.int .u8 9] 5)))
       have oa5 := (oa4.more (Gr.alloc _ (.cells #[.int .u8 9] 5))).moved m5)
    | (go_at_call 17; clear T4; go_must (refine (Free_pl P5 fe5).mono ?_); rintro e w6 ⟨rfl, m6, P6⟩; have T5 : RowKit.Hid True := trivial
       have ba6 := m6.blk ba5 oa5
       have oa6 := oa5.moved m6)
    | (go_at_call 12; clear T5; go_must (refine (Make_pl P6 fgen5 fe6).mono ?_); rintro e w7 ⟨rfl, m7, P7⟩; have T6 : RowKit.Hid True := trivial
       have ba7 := m7.blk ba6 oa6
       have oa7 := oa6.moved m7)
    | (go_at_call 13; clear T6; go_must (refine (Alloc_pl P7 fe7).mono ?_); rintro e w8 ⟨rfl, S8, m8, P8⟩; have T7 : RowKit.Hid True := trivial
       have ba8 := (m8.blk ba7 oa7).alloc (.cells #[.int .i64 0, .int .i64 2, .int .i64 0, .int .i64 1] 33)
       have oa8 := (oa7.moved m8)
       have hac : w3.heap.size < w8.heap.size := oa8.lt
       have P8a := P8.more (Gr.alloc _ (.cells #[.int .i64 0, .int .i64 2, .int .i64 0, .int .i64 1] 33))
       obtain ⟨zb0, zb1, zb2, zb3, _⟩ := Blk.four ba8)
    | (go_at_call 16; clear T7; go_must (refine (Load_pl (x := ⟨0, 1, 0, 10⟩) P8a fe8).mono ?_); rintro e w9 ⟨ad9, c9, rfl, o9, k9⟩; have T8 : RowKit.Hid True := trivial
       obtain ⟨zc0, zc1, zc2, zc3, _⟩ := Blk.four ((Blk.new w8 33 #[.int .i64 0, .int .i64 2, .int .i64 0, .int .i64 1]).gr k9))
    | (go_at_call 16; clear T8; go_must (refine (Load_pl (x := ⟨0, 2, 0, 1⟩) (P8a.more k9) fe9).mono ?_); rintro e w10 ⟨ad10, c10, rfl, o10, k10⟩
       obtain ⟨zd0, zd1, zd2, zd3, _⟩ := Blk.four ((((Blk.new w8 33 #[.int .i64 0, .int .i64 2, .int .i64 0, .int .i64 1]).gr k9)).gr k10)
       obtain ⟨gd, rfl, _, zd⟩ := o10.at (bv_get [0] 0 (by decide)))
    | fail)
  go_ret
  exact ⟨rfl, ((P8a.more k9).more k10).gr⟩
end Go.Proofs.Ytfnimpgphagnfaa
