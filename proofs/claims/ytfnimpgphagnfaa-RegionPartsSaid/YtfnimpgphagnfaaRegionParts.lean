/- Layer 1 (region): RegionParts answers true. -/
import Derived.Test.YtfnimpgphagnfaaRegionPartsM
import Derived.Test.YtfnimpgphagnfaaRegionSegs
import Derived.Test.YtfnimpgphagnfaaStr
import Derived.Deep.DeepCutAuto
namespace Go.Proofs.Ytfnimpgphagnfaa
set_option linter.unusedVariables false
set_option linter.unusedSimpArgs false
open Go.RowKit
/-- three stores, one behind the other: how many are done -/
def PreS (k : Nat) (s : World × Nat) : Prop := (k = 7 → s.2 = 0) ∧ (k = 17 → s.2 ≤ 1) ∧ (k = 25 → s.2 ≤ 2)
theorem PreS.start {w : World} (k : Nat) : PreS k (w, 0) := ⟨fun _ => rfl, fun _ => Nat.zero_le _, fun _ => Nat.zero_le _⟩
structure SInv (w0 : World) (S : Nat → Prop) (gp : Nat) (P : Nat → PoolF) (s : World × Nat) : Prop where
  le : s.2 ≤ 3
  pool : Pl w0 s.1 S gp (P s.2)
structure SLe (w0 : World) (S : Nat → Prop) (gp : Nat) (P : Nat → PoolF) (s s' : World × Nat) : Prop where
  ord : s.2 ≤ s'.2
  chg : Chg S s.1 s'.1
  inv : SInv w0 S gp P s → SInv w0 S gp P s'
def AtLeast (k : Nat) (s : World × Nat) : Prop := k ≤ s.2
def ReadsX (S : Nat → Prop) (l : List UInt8) : Value → World × Nat → Prop := fun v s => ∃ ad cap, v = .slice ad l.length cap ∧ Bytes s.1 ad l ∧ ∀ a, ad = some a → ¬ S a.block
section
variable {w0 w w' : World} {S : Nat → Prop} {gp k : Nat} {P : Nat → PoolF}
theorem SLe.refl (s : World × Nat) : SLe w0 S gp P s s := ⟨Nat.le_refl _, Chg.refl _, fun h => h⟩
theorem SLe.trans (a b c : World × Nat) (h : SLe w0 S gp P a b) (k : SLe w0 S gp P b c) : SLe w0 S gp P a c := ⟨Nat.le_trans h.ord k.ord, h.chg.trans k.chg (fun _ h => .inl h), fun x => k.inv (h.inv x)⟩
theorem SLe.gr (h : Gr w w') : SLe w0 S gp P (w, k) (w', k) := ⟨Nat.le_refl _, h.chg, fun x => ⟨x.le, x.pool.more h⟩⟩
theorem AtS.stable (x : Value) (k : Nat) : StableG (SLe w0 S gp P) (IsS x (AtLeast k)) := fun _ _ _ ⟨e, h⟩ q => ⟨e, Nat.le_trans h q.ord⟩
theorem ReadsX.stable (l : List UInt8) : StableG (SLe w0 S gp P) (ReadsX S l) := fun _ _ _ ⟨ad, cap, e, hb, hn⟩ q => ⟨ad, cap, e, fun i hi => by
  obtain ⟨b, off, e2, hc⟩ := hb i hi
  exact ⟨b, off, e2, q.chg.cell hc (hn _ e2)⟩, hn⟩
end
theorem run_str_to {P : Program} {T : TypeId} (hT : P.underlying T = some .string) (l : List UInt8) (m : Nat) (h : m ≤ l.length) (w : World) :
    (Instr.slice T (.string (str l)) none (some (.int .i64 (m : Int))) none).run P w = .ok (.string (str (l.take m))) w := by
  rw [run_slice_string_to_if _ _ _ _ _ hT, str_size, if_pos ⟨by omega, by omega⟩]
  simp [str_extract]
theorem run_str_from {P : Program} {T : TypeId} (hT : P.underlying T = some .string) (l : List UInt8) (m : Nat) (h : m ≤ l.length) (w : World) :
    (Instr.slice T (.string (str l)) (some (.int .i64 (m : Int))) none none).run P w = .ok (.string (str (l.drop m))) w := by
  rw [run_slice_string_from_if _ _ _ _ _ hT, str_size, if_pos ⟨by omega, by omega⟩]
  simp [str_extract_to, str_extract]
  rw [List.take_of_length_le (by simp)]
set_option maxRecDepth 100000 in
set_option maxHeartbeats 4000000 in
theorem RegionParts_any (t : List UInt8) (cut : Int) (back : Bool) (w : World) (ht : t.length ≤ 9223372036854775807) :
    Calls Try.prog 6 #[.string (str t), .int .i64 cut, .bool back] w fun e w' => e = .returned (.bool true) ∧ Gr w w' := by
  obtain ⟨m, hmin, hm1, hm2⟩ : ∃ m : Nat, min (t.length : Int) 128 = (m : Int) ∧ m ≤ t.length ∧ m ≤ 128 := ⟨min t.length 128, by omega, by omega, by omega⟩
  have hto := run_str_to (P := Try.prog) Try.underlying9 t m hm1
  obtain ⟨d, hd⟩ : ∃ d, d = t.take m := ⟨_, rfl⟩
  have hdl : d.length = m := by rw [hd, List.length_take]; omega
  rw [← hd] at hto
  by_cases hd0 : d = []
  · have hd1 : d.isEmpty = true := by rw [hd0]; rfl
    have HD := Lib.hid hdl
    clear hd hdl
    go_enter Try.func6, Try.ntmps6
    go_wp2_with (first
      | (go_at_call 10; go_must (refine (fertile_any _).mono ?_); rintro e w1 ⟨rfl, g1⟩)
      | fail)
    go_ret
    exact ⟨rfl, g1⟩
  · have hd1 : d.isEmpty = false := by cases d with | nil => exact absurd rfl hd0 | cons => rfl
    have hn1 : 1 ≤ d.length := by cases d with | nil => exact absurd rfl hd0 | cons => simp
    obtain ⟨p2, p3, y, a1, a2, hlaw⟩ := parts_law d hn1 (by omega)
    obtain ⟨c, e1, hc⟩ := u64_mod cut (d.length + 1) (by omega) (by omega)
    obtain ⟨yr, yg, yo, yl⟩ := y
    have HM1 := Lib.hid (fun (w w' : World) (S : Nat → Prop) (g : Nat) (h : Pl w w' S g pp0) => Make_pl h pgen0 pe1)
    have HA1 := Lib.hid (fun (w w' : World) (S : Nat → Prop) (g : Nat) (h : Pl w w' S g pp1) => Alloc_pl h a1)
    have HA2 := Lib.hid (fun (w w' : World) (S : Nat → Prop) (g : Nat) (h : Pl w w' S g p2) => Alloc_pl h a2)
    have hcm : c ≤ d.length := by omega
    have hd128 : d.length ≤ 128 := by omega
    have e2 : IntKind.u64.wrap ((d.length : Int) + 1) = (d.length : Int) + 1 := by rw [IntKind.wrap_u64]; omega
    have e1 : IntKind.i64.wrap ((IntKind.u64.wrap cut).tmod ((d.length : Int) + 1)) = (c : Int) := by rw [← e1]; rfl
    have HL := Lib.hid hlaw
    have HD := Lib.hid hdl
    have T1 : RowKit.Hid True := trivial
    clear hlaw a1 a2 hd hdl
    cases back with
    | false =>
      obtain ⟨B1, B2, hB1, hB2⟩ : ∃ B1 B2, B1 = d.take c ∧ B2 = d.drop c := ⟨_, _, rfl, rfl⟩
      have hl1 : B1.length ≤ 128 := by rw [hB1, List.length_take]; omega
      have hl2 : B2.length ≤ 128 := by rw [hB2, List.length_drop]; omega
      have HC := Lib.hid (HL.out c 0 c (d.take c) (d.drop c) hcm (.inl ⟨rfl, rfl, rfl, rfl⟩))
      have hs1 := run_str_to (P := Try.prog) Try.underlying9 d c hcm
      have hs2 := run_str_from (P := Try.prog) Try.underlying9 d c hcm
      rw [← hB1, ← hB2] at HC
      rw [← hB1] at hs1
      rw [← hB2] at hs2
      clear hB1 hB2
      go_enter Try.func6, Try.ntmps6
      go_wp2_with (first
        | (go_at_call 10; go_must (refine (fertile_any _).mono ?_); rintro e w1 ⟨rfl, g1⟩)
        | (go_at_call 11; go_must (refine (New_pl g1 128 2 (by decide) (by decide) (by decide) (by decide) (by decide) (by decide)).mono ?_); rintro e w2 ⟨g, S2, rfl, k2, hg2, P2, b2⟩; have T0 : RowKit.Hid True := trivial)
        | (go_at_call 12; go_must (refine (HM1.out _ _ _ _ P2).mono ?_); rintro e w3 ⟨rfl, m3, P3⟩)
        | (go_at_call 13; clear T0; go_must (refine (HA1.out _ _ _ _ P3).mono ?_); rintro e w4 ⟨rfl, S4, m4, P4⟩
           have o4 := Out.new P4 (.cells #[.int .i64 0, .int .i64 1, .int .i64 0, .int .i64 (d.length : Int)] 33)
           have P5 := P4.more (Gr.alloc w4 (.cells #[.int .i64 0, .int .i64 1, .int .i64 0, .int .i64 (d.length : Int)] 33))
           have b4 := Blk.new w4 33 #[.int .i64 0, .int .i64 1, .int .i64 0, .int .i64 (d.length : Int)])
        | (go_at_call 13; clear T1; go_must (refine (HA2.out _ _ _ _ P5).mono ?_); rintro e w6 ⟨rfl, S6, m6, P6⟩
           have o6 := (o4.moved m6).more (Gr.alloc w6 (.cells #[.int .i64 yr, .int .i64 yg, .int .i64 yo, .int .i64 yl] 33))
           have b6 := (m6.blk b4 o4).gr (Gr.alloc w6 (.cells #[.int .i64 yr, .int .i64 yg, .int .i64 yo, .int .i64 yl] 33))
           have P7 := P6.more (Gr.alloc w6 (.cells #[.int .i64 yr, .int .i64 yg, .int .i64 yo, .int .i64 yl] 33))
           have o7 := Out.new P6 (.cells #[.int .i64 yr, .int .i64 yg, .int .i64 yo, .int .i64 yl] 33)
           have b7 := Blk.new w6 33 #[.int .i64 yr, .int .i64 yg, .int .i64 yo, .int .i64 yl])
        | fail)
      generalize hbx : w4.heap.size = bx at *
      generalize hby : w6.heap.size = by_ at *
      generalize (w6.alloc (.cells #[.int .i64 yr, .int .i64 yg, .int .i64 yo, .int .i64 yl] 33)) = W8 at *
      have HP7 := Lib.hid P7; have Hb6 := Lib.hid b6; have Hb7 := Lib.hid b7; have Ho6 := Lib.hid o6; have Ho7 := Lib.hid o7
      clear P2 P3 P4 P5 P6 P7 m3 m4 m6 b2 b4 b6 b7 o4 o6 o7 g1 k2 hg2 hbx hby
      go_still_tail 6, (by kernel_rfl)
      change wpList _ _ _ _ _ W8.drew
      have bpn := Blk.new W8.drew 9 #[.string (str B1), .string (str B2)]
      have hbp : ¬ S6 W8.drew.heap.size := fun e => Nat.lt_irrefl _ (HP7.out.pool.lt _ e)
      have hbp2 := (Gr.drew W8).trans (Gr.alloc W8.drew (.cells #[.string (str B1), .string (str B2)] 9))
      generalize W8.drew = W9 at *
      go_wp2
      generalize W9.heap.size = bp at *
      generalize (W9.alloc (.cells #[.string (str B1), .string (str B2)] 9)) = V at *
      have HP := Lib.hid (HP7.out.more hbp2)
      have Hbx := Lib.hid (Hb6.out.gr hbp2); have Hby := Lib.hid (Hb7.out.gr hbp2)
      have Hox := Lib.hid Ho6.out.no; have Hoy := Lib.hid Ho7.out.no; have Hop := Lib.hid hbp; have Hbp := Lib.hid bpn
      clear HP7 Hb6 Hb7 Ho6 Ho7 hbp hbp2 bpn hs1 hs2
      obtain ⟨p4, p5, p6, s, ss, B, s1, s2, s3, l1, l2, l3, l4, l5, l6⟩ := HC.out
      have s1 : storeF p3 ⟨0, 1, 0, (d.length : Int)⟩ 0 B1 = (0, p4) := s1
      have s2 : storeF p4 ⟨0, 1, 0, (d.length : Int)⟩ (c : Int) B2 = (0, p5) := s2
      have HS1 := Lib.hid (fun (w w' : World) (S : Nat → Prop) (g : Nat) ad cap (h : Pl w w' S g p3) (hb : Bytes w' ad B1) => Store_pl (cap := cap) h hb rfl (by omega) s1)
      have HS2 := Lib.hid (fun (w w' : World) (S : Nat → Prop) (g : Nat) ad cap (h : Pl w w' S g p4) (hb : Bytes w' ad B2) => Store_pl (cap := cap) h hb rfl (by omega) s2)
      have HS3 := Lib.hid (fun (w w' : World) (S : Nat → Prop) (g : Nat) ad cap (h : Pl w w' S g p5) (hb : Bytes w' ad d) => Store_pl (cap := cap) h hb rfl (by omega) s3)
      have HL1 := Lib.hid (fun (w w' : World) (S : Nat → Prop) (g : Nat) (h : Pl w w' S g p6) => Load_pl h l1)
      have HL2 := Lib.hid (fun (w w' : World) (S : Nat → Prop) (g : Nat) (h : Pl w w' S g p6) => Load_pl h l2)
      have HL3 := Lib.hid (fun (w w' : World) (S : Nat → Prop) (g : Nat) (h : Pl w w' S g p6) => Slabs_pl h l3)
      have HL4 := Lib.hid (fun (w w' : World) (S : Nat → Prop) (g : Nat) (h : Pl w w' S g p6) => Raw_pl h l4)
      have HB5 := Lib.hid l5; have HB6 := Lib.hid l6
      clear s1 s2 s3 l1 l2 l3 l4 l5 l6 HC
      obtain ⟨Pk, k0, k1, k2, k3⟩ : ∃ Pk : Nat → PoolF, Pk 0 = p3 ∧ Pk 1 = p4 ∧ Pk 2 = p5 ∧ Pk 3 = p6 := ⟨fun k => if k = 0 then p3 else if k = 1 then p4 else if k = 2 then p5 else p6, rfl, rfl, rfl, rfl⟩
      have HK := Lib.hid (And.intro k0 (And.intro k1 (And.intro k2 k3)))
      have HI0 := Lib.hid (SInv.mk (w0 := w) (S := S6) (gp := g) (P := Pk) (s := (V.drew, 0)) (Nat.zero_le _) (by rw [k0]; exact HP.out.more (Gr.drew V)))
      clear k0 k1 k2 k3
      obtain ⟨x0, x1, x2, x3, _⟩ := Blk.four (Hbx.out.gr (Gr.drew V))
      obtain ⟨y0, y1, y2, y3, _⟩ := Blk.four (Hby.out.gr (Gr.drew V))
      obtain ⟨z0, z1⟩ := Blk.pair2 (Hbp.out.gr (Gr.drew V))
      have HX := Lib.hid (And.intro x0 (And.intro x1 (And.intro x2 x3))); have HY := Lib.hid (And.intro y0 (And.intro y1 (And.intro y2 y3))); have HZ := Lib.hid (And.intro z0 z1)
      clear x0 x1 x2 x3 y0 y1 y2 y3 z0 z1
      refine region_ghost (Le := SLe w S6 g Pk) PreS SLe.refl SLe.trans 0 PreS.start _ [IsG (.pointer (some ⟨g, 0, none⟩)), IsG (.agg #[.int .i64 0, .int .i64 1, .int .i64 0, .int .i64 (d.length : Int)]), IsG (.int .i64 0), IsG (.slice (some ⟨bp, 0, none⟩) 2 2), IsG (.pointer (some ⟨bp, 0, none⟩)), IsG (.string (str B1)), ReadsX S6 B1, IsS (.int .i64 0) (AtLeast 1), IsS (.bool false) (AtLeast 1), IsS (.bool false) (AtLeast 1), IsG (.pointer (some ⟨g, 0, none⟩)), IsG (.agg #[.int .i64 0, .int .i64 1, .int .i64 0, .int .i64 (d.length : Int)]), IsG (.int .i64 (c : Int)), IsG (.slice (some ⟨bp, 0, none⟩) 2 2), IsG (.pointer (some ⟨bp, 1, none⟩)), IsG (.string (str B2)), ReadsX S6 B2, IsS (.int .i64 0) (AtLeast 2), IsS (.bool false) (AtLeast 2), IsS (.bool false) (AtLeast 2), IsS (.bool false) (AtLeast 2), IsG (.pointer (some ⟨g, 0, none⟩)), IsG (.agg #[.int .i64 yr, .int .i64 yg, .int .i64 yo, .int .i64 yl]), IsG (.string (str d)), ReadsX S6 d, IsS (.int .i64 0) (AtLeast 3), IsS (.bool false) (AtLeast 3), IsS (.bool false) (AtLeast 3)] (by kernel_rfl) (by kernel_rfl) (by kernel_rfl) rfl rfl ⟨IsG.stable _, IsG.stable _, IsG.stable _, IsG.stable _, IsG.stable _, IsG.stable _, ReadsX.stable _, AtS.stable _ _, AtS.stable _ _, AtS.stable _ _, IsG.stable _, IsG.stable _, IsG.stable _, IsG.stable _, IsG.stable _, IsG.stable _, ReadsX.stable _, AtS.stable _ _, AtS.stable _ _, AtS.stable _ _, AtS.stable _ _, IsG.stable _, IsG.stable _, IsG.stable _, ReadsX.stable _, AtS.stable _ _, AtS.stable _ _, AtS.stable _ _, trivial⟩ ⟨?s0, ?s1, ?s2, ?s3, ?s4, ?s5, ?s6, ?s7, ?s8, ?s9, ?s10, ?s11, ?s12, ?s13, ?s14, ?s15, ?s16, ?s17, ?s18, ?s19, ?s20, ?s21, ?s22, ?s23, ?s24, ?s25, ?s26, ?s27, trivial⟩ ?fin
      case' s0 | s1 | s2 | s3 | s4 | s5 | s6 | s8 | s9 | s10 | s11 | s12 | s13 | s14 | s15 | s16 | s18 | s19 | s20 | s21 | s22 | s23 | s24 | s26 | s27 =>
        intro ρ wr gh hρ hg hK
        simp [readsOf, slotsOf, Op.operands, Call.operands, tmpOf, List.filterMap_cons, List.filterMap_nil, KnownAll, knownOf, srcOf, depsOf, dstOf, Region.binds, nthG, IsG, IsS] at hK
        obtain ⟨hc, hf, hgl⟩ := hρ
        try simp only [wantedBy, dstOf, boolOf, nthG, List.getD_cons_zero, List.getD_cons_succ, List.getElem?_cons_zero, List.getElem?_cons_succ, Option.bind_some, if_true, hK, BEq.rfl]
        try go_simp
        first | exact rfl | exact pureG SLe.refl rfl | (refine pureG SLe.refl ?_; go_simp; done) | (refine pureG SLe.refl ?_; rfl) | (rw [if_pos (by omega)]; exact pureG SLe.refl rfl) | (rw [dif_pos (by omega)]; exact pureG SLe.refl rfl) | exact pureG SLe.refl (congrArg (Value.int _) (IntWalk.i64_in _ ⟨by omega, by omega⟩)) | skip
      case' s7 | s17 | s25 =>
        intro ρ wr gh hρ hg hK
        simp [readsOf, slotsOf, Op.operands, Call.operands, tmpOf, List.filterMap_cons, List.filterMap_nil, KnownAll, knownOf, srcOf, depsOf, dstOf, Region.binds, nthG, IsG, IsS] at hK
        obtain ⟨hc, hf, hgl⟩ := hρ
        try simp only [wantedBy, dstOf, boolOf, nthG, List.getD_cons_zero, List.getD_cons_succ, List.getElem?_cons_zero, List.getElem?_cons_succ, Option.bind_some, if_true, hK, BEq.rfl]
      case s7 =>
        obtain ⟨k0, k1, k2, ad, cap, k3, hb, hn⟩ := hK
        have HI := hg.1.inv HI0.out
        have hz : gh = 0 := (hg.2 7 (by kernel_rfl)).1 rfl
        subst hz
        have hP : Pl w wr S6 g (Pk 0) := HI.pool
        rw [HK.out.1] at hP
        have HPh := Lib.hid hP; have HBh := Lib.hid hb
        clear HI hP hb hn
        go_simp
        exact growG_enter ((HS1.out _ _ _ _ _ _ HPh.out HBh.out).mono fun e w'' ⟨he, m, P'⟩ => ⟨_, 1, he, ⟨⟨Nat.zero_le _, m.chg, fun _ => ⟨Nat.le_of_ble_eq_true rfl, by rw [HK.out.2.1]; exact P'⟩⟩, fun k hk _ => ⟨fun e => absurd e hk, fun _ => Nat.le_refl _, fun _ => Nat.le_of_ble_eq_true rfl⟩⟩, rfl, Nat.le_refl _⟩)
      case s17 =>
        obtain ⟨k0, k1, k2, ⟨ad, cap, k3, hb, hn⟩, k4, k5⟩ := hK
        have HI := hg.1.inv HI0.out
        have hz : gh ≤ 1 := (hg.2 17 (by kernel_rfl)).2.1 rfl
        have k5 : 1 ≤ gh := k5
        obtain rfl : gh = 1 := by omega
        have hP : Pl w wr S6 g (Pk 1) := HI.pool
        rw [HK.out.2.1] at hP
        have HPh := Lib.hid hP; have HBh := Lib.hid hb
        clear HI hP hb hn k5 hz
        go_simp
        exact growG_enter ((HS2.out _ _ _ _ _ _ HPh.out HBh.out).mono fun e w'' ⟨he, m, P'⟩ => ⟨_, 2, he, ⟨⟨Nat.le_of_ble_eq_true rfl, m.chg, fun _ => ⟨Nat.le_of_ble_eq_true rfl, by rw [HK.out.2.2.1]; exact P'⟩⟩, fun k hk ⟨a, b, c⟩ => ⟨fun e => absurd (a e) (Nat.succ_ne_zero _), fun e => absurd e hk, fun _ => Nat.le_refl _⟩⟩, rfl, Nat.le_refl _⟩)
      case s25 =>
        obtain ⟨k0, k1, ⟨ad, cap, k3, hb, hn⟩, k4, k5⟩ := hK
        have HI := hg.1.inv HI0.out
        have hz : gh ≤ 2 := (hg.2 25 (by kernel_rfl)).2.2 rfl
        have k5 : 2 ≤ gh := k5
        obtain rfl : gh = 2 := by omega
        have hP : Pl w wr S6 g (Pk 2) := HI.pool
        rw [HK.out.2.2.1] at hP
        have HPh := Lib.hid hP; have HBh := Lib.hid hb
        clear HI hP hb hn k5 hz
        go_simp
        exact growG_enter ((HS3.out _ _ _ _ _ _ HPh.out HBh.out).mono fun e w'' ⟨he, m, P'⟩ => ⟨_, 3, he, ⟨⟨Nat.le_of_ble_eq_true rfl, m.chg, fun _ => ⟨Nat.le_of_ble_eq_true rfl, by rw [HK.out.2.2.2]; exact P'⟩⟩, fun k hk ⟨a, b, c⟩ => ⟨fun e => absurd (a e) (Nat.succ_ne_zero _), fun e => absurd (b e) (Nat.not_succ_le_self 1), fun e => absurd e hk⟩⟩, rfl, Nat.le_refl _⟩)
      case s1 | s11 =>
        obtain ⟨x0, x1, x2, x3⟩ := HX.out
        have d0 := hg.1.chg.cell x0 Hox.out; have d1 := hg.1.chg.cell x1 Hox.out; have d2 := hg.1.chg.cell x2 Hox.out; have d3 := hg.1.chg.cell x3 Hox.out
        clear x0 x1 x2 x3
        go_simp
        exact pureG SLe.refl rfl
      case s22 =>
        obtain ⟨x0, x1, x2, x3⟩ := HY.out
        have d0 := hg.1.chg.cell x0 Hoy.out; have d1 := hg.1.chg.cell x1 Hoy.out; have d2 := hg.1.chg.cell x2 Hoy.out; have d3 := hg.1.chg.cell x3 Hoy.out
        clear x0 x1 x2 x3
        go_simp
        exact pureG SLe.refl rfl
      case s5 =>
        have d0 := hg.1.chg.cell HZ.out.1 Hop.out
        go_simp
        exact pureG SLe.refl rfl
      case s15 =>
        have d0 := hg.1.chg.cell HZ.out.2 Hop.out
        go_simp
        exact pureG SLe.refl rfl
      case s6 =>
        obtain ⟨cap, w9, r1, r2, r3, _⟩ := bytes_str (P := Try.prog) Try.underlying9 Try.underlying23 Try.underlying5 wr B1 (by unfold maxLen; omega)
        have hlt := (hg.1.inv HI0.out).pool.pool.lt
        rw [r1]
        exact growG_value _ _ _ _ _ gh ⟨SLe.gr r3, fun _ _ h => h⟩ ⟨_, _, rfl, r2.bytes, fun a ha e => by cases ha; exact absurd (hlt _ e) (Nat.lt_irrefl _)⟩
      case s16 =>
        obtain ⟨cap, w9, r1, r2, r3, _⟩ := bytes_str (P := Try.prog) Try.underlying9 Try.underlying23 Try.underlying5 wr B2 (by unfold maxLen; omega)
        have hlt := (hg.1.inv HI0.out).pool.pool.lt
        rw [r1]
        exact growG_value _ _ _ _ _ gh ⟨SLe.gr r3, fun _ _ h => h⟩ ⟨_, _, rfl, r2.bytes, fun a ha e => by cases ha; exact absurd (hlt _ e) (Nat.lt_irrefl _)⟩
      case s24 =>
        obtain ⟨cap, w9, r1, r2, r3, _⟩ := bytes_str (P := Try.prog) Try.underlying9 Try.underlying23 Try.underlying5 wr d (by unfold maxLen; omega)
        have hlt := (hg.1.inv HI0.out).pool.pool.lt
        rw [r1]
        exact growG_value _ _ _ _ _ gh ⟨SLe.gr r3, fun _ _ h => h⟩ ⟨_, _, rfl, r2.bytes, fun a ha e => by cases ha; exact absurd (hlt _ e) (Nat.lt_irrefl _)⟩
      case s8 | s9 | s20 => exact growG_value _ _ _ _ _ gh ⟨SLe.refl _, fun _ _ h => h⟩ ⟨rfl, hK.2⟩
      case s18 | s26 => exact growG_value _ _ _ _ _ gh ⟨SLe.refl _, fun _ _ h => h⟩ ⟨rfl, hK.1.2⟩
      case s19 | s27 => exact growG_value _ _ _ _ _ gh ⟨SLe.refl _, fun _ _ h => h⟩ ⟨rfl, hK.2.2⟩
      case fin =>
        intro w1 g1 val hg hH
        simp only [HoldsG, IsG, IsS, Nat.zero_add, Nat.reduceAdd] at hH
        obtain ⟨h0, h1, h2, h3, h4, h5, h6, h7, h8, h9, h10, h11, h12, h13, h14, h15, h16, h17, h18, h19, h20, h21, h22, h23, h24, h25, h26, h27, _⟩ := hH
        simp only [List.take_succ_cons, List.take_zero, List.drop_succ_cons, List.drop_zero, putAll, h0, h1, h2, h3, h4, h5, h10, h11, h12, h13, h14, h15, h21, h22, h23, Nat.zero_add, Nat.reduceAdd]
        have HI := hg.inv HI0.out
        have h3 : 3 ≤ g1 := h25.2
        obtain rfl : g1 = 3 := Nat.le_antisymm HI.le h3
        have hP : Pl w w1 S6 g (Pk 3) := HI.pool
        rw [HK.out.2.2.2] at hP
        obtain ⟨x0, x1, x2, x3⟩ := HX.out
        have d0 := hg.chg.cell x0 Hox.out; have d1 := hg.chg.cell x1 Hox.out; have d2 := hg.chg.cell x2 Hox.out; have d3 := hg.chg.cell x3 Hox.out
        obtain ⟨y0, y1, y2, y3⟩ := HY.out
        have f0 := hg.chg.cell y0 Hoy.out; have f1 := hg.chg.cell y1 Hoy.out; have f2 := hg.chg.cell y2 Hoy.out; have f3 := hg.chg.cell y3 Hoy.out
        obtain ⟨ad6, cap6, e6, _, _⟩ := h6
        obtain ⟨ad16, cap16, e16, _, _⟩ := h16
        obtain ⟨ad24, cap24, e24, _, _⟩ := h24
        simp only [h7.1, h8.1, h9.1, h17.1, h18.1, h19.1, h20.1, h25.1, h26.1, h27.1, e6, e16, e24]
        have HPh := Lib.hid hP
        have HF := Lib.hid (And.intro f0 (And.intro f1 (And.intro f2 f3)))
        have T0 : RowKit.Hid True := trivial
        clear hP x0 x1 x2 x3 y0 y1 y2 y3 h7 h8 h9 h17 h18 h19 h20 h25 h26 h27 e6 e16 e24 h3 HI hg HS1 HS2 HS3 HX HY HZ HI0 HK f0 f1 f2 f3
        go_simp
        go_wp2_with (first
          | (go_at_call 16; clear T0; go_must (refine (HL1.out _ _ _ _ HPh.out).mono ?_); rintro e w10 ⟨ad10, c10, rfl, o10, k10⟩
             have P10 := HPh.out.more k10
             have b10 := o10.bytes
             obtain ⟨f0, f1, f2, f3⟩ := HF.out
             have y0 := k10.cell f0; have y1 := k10.cell f1; have y2 := k10.cell f2; have y3 := k10.cell f3
             have x2 := k10.cell d2; have x3 := k10.cell d3
             have T2 : RowKit.Hid True := trivial
             clear d0 d1 d2 d3 f0 f1 f2 f3 o10)
          | (go_at_call 16; clear T2; go_must (refine (HL2.out _ _ _ _ P10).mono ?_); rintro e w11 ⟨ad11, c11, rfl, o11, k11⟩
             have P11 := P10.more k11
             have b11 := o11.bytes
             have x4 := k11.cell x2; have x5 := k11.cell x3
             clear x2 x3 y0 y1 y2 y3 o11)
          | (go_at_call 18; go_must (refine (HL3.out _ _ _ _ P11).mono ?_); rintro e w12 ⟨ad12, c12, rfl, o12, k12⟩
             have P12 := P11.more k12
             have x6 := k12.cell x4; have x7 := k12.cell x5
             have ra := run_string (P := Try.prog) (w := w12) (cap := c10) Try.underlying23 Try.underlying5 Try.underlying9 rfl (b10.gr (k11.trans k12))
             have rb := run_string (P := Try.prog) (w := w12) (cap := c11) Try.underlying23 Try.underlying5 Try.underlying9 rfl (b11.gr k12)
             obtain ⟨gs, rfl, _, zs⟩ := o12.at (iv_get (s :: ss) 0 s rfl)
             clear x4 x5 b10 b11 o12)
          | (go_at_call 19; go_must (refine (HL4.out _ _ _ _ P12).mono ?_); rintro e w13 ⟨ad13, c13, rfl, o13, k13⟩
             have hG := Lib.hid (P12.more k13).gr
             have q6 := k13.cell x6; have q7 := k13.cell x7
             have hcap := o13.2.1
             have hBl := HB5.out
             obtain ⟨gr, rfl, _, _⟩ := o13.at (bv_get B 0 (by omega))
             have rr := fun cap => run_string (P := Try.prog) (w := w13) (ad := some ⟨gr, 0, none⟩) (cap := cap) Try.underlying23 Try.underlying5 Try.underlying9 rfl (show Bytes w13 (some ⟨gr, 0, none⟩) d by have := o13.bytes.take d.length; rw [HB6.out] at this; exact this)
             clear x6 x7 o13)
          | fail)
        go_ret
        exact ⟨rfl, hG.out⟩
    | true =>
      obtain ⟨B1, B2, hB1, hB2⟩ : ∃ B1 B2, B1 = d.take c ∧ B2 = d.drop c := ⟨_, _, rfl, rfl⟩
      have hl1 : B1.length ≤ 128 := by rw [hB1, List.length_take]; omega
      have hl2 : B2.length ≤ 128 := by rw [hB2, List.length_drop]; omega
      have HC := Lib.hid (HL.out c c 0 (d.drop c) (d.take c) hcm (.inr ⟨rfl, rfl, rfl, rfl⟩))
      have hs1 := run_str_to (P := Try.prog) Try.underlying9 d c hcm
      have hs2 := run_str_from (P := Try.prog) Try.underlying9 d c hcm
      rw [← hB1, ← hB2] at HC
      rw [← hB1] at hs1
      rw [← hB2] at hs2
      clear hB1 hB2
      go_enter Try.func6, Try.ntmps6
      go_wp2_with (first
        | (go_at_call 10; go_must (refine (fertile_any _).mono ?_); rintro e w1 ⟨rfl, g1⟩)
        | (go_at_call 11; go_must (refine (New_pl g1 128 2 (by decide) (by decide) (by decide) (by decide) (by decide) (by decide)).mono ?_); rintro e w2 ⟨g, S2, rfl, k2, hg2, P2, b2⟩; have T0 : RowKit.Hid True := trivial)
        | (go_at_call 12; go_must (refine (HM1.out _ _ _ _ P2).mono ?_); rintro e w3 ⟨rfl, m3, P3⟩)
        | (go_at_call 13; clear T0; go_must (refine (HA1.out _ _ _ _ P3).mono ?_); rintro e w4 ⟨rfl, S4, m4, P4⟩
           have o4 := Out.new P4 (.cells #[.int .i64 0, .int .i64 1, .int .i64 0, .int .i64 (d.length : Int)] 33)
           have P5 := P4.more (Gr.alloc w4 (.cells #[.int .i64 0, .int .i64 1, .int .i64 0, .int .i64 (d.length : Int)] 33))
           have b4 := Blk.new w4 33 #[.int .i64 0, .int .i64 1, .int .i64 0, .int .i64 (d.length : Int)])
        | (go_at_call 13; clear T1; go_must (refine (HA2.out _ _ _ _ P5).mono ?_); rintro e w6 ⟨rfl, S6, m6, P6⟩
           have o6 := (o4.moved m6).more (Gr.alloc w6 (.cells #[.int .i64 yr, .int .i64 yg, .int .i64 yo, .int .i64 yl] 33))
           have b6 := (m6.blk b4 o4).gr (Gr.alloc w6 (.cells #[.int .i64 yr, .int .i64 yg, .int .i64 yo, .int .i64 yl] 33))
           have P7 := P6.more (Gr.alloc w6 (.cells #[.int .i64 yr, .int .i64 yg, .int .i64 yo, .int .i64 yl] 33))
           have o7 := Out.new P6 (.cells #[.int .i64 yr, .int .i64 yg, .int .i64 yo, .int .i64 yl] 33)
           have b7 := Blk.new w6 33 #[.int .i64 yr, .int .i64 yg, .int .i64 yo, .int .i64 yl])
        | fail)
      generalize hbx : w4.heap.size = bx at *
      generalize hby : w6.heap.size = by_ at *
      generalize (w6.alloc (.cells #[.int .i64 yr, .int .i64 yg, .int .i64 yo, .int .i64 yl] 33)) = W8 at *
      have HP7 := Lib.hid P7; have Hb6 := Lib.hid b6; have Hb7 := Lib.hid b7; have Ho6 := Lib.hid o6; have Ho7 := Lib.hid o7
      clear P2 P3 P4 P5 P6 P7 m3 m4 m6 b2 b4 b6 b7 o4 o6 o7 g1 k2 hg2 hbx hby
      go_still_tail 6, (by kernel_rfl)
      change wpList _ _ _ _ _ W8.drew
      have hbq := (Gr.drew W8).trans (Gr.alloc W8.drew (.cells #[.string (str B1), .string (str B2)] 9))
      generalize W8.drew = W9 at *
      go_wp2
      generalize W9.heap.size = bq at *
      generalize (W9.alloc (.cells #[.string (str B1), .string (str B2)] 9)) = W7 at *
      have HP6 := Lib.hid (HP7.out.more hbq); have Hb4 := Lib.hid (Hb6.out.gr hbq); have Hb5 := Lib.hid (Hb7.out.gr hbq); have Ho4 := Lib.hid (Ho6.out.more hbq); have Ho5 := Lib.hid (Ho7.out.more hbq)
      clear HP7 Hb6 Hb7 Ho6 Ho7 hbq
      have HP7 := HP6; have Hb6 := Hb4; have Hb7 := Hb5; have Ho6 := Ho4; have Ho7 := Ho5
      clear HP6 Hb4 Hb5 Ho4 Ho5
      clear W8
      obtain ⟨W8, hW8⟩ : ∃ W8, W8 = W7 := ⟨_, rfl⟩
      rw [← hW8] at HP7 Hb6 Hb7 Ho6 Ho7 ⊢
      clear hW8
      go_still_tail 6, (by kernel_rfl)
      change wpList _ _ _ _ _ W8.drew
      have bpn := Blk.new W8.drew 9 #[.string (str B2), .string (str B1)]
      have hbp : ¬ S6 W8.drew.heap.size := fun e => Nat.lt_irrefl _ (HP7.out.pool.lt _ e)
      have hbp2 := (Gr.drew W8).trans (Gr.alloc W8.drew (.cells #[.string (str B2), .string (str B1)] 9))
      generalize W8.drew = W9 at *
      go_wp2
      generalize W9.heap.size = bp at *
      generalize (W9.alloc (.cells #[.string (str B2), .string (str B1)] 9)) = V at *
      have HP := Lib.hid (HP7.out.more hbp2)
      have Hbx := Lib.hid (Hb6.out.gr hbp2); have Hby := Lib.hid (Hb7.out.gr hbp2)
      have Hox := Lib.hid Ho6.out.no; have Hoy := Lib.hid Ho7.out.no; have Hop := Lib.hid hbp; have Hbp := Lib.hid bpn
      clear HP7 Hb6 Hb7 Ho6 Ho7 hbp hbp2 bpn hs1 hs2
      obtain ⟨p4, p5, p6, s, ss, B, s1, s2, s3, l1, l2, l3, l4, l5, l6⟩ := HC.out
      have s1 : storeF p3 ⟨0, 1, 0, (d.length : Int)⟩ (c : Int) B2 = (0, p4) := s1
      have s2 : storeF p4 ⟨0, 1, 0, (d.length : Int)⟩ 0 B1 = (0, p5) := s2
      have HS1 := Lib.hid (fun (w w' : World) (S : Nat → Prop) (g : Nat) ad cap (h : Pl w w' S g p3) (hb : Bytes w' ad B2) => Store_pl (cap := cap) h hb rfl (by omega) s1)
      have HS2 := Lib.hid (fun (w w' : World) (S : Nat → Prop) (g : Nat) ad cap (h : Pl w w' S g p4) (hb : Bytes w' ad B1) => Store_pl (cap := cap) h hb rfl (by omega) s2)
      have HS3 := Lib.hid (fun (w w' : World) (S : Nat → Prop) (g : Nat) ad cap (h : Pl w w' S g p5) (hb : Bytes w' ad d) => Store_pl (cap := cap) h hb rfl (by omega) s3)
      have HL1 := Lib.hid (fun (w w' : World) (S : Nat → Prop) (g : Nat) (h : Pl w w' S g p6) => Load_pl h l1)
      have HL2 := Lib.hid (fun (w w' : World) (S : Nat → Prop) (g : Nat) (h : Pl w w' S g p6) => Load_pl h l2)
      have HL3 := Lib.hid (fun (w w' : World) (S : Nat → Prop) (g : Nat) (h : Pl w w' S g p6) => Slabs_pl h l3)
      have HL4 := Lib.hid (fun (w w' : World) (S : Nat → Prop) (g : Nat) (h : Pl w w' S g p6) => Raw_pl h l4)
      have HB5 := Lib.hid l5; have HB6 := Lib.hid l6
      clear s1 s2 s3 l1 l2 l3 l4 l5 l6 HC
      obtain ⟨Pk, k0, k1, k2, k3⟩ : ∃ Pk : Nat → PoolF, Pk 0 = p3 ∧ Pk 1 = p4 ∧ Pk 2 = p5 ∧ Pk 3 = p6 := ⟨fun k => if k = 0 then p3 else if k = 1 then p4 else if k = 2 then p5 else p6, rfl, rfl, rfl, rfl⟩
      have HK := Lib.hid (And.intro k0 (And.intro k1 (And.intro k2 k3)))
      have HI0 := Lib.hid (SInv.mk (w0 := w) (S := S6) (gp := g) (P := Pk) (s := (V.drew, 0)) (Nat.zero_le _) (by rw [k0]; exact HP.out.more (Gr.drew V)))
      clear k0 k1 k2 k3
      obtain ⟨x0, x1, x2, x3, _⟩ := Blk.four (Hbx.out.gr (Gr.drew V))
      obtain ⟨y0, y1, y2, y3, _⟩ := Blk.four (Hby.out.gr (Gr.drew V))
      obtain ⟨z0, z1⟩ := Blk.pair2 (Hbp.out.gr (Gr.drew V))
      have HX := Lib.hid (And.intro x0 (And.intro x1 (And.intro x2 x3))); have HY := Lib.hid (And.intro y0 (And.intro y1 (And.intro y2 y3))); have HZ := Lib.hid (And.intro z0 z1)
      clear x0 x1 x2 x3 y0 y1 y2 y3 z0 z1
      refine region_ghost (Le := SLe w S6 g Pk) PreS SLe.refl SLe.trans 0 PreS.start _ [IsG (.pointer (some ⟨g, 0, none⟩)), IsG (.agg #[.int .i64 0, .int .i64 1, .int .i64 0, .int .i64 (d.length : Int)]), IsG (.int .i64 (c : Int)), IsG (.slice (some ⟨bp, 0, none⟩) 2 2), IsG (.pointer (some ⟨bp, 0, none⟩)), IsG (.string (str B2)), ReadsX S6 B2, IsS (.int .i64 0) (AtLeast 1), IsS (.bool false) (AtLeast 1), IsS (.bool false) (AtLeast 1), IsG (.pointer (some ⟨g, 0, none⟩)), IsG (.agg #[.int .i64 0, .int .i64 1, .int .i64 0, .int .i64 (d.length : Int)]), IsG (.int .i64 0), IsG (.slice (some ⟨bp, 0, none⟩) 2 2), IsG (.pointer (some ⟨bp, 1, none⟩)), IsG (.string (str B1)), ReadsX S6 B1, IsS (.int .i64 0) (AtLeast 2), IsS (.bool false) (AtLeast 2), IsS (.bool false) (AtLeast 2), IsS (.bool false) (AtLeast 2), IsG (.pointer (some ⟨g, 0, none⟩)), IsG (.agg #[.int .i64 yr, .int .i64 yg, .int .i64 yo, .int .i64 yl]), IsG (.string (str d)), ReadsX S6 d, IsS (.int .i64 0) (AtLeast 3), IsS (.bool false) (AtLeast 3), IsS (.bool false) (AtLeast 3)] (by kernel_rfl) (by kernel_rfl) (by kernel_rfl) rfl rfl ⟨IsG.stable _, IsG.stable _, IsG.stable _, IsG.stable _, IsG.stable _, IsG.stable _, ReadsX.stable _, AtS.stable _ _, AtS.stable _ _, AtS.stable _ _, IsG.stable _, IsG.stable _, IsG.stable _, IsG.stable _, IsG.stable _, IsG.stable _, ReadsX.stable _, AtS.stable _ _, AtS.stable _ _, AtS.stable _ _, AtS.stable _ _, IsG.stable _, IsG.stable _, IsG.stable _, ReadsX.stable _, AtS.stable _ _, AtS.stable _ _, AtS.stable _ _, trivial⟩ ⟨?s0x1, ?s1x1, ?s2x1, ?s3x1, ?s4x1, ?s5x1, ?s6x1, ?s7x1, ?s8x1, ?s9x1, ?s10x1, ?s11x1, ?s12x1, ?s13x1, ?s14x1, ?s15x1, ?s16x1, ?s17x1, ?s18x1, ?s19x1, ?s20x1, ?s21x1, ?s22x1, ?s23x1, ?s24x1, ?s25x1, ?s26x1, ?s27x1, trivial⟩ ?finx1
      case' s0x1 | s1x1 | s2x1 | s3x1 | s4x1 | s5x1 | s6x1 | s8x1 | s9x1 | s10x1 | s11x1 | s12x1 | s13x1 | s14x1 | s15x1 | s16x1 | s18x1 | s19x1 | s20x1 | s21x1 | s22x1 | s23x1 | s24x1 | s26x1 | s27x1 =>
        intro ρ wr gh hρ hg hK
        simp [readsOf, slotsOf, Op.operands, Call.operands, tmpOf, List.filterMap_cons, List.filterMap_nil, KnownAll, knownOf, srcOf, depsOf, dstOf, Region.binds, nthG, IsG, IsS] at hK
        obtain ⟨hc, hf, hgl⟩ := hρ
        try simp only [wantedBy, dstOf, boolOf, nthG, List.getD_cons_zero, List.getD_cons_succ, List.getElem?_cons_zero, List.getElem?_cons_succ, Option.bind_some, if_true, hK, BEq.rfl]
        try go_simp
        first | exact rfl | exact pureG SLe.refl rfl | (refine pureG SLe.refl ?_; go_simp; done) | (refine pureG SLe.refl ?_; rfl) | (rw [if_pos (by omega)]; exact pureG SLe.refl rfl) | (rw [dif_pos (by omega)]; exact pureG SLe.refl rfl) | exact pureG SLe.refl (congrArg (Value.int _) (IntWalk.i64_in _ ⟨by omega, by omega⟩)) | skip
      case' s7x1 | s17x1 | s25x1 =>
        intro ρ wr gh hρ hg hK
        simp [readsOf, slotsOf, Op.operands, Call.operands, tmpOf, List.filterMap_cons, List.filterMap_nil, KnownAll, knownOf, srcOf, depsOf, dstOf, Region.binds, nthG, IsG, IsS] at hK
        obtain ⟨hc, hf, hgl⟩ := hρ
        try simp only [wantedBy, dstOf, boolOf, nthG, List.getD_cons_zero, List.getD_cons_succ, List.getElem?_cons_zero, List.getElem?_cons_succ, Option.bind_some, if_true, hK, BEq.rfl]
      case s7x1 =>
        obtain ⟨k0, k1, k2, ad, cap, k3, hb, hn⟩ := hK
        have HI := hg.1.inv HI0.out
        have hz : gh = 0 := (hg.2 7 (by kernel_rfl)).1 rfl
        subst hz
        have hP : Pl w wr S6 g (Pk 0) := HI.pool
        rw [HK.out.1] at hP
        have HPh := Lib.hid hP; have HBh := Lib.hid hb
        clear HI hP hb hn
        go_simp
        exact growG_enter ((HS1.out _ _ _ _ _ _ HPh.out HBh.out).mono fun e w'' ⟨he, m, P'⟩ => ⟨_, 1, he, ⟨⟨Nat.zero_le _, m.chg, fun _ => ⟨Nat.le_of_ble_eq_true rfl, by rw [HK.out.2.1]; exact P'⟩⟩, fun k hk _ => ⟨fun e => absurd e hk, fun _ => Nat.le_refl _, fun _ => Nat.le_of_ble_eq_true rfl⟩⟩, rfl, Nat.le_refl _⟩)
      case s17x1 =>
        obtain ⟨k0, k1, k2, ⟨ad, cap, k3, hb, hn⟩, k4, k5⟩ := hK
        have HI := hg.1.inv HI0.out
        have hz : gh ≤ 1 := (hg.2 17 (by kernel_rfl)).2.1 rfl
        have k5 : 1 ≤ gh := k5
        obtain rfl : gh = 1 := by omega
        have hP : Pl w wr S6 g (Pk 1) := HI.pool
        rw [HK.out.2.1] at hP
        have HPh := Lib.hid hP; have HBh := Lib.hid hb
        clear HI hP hb hn k5 hz
        go_simp
        exact growG_enter ((HS2.out _ _ _ _ _ _ HPh.out HBh.out).mono fun e w'' ⟨he, m, P'⟩ => ⟨_, 2, he, ⟨⟨Nat.le_of_ble_eq_true rfl, m.chg, fun _ => ⟨Nat.le_of_ble_eq_true rfl, by rw [HK.out.2.2.1]; exact P'⟩⟩, fun k hk ⟨a, b, c⟩ => ⟨fun e => absurd (a e) (Nat.succ_ne_zero _), fun e => absurd e hk, fun _ => Nat.le_refl _⟩⟩, rfl, Nat.le_refl _⟩)
      case s25x1 =>
        obtain ⟨k0, k1, ⟨ad, cap, k3, hb, hn⟩, k4, k5⟩ := hK
        have HI := hg.1.inv HI0.out
        have hz : gh ≤ 2 := (hg.2 25 (by kernel_rfl)).2.2 rfl
        have k5 : 2 ≤ gh := k5
        obtain rfl : gh = 2 := by omega
        have hP : Pl w wr S6 g (Pk 2) := HI.pool
        rw [HK.out.2.2.1] at hP
        have HPh := Lib.hid hP; have HBh := Lib.hid hb
        clear HI hP hb hn k5 hz
        go_simp
        exact growG_enter ((HS3.out _ _ _ _ _ _ HPh.out HBh.out).mono fun e w'' ⟨he, m, P'⟩ => ⟨_, 3, he, ⟨⟨Nat.le_of_ble_eq_true rfl, m.chg, fun _ => ⟨Nat.le_of_ble_eq_true rfl, by rw [HK.out.2.2.2]; exact P'⟩⟩, fun k hk ⟨a, b, c⟩ => ⟨fun e => absurd (a e) (Nat.succ_ne_zero _), fun e => absurd (b e) (Nat.not_succ_le_self 1), fun e => absurd e hk⟩⟩, rfl, Nat.le_refl _⟩)
      case s1x1 | s11x1 =>
        obtain ⟨x0, x1, x2, x3⟩ := HX.out
        have d0 := hg.1.chg.cell x0 Hox.out; have d1 := hg.1.chg.cell x1 Hox.out; have d2 := hg.1.chg.cell x2 Hox.out; have d3 := hg.1.chg.cell x3 Hox.out
        clear x0 x1 x2 x3
        go_simp
        exact pureG SLe.refl rfl
      case s22x1 =>
        obtain ⟨x0, x1, x2, x3⟩ := HY.out
        have d0 := hg.1.chg.cell x0 Hoy.out; have d1 := hg.1.chg.cell x1 Hoy.out; have d2 := hg.1.chg.cell x2 Hoy.out; have d3 := hg.1.chg.cell x3 Hoy.out
        clear x0 x1 x2 x3
        go_simp
        exact pureG SLe.refl rfl
      case s5x1 =>
        have d0 := hg.1.chg.cell HZ.out.1 Hop.out
        go_simp
        exact pureG SLe.refl rfl
      case s15x1 =>
        have d0 := hg.1.chg.cell HZ.out.2 Hop.out
        go_simp
        exact pureG SLe.refl rfl
      case s6x1 =>
        obtain ⟨cap, w9, r1, r2, r3, _⟩ := bytes_str (P := Try.prog) Try.underlying9 Try.underlying23 Try.underlying5 wr B2 (by unfold maxLen; omega)
        have hlt := (hg.1.inv HI0.out).pool.pool.lt
        rw [r1]
        exact growG_value _ _ _ _ _ gh ⟨SLe.gr r3, fun _ _ h => h⟩ ⟨_, _, rfl, r2.bytes, fun a ha e => by cases ha; exact absurd (hlt _ e) (Nat.lt_irrefl _)⟩
      case s16x1 =>
        obtain ⟨cap, w9, r1, r2, r3, _⟩ := bytes_str (P := Try.prog) Try.underlying9 Try.underlying23 Try.underlying5 wr B1 (by unfold maxLen; omega)
        have hlt := (hg.1.inv HI0.out).pool.pool.lt
        rw [r1]
        exact growG_value _ _ _ _ _ gh ⟨SLe.gr r3, fun _ _ h => h⟩ ⟨_, _, rfl, r2.bytes, fun a ha e => by cases ha; exact absurd (hlt _ e) (Nat.lt_irrefl _)⟩
      case s24x1 =>
        obtain ⟨cap, w9, r1, r2, r3, _⟩ := bytes_str (P := Try.prog) Try.underlying9 Try.underlying23 Try.underlying5 wr d (by unfold maxLen; omega)
        have hlt := (hg.1.inv HI0.out).pool.pool.lt
        rw [r1]
        exact growG_value _ _ _ _ _ gh ⟨SLe.gr r3, fun _ _ h => h⟩ ⟨_, _, rfl, r2.bytes, fun a ha e => by cases ha; exact absurd (hlt _ e) (Nat.lt_irrefl _)⟩
      case s8x1 | s9x1 | s20x1 => exact growG_value _ _ _ _ _ gh ⟨SLe.refl _, fun _ _ h => h⟩ ⟨rfl, hK.2⟩
      case s18x1 | s26x1 => exact growG_value _ _ _ _ _ gh ⟨SLe.refl _, fun _ _ h => h⟩ ⟨rfl, hK.1.2⟩
      case s19x1 | s27x1 => exact growG_value _ _ _ _ _ gh ⟨SLe.refl _, fun _ _ h => h⟩ ⟨rfl, hK.2.2⟩
      case finx1 =>
        intro w1 g1 val hg hH
        simp only [HoldsG, IsG, IsS, Nat.zero_add, Nat.reduceAdd] at hH
        obtain ⟨h0, h1, h2, h3, h4, h5, h6, h7, h8, h9, h10, h11, h12, h13, h14, h15, h16, h17, h18, h19, h20, h21, h22, h23, h24, h25, h26, h27, _⟩ := hH
        simp only [List.take_succ_cons, List.take_zero, List.drop_succ_cons, List.drop_zero, putAll, h0, h1, h2, h3, h4, h5, h10, h11, h12, h13, h14, h15, h21, h22, h23, Nat.zero_add, Nat.reduceAdd]
        have HI := hg.inv HI0.out
        have h3 : 3 ≤ g1 := h25.2
        obtain rfl : g1 = 3 := Nat.le_antisymm HI.le h3
        have hP : Pl w w1 S6 g (Pk 3) := HI.pool
        rw [HK.out.2.2.2] at hP
        obtain ⟨x0, x1, x2, x3⟩ := HX.out
        have d0 := hg.chg.cell x0 Hox.out; have d1 := hg.chg.cell x1 Hox.out; have d2 := hg.chg.cell x2 Hox.out; have d3 := hg.chg.cell x3 Hox.out
        obtain ⟨y0, y1, y2, y3⟩ := HY.out
        have f0 := hg.chg.cell y0 Hoy.out; have f1 := hg.chg.cell y1 Hoy.out; have f2 := hg.chg.cell y2 Hoy.out; have f3 := hg.chg.cell y3 Hoy.out
        obtain ⟨ad6, cap6, e6, _, _⟩ := h6
        obtain ⟨ad16, cap16, e16, _, _⟩ := h16
        obtain ⟨ad24, cap24, e24, _, _⟩ := h24
        simp only [h7.1, h8.1, h9.1, h17.1, h18.1, h19.1, h20.1, h25.1, h26.1, h27.1, e6, e16, e24]
        have HPh := Lib.hid hP
        have HF := Lib.hid (And.intro f0 (And.intro f1 (And.intro f2 f3)))
        have T0 : RowKit.Hid True := trivial
        clear hP x0 x1 x2 x3 y0 y1 y2 y3 h7 h8 h9 h17 h18 h19 h20 h25 h26 h27 e6 e16 e24 h3 HI hg HS1 HS2 HS3 HX HY HZ HI0 HK f0 f1 f2 f3
        go_simp
        go_wp2_with (first
          | (go_at_call 16; clear T0; go_must (refine (HL1.out _ _ _ _ HPh.out).mono ?_); rintro e w10 ⟨ad10, c10, rfl, o10, k10⟩
             have P10 := HPh.out.more k10
             have b10 := o10.bytes
             obtain ⟨f0, f1, f2, f3⟩ := HF.out
             have y0 := k10.cell f0; have y1 := k10.cell f1; have y2 := k10.cell f2; have y3 := k10.cell f3
             have x2 := k10.cell d2; have x3 := k10.cell d3
             have T2 : RowKit.Hid True := trivial
             clear d0 d1 d2 d3 f0 f1 f2 f3 o10)
          | (go_at_call 16; clear T2; go_must (refine (HL2.out _ _ _ _ P10).mono ?_); rintro e w11 ⟨ad11, c11, rfl, o11, k11⟩
             have P11 := P10.more k11
             have b11 := o11.bytes
             have x4 := k11.cell x2; have x5 := k11.cell x3
             clear x2 x3 y0 y1 y2 y3 o11)
          | (go_at_call 18; go_must (refine (HL3.out _ _ _ _ P11).mono ?_); rintro e w12 ⟨ad12, c12, rfl, o12, k12⟩
             have P12 := P11.more k12
             have x6 := k12.cell x4; have x7 := k12.cell x5
             have ra := run_string (P := Try.prog) (w := w12) (cap := c10) Try.underlying23 Try.underlying5 Try.underlying9 rfl (b10.gr (k11.trans k12))
             have rb := run_string (P := Try.prog) (w := w12) (cap := c11) Try.underlying23 Try.underlying5 Try.underlying9 rfl (b11.gr k12)
             obtain ⟨gs, rfl, _, zs⟩ := o12.at (iv_get (s :: ss) 0 s rfl)
             clear x4 x5 b10 b11 o12)
          | (go_at_call 19; go_must (refine (HL4.out _ _ _ _ P12).mono ?_); rintro e w13 ⟨ad13, c13, rfl, o13, k13⟩
             have hG := Lib.hid (P12.more k13).gr
             have q6 := k13.cell x6; have q7 := k13.cell x7
             have hcap := o13.2.1
             have hBl := HB5.out
             obtain ⟨gr, rfl, _, _⟩ := o13.at (bv_get B 0 (by omega))
             have rr := fun cap => run_string (P := Try.prog) (w := w13) (ad := some ⟨gr, 0, none⟩) (cap := cap) Try.underlying23 Try.underlying5 Try.underlying9 rfl (show Bytes w13 (some ⟨gr, 0, none⟩) d by have := o13.bytes.take d.length; rw [HB6.out] at this; exact this)
             clear x6 x7 o13)
          | fail)
        go_ret
        exact ⟨rfl, hG.out⟩
end Go.Proofs.Ytfnimpgphagnfaa
