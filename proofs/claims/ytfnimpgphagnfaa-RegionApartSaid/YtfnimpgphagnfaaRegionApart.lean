/- Layer 1 (region): RegionApart answers true. -/
import Derived.Test.YtfnimpgphagnfaaRegionApartM
import Derived.Test.YtfnimpgphagnfaaRegionSegs
import Derived.Deep.DeepCutAuto
import Derived.Deep.CutBlock
namespace Go.Proofs.Ytfnimpgphagnfaa
set_option linter.unusedVariables false
set_option linter.unusedSimpArgs false
open Go.RowKit
def PreA (k : Nat) (s : World × AG) : Prop := (k = 14 → s.2.done = false) ∧ (k = 18 → s.2.b = none) ∧ (k = 19 → s.2.st = false)
theorem PreA.start {w : World} (k : Nat) : PreA k (w, AG.none) := ⟨fun _ => rfl, fun _ => rfl, fun _ => rfl⟩
theorem PreA.step {w w' : World} {g g' : AG} {i : Nat} (h1 : i ≠ 14 → g.done = false → g'.done = false) (h2 : i ≠ 18 → g.b = none → g'.b = none) (h3 : i ≠ 19 → g.st = false → g'.st = false) : ∀ k, k ≠ i → PreA k (w, g) → PreA k (w', g') :=
  fun k hk ⟨a, b, c⟩ => ⟨fun e => h1 (fun e' => hk (e.trans e'.symm)) (a e), fun e => h2 (fun e' => hk (e.trans e'.symm)) (b e), fun e => h3 (fun e' => hk (e.trans e'.symm)) (c e)⟩
def DoneG (x : Value) : Value → World × AG → Prop := fun v s => v = x ∧ s.2.done = true
def HasG : Value → World × AG → Prop := fun v s => ∃ b, v = .pointer (some ⟨b, 0, none⟩) ∧ s.2.b = some b
def StG : Value → World × AG → Prop := fun _ s => s.2.st = true
section
variable {w0 W0 : World} {S : Nat → Prop} {gp : Nat} {p p' : PoolF} {cs : List Value}
theorem DoneG.stable (x : Value) : StableG (ALe w0 W0 S gp p p' cs) (DoneG x) := fun _ _ _ ⟨e, h⟩ k => ⟨e, k.1.1 h⟩
theorem HasG.stable : StableG (ALe w0 W0 S gp p p' cs) HasG := fun _ _ _ ⟨b, e, h⟩ k => ⟨b, e, k.1.2.1 b h⟩
theorem StG.stable : StableG (ALe w0 W0 S gp p p' cs) StG := fun _ _ _ h k => k.1.2.2 h
end
set_option maxRecDepth 100000 in
set_option maxHeartbeats 4000000 in
theorem RegionApart_any (ad ad2 : Option Addr) (cap cap2 : Nat) (l : List Int) (l2 : List UInt8) (w : World) (hr : Row w ad (l.map (Value.int .i64))) (hl : l.length ≤ 9223372036854775807) (hl2 : l2.length ≤ 4611686018427387904) (hb2 : Bytes w ad2 l2) :
    Calls Try.prog 3 #[.slice ad l.length cap, .slice ad2 l2.length cap2] w fun e w' => e = .returned (.bool true) ∧ Gr w w' := by
  have HR := Lib.hid hr
  have HB := Lib.hid hb2
  clear hr hb2
  go_enter Try.func3, Try.ntmps3
  go_wp2_with (first
    | (go_at_call 10; go_must (refine (fertile_any _).mono ?_); rintro e w1 ⟨rfl, g1⟩)
    | (go_at_call 11; go_must (refine (New_pl g1 128 40 (by decide) (by decide) (by decide) (by decide) (by decide) (by decide)).mono ?_); rintro e w2 ⟨g, S1, rfl, k1, hg, P1, b1⟩)
    | fail)
  have HP1 := Lib.hid P1
  clear P1 b1 k1 hg g1
  go_loopw [8] (fun v wr => ∃ (i : Nat) (S : Nat → Prop) (p : PoolF), i ≤ 3 ∧ v = .int .i64 (i : Int) ∧ Pl w wr S g p ∧ CJ p i) (fun v _ => 3 - (intOf v).toNat)
  case atStart => exact ⟨0, S1, _, by omega, rfl, HP1.out, CJ.start⟩
  case round =>
    clear HP1
    obtain ⟨i3, S, p, hi, rfl, hP, hA⟩ := hrel
    by_cases hib : i3 < 3
    · obtain ⟨h1, h2⟩ := hA.step hP.ok (by omega)
      have HC := Lib.hid (Make_pl hP (fun j hj => Nat.le_trans (hA.gen j hj) (by decide)) h1)
      have HA := Lib.hid h2
      clear hP hA h1 h2
      go_wp2_with (first
        | (go_at_call 12; go_must (refine HC.out.mono ?_); rintro e w3 ⟨rfl, m3, P3⟩)
        | fail)
      go_roundw
      case rel => exact ⟨i3 + 1, S, _, hib, by go_num, P3, HA.out⟩
      case measure => simp [intOf]; omega
    · have h3 : i3 = 3 := by omega
      have HM0 := Lib.hid (show AM w wr S g p none 0 [] from ⟨hP, fun x hx => (by cases hx), Owns.empty _ _ _ _⟩)
      have HA0 := Lib.hid (show Aps p [] by rw [h3] at hA; exact Aps.start hA)
      clear hP hA h3
      go_upto_block 2 with (fail)
      go_cut [7] (fun s7 wx => ∃ (S8 : Nat → Prop) (p' : PoolF) (adD : Option Addr) (capD : Nat) (D : List Hd), s7 = .slice adD D.length capD ∧ D.length ≤ 60 ∧ AM w wx S8 g p' adD capD D ∧ Aps p' D)
      case rest =>
        clear HM0 HA0
        obtain ⟨S8, p', adD, capD, D, rfl, hD60, M8, A8⟩ := hcut
        have HM8 := Lib.hid M8
        have HA8 := Lib.hid A8
        clear M8 A8
        go_wp2
        go_loopw [14] (fun v wr => ∃ (r : Nat) (p : PoolF), r ≤ 2 ∧ v = .int .i64 (r : Int) ∧ AM w wr S8 g p adD capD D ∧ Aps p D) (fun v _ => 2 - (intOf v).toNat)
        case atStart => exact ⟨0, p', by omega, rfl, HM8.out, HA8.out⟩
        case round =>
          clear HM8 HA8
          obtain ⟨r, q, hr2, rfl, hM, hA⟩ := hrel
          by_cases hrr : r < 2
          · have hrb : decide ((r : Int) < 2) = true := by simp; omega
            have HM := Lib.hid hM
            have HA := Lib.hid hA
            clear hM hA
            go_wp2
            go_loopw [15] (fun v wr => ∃ (m : Nat) (p : PoolF), m ≤ D.length ∧ v = .int .i64 (m : Int) ∧ AM w wr S8 g p adD capD D ∧ Aps p D ∧ HeldD p D r l2 m) (fun v _ => D.length - (intOf v).toNat)
            case atStart => exact ⟨0, q, Nat.zero_le _, rfl, HM.out, HA.out, HeldD.start⟩
            case round =>
              clear HM HA
              obtain ⟨m, q, hm, rfl, hM, hA, hH⟩ := hrel
              by_cases hmd : m < D.length
              · obtain ⟨q', s1, s2, s3⟩ := hH.step hM.pl.ok hA hmd
                obtain ⟨t1, t2, t3⟩ := hA.len (List.getElem_mem hmd)
                obtain ⟨gd, rfl, c0, c1, c2, c3⟩ := hM.bD.hand hmd
                have hml := markF_len m r l2 (li D[m])
                have HSt := Lib.hid (fun w' ad cap' (h : Pl w w' S8 g q) (hb : Bytes w' ad (markF m r l2 (li D[m]))) => Store_pl (cap := cap') h hb rfl (by rw [hml]; omega) s1)
                obtain ⟨n, hn⟩ : ∃ n, n = li D[m] := ⟨_, rfl⟩
                rw [← hn] at t1 t2 t3 HSt hml
                have HMk := Lib.hid (fun w' (h : Bytes w' ad2 l2) => mark_any m r n ad2 cap2 l2 w' (by omega) (by omega) (by omega) hl2 h)
                generalize markF m r l2 n = mk at *
                generalize D[m] = xd at *
                obtain ⟨xr, xg, xo, xl⟩ := xd
                simp only at t1 c0 c1 c2 c3
                subst t1
                have HM := Lib.hid hM; have HA' := Lib.hid s2; have HH' := Lib.hid s3
                have HB8 := Lib.hid (HB.out.gr hM.pl.gr)
                clear hM hA hH s1 s2 s3 hn hml
                go_wp2
                refine region_tail_gr 14 _ [Is (.pointer (some ⟨g, 0, none⟩)), Is (.slice (some ⟨gd, 0, none⟩) D.length capD), Is (.int .i64 (m : Int)), Is (.pointer (some ⟨gd, m * 4, none⟩)), Is (.agg #[.int .i64 xr, .int .i64 xg, .int .i64 xo, .int .i64 (n : Int)]), Is (.int .i64 (m : Int)), Is (.int .i64 (r : Int)), Is (.slice ad2 l2.length cap2), Is (.slice (some ⟨gd, 0, none⟩) D.length capD), Is (.int .i64 (m : Int)), Is (.pointer (some ⟨gd, m * 4, none⟩)), Is (.pointer (some ⟨gd, m * 4 + 3, none⟩)), Is (.int .i64 (n : Int)), ReadsB (mk)] (by kernel_rfl) (by kernel_rfl) (by kernel_rfl) (by kernel_rfl) rfl rfl ⟨Is.stable _, Is.stable _, Is.stable _, Is.stable _, Is.stable _, Is.stable _, Is.stable _, Is.stable _, Is.stable _, Is.stable _, Is.stable _, Is.stable _, Is.stable _, ReadsB.stable _, trivial⟩ ⟨?s0, ?s1, ?s2, ?s3, ?s4, ?s5, ?s6, ?s7, ?s8, ?s9, ?s10, ?s11, ?s12, ?s13, trivial⟩ ?fin
                case' s0 | s1 | s2 | s3 | s4 | s5 | s6 | s7 | s8 | s9 | s10 | s11 | s12 | s13 =>
                  intro ρ wr hρ hg hK
                  simp [readsOf, slotsOf, Op.operands, Call.operands, tmpOf, List.filterMap_cons, List.filterMap_nil, KnownAll, knownOf, srcOf, depsOf, dstOf, Region.binds, nth, Is] at hK
                  obtain ⟨hc, hf, hgl⟩ := hρ
                  try simp only [wantedBy, dstOf, boolOf, nth, List.getD_cons_zero, List.getD_cons_succ, List.getElem?_cons_zero, List.getElem?_cons_succ, Option.bind_some, if_true, hK, BEq.rfl]
                  try go_simp
                  first | exact rfl | (rw [if_pos (by omega)]; exact is_here rfl) | (rw [dif_pos (by omega)]; exact is_here rfl) | exact congrArg (Value.int _) (IntWalk.i64_in _ ⟨by omega, by omega⟩) | skip
                case s4 =>
                  have d0 := hg.cell c0; have d1 := hg.cell c1; have d2 := hg.cell c2; have d3 := hg.cell c3
                  go_simp
                  exact rfl
                case s12 =>
                  have d3 := hg.cell c3
                  go_simp
                  exact rfl
                case s13 => exact any_bytes (HMk.out _ (HB8.out.gr hg))
                case fin =>
                  intro w1 val hg hH
                  simp only [Holds, Is, Nat.zero_add, Nat.reduceAdd] at hH
                  obtain ⟨h0, h1, h2, h3, h4, h5, h6, h7, h8, h9, h10, h11, h12, ⟨ad13, cap13, h13, hb13⟩, _⟩ := hH
                  simp only [List.take_succ_cons, List.take_zero, List.drop_succ_cons, List.drop_zero, putAll, h0, h1, h2, h3, h4, h5, h6, h7, h8, h9, h10, h11, h12, h13, Nat.zero_add, Nat.reduceAdd]
                  have HM9 := Lib.hid (HM.out.more hg)
                  have HB13 := Lib.hid hb13
                  clear hb13 HM HMk
                  go_simp
                  go_wp2_with (first
                    | (go_at_call 14; go_must (refine (HSt.out _ _ _ HM9.out.pl HB13.out).mono ?_); rintro e w5 ⟨rfl, m5, P5⟩)
                    | fail)
                  have M9 := HM9.out.moved m5 P5
                  go_roundw
                  case rel => exact ⟨m + 1, q', hmd, by go_num, M9, HA'.out, HH'.out⟩
                  case measure => simp [intOf]; omega
              · have hmD : m = D.length := by omega
                have HH := Lib.hid (show HeldD q D r l2 D.length by rw [hmD] at hH; exact hH)
                have HA' := Lib.hid hA
                have HM' := Lib.hid hM
                clear hM hA hH hmD
                go_wp2
                go_loopw [16] (fun v wr => ∃ m : Nat, m ≤ D.length ∧ v = .int .i64 (m : Int) ∧ AM w wr S8 g q adD capD D) (fun v _ => D.length - (intOf v).toNat)
                case atStart => exact ⟨0, Nat.zero_le _, rfl, HM'.out⟩
                case round =>
                  clear HM'
                  obtain ⟨m, hm, rfl, hM⟩ := hrel
                  by_cases hmd : m < D.length
                  · have s1 := HH.out m hmd hmd
                    obtain ⟨t1, t2, t3⟩ := HA'.out.len (List.getElem_mem hmd)
                    obtain ⟨gd, rfl, c0, c1, c2, c3⟩ := hM.bD.hand hmd
                    have hml := markF_len m r l2 (li D[m])
                    have HLd := Lib.hid (Load_pl hM.pl s1)
                    obtain ⟨n, hn⟩ : ∃ n, n = li D[m] := ⟨_, rfl⟩
                    rw [← hn] at t1 t2 t3 HLd hml
                    have HMk := Lib.hid (fun w' (h : Bytes w' ad2 l2) => mark_any m r n ad2 cap2 l2 w' (by omega) (by omega) (by omega) hl2 h)
                    generalize markF m r l2 n = mk at *
                    generalize D[m] = xd at *
                    obtain ⟨xr, xg, xo, xl⟩ := xd
                    simp only at t1 c0 c1 c2 c3
                    subst t1
                    have HM := Lib.hid hM
                    have HB8 := Lib.hid (HB.out.gr hM.pl.gr)
                    clear hM s1 hn hml
                    go_wp2_with (first
                      | (go_at_call 16; go_must (refine HLd.out.mono ?_); rintro e w9 ⟨ad9, c9, rfl, o9, k9⟩)
                      | fail)
                    have d3 := k9.cell c3
                    have HM9 := Lib.hid (HM.out.more k9)
                    have HB9 := Lib.hid (HB8.out.gr k9)
                    have HO9 := Lib.hid o9.bytes
                    clear o9 k9 c0 c1 c2 c3 HM HB8 HLd
                    refine region_any_gr _ [Is (.int .i64 0), Is (.bool false), Is (.bool false), Is (.slice ad9 mk.length c9), Is (.string (str mk)), Is (.int .i64 (m : Int)), Is (.int .i64 (r : Int)), Is (.slice ad2 l2.length cap2), Is (.slice (some ⟨gd, 0, none⟩) D.length capD), Is (.int .i64 (m : Int)), Is (.pointer (some ⟨gd, m * 4, none⟩)), Is (.pointer (some ⟨gd, m * 4 + 3, none⟩)), Is (.int .i64 (n : Int)), ReadsB (mk), Is (.string (str mk)), Is (.bool false), Is (.bool false)] (by kernel_rfl) (by kernel_rfl) (by kernel_rfl) rfl rfl ⟨Is.stable _, Is.stable _, Is.stable _, Is.stable _, Is.stable _, Is.stable _, Is.stable _, Is.stable _, Is.stable _, Is.stable _, Is.stable _, Is.stable _, Is.stable _, ReadsB.stable _, Is.stable _, Is.stable _, Is.stable _, trivial⟩ ⟨?s0x1, ?s1x1, ?s2x1, ?s3x1, ?s4x1, ?s5x1, ?s6x1, ?s7x1, ?s8x1, ?s9x1, ?s10x1, ?s11x1, ?s12x1, ?s13x1, ?s14x1, ?s15x1, ?s16x1, trivial⟩ ?finx1
                    case' s0x1 | s1x1 | s2x1 | s3x1 | s4x1 | s5x1 | s6x1 | s7x1 | s8x1 | s9x1 | s10x1 | s11x1 | s12x1 | s13x1 | s14x1 | s15x1 | s16x1 =>
                      intro ρ wr hρ hg hK
                      simp [readsOf, slotsOf, Op.operands, Call.operands, tmpOf, List.filterMap_cons, List.filterMap_nil, KnownAll, knownOf, srcOf, depsOf, dstOf, Region.binds, nth, Is] at hK
                      obtain ⟨hc, hf, hgl⟩ := hρ
                      try simp only [wantedBy, dstOf, boolOf, nth, List.getD_cons_zero, List.getD_cons_succ, List.getElem?_cons_zero, List.getElem?_cons_succ, Option.bind_some, if_true, hK, BEq.rfl]
                      try go_simp
                      first | exact rfl | (rw [if_pos (by omega)]; exact is_here rfl) | (rw [dif_pos (by omega)]; exact is_here rfl) | exact congrArg (Value.int _) (IntWalk.i64_in _ ⟨by omega, by omega⟩) | skip
                    case s4x1 =>
                      rw [run_string Try.underlying23 Try.underlying5 Try.underlying9 rfl (HO9.out.gr hg)]
                      exact is_here rfl
                    case s12x1 =>
                      have e3 := hg.cell d3
                      go_simp
                      exact rfl
                    case s13x1 => exact any_bytes (HMk.out _ (HB9.out.gr hg))
                    case s14x1 => exact any_str Try.underlying23 Try.underlying5 Try.underlying9 hK.1
                    case finx1 =>
                      intro w1 val hg hH
                      simp only [Holds, Is, Nat.zero_add, Nat.reduceAdd] at hH
                      obtain ⟨h0, h1, h2, h3, h4, h5, h6, h7, h8, h9, h10, h11, h12, ⟨ad13, cap13, h13, hb13⟩, h14, h15, h16, _⟩ := hH
                      simp only [List.take_succ_cons, List.take_zero, List.drop_succ_cons, List.drop_zero, putAll, h0, h1, h2, h3, h4, h5, h6, h7, h8, h9, h10, h11, h12, h13, h14, h15, h16, Nat.zero_add, Nat.reduceAdd]
                      have HM10 := Lib.hid (HM9.out.more hg)
                      clear hb13 HM9 hg
                      go_simp
                      go_wp2
                      go_roundw
                      case rel => exact ⟨m + 1, hmd, by go_num, HM10.out⟩
                      case measure => simp [intOf]; omega
                  · obtain rfl : m = D.length := by omega
                    have HM' := Lib.hid hM
                    clear hM
                    go_wp2
                    go_roundw
                    case rel => exact ⟨r + 1, q, hrr, by go_num, HM'.out, HA'.out⟩
                    case measure => simp [intOf]; omega
          · have HG := Lib.hid hM.pl.gr
            clear hM hA
            go_wp2
            go_ret
            exact ⟨rfl, HG.out⟩
      go_wp2
      go_loopw [7, 11] (fun u v wr => ∃ (i : Nat) (S : Nat → Prop) (p : PoolF) (adD : Option Addr) (capD : Nat) (D : List Hd), i ≤ l.length ∧ i ≤ 60 ∧ D.length ≤ i ∧ u = .slice adD D.length capD ∧ v = .int .i64 (i : Int) ∧ AM w wr S g p adD capD D ∧ Aps p D) (fun _ v _ => l.length - (intOf v).toNat)
      case atStart => exact ⟨0, S, p, none, 0, [], Nat.zero_le _, by omega, Nat.le_refl _, rfl, rfl, HM0.out, HA0.out⟩
      case round =>
        clear HM0 HA0
        obtain ⟨i, S, p, adD, capD, D, hi, hi3, hD, rfl, rfl, hM, hA⟩ := hrel
        by_cases hib : i < l.length
        · by_cases hi2 : i < 60
          · obtain ⟨bl, off, rfl, z⟩ := HR.out i (.int .i64 l[i]) (by simp [hib])
            have hblw : bl < w.heap.size := World.block_lt_of_cell? w _ z
            have z := hM.pl.gr.cell z
            have hblS : ¬ S bl := fun e => by have := hM.pl.base _ e; omega
            obtain ⟨n0, e2, hn0⟩ := u64_mod l[i] 128 (by decide) (by decide)
            have e2 : IntKind.i64.wrap ((IntKind.u64.wrap l[i]).tmod 128) = (n0 : Int) := e2
            obtain ⟨r3, hr3, e3⟩ : ∃ r3 : Nat, r3 < 3 ∧ (i : Int).tmod 3 = (r3 : Int) := ⟨i % 3, Nat.mod_lt _ (by decide), rfl⟩
            obtain ⟨c7, hc7, e7⟩ : ∃ c7 : Nat, c7 < 7 ∧ (i : Int).tmod 7 = (c7 : Int) := ⟨i % 7, Nat.mod_lt _ (by decide), rfl⟩
            obtain ⟨y, er, p', he, hcase⟩ : ∃ y er p', allocF p (r3 : Int) ((1 + n0 : Nat) : Int) ((2 ^ c7 : Nat) : Int) = (y, er, p') ∧ ((er = 0 ∧ Aps p' (D ++ [y])) ∨ (er = 5 ∧ Aps p' D)) := by
              rcases hA.alloc hM.pl.ok hr3 (n := 1 + n0) (by omega) (by omega) hc7 with ⟨y, p', h1, h2⟩ | h1
              · exact ⟨y, 0, p', h1, .inl ⟨rfl, h2⟩⟩
              · exact ⟨_, 5, p, h1, .inr ⟨rfl, hA⟩⟩
            have HAl := Lib.hid (fun (w' : World) (h : Pl w w' S g p) => Alloc_pl h he)
            have hp2 : 2 ^ c7 ≤ 64 := by
              have : ∀ c : Fin 7, 2 ^ c.val ≤ 64 := by decide
              exact this ⟨c7, hc7⟩
            have e4 : IntKind.i64.wrap (2 ^ c7) = ((2 ^ c7 : Nat) : Int) := by
              rw [show ((2 : Int) ^ c7) = ((2 ^ c7 : Nat) : Int) from by norm_cast]
              obtain ⟨al, hal⟩ : ∃ al, al = 2 ^ c7 := ⟨_, rfl⟩
              rw [← hal] at hp2 ⊢
              rw [IntKind.wrap_i64]
              omega
            have e5 : IntKind.i64.wrap (1 + (n0 : Int)) = ((1 + n0 : Nat) : Int) := by clear e4 hp2 HAl he; rw [IntKind.wrap_i64]; omega
            have e6 : IntKind.i64.wrap (r3 : Int) = (r3 : Int) := by clear e4 hp2 HAl he; rw [IntKind.wrap_i64]; omega
            have e8 : IntKind.i64.wrap (c7 : Int) = (c7 : Int) := by clear e4 hp2 HAl he; rw [IntKind.wrap_i64]; omega
            generalize ((1 + n0 : Nat) : Int) = nI at *
            generalize ((2 ^ c7 : Nat) : Int) = alI at *
            have HM := Lib.hid hM; have HA := Lib.hid hA; have HC := Lib.hid hcase
            have hS : ∀ j, S j → j < wr.drew.heap.size := hM.pl.pool.lt
            have hw0 : w.heap.size ≤ wr.drew.heap.size := hM.pl.gr.size
            have hblW : bl < wr.drew.heap.size := Nat.lt_of_lt_of_le hblw hw0
            obtain ⟨yr, yg, yo, yl⟩ := y
            clear hM hA he hcase
            go_wp2
            have HI0 := Lib.hid (AInv.start (p' := p') (cs := hc ⟨yr, yg, yo, yl⟩) (HM.out.pl.more (Gr.drew wr)))
            refine region_ghost (Le := ALe w wr.drew S g p p' (hc ⟨yr, yg, yo, yl⟩)) PreA ALe.refl ALe.trans AG.none PreA.start _ [IsG (.pointer (some ⟨g, 0, none⟩)), IsG (.int .i64 (i : Int)), IsG (.int .i64 (r3 : Int)), IsG (.slice (some ⟨bl, off, none⟩) l.length cap), IsG (.int .i64 (i : Int)), IsG (.pointer (some ⟨bl, off + i, none⟩)), IsG (.int .i64 l[i]), IsG ?r7x2, IsG ?r8x2, IsG (.int .i64 (n0 : Int)), IsG (.int .i64 nI), IsG (.int .i64 (i : Int)), IsG (.int .i64 (c7 : Int)), IsG (.int .i64 alI), DoneG (.tuple #[.agg #[.int .i64 yr, .int .i64 yg, .int .i64 yo, .int .i64 yl], .int .i64 (er : Int)]), IsG (.tuple #[.agg #[.int .i64 yr, .int .i64 yg, .int .i64 yo, .int .i64 yl], .int .i64 (er : Int)]), IsG (.agg #[.int .i64 yr, .int .i64 yg, .int .i64 yo, .int .i64 yl]), IsG (.int .i64 (er : Int)), HasG, StG, IsG (.int .i64 (er : Int))] (by kernel_rfl) (by kernel_rfl) (by kernel_rfl) rfl rfl ⟨IsG.stable _, IsG.stable _, IsG.stable _, IsG.stable _, IsG.stable _, IsG.stable _, IsG.stable _, IsG.stable _, IsG.stable _, IsG.stable _, IsG.stable _, IsG.stable _, IsG.stable _, IsG.stable _, DoneG.stable _, IsG.stable _, IsG.stable _, IsG.stable _, HasG.stable, StG.stable, IsG.stable _, trivial⟩ ⟨?s0x2, ?s1x2, ?s2x2, ?s3x2, ?s4x2, ?s5x2, ?s6x2, ?s7x2, ?s8x2, ?s9x2, ?s10x2, ?s11x2, ?s12x2, ?s13x2, ?s14x2, ?s15x2, ?s16x2, ?s17x2, ?s18x2, ?s19x2, ?s20x2, trivial⟩ ?finx2
            case' s0x2 | s1x2 | s2x2 | s3x2 | s4x2 | s5x2 | s6x2 | s7x2 | s8x2 | s9x2 | s10x2 | s11x2 | s12x2 | s13x2 | s15x2 | s16x2 | s17x2 | s20x2 =>
              intro ρ wr gh hρ hg hK
              simp [readsOf, slotsOf, Op.operands, Call.operands, tmpOf, List.filterMap_cons, List.filterMap_nil, KnownAll, knownOf, srcOf, depsOf, dstOf, Region.binds, nthG, IsG] at hK
              obtain ⟨hc, hf, hgl⟩ := hρ
              try simp only [wantedBy, dstOf, boolOf, nthG, List.getD_cons_zero, List.getD_cons_succ, List.getElem?_cons_zero, List.getElem?_cons_succ, Option.bind_some, if_true, hK, BEq.rfl]
              try go_simp
              first | exact rfl | exact pureG ALe.refl rfl | (refine pureG ALe.refl ?_; go_simp; done) | (refine pureG ALe.refl ?_; rfl) | (rw [if_pos (by omega)]; exact pureG ALe.refl rfl) | (rw [dif_pos (by omega)]; exact pureG ALe.refl rfl) | exact pureG ALe.refl (congrArg (Value.int _) (IntWalk.i64_in _ ⟨by omega, by omega⟩)) | skip
            case' s14x2 | s18x2 | s19x2 =>
              intro ρ wr gh hρ hg hK
              simp [readsOf, slotsOf, Op.operands, Call.operands, tmpOf, List.filterMap_cons, List.filterMap_nil, KnownAll, knownOf, srcOf, depsOf, dstOf, Region.binds, nthG, IsG] at hK
              obtain ⟨hc, hf, hgl⟩ := hρ
              try simp only [wantedBy, dstOf, boolOf, nthG, List.getD_cons_zero, List.getD_cons_succ, List.getElem?_cons_zero, List.getElem?_cons_succ, Option.bind_some, if_true, hK, BEq.rfl]
            case s15x2 =>
              rw [hK.1]
              exact pureG ALe.refl rfl
            case s6x2 =>
              have HI := hg.1.2 HI0.out
              have zz := HI.chg.cell ((Gr.drew _).cell z) (by rintro (e | e); exact hblS e; exact absurd e (by omega))
              rw [zz]
              exact pureG ALe.refl rfl
            case s14x2 =>
              obtain ⟨k0, k1, k2, k3⟩ := hK
              have HI := hg.1.2 HI0.out
              have hd : gh.done = false := (hg.2 14 (by kernel_rfl)).1 rfl
              have hP : Pl w wr S g p := by have := HI.pool; rw [if_neg (by rw [hd]; decide)] at this; exact this
              have HIh := Lib.hid HI; have HPh := Lib.hid hP; have HD := Lib.hid hd
              clear HI hP hd
              go_simp
              refine growG_enter ((HAl.out wr HPh.out).mono fun e w'' ⟨he, S', m, P'⟩ => ⟨_, { gh with done := true }, he, ⟨⟨⟨fun _ => rfl, fun _ h => h, fun h => h⟩, fun h => h.call HD.out hS m P'⟩, PreA.step (fun h => absurd rfl h) (fun _ h => h) (fun _ h => h)⟩, rfl, rfl⟩)
            case s18x2 =>
              have hb : gh.b = none := (hg.2 18 (by kernel_rfl)).2.1 rfl
              have HD := Lib.hid hb
              clear hb
              go_simp
              exact growG_value _ _ _ _ _ { gh with b := some wr.heap.size } ⟨⟨⟨fun h => h, fun b e => (by rw [HD.out] at e; cases e), fun h => h⟩, fun h => h.new HD.out⟩, PreA.step (fun _ h => h) (fun h => absurd rfl h) (fun _ h => h)⟩ ⟨_, rfl, rfl⟩
            case s19x2 =>
              obtain ⟨⟨b, eb, hb⟩, e64⟩ := hK
              have HI := hg.1.2 HI0.out
              have hst : gh.st = false := (hg.2 19 (by kernel_rfl)).2.2 rfl
              obtain ⟨hN, hB⟩ := HI.blk b hb
              rw [if_neg (by show ¬ gh.st = true; rw [hst]; decide)] at hB
              obtain ⟨c0, c1, c2, c3, f0, f1, f2, f3⟩ := Blk.four (a := .int .i64 0) (b := .int .i64 0) (c := .int .i64 0) (d := .int .i64 0) hB
              have HIh := Lib.hid HI; have HBb := Lib.hid hb; have HST := Lib.hid hst; have HBk := Lib.hid hB
              clear HI hb hst hB
              go_simp
              have kk := grown_set4b wr b 0 (.int .i64 yr) (.int .i64 yg) (.int .i64 yo) (.int .i64 yl)
              have hB2 : Blk ((((wr.setCell ⟨b, 0, none⟩ (.int .i64 yr)).setCell ⟨b, 0 + 1, none⟩ (.int .i64 yg)).setCell ⟨b, 0 + 2, none⟩ (.int .i64 yo)).setCell ⟨b, 0 + 3, none⟩ (.int .i64 yl)) b 33 (Go.Proofs.Ytfnimpgphagnfaa.hc ⟨yr, yg, yo, yl⟩) := (((HBk.out.set_ 0 _).set_ 1 _).set_ 2 _).set_ 3 _
              exact growG_skip { gh with st := true } ⟨⟨⟨fun h => h, fun _ h => h, fun _ => rfl⟩, fun h => h.store hS hw0 HBb.out kk hB2⟩, PreA.step (fun _ h => h) (fun _ h => h) (fun h => absurd rfl h)⟩ rfl
            case finx2 =>
              intro w1 g1 val hg hH
              simp only [HoldsG, IsG, Nat.zero_add, Nat.reduceAdd] at hH
              obtain ⟨h0, h1, h2, h3, h4, h5, h6, h7, h8, h9, h10, h11, h12, h13, h14, h15, h16, h17, h18, h19, h20, _⟩ := hH
              simp only [List.take_succ_cons, List.take_zero, List.drop_succ_cons, List.drop_zero, putAll, h0, h1, h2, h3, h4, h5, h6, h7, h8, h9, h10, h11, h12, h13, h15, h16, h17, h20, Nat.zero_add, Nat.reduceAdd]
              have HI := hg.2 HI0.out
              obtain ⟨e14, hd⟩ := h14
              obtain ⟨b, e18, hb⟩ := h18
              have hst : g1.st = true := h19
              simp only [e14, e18]
              have hpl := HI.pool
              rw [if_pos hd] at hpl
              obtain ⟨S', P', hS'⟩ := hpl
              obtain ⟨hNb, hBk⟩ := HI.blk b hb
              rw [if_pos (show (w1, g1).2.st = true from hst)] at hBk
              have hout : ∀ x, adD = some x → ¬ (S x.block ∨ wr.drew.heap.size ≤ x.block) := fun x hx e => by
                rcases e with e | e
                · exact HM.out.oD x hx e
                · have := (HM.out.bD.lt x hx).2
                  have : wr.drew.heap.size = wr.heap.size := rfl
                  omega
              have M1 : AM w w1 (fun j => S' j ∧ j ≠ b) g p' adD capD D := ⟨P'.drop hBk, fun x hx e => hout x hx (hS' _ e.1), HI.chg.owns (HM.out.bD.gr (Gr.drew wr)) hout⟩
              obtain ⟨c0, c1, c2, c3, _⟩ := Blk.four (a := .int .i64 yr) (b := .int .i64 yg) (c := .int .i64 yo) (d := .int .i64 yl) hBk
              generalize (fun j => S' j ∧ j ≠ b) = S8 at M1
              have HM1 := Lib.hid M1
              have hcase := HC.out
              clear HI0 HI P' hS' hNb hBk hout M1 hb hst hd e14 e18 hg HAl HA HC
              rcases hcase with ⟨rfl, hA8⟩ | ⟨rfl, hA8⟩
              · have HA8 := Lib.hid hA8
                have m1 : D.length + 1 ≤ maxLen := by unfold maxLen; omega
                have m2 : (D.length + 1) * 32 ≤ 140737488355328 := by omega
                clear hA8
                go_simp
                go_wp2_with (first
                  | (at_builtin; go_must (refine wp_append elemH rfl _ _ rfl rfl (HM1.out.bD.gr (Gr.alloc _ _)) rfl (src_hand _ ⟨yr, yg, yo, yl⟩ _ Try.underlying29 _ (by simp)) m1 m2 (Nat.le_trans HM1.out.pl.gr.size (Gr.alloc _ _).size) ?_); intro ad8 cap8 w8 o8 k8 f8
                     have M8 := (HM1.out.more (Gr.alloc _ _)).app k8 o8 f8)
                  | fail)
                go_roundw
                case rel => exact ⟨i + 1, S8, p', ad8, cap8, D ++ [⟨yr, yg, yo, yl⟩], hib, hi2, by simp; omega, by simp, by go_num, M8, HA8.out⟩
                case measure => simp [intOf]; omega
              · have M8 := HM1.out
                have A8 := hA8
                clear hA8 HM1
                go_simp
                have HM8 := Lib.hid M8
                have HA8 := Lib.hid A8
                clear M8 A8
                go_wp2
                go_meet
                exact ⟨S8, p', adD, capD, D, rfl, by omega, HM8.out, HA8.out⟩
          · have M8 := hM
            have A8 := hA
            obtain ⟨S8, hS8⟩ : ∃ S8, S8 = S := ⟨_, rfl⟩
            obtain ⟨p', hp'⟩ : ∃ p', p' = p := ⟨_, rfl⟩
            rw [← hS8, ← hp'] at M8
            rw [← hp'] at A8
            clear hM hA hS8 hp'
            have HM8 := Lib.hid M8
            have HA8 := Lib.hid A8
            clear M8 A8
            go_wp2
            go_meet
            exact ⟨S8, p', adD, capD, D, rfl, by omega, HM8.out, HA8.out⟩
        · have M8 := hM
          have A8 := hA
          obtain ⟨S8, hS8⟩ : ∃ S8, S8 = S := ⟨_, rfl⟩
          obtain ⟨p', hp'⟩ : ∃ p', p' = p := ⟨_, rfl⟩
          rw [← hS8, ← hp'] at M8
          rw [← hp'] at A8
          clear hM hA hS8 hp'
          have HM8 := Lib.hid M8
          have HA8 := Lib.hid A8
          clear M8 A8
          go_wp2
          go_meet
          exact ⟨S8, p', adD, capD, D, rfl, by omega, HM8.out, HA8.out⟩
theorem RegionApart_len (ad ad2 : Option Addr) (cap len2 cap2 : Nat) (l : List Int) (l2 : List UInt8) (w : World) (hr : Row w ad (l.map (Value.int .i64))) (hl : l.length ≤ 9223372036854775807) (hl2 : l2.length = len2) (hr2 : len2 ≤ 140737488351232) (hb2 : Bytes w ad2 l2) :
    Calls Try.prog 3 #[.slice ad l.length cap, .slice ad2 len2 cap2] w fun e w' => e = .returned (.bool true) ∧ Gr w w' := by
  subst hl2; exact RegionApart_any ad ad2 cap cap2 l l2 w hr hl (by omega) hb2
end Go.Proofs.Ytfnimpgphagnfaa
