/- Forth and back all versions are met, each once, in their order, whatever the heights. No condition. -/
import Derived.Test.YtnafhjgfkofkbaaBunJ
/- How a slice of ints is opened. No program is in sight here. -/
namespace Go.Proofs.Ytnafhjgfkofkbaa
set_option linter.unusedVariables false
set_option linter.unusedSimpArgs false
open Go.ChangeShapes Go.WideShapes Go.ChangeAt Go.RowKit
section
variable {H : Type} {P : Program} {w : World} {enc : TypeId × Value → H}
theorem open_ints {base : Nat} {spare : Nat → Bool} {held : Bool} {r : Reach} {b0 : Nat} {t e : TypeId} {v : Value} {d : DataW H} {ps : List MemPlace} (ht : P.underlying t = some (.slice e)) (he : P.underlying e = some (.int .i64)) (hc : P.cellsOf e = 1)
    (hval : Value.okWide P w r b0 t v) (hd : DataW.Trod enc P w base spare held t v d ps) :
    ∃ ad len cap, ∃ l : List Int, v = .slice ad len cap ∧ l.length = len ∧ len ≤ cap ∧ cap ≤ maxLen ∧ Row w ad (l.map (Value.int .i64)) := by
  obtain ⟨ad, len, cap, zs, hv, h1, h2, h3, h4, h5, h6⟩ := open_nums ht he hc hval hd
  exact ⟨ad, len, cap, zs, hv, h1, h2, h3, h4⟩
end
end Go.Proofs.Ytnafhjgfkofkbaa
/- Layer 11 (skip): SkipWalks answers true. -/
namespace Go.Proofs.Ytnafhjgfkofkbaa
set_option linter.unusedVariables false
set_option linter.unusedSimpArgs false
open Go.RowKit Ikey Varint
theorem u64_mod (x : Int) (m : Nat) (hm : 0 < m) (h : m ≤ 4611686018427387904) : ∃ a : Nat, IntKind.i64.wrap ((IntKind.u64.wrap x).tmod (m : Int)) = (a : Int) ∧ a < m := by
  have h0 : 0 ≤ IntKind.u64.wrap x := by rw [IntKind.wrap_u64]; omega
  have h1 : (IntKind.u64.wrap x).tmod (m : Int) = IntKind.u64.wrap x % (m : Int) := Int.tmod_eq_emod_of_nonneg h0
  have h2 := Int.emod_nonneg (IntKind.u64.wrap x) (show (m : Int) ≠ 0 by omega)
  have h3 := Int.emod_lt_of_pos (IntKind.u64.wrap x) (show (0 : Int) < m by omega)
  obtain ⟨a, ha⟩ := Int.eq_ofNat_of_zero_le h2
  refine ⟨a, ?_, by omega⟩
  rw [h1, ha, IntKind.wrap_i64]
  omega
def walkH (hs : List Int) (i : Nat) : Int := if i < hs.length then 1 + IntKind.i64.wrap ((IntKind.u64.wrap (hs.getD i 0)).tmod 12) else 1
set_option maxRecDepth 100000 in
set_option maxHeartbeats 4000000 in
theorem SkipWalks_any (ad : Option Addr) (cap : Nat) (l : List Ci) (ad1 : Option Addr) (cap1 : Nat) (hs : List Int) (w : World) (hr : Row w ad (cv l)) (hl : l.length ≤ 9223372036854775807) (hvl : ∀ c ∈ l, c.val.length ≤ 9223372036854775807) (hr1 : Row w ad1 (hs.map (Value.int .i64))) (hl1 : hs.length ≤ 9223372036854775807) :
    Calls Try.prog 5 #[.slice ad l.length cap, .slice ad1 hs.length cap1] w fun e w' => e = .returned (.bool true) ∧ Gr w w' := by
  have HR := Lib.hid hr.ci
  have HR1 := Lib.hid hr1
  have HVL := Lib.hid hvl
  clear hr hvl hr1
  go_enter Try.func5, Try.ntmps5
  go_wp2_with (first
    | (go_at_call 8; go_must (refine (skips_any _).mono ?_); rintro e V0 ⟨rfl, g1⟩)
    | (go_at_call 11; go_must (refine (field_any V0 V0 (Gr.refl _) 200 (by decide) (by decide)).mono ?_); rintro e w2 ⟨g, gl, S0, rfl, k2, hsl, _, _⟩
       have HP := Lib.hid (PrI.start hsl (Gr.alloc w2 (.cells #[.slice none 0 0, .bool false] 38)) (Blk.new w2 _ _)))
    | fail)
  generalize w2.heap.size = gm at *
  go_loopw [9] (fun vi wr => ∃ i : Nat, vi = .int .i64 (i : Int) ∧ i ≤ l.length ∧ i ≤ 120 ∧ PrI V0 (fun _ => False) g gl gm 0 (putN l (walkH hs) i) (putN l (walkH hs) i) false (200 - i) wr) (fun vi _ => 120 - (intOf vi).toNat)
  case atStart => exact ⟨0, rfl, Nat.zero_le _, Nat.zero_le _, HP.out⟩
  case round =>
    clear HP
    obtain ⟨i, rfl, hi, hi80, hP⟩ := hrel
    by_cases hlt : i < l.length ∧ i < 120
    · obtain ⟨hlt, hlt2⟩ := hlt
      have HW := Lib.hid (show walkH hs i = if i < hs.length then 1 + IntKind.i64.wrap ((IntKind.u64.wrap (hs.getD i 0)).tmod 12) else 1 from rfl)
      by_cases hh : i < hs.length
      · obtain ⟨bh, offh, rfl, eh⟩ := HR1.out i (.int .i64 hs[i]) (by simp [hh])
        have hgd : hs.getD i 0 = hs[i] := by rw [List.getD_eq_getElem?_getD, List.getElem?_eq_getElem hh, Option.getD_some]
        obtain ⟨cc, hcc, hc12⟩ := u64_mod hs[i] 12 (by decide) (by decide)
        have hcc : IntKind.i64.wrap ((IntKind.u64.wrap hs[i]).tmod 12) = (cc : Int) := hcc
        obtain ⟨t, ht0⟩ : ∃ t : Int, t = 1 + (cc : Int) := ⟨_, rfl⟩
        have hwt : IntKind.i64.wrap (1 + (cc : Int)) = 1 + (cc : Int) := IntWalk.i64_in _ (by constructor <;> omega)
        have HT1 := Lib.hid ht0.symm
        have ht : walkH hs i = t := by rw [HW.out, if_pos hh, hgd, hcc, ht0]
        clear ht0
        have eh' := (g1.trans hP.gr).cell eh
        clear hgd HW
        generalize hs[i] = hi9 at *
        obtain ⟨b, off, hade, e0, e1, e2, e3⟩ := HR.out i hlt
        subst hade
        have hv := HVL.out l[i] (List.getElem_mem hlt)
        have HG := Lib.hid (show l.getD i noC = l[i] by rw [List.getD_eq_getElem?_getD, List.getElem?_eq_getElem hlt, Option.getD_some])
        have hS := putN_len l (walkH hs) i
        have HI := Lib.hid (show putN l (walkH hs) (i + 1) = (insF (putN l (walkH hs) i) false (l.getD i noC).key (l.getD i noC).seq (l.getD i noC).kind (l.getD i noC).val ((walkH hs) i)).2 from rfl)
        rw [HG.out] at HI
        clear HG HR
        generalize l[i] = c at *
        generalize hC : putN l (walkH hs) i = C at *
        obtain ⟨n, hn⟩ : ∃ n, n = 199 - i := ⟨_, rfl⟩
        have hn1 : 200 - i = n + 1 := by omega
        rw [hn1] at hP
        have hn2 : 200 - (i + 1) = n := by omega
        have HN := Lib.hid hn2
        have gW := g1.trans hP.gr
        rw [ht] at HI
        obtain ⟨E, hE⟩ : ∃ E : Int, E = ((insF C false c.key c.seq c.kind c.val t).1 : Int) := ⟨_, rfl⟩
        have HI1 := Lib.hid (fun w' (h : PrI V0 (fun _ => False) g gl gm 0 C C false (n + 1) w') => h.ins1 c.key c.seq c.kind c.val t hv (by omega))
        have HI2 := Lib.hid (fun w' (h : PrI V0 (fun _ => False) g gl gm 0 (insF C false c.key c.seq c.kind c.val t).2 C false n w') => h.ins2 c.key c.seq c.kind c.val t hv (by omega))
        rw [← hE] at HI1 HI2
        unfold celV at HI1 HI2
        have f0 := gW.cell e0
        have f1 := gW.cell e1
        have f2 := gW.cell e2
        have f3 := gW.cell e3
        have HP := Lib.hid hP
        generalize hC2 : (insF C false c.key c.seq c.kind c.val t).2 = C2 at *
        have HK0 := Lib.hid (KInv.mk (K := KK (PrI V0 (fun _ => False) g gl gm 0 C C false (n + 1)) (PrI V0 (fun _ => False) g gl gm 0 C2 C false n) (PrI V0 (fun _ => False) g gl gm 0 C2 C2 false n)) (m := 2) (s := (wr.drew, 0)) (Nat.zero_le _) (HP.out.more (Gr.drew wr)))
        have HB := Lib.hid (show ¬ Tt V0 (fun _ => False) b from fun e => by
          have h1 := World.block_lt_of_cell? _ _ e0
          have h2 := g1.size
          have h3 := e.1
          simp only at h1; omega)
        clear hP hC hn hn1 hn2 ht hE hC2 e0 e1 e2 e3 hv gW hS g1 k2 hsl
        go_wp2
        rw [HT1.out]
        clear hcc hwt eh' eh
        have d0 := (Gr.drew wr).cell f0
        have d1 := (Gr.drew wr).cell f1
        have d2 := (Gr.drew wr).cell f2
        have d3 := (Gr.drew wr).cell f3
        have HD := Lib.hid (And.intro d0 (And.intro d1 (And.intro d2 d3)))
        clear d0 d1 d2 d3 f0 f1 f2 f3
        refine region_ghostA (Le := KLe (Tt V0 (fun _ => False)) (KK (PrI V0 (fun _ => False) g gl gm 0 C C false (n + 1)) (PrI V0 (fun _ => False) g gl gm 0 C2 C false n) (PrI V0 (fun _ => False) g gl gm 0 C2 C2 false n)) 2) (PreK fun k => if k = 6 then 0 else if k = 13 then 1 else 2) KLe.refl KLe.trans 0 PreK.start _ [IsG (.pointer (some ⟨gl, 0, none⟩)), IsG (.slice (some ⟨b, off, none⟩) l.length cap), IsG (.int .i64 (i : Int)), IsG (.pointer (some ⟨b, off + i * 4, none⟩)), IsG (.agg #[.string (str c.key), .int .i64 c.seq, .int .i64 c.kind, .string (str c.val)]), IsG (.int .i64 t), IsS (.int .i64 E) (AtK 1), IsG (.pointer (some ⟨gm, 0, none⟩)), IsG (.slice (some ⟨b, off, none⟩) l.length cap), IsG (.int .i64 (i : Int)), IsG (.pointer (some ⟨b, off + i * 4, none⟩)), IsG (.agg #[.string (str c.key), .int .i64 c.seq, .int .i64 c.kind, .string (str c.val)]), IsG (.int .i64 t), IsS (.int .i64 E) (AtK 2), IsG (.bool false)] (by kernel_rfl) (by kernel_rfl) (by kernel_rfl) rfl rfl ⟨IsG.stable _, IsG.stable _, IsG.stable _, IsG.stable _, IsG.stable _, IsG.stable _, AtK.stable _ _, IsG.stable _, IsG.stable _, IsG.stable _, IsG.stable _, IsG.stable _, IsG.stable _, AtK.stable _ _, IsG.stable _, trivial⟩ ⟨?s0, ?s1, ?s2, ?s3, ?s4, ?s5, ?s6, ?s7, ?s8, ?s9, ?s10, ?s11, ?s12, ?s13, ?s14, trivial⟩ ?fin
        case' s0 | s1 | s2 | s3 | s4 | s5 | s7 | s8 | s9 | s10 | s11 | s12 | s14 =>
          intro ρ wr gh hρ hg hK
          simp [readsOf, slotsOf, Op.operands, Call.operands, tmpOf, List.filterMap_cons, List.filterMap_nil, KnownAll, knownOf, srcOf, depsOf, dstOf, Region.binds, nthG, IsG, IsS] at hK
          obtain ⟨hc, hf, hgl⟩ := hρ
          try simp only [wantedBy, dstOf, boolOf, nthG, List.getD_cons_zero, List.getD_cons_succ, List.getElem?_cons_zero, List.getElem?_cons_succ, Option.bind_some, if_true, hK, BEq.rfl]
          try go_simp
          first | exact rfl | exact pureG KLe.refl rfl | (refine pureG KLe.refl ?_; go_simp; done) | (refine pureG KLe.refl ?_; rfl) | (rw [if_pos (by omega)]; exact pureG KLe.refl rfl) | (rw [dif_pos (by omega)]; exact pureG KLe.refl rfl) | exact pureG KLe.refl (congrArg (Value.int _) (IntWalk.i64_in _ ⟨by omega, by omega⟩)) | skip
        case' s6 | s13 =>
          intro ρ wr gh hρ hg hK
          simp [readsOf, slotsOf, Op.operands, Call.operands, tmpOf, List.filterMap_cons, List.filterMap_nil, KnownAll, knownOf, srcOf, depsOf, dstOf, Region.binds, nthG, IsG, IsS] at hK
          obtain ⟨hc, hf, hgl⟩ := hρ
          try simp only [wantedBy, dstOf, boolOf, nthG, List.getD_cons_zero, List.getD_cons_succ, List.getElem?_cons_zero, List.getElem?_cons_succ, Option.bind_some, if_true, hK, BEq.rfl]
        case s4 | s11 =>
          obtain ⟨d0, d1, d2, d3⟩ := HD.out
          have z0 := hg.1.chg.cell d0 HB.out; have z1 := hg.1.chg.cell d1 HB.out; have z2 := hg.1.chg.cell d2 HB.out; have z3 := hg.1.chg.cell d3 HB.out
          clear d0 d1 d2 d3
          go_simp
          exact pureG KLe.refl rfl
        case s6 =>
          have HI := hg.1.inv HK0.out
          have hz : gh ≤ 0 := hg.2.1 6 (by kernel_rfl)
          obtain rfl : gh = 0 := by omega
          have hP : PrI V0 (fun _ => False) g gl gm 0 C C false (n + 1) wr := HI.at_
          have HPh := Lib.hid hP
          clear HI hP hz hg
          go_simp
          exact enterK (f2_ne (by decide)).1 (by decide) (HI1.out _ HPh.out)
        case s13 =>
          have HI := hg.1.inv HK0.out
          have hz : gh ≤ 1 := hg.2.1 13 (by kernel_rfl)
          obtain ⟨v9, _, h9⟩ := hg.2.2 6 (by decide)
          have h9 : 1 ≤ gh := h9
          obtain rfl : gh = 1 := by omega
          have hP : PrI V0 (fun _ => False) g gl gm 0 C2 C false n wr := HI.at_
          have HPh := Lib.hid hP
          clear HI hP hz hg h9
          go_simp
          exact enterK (f2_ne (by decide)).2 (by decide) (HI2.out _ HPh.out)
        case fin =>
          intro w1 g1 val hg hH
          simp only [HoldsG, IsG, IsS, Nat.zero_add, Nat.reduceAdd] at hH
          obtain ⟨h0, h1, h2, h3, h4, h5, h6, h7, h8, h9, h10, h11, h12, h13, h14, _⟩ := hH
          simp only [List.take_succ_cons, List.take_zero, List.drop_succ_cons, List.drop_zero, putAll, h0, h1, h2, h3, h4, h5, h7, h8, h9, h10, h11, h12, h14, Nat.zero_add, Nat.reduceAdd]
          have HI := hg.inv HK0.out
          have h19b := h13.2
          have h19b : 2 ≤ g1 := h19b
          have hle := HI.le
          obtain rfl : g1 = 2 := by simp only at hle; omega
          have hP : PrI V0 (fun _ => False) g gl gm 0 C2 C2 false n w1 := HI.at_
          have HPn := Lib.hid hP
          clear HI hP hle h19b h13 h6 hg HP HK0 HI1 HI2 HD HB
          go_simp
          go_wp2
          go_roundw
          case rel => exact ⟨i + 1, by go_num, hlt, hlt2, by rw [HI.out, HN.out]; exact HPn.out⟩
          case measure => simp [intOf]; omega
      · obtain ⟨t, ht1⟩ : ∃ t : Int, t = 1 := ⟨_, rfl⟩
        have ht : walkH hs i = t := by rw [HW.out, if_neg hh, ht1]
        have HT1 := Lib.hid ht1
        clear HW ht1
        obtain ⟨b, off, hade, e0, e1, e2, e3⟩ := HR.out i hlt
        subst hade
        have hv := HVL.out l[i] (List.getElem_mem hlt)
        have HG := Lib.hid (show l.getD i noC = l[i] by rw [List.getD_eq_getElem?_getD, List.getElem?_eq_getElem hlt, Option.getD_some])
        have hS := putN_len l (walkH hs) i
        have HI := Lib.hid (show putN l (walkH hs) (i + 1) = (insF (putN l (walkH hs) i) false (l.getD i noC).key (l.getD i noC).seq (l.getD i noC).kind (l.getD i noC).val ((walkH hs) i)).2 from rfl)
        rw [HG.out] at HI
        clear HG HR
        generalize l[i] = c at *
        generalize hC : putN l (walkH hs) i = C at *
        obtain ⟨n, hn⟩ : ∃ n, n = 199 - i := ⟨_, rfl⟩
        have hn1 : 200 - i = n + 1 := by omega
        rw [hn1] at hP
        have hn2 : 200 - (i + 1) = n := by omega
        have HN := Lib.hid hn2
        have gW := g1.trans hP.gr
        rw [ht] at HI
        obtain ⟨E, hE⟩ : ∃ E : Int, E = ((insF C false c.key c.seq c.kind c.val t).1 : Int) := ⟨_, rfl⟩
        have HI1 := Lib.hid (fun w' (h : PrI V0 (fun _ => False) g gl gm 0 C C false (n + 1) w') => h.ins1 c.key c.seq c.kind c.val t hv (by omega))
        have HI2 := Lib.hid (fun w' (h : PrI V0 (fun _ => False) g gl gm 0 (insF C false c.key c.seq c.kind c.val t).2 C false n w') => h.ins2 c.key c.seq c.kind c.val t hv (by omega))
        rw [← hE] at HI1 HI2
        unfold celV at HI1 HI2
        have f0 := gW.cell e0
        have f1 := gW.cell e1
        have f2 := gW.cell e2
        have f3 := gW.cell e3
        have HP := Lib.hid hP
        generalize hC2 : (insF C false c.key c.seq c.kind c.val t).2 = C2 at *
        have HK0 := Lib.hid (KInv.mk (K := KK (PrI V0 (fun _ => False) g gl gm 0 C C false (n + 1)) (PrI V0 (fun _ => False) g gl gm 0 C2 C false n) (PrI V0 (fun _ => False) g gl gm 0 C2 C2 false n)) (m := 2) (s := (wr.drew, 0)) (Nat.zero_le _) (HP.out.more (Gr.drew wr)))
        have HB := Lib.hid (show ¬ Tt V0 (fun _ => False) b from fun e => by
          have h1 := World.block_lt_of_cell? _ _ e0
          have h2 := g1.size
          have h3 := e.1
          simp only at h1; omega)
        clear hP hC hn hn1 hn2 ht hE hC2 e0 e1 e2 e3 hv gW hS g1 k2 hsl
        obtain rfl := HT1.out
        go_wp2
        have d0 := (Gr.drew wr).cell f0
        have d1 := (Gr.drew wr).cell f1
        have d2 := (Gr.drew wr).cell f2
        have d3 := (Gr.drew wr).cell f3
        have HD := Lib.hid (And.intro d0 (And.intro d1 (And.intro d2 d3)))
        clear d0 d1 d2 d3 f0 f1 f2 f3
        refine region_ghostA (Le := KLe (Tt V0 (fun _ => False)) (KK (PrI V0 (fun _ => False) g gl gm 0 C C false (n + 1)) (PrI V0 (fun _ => False) g gl gm 0 C2 C false n) (PrI V0 (fun _ => False) g gl gm 0 C2 C2 false n)) 2) (PreK fun k => if k = 6 then 0 else if k = 13 then 1 else 2) KLe.refl KLe.trans 0 PreK.start _ [IsG (.pointer (some ⟨gl, 0, none⟩)), IsG (.slice (some ⟨b, off, none⟩) l.length cap), IsG (.int .i64 (i : Int)), IsG (.pointer (some ⟨b, off + i * 4, none⟩)), IsG (.agg #[.string (str c.key), .int .i64 c.seq, .int .i64 c.kind, .string (str c.val)]), IsG (.int .i64 1), IsS (.int .i64 E) (AtK 1), IsG (.pointer (some ⟨gm, 0, none⟩)), IsG (.slice (some ⟨b, off, none⟩) l.length cap), IsG (.int .i64 (i : Int)), IsG (.pointer (some ⟨b, off + i * 4, none⟩)), IsG (.agg #[.string (str c.key), .int .i64 c.seq, .int .i64 c.kind, .string (str c.val)]), IsG (.int .i64 1), IsS (.int .i64 E) (AtK 2), IsG (.bool false)] (by kernel_rfl) (by kernel_rfl) (by kernel_rfl) rfl rfl ⟨IsG.stable _, IsG.stable _, IsG.stable _, IsG.stable _, IsG.stable _, IsG.stable _, AtK.stable _ _, IsG.stable _, IsG.stable _, IsG.stable _, IsG.stable _, IsG.stable _, IsG.stable _, AtK.stable _ _, IsG.stable _, trivial⟩ ⟨?s0x1, ?s1x1, ?s2x1, ?s3x1, ?s4x1, ?s5x1, ?s6x1, ?s7x1, ?s8x1, ?s9x1, ?s10x1, ?s11x1, ?s12x1, ?s13x1, ?s14x1, trivial⟩ ?finx1
        case' s0x1 | s1x1 | s2x1 | s3x1 | s4x1 | s5x1 | s7x1 | s8x1 | s9x1 | s10x1 | s11x1 | s12x1 | s14x1 =>
          intro ρ wr gh hρ hg hK
          simp [readsOf, slotsOf, Op.operands, Call.operands, tmpOf, List.filterMap_cons, List.filterMap_nil, KnownAll, knownOf, srcOf, depsOf, dstOf, Region.binds, nthG, IsG, IsS] at hK
          obtain ⟨hc, hf, hgl⟩ := hρ
          try simp only [wantedBy, dstOf, boolOf, nthG, List.getD_cons_zero, List.getD_cons_succ, List.getElem?_cons_zero, List.getElem?_cons_succ, Option.bind_some, if_true, hK, BEq.rfl]
          try go_simp
          first | exact rfl | exact pureG KLe.refl rfl | (refine pureG KLe.refl ?_; go_simp; done) | (refine pureG KLe.refl ?_; rfl) | (rw [if_pos (by omega)]; exact pureG KLe.refl rfl) | (rw [dif_pos (by omega)]; exact pureG KLe.refl rfl) | exact pureG KLe.refl (congrArg (Value.int _) (IntWalk.i64_in _ ⟨by omega, by omega⟩)) | skip
        case' s6x1 | s13x1 =>
          intro ρ wr gh hρ hg hK
          simp [readsOf, slotsOf, Op.operands, Call.operands, tmpOf, List.filterMap_cons, List.filterMap_nil, KnownAll, knownOf, srcOf, depsOf, dstOf, Region.binds, nthG, IsG, IsS] at hK
          obtain ⟨hc, hf, hgl⟩ := hρ
          try simp only [wantedBy, dstOf, boolOf, nthG, List.getD_cons_zero, List.getD_cons_succ, List.getElem?_cons_zero, List.getElem?_cons_succ, Option.bind_some, if_true, hK, BEq.rfl]
        case s4x1 | s11x1 =>
          obtain ⟨d0, d1, d2, d3⟩ := HD.out
          have z0 := hg.1.chg.cell d0 HB.out; have z1 := hg.1.chg.cell d1 HB.out; have z2 := hg.1.chg.cell d2 HB.out; have z3 := hg.1.chg.cell d3 HB.out
          clear d0 d1 d2 d3
          go_simp
          exact pureG KLe.refl rfl
        case s6x1 =>
          have HI := hg.1.inv HK0.out
          have hz : gh ≤ 0 := hg.2.1 6 (by kernel_rfl)
          obtain rfl : gh = 0 := by omega
          have hP : PrI V0 (fun _ => False) g gl gm 0 C C false (n + 1) wr := HI.at_
          have HPh := Lib.hid hP
          clear HI hP hz hg
          go_simp
          exact enterK (f2_ne (by decide)).1 (by decide) (HI1.out _ HPh.out)
        case s13x1 =>
          have HI := hg.1.inv HK0.out
          have hz : gh ≤ 1 := hg.2.1 13 (by kernel_rfl)
          obtain ⟨v9, _, h9⟩ := hg.2.2 6 (by decide)
          have h9 : 1 ≤ gh := h9
          obtain rfl : gh = 1 := by omega
          have hP : PrI V0 (fun _ => False) g gl gm 0 C2 C false n wr := HI.at_
          have HPh := Lib.hid hP
          clear HI hP hz hg h9
          go_simp
          exact enterK (f2_ne (by decide)).2 (by decide) (HI2.out _ HPh.out)
        case finx1 =>
          intro w1 g1 val hg hH
          simp only [HoldsG, IsG, IsS, Nat.zero_add, Nat.reduceAdd] at hH
          obtain ⟨h0, h1, h2, h3, h4, h5, h6, h7, h8, h9, h10, h11, h12, h13, h14, _⟩ := hH
          simp only [List.take_succ_cons, List.take_zero, List.drop_succ_cons, List.drop_zero, putAll, h0, h1, h2, h3, h4, h5, h7, h8, h9, h10, h11, h12, h14, Nat.zero_add, Nat.reduceAdd]
          have HI := hg.inv HK0.out
          have h19b := h13.2
          have h19b : 2 ≤ g1 := h19b
          have hle := HI.le
          obtain rfl : g1 = 2 := by simp only at hle; omega
          have hP : PrI V0 (fun _ => False) g gl gm 0 C2 C2 false n w1 := HI.at_
          have HPn := Lib.hid hP
          clear HI hP hle h19b h13 h6 hg HP HK0 HI1 HI2 HD HB
          go_simp
          go_wp2
          go_roundw
          case rel => exact ⟨i + 1, by go_num, hlt, hlt2, by rw [HI.out, HN.out]; exact HPn.out⟩
          case measure => simp [intOf]; omega
    · have hx : l.length ≤ i ∨ (i < l.length ∧ 120 ≤ i) := by omega
      have gW := g1.trans hP.gr
      have hlen := putN_len l (walkH hs) i
      clear HR1 HVL HR
      generalize hCe : putN l (walkH hs) i = C at *
      obtain ⟨S, p, L, N, ad2, cap2, hPr, rfl, hfz, _, _⟩ := hP
      clear hCe
      obtain ⟨M, hM⟩ : ∃ M, M = N.length := ⟨_, rfl⟩
      have hlN : (cellsN N).length = M := by rw [hM]; simp [cellsN]
      have hM9 : M ≤ 1000000 := by omega
      have HB0 := Lib.hid (fun w' (h : Rl w' V0.heap.size gm (cellsN N) L.fz ad2 cap2) => h.blk.cell (i := 0) rfl)
      rw [hlN] at HB0
      have HM := Lib.hid hM
      clear hlN hlen hM
      rcases hx with hx | ⟨hx, hx2⟩
      · go_wp2_with (first
          | (go_at_call 14; go_must (refine (Cursor_any gl _).mono ?_); rintro e w3 ⟨rfl, b3, g3⟩; have S3 := Lib.hid (Cu.new hPr g3 b3))
          | fail)
        generalize wr.heap.size = gc at *
        clear b3 g3 hPr
        go_loopw [12] (fun vj wj => ∃ (j : Nat) (side : Int) (q : Nat × Nat), vj = .int .i64 (j : Int) ∧ j ≤ M ∧ Cu V0 wj (fun _ => False) S g gl gm p L N (cellsN N) ad2 cap2 gc side q ∧ Fw N j side q) (fun vj _ => M - (intOf vj).toNat)
        case atStart => exact ⟨0, 0, (0, 0), rfl, Nat.zero_le _, S3.out, .inl ⟨rfl, rfl⟩⟩
        case round =>
          clear S3
          obtain ⟨j, side, q, rfl, hj, hS, hF⟩ := hrel
          have m0 := HB0.out _ hS.pr.rl
          by_cases hjl : j < M
          · obtain ⟨a, x, b, hN, ha⟩ := nd_split (HM.out ▸ hjl : j < N.length)
            obtain ⟨b2, off2, rfl, _⟩ := hS.pr.rl.at_ (nd_get hN)
            have hat := nd_get hN
            rw [ha] at hat
            have HRx := Lib.hid (fun w' (h : Rl w' V0.heap.size gm (cellsN N) L.fz (some ⟨b2, off2, none⟩) cap2) => h.at2 hat)
            have HNX := Lib.hid (hS.fw hF hN ha.symm)
            have HCL := Lib.hid (fun w' (h : Cu V0 w' (fun _ => False) S g gl gm p L N (cellsN N) (some ⟨b2, off2, none⟩) cap2 gc 1 (x.off, x.size)) => h.cell_at hN rfl)
            have HFw := Lib.hid (Fw.step hN)
            rw [ha] at HFw
            have GA := Lib.hid (fun w' => Gr.alloc w' (.cells #[.string (str x.c.key), .int .i64 (x.c.seq : Int), .int .i64 (x.c.kind : Int), .string (str x.c.val)] 41))
            unfold ceV at HCL
            clear hat hN ha hF hS
            go_wp2_with (first
              | (go_at_call 19; go_must (refine HNX.out.mono ?_); rintro e w5 ⟨rfl, S5⟩; clear m0)
              | (go_at_call 17; go_must (refine (HCL.out _ S5).mono ?_); rintro e w6 ⟨rfl, S6, g6⟩; have m0 := (GA.out w6).cell (HB0.out _ S6.pr.rl); clear S5 g6)
              | fail)
            obtain ⟨z0, z1, z2, z3⟩ := HRx.out _ S6.pr.rl
            have y0 := (GA.out w6).cell z0
            have y1 := (GA.out w6).cell z1
            have y2 := (GA.out w6).cell z2
            have y3 := (GA.out w6).cell z3
            clear z0 z1 z2 z3
            go_quiet (fail)
            clear y0 y1 y2 y3 m0
            go_wp2
            go_roundw
            case rel => exact ⟨j + 1, 1, (x.off, x.size), by go_num, hjl, S6.more ((GA.out w6).trans (Gr.drewN _ _)), HFw.out⟩
            case measure => simp [intOf]; omega
          · obtain rfl : j = M := by omega
            rw [HM.out] at hF
            have HN1 := Lib.hid (hS.fw_end hF)
            have HN2 := Lib.hid (fun w' q' (h : Cu V0 w' (fun _ => False) S g gl gm p L N (cellsN N) ad2 cap2 gc 2 q') => h.next_back)
            have hw1 : IntKind.i64.wrap ((j : Int) - 1) = (j : Int) - 1 := IntWalk.i64_in _ (by constructor <;> omega)
            clear hF hS hjl
            go_wp2_with (first
              | (go_at_call 19; (with_reducible refine HN1.out.mono ?_); rintro e w5 ⟨rfl, q5, S5⟩; clear m0 HN1)
              | (go_at_call 19; (with_reducible refine (HN2.out _ _ S5).mono ?_); rintro e w6 ⟨rfl, S6⟩; have m0 := HB0.out _ S6.pr.rl; clear S5 HN2)
              | fail)
            have HS6 := Lib.hid S6
            have HWr := Lib.hid hw1
            clear S6 m0 hw1
            go_loopw [16] (fun vk wk => ∃ (k : Nat) (side : Int) (q : Nat × Nat), vk = .int .i64 ((k : Int) - 1) ∧ k ≤ j ∧ Cu V0 wk (fun _ => False) S g gl gm p L N (cellsN N) ad2 cap2 gc side q ∧ Bw N k side q) (fun vk _ => (intOf vk + 1).toNat)
            case atStart => exact ⟨j, 2, q5, rfl, Nat.le_refl _, HS6.out, .inl ⟨HM.out, rfl⟩⟩
            case round =>
              clear HS6
              obtain ⟨k, side, q, rfl, hk, hS, hF⟩ := hrel
              by_cases hk1 : 1 ≤ k
              · obtain ⟨z, rfl⟩ : ∃ z, k = z + 1 := ⟨k - 1, by omega⟩
                have hzj : z < j := by omega
                obtain ⟨a, x, b, hN, ha⟩ := nd_split (HM.out ▸ hzj : z < N.length)
                obtain ⟨b2, off2, rfl, _⟩ := hS.pr.rl.at_ (nd_get hN)
                have hat := nd_get hN
                rw [ha] at hat
                have HRx := Lib.hid (fun w' (h : Rl w' V0.heap.size gm (cellsN N) L.fz (some ⟨b2, off2, none⟩) cap2) => h.at2 hat)
                have HNX := Lib.hid (hS.bw hF hN (by rw [ha]))
                have HCL := Lib.hid (fun w' (h : Cu V0 w' (fun _ => False) S g gl gm p L N (cellsN N) (some ⟨b2, off2, none⟩) cap2 gc 1 (x.off, x.size)) => h.cell_at hN rfl)
                have HBw := Lib.hid (Bw.step hN)
                rw [ha] at HBw
                have GA := Lib.hid (fun w' => Gr.alloc w' (.cells #[.string (str x.c.key), .int .i64 (x.c.seq : Int), .int .i64 (x.c.kind : Int), .string (str x.c.val)] 41))
                unfold ceV at HCL
                have hez : ((z + 1 : Nat) : Int) - 1 = (z : Int) := by omega
                rw [hez]
                have hwz : IntKind.i64.wrap ((z : Int) - 1) = (z : Int) - 1 := IntWalk.i64_in _ (by constructor <;> omega)
                clear hat hN ha hF hS hez hk1 HWr
                go_wp2_with (first
                  | (go_at_call 18; go_must (refine HNX.out.mono ?_); rintro e w5 ⟨rfl, S5⟩)
                  | (go_at_call 17; go_must (refine (HCL.out _ S5).mono ?_); rintro e w6 ⟨rfl, S6, g6⟩; have m0 := (GA.out w6).cell (HB0.out _ S6.pr.rl); clear S5 g6)
                  | fail)
                obtain ⟨z0, z1, z2, z3⟩ := HRx.out _ S6.pr.rl
                have y0 := (GA.out w6).cell z0
                have y1 := (GA.out w6).cell z1
                have y2 := (GA.out w6).cell z2
                have y3 := (GA.out w6).cell z3
                clear z0 z1 z2 z3
                go_quiet (fail)
                clear y0 y1 y2 y3 m0
                go_wp2
                go_roundw
                case rel => exact ⟨z, 1, (x.off, x.size), rfl, by omega, S6.more ((GA.out w6).trans (Gr.drewN _ _)), HBw.out⟩
                case measure => simp [intOf] <;> omega
              · obtain rfl : k = 0 := by omega
                have HP1 := Lib.hid (hS.bw_end hF)
                have HP2 := Lib.hid (fun w' q' (h : Cu V0 w' (fun _ => False) S g gl gm p L N (cellsN N) ad2 cap2 gc 0 q') => h.prev_front)
                clear hF hS hk1 HWr hk
                go_wp2_with (first
                  | (go_at_call 18; (with_reducible refine HP1.out.mono ?_); rintro e w5 ⟨rfl, q6, S5⟩; clear HP1)
                  | (go_at_call 18; (with_reducible refine (HP2.out _ _ S5).mono ?_); rintro e w6 ⟨rfl, S6⟩; clear S5 HP2)
                  | fail)
                go_ret
                exact ⟨rfl, g1.trans S6.pr.sl.gr⟩
      · go_wp2_with (first
          | (go_at_call 14; go_must (refine (Cursor_any gl _).mono ?_); rintro e w3 ⟨rfl, b3, g3⟩; have S3 := Lib.hid (Cu.new hPr g3 b3))
          | fail)
        generalize wr.heap.size = gc at *
        clear b3 g3 hPr
        go_loopw [12] (fun vj wj => ∃ (j : Nat) (side : Int) (q : Nat × Nat), vj = .int .i64 (j : Int) ∧ j ≤ M ∧ Cu V0 wj (fun _ => False) S g gl gm p L N (cellsN N) ad2 cap2 gc side q ∧ Fw N j side q) (fun vj _ => M - (intOf vj).toNat)
        case atStart => exact ⟨0, 0, (0, 0), rfl, Nat.zero_le _, S3.out, .inl ⟨rfl, rfl⟩⟩
        case round =>
          clear S3
          obtain ⟨j, side, q, rfl, hj, hS, hF⟩ := hrel
          have m0 := HB0.out _ hS.pr.rl
          by_cases hjl : j < M
          · obtain ⟨a, x, b, hN, ha⟩ := nd_split (HM.out ▸ hjl : j < N.length)
            obtain ⟨b2, off2, rfl, _⟩ := hS.pr.rl.at_ (nd_get hN)
            have hat := nd_get hN
            rw [ha] at hat
            have HRx := Lib.hid (fun w' (h : Rl w' V0.heap.size gm (cellsN N) L.fz (some ⟨b2, off2, none⟩) cap2) => h.at2 hat)
            have HNX := Lib.hid (hS.fw hF hN ha.symm)
            have HCL := Lib.hid (fun w' (h : Cu V0 w' (fun _ => False) S g gl gm p L N (cellsN N) (some ⟨b2, off2, none⟩) cap2 gc 1 (x.off, x.size)) => h.cell_at hN rfl)
            have HFw := Lib.hid (Fw.step hN)
            rw [ha] at HFw
            have GA := Lib.hid (fun w' => Gr.alloc w' (.cells #[.string (str x.c.key), .int .i64 (x.c.seq : Int), .int .i64 (x.c.kind : Int), .string (str x.c.val)] 41))
            unfold ceV at HCL
            clear hat hN ha hF hS
            go_wp2_with (first
              | (go_at_call 19; go_must (refine HNX.out.mono ?_); rintro e w5 ⟨rfl, S5⟩; clear m0)
              | (go_at_call 17; go_must (refine (HCL.out _ S5).mono ?_); rintro e w6 ⟨rfl, S6, g6⟩; have m0 := (GA.out w6).cell (HB0.out _ S6.pr.rl); clear S5 g6)
              | fail)
            obtain ⟨z0, z1, z2, z3⟩ := HRx.out _ S6.pr.rl
            have y0 := (GA.out w6).cell z0
            have y1 := (GA.out w6).cell z1
            have y2 := (GA.out w6).cell z2
            have y3 := (GA.out w6).cell z3
            clear z0 z1 z2 z3
            go_quiet (fail)
            clear y0 y1 y2 y3 m0
            go_wp2
            go_roundw
            case rel => exact ⟨j + 1, 1, (x.off, x.size), by go_num, hjl, S6.more ((GA.out w6).trans (Gr.drewN _ _)), HFw.out⟩
            case measure => simp [intOf]; omega
          · obtain rfl : j = M := by omega
            rw [HM.out] at hF
            have HN1 := Lib.hid (hS.fw_end hF)
            have HN2 := Lib.hid (fun w' q' (h : Cu V0 w' (fun _ => False) S g gl gm p L N (cellsN N) ad2 cap2 gc 2 q') => h.next_back)
            have hw1 : IntKind.i64.wrap ((j : Int) - 1) = (j : Int) - 1 := IntWalk.i64_in _ (by constructor <;> omega)
            clear hF hS hjl
            go_wp2_with (first
              | (go_at_call 19; (with_reducible refine HN1.out.mono ?_); rintro e w5 ⟨rfl, q5, S5⟩; clear m0 HN1)
              | (go_at_call 19; (with_reducible refine (HN2.out _ _ S5).mono ?_); rintro e w6 ⟨rfl, S6⟩; have m0 := HB0.out _ S6.pr.rl; clear S5 HN2)
              | fail)
            have HS6 := Lib.hid S6
            have HWr := Lib.hid hw1
            clear S6 m0 hw1
            go_loopw [16] (fun vk wk => ∃ (k : Nat) (side : Int) (q : Nat × Nat), vk = .int .i64 ((k : Int) - 1) ∧ k ≤ j ∧ Cu V0 wk (fun _ => False) S g gl gm p L N (cellsN N) ad2 cap2 gc side q ∧ Bw N k side q) (fun vk _ => (intOf vk + 1).toNat)
            case atStart => exact ⟨j, 2, q5, rfl, Nat.le_refl _, HS6.out, .inl ⟨HM.out, rfl⟩⟩
            case round =>
              clear HS6
              obtain ⟨k, side, q, rfl, hk, hS, hF⟩ := hrel
              by_cases hk1 : 1 ≤ k
              · obtain ⟨z, rfl⟩ : ∃ z, k = z + 1 := ⟨k - 1, by omega⟩
                have hzj : z < j := by omega
                obtain ⟨a, x, b, hN, ha⟩ := nd_split (HM.out ▸ hzj : z < N.length)
                obtain ⟨b2, off2, rfl, _⟩ := hS.pr.rl.at_ (nd_get hN)
                have hat := nd_get hN
                rw [ha] at hat
                have HRx := Lib.hid (fun w' (h : Rl w' V0.heap.size gm (cellsN N) L.fz (some ⟨b2, off2, none⟩) cap2) => h.at2 hat)
                have HNX := Lib.hid (hS.bw hF hN (by rw [ha]))
                have HCL := Lib.hid (fun w' (h : Cu V0 w' (fun _ => False) S g gl gm p L N (cellsN N) (some ⟨b2, off2, none⟩) cap2 gc 1 (x.off, x.size)) => h.cell_at hN rfl)
                have HBw := Lib.hid (Bw.step hN)
                rw [ha] at HBw
                have GA := Lib.hid (fun w' => Gr.alloc w' (.cells #[.string (str x.c.key), .int .i64 (x.c.seq : Int), .int .i64 (x.c.kind : Int), .string (str x.c.val)] 41))
                unfold ceV at HCL
                have hez : ((z + 1 : Nat) : Int) - 1 = (z : Int) := by omega
                rw [hez]
                have hwz : IntKind.i64.wrap ((z : Int) - 1) = (z : Int) - 1 := IntWalk.i64_in _ (by constructor <;> omega)
                clear hat hN ha hF hS hez hk1 HWr
                go_wp2_with (first
                  | (go_at_call 18; go_must (refine HNX.out.mono ?_); rintro e w5 ⟨rfl, S5⟩)
                  | (go_at_call 17; go_must (refine (HCL.out _ S5).mono ?_); rintro e w6 ⟨rfl, S6, g6⟩; have m0 := (GA.out w6).cell (HB0.out _ S6.pr.rl); clear S5 g6)
                  | fail)
                obtain ⟨z0, z1, z2, z3⟩ := HRx.out _ S6.pr.rl
                have y0 := (GA.out w6).cell z0
                have y1 := (GA.out w6).cell z1
                have y2 := (GA.out w6).cell z2
                have y3 := (GA.out w6).cell z3
                clear z0 z1 z2 z3
                go_quiet (fail)
                clear y0 y1 y2 y3 m0
                go_wp2
                go_roundw
                case rel => exact ⟨z, 1, (x.off, x.size), rfl, by omega, S6.more ((GA.out w6).trans (Gr.drewN _ _)), HBw.out⟩
                case measure => simp [intOf] <;> omega
              · obtain rfl : k = 0 := by omega
                have HP1 := Lib.hid (hS.bw_end hF)
                have HP2 := Lib.hid (fun w' q' (h : Cu V0 w' (fun _ => False) S g gl gm p L N (cellsN N) ad2 cap2 gc 0 q') => h.prev_front)
                clear hF hS hk1 HWr hk
                go_wp2_with (first
                  | (go_at_call 18; (with_reducible refine HP1.out.mono ?_); rintro e w5 ⟨rfl, q6, S5⟩; clear HP1)
                  | (go_at_call 18; (with_reducible refine (HP2.out _ _ S5).mono ?_); rintro e w6 ⟨rfl, S6⟩; clear S5 HP2)
                  | fail)
                go_ret
                exact ⟨rfl, g1.trans S6.pr.sl.gr⟩
end Go.Proofs.Ytnafhjgfkofkbaa
namespace Go.Proofs.Ytnafhjgfkofkbaa.skipWalks
set_option linter.unusedSimpArgs false
open Go.ChangeShapes Go.WideShapes Go.ChangeAt Go.RowKit
open Go.ChangeMaps (open_string shut_string)
set_option linter.unusedVariables false
theorem own : ownKnob Try.prog.godebug = none := by kernel_rfl
theorem laidOut : laidOutB Try.prog = true := by kernel_rfl
set_option maxRecDepth 100000 in
theorem contract (H : Type) (enc : TypeId × Value → H) (W : World) (base : Nat) (args : Array Value) (ds gs : List (DataW H)) (before : List MemPlace)
    (hval0 : ∀ (j : Nat) t v, Try.f5.params[j]? = some t → args[j]? = some v → Value.okWide Try.prog W .any base t v)
    (hW : DataW.Whole enc Try.prog Try.f5.params.toList Rows.skipWalksSpec.vars false W args.toList ds gs before)
    (hsz0 : (DataW.weightsEach Try.prog (Try.f5.params.toList ++ Rows.skipWalksSpec.plain.varTypes Try.prog) (ds ++ gs)).all (· ≤ reachBytes) = true) :
    Calls Try.prog 5 args W fun e W' => ∃ v, e = .returned v ∧ Rows.skipWalksSpec.post enc Try.prog Try.f5 false true false false W args v W' := by
  have hval : ∀ (j : Nat) t v, Try.f5.params[j]? = some t → args[j]? = some v → Value.okWide Try.prog W .any base t v := hval0
  have hW' := hW
  obtain ⟨p, q, hA0, hV, rfl, hfz, hnd⟩ := hW
  have hA : DataW.TrodAll enc Try.prog W 0 (fun _ => true) true Try.f5.params.toList args.toList ds p := hA0
  have hsz : (DataW.weightsEach Try.prog (Try.f5.params.toList ++ Rows.skipWalksSpec.plain.varTypes Try.prog) (ds ++ gs)).all (· ≤ reachBytes) = true := hsz0
  rw [Try.params5] at hA hval hsz
  obtain ⟨v0, vs0, d0, ds0, p0, q0, hargs, rfl, rfl, h0, r0⟩ := trodAll_cons hA
  obtain ⟨v1, vs1, d1, ds1, p1, q1, rfl, rfl, rfl, h1, r1⟩ := trodAll_cons r0
  obtain ⟨rfl, rfl, rfl⟩ := trodAll_nil r1
  obtain rfl : args = #[v0, v1] := by cases args; simp_all
  obtain ⟨rfl, rfl⟩ := trodVars_none hV
  have k0 := h0
  have lt0 : ∀ x ∈ p0, x.block < W.heap.size := by obtain ⟨m, hm⟩ := k0; exact DataW.trod_lt m _ _ _ hm
  obtain ⟨ad0, len0, cap0, l0, rfl, hl0, hc0, hm0, hb0, hq0⟩ := open_cells Try.underlying31 (by kernel_rfl) Try.underlying41 Try.underlying33 ⟨rfl, rfl, rfl, rfl, rfl⟩ ⟨by kernel_rfl, by kernel_rfl, by kernel_rfl, by kernel_rfl, by kernel_rfl⟩ Try.underlying9 Try.underlying9 Try.underlying3 Try.underlying3 (hval 0 31 v0 rfl rfl) h0
  subst hl0
  have k1 := h1
  have lt1 : ∀ x ∈ p1, x.block < W.heap.size := by obtain ⟨m, hm⟩ := k1; exact DataW.trod_lt m _ _ _ hm
  obtain ⟨ad1, len1, cap1, l1, rfl, hl1, hc1, hm1, hb1⟩ := open_ints Try.underlying50 Try.underlying3 (by kernel_rfl) (hval 1 50 v1 rfl rfl) h1
  subst hl1
  clear hA0 hval0
  refine (SkipWalks_any ad0 cap0 l0 ad1 cap1 l1 W hb0 (len_of_ hc0 hm0) (fun c hc => le_of_max (hq0 c hc).2.1) hb1 (len_of_ hc1 hm1)).mono fun e W' ⟨he, bel⟩ => ?_
  subst he
  exact ⟨_, rfl, _, _, _, [], _, [], hW', trodAll_mk1 (shut_bool Try.underlying4 _), (trodAll_cons_mk (Below.trod laidOut (by kernel_rfl) (of_decide_eq_true (by kernel_rfl)) k0 bel lt0) (trodAll_cons_mk (Below.trod laidOut (by kernel_rfl) (of_decide_eq_true (by kernel_rfl)) k1 bel lt1) trodAll_mk0)), rfl, bel.frame _, fun h => by cases h⟩
set_option maxRecDepth 100000 in
theorem lifted (os : Os) (started : os.Started) (H : Type) (enc : TypeId × Value → H) :
    ReturnsInHanded {} Try.checked os 5 .any (Rows.skipWalksSpec.pre6 enc Try.prog Try.f5 Rows.skipWalksRow.domain false) (Rows.skipWalksSpec.post enc Try.prog Try.f5 false true false false) := by
  refine returnsInHanded_of_change_sized (C := Try.checked) own started (by kernel_rfl) Try.func5
    (ChangeSpec.witness6 (enc := enc) (C := Try.checked) false ⟨#[], #[.slice none 0 0, .slice none 0 0], []⟩ 8 (by kernel_rfl) (by kernel_rfl) (by kernel_rfl) (by kernel_rfl)) ?_
  intro W base args ds gs before hval0 hW hcnd0 hsz0 _
  exact contract H enc W base args ds gs before hval0 hW hsz0
theorem over : Rows.skipWalksRow.holds Try.pinned (OpenSpec.ofChange Rows.skipWalksSpec) :=
  OpenClaim.holds_of_wide 5 Try.f5 rfl rfl rfl rfl rfl rfl rfl ⟨rfl, rfl, rfl, rfl, rfl⟩ rfl rfl rfl rfl rfl (by kernel_rfl) Try.func5 (by kernel_rfl)
    (of_decide_eq_true (by kernel_rfl)) (by unfold Func.isWrapper; first | (rw [if_pos (by decide +kernel)]; kernel_rfl) | (rw [if_neg (by decide +kernel)]; exact ⟨rfl, rfl⟩))
    (fun os started H enc _ => lifted os started H enc)
theorem proved : Rows.SkipWalksSaid := over
#print axioms proved
end Go.Proofs.Ytnafhjgfkofkbaa.skipWalks
