/- Two lists in one pool do not know of one another; when one is freed the other tells all that it did. No condition. -/
import Derived.Test.YtnafhjgfkofkbaaBunJ
import Derived.Deep.SlicePairs
import Derived.Test.YtnafhjgfkofkbaaBunK
/- How a slice of bools is opened. No program is in sight here. -/
namespace Go.Proofs.Ytnafhjgfkofkbaa
set_option linter.unusedVariables false
set_option linter.unusedSimpArgs false
open Go.ChangeShapes Go.WideShapes Go.ChangeAt Go.RowKit Go.Deep
section
variable {H : Type} {P : Program} {w : World} {enc : TypeId × Value → H}
theorem open_bools {base : Nat} {spare : Nat → Bool} {held : Bool} {r : Reach} {b0 : Nat} {t e : TypeId} {v : Value} {d : DataW H} {ps : List MemPlace} (ht : P.underlying t = some (.slice e)) (he : P.underlying e = some .bool) (ce : P.cellsOf e = 1)
    (hval : Value.okWide P w r b0 t v) (hd : DataW.Trod enc P w base spare held t v d ps) :
    ∃ ad len cap, ∃ l : List Bool, v = .slice ad len cap ∧ l.length = len ∧ len ≤ cap ∧ cap ≤ maxLen ∧ Row w ad (l.map Value.bool) := by
  obtain ⟨ad, len, cap, rfl⟩ := okWide_slice ht hval
  obtain ⟨fuel, hf⟩ := hd
  rcases open_slice ht hf with ⟨hcs, hx⟩ | ⟨a, l, c, m, n, D, Pl, hcs, hb, hl, hm, hmm, hx0, hx⟩
  · simp [Value.cells] at hcs
    obtain ⟨e1, e2, e3⟩ := hcs
    subst e1 e2 e3
    exact ⟨none, 0, 0, [], rfl, rfl, Nat.le_refl _, Nat.zero_le _, Row.nil _ _⟩
  · simp [Value.cells] at hcs
    obtain ⟨e1, e2, e3⟩ := hcs
    subst e1 e2 e3
    have hlm : len ≤ m := by rw [hmm]; split <;> omega
    have each : ∀ i, i < m → ∃ q : Bool, w.cell? (a.add i) = some (.bool q) := by
      intro i hi
      obtain ⟨cs', h1, h2⟩ := hx i hi
      rw [ce, Nat.mul_one] at h1
      obtain ⟨_, hlen, hcell⟩ := World.cells?_some h1
      match cs', hlen with
      | [v0], _ =>
        obtain ⟨b, q, _⟩ := DataW.trod_bool he h2
        simp only [List.cons.injEq, and_true] at q
        have := hcell 0 (by decide)
        rw [q] at this
        rw [add_add, Nat.add_zero] at this
        exact ⟨b, by simpa using this⟩
    obtain ⟨q, hq⟩ := choose_lt each
    have hlen : ((List.range len).map q).length = len := by simp
    refine ⟨some a, len, cap, (List.range len).map q, rfl, hlen, hl, hm, ?_⟩
    intro i u hi
    have hil : i < len := by
      have := (List.getElem?_eq_some_iff.1 hi).1
      simpa using this
    obtain ⟨b, off, spot⟩ := a
    have h0 := hq 0 (by omega)
    have hspot : spot = none := by simpa [Addr.add] using World.cell?_spot h0
    subst hspot
    refine ⟨b, off, rfl, ?_⟩
    have h1 := hq i (by omega)
    rw [Go.WideShapes.add_plain] at h1
    rw [h1]
    simp [hil] at hi
    rw [hi]
end
end Go.Proofs.Ytnafhjgfkofkbaa
/- Layer 11 (skip): SkipTwo answers true. -/
namespace Go.Proofs.Ytnafhjgfkofkbaa
set_option linter.unusedVariables false
set_option linter.unusedSimpArgs false
open Go.RowKit Ikey Varint
def twoP (n : Nat) : PoolF := makeAt (fieldP n) 1
theorem twoP_make (n : Nat) : makeR (fieldP n) = (1, 0, twoP n) := by
  have h : makeF (fieldP n) = some 1 := makeF_is (by decide) (by rw [landAt_field]; rfl) (fun j hj => by
    obtain rfl : j = 0 := by omega
    rw [landAt_field]; rfl)
  unfold makeR
  rw [h]
  rfl
theorem gen_field (n : Nat) : ∀ i, i < 256 → (landAt (fieldP n) i).gen ≤ 1000000000 := fun i _ => by
  rw [landAt_field]
  split <;> decide
/-- two empty lists -/
theorem TwoI.start {w0 w2 w3 w4 : World} {S : Nat → Prop} {g gl gk : Nat} (h : Sl w0 w2 S g gl (fieldP 300) (newL 0) []) (m : Moved S g (twoP 300) w2 w3 S) (hb : Blk w3 gk 80 (lstV g (newL 1))) (hk : w2.heap.size ≤ gk) (hn : ¬ S gk) (k : Gr w3 w4)
    (h1 : Blk w4 w3.heap.size 38 [.slice none 0 0, .bool false]) (h2 : Blk w4 (w3.heap.size + 1) 38 [.slice none 0 0, .bool false]) : TwoI w0 g gl w3.heap.size gk (w3.heap.size + 1) [] [] [] [] 300 w4 := by
  obtain ⟨_, _, _, p1, p2, p3, p4, p5, p6⟩ := make_pcs h.sk.ok (twoP_make 300)
  have hok : PoolOk (twoP 300) := by
    have := make_ok2 h.sk.ok
    rw [twoP_make] at this
    exact this
  have g3 : Gr w0 w3 := m.chg.gr h.gr h.base
  have g4 := g3.trans k
  have hl := h.sk.blk.lt
  have hlk := hb.lt
  have hsz := m.chg.size
  have hp4 := m.pool.gr k
  have hS := m.pool.lt
  have hbl := h.bl
  have hzz := h.gr.size
  have hgl : Blk w3 gl 80 (lstV g (newL 0)) := m.chg.blk h.sk.blk h.sk.out
  have st0 : SkSt (twoP 300) 0 0 (fun _ => (0, 0)) [] := (field_st 300).keep p1 (p5 0 (by decide)) (fun y o l hy => (p6 y 0 o l hy).2)
  have st1 : SkSt (twoP 300) 1 0 (fun _ => (0, 0)) [] := ⟨by decide, by rw [p4], by rw [p1]; exact (field_st 300).sz, fun _ _ => rfl, fun x hx => by simp at hx, fun a x b e => by simp at e, List.Pairwise.nil, List.Pairwise.nil⟩
  refine ⟨S, twoP 300, ⟨gl, w3.heap.size, newL 0, [], [], none, 0⟩, ⟨gk, w3.heap.size + 1, newL 1, [], [], none, 0⟩, ⟨⟨⟨⟨hp4, hok, hgl.gr k, h.sk.out⟩, st0, fun x hx => by simp at hx, rfl, rfl, rfl, g4, h.base, h.bl⟩, ⟨h1, Owns.empty _ _ _ _, g3.size, fun x hx => by cases hx⟩, fun e => Nat.lt_irrefl _ (hS _ e), fun e => by simp only at e; omega, fun x hx => (by cases hx), fun j hj => ?_⟩,
    ⟨⟨⟨hp4, hok, hb.gr k, hn⟩, st1, fun x hx => by simp at hx, rfl, rfl, rfl, g4, h.base, by simp only; omega⟩, ⟨h2, Owns.empty _ _ _ _, Nat.le_succ_of_le g3.size, fun x hx => by cases hx⟩, fun e => by have := hS _ e; simp only at this; omega, fun e => by simp only at e; omega, fun x hx => (by cases hx), fun j hj => ?_⟩, (by decide : (0 : Nat) ≠ 1)⟩, ⟨rfl, rfl, rfl, rfl⟩, ⟨rfl, rfl, rfl, rfl⟩, ⟨rfl, rfl⟩, ?_, ?_, fun j hj1 hj2 => ?_⟩
  · rcases hj with rfl | rfl | ⟨x, hx, _⟩
    · exact ⟨(hb.gr k).lt, hn, fun e => by simp only at e; omega, fun e => by simp only at e; omega, fun x hx => by cases hx⟩
    · exact ⟨h2.lt, fun e => by have := hS _ e; simp only at this; omega, fun e => by simp only at e; omega, fun e => by simp only at e; omega, fun x hx => by cases hx⟩
    · cases hx
  · rcases hj with rfl | rfl | ⟨x, hx, _⟩
    · exact ⟨(hgl.gr k).lt, h.sk.out, fun e => by simp only at e; omega, fun e => by simp only at e; omega, fun x hx => by cases hx⟩
    · exact ⟨h1.lt, fun e => by have := hS _ e; simp only at this; omega, fun e => by simp only at e; omega, fun e => by simp only at e; omega, fun x hx => by cases hx⟩
    · cases hx
  · have : countF (twoP 300) = countF (fieldP 300) := by unfold countF; rw [p3]
    rw [this, countF_field]; exact Nat.le_refl _
  · rw [p2]; show (List.replicate 300 _).length = 300; rw [List.length_replicate]
  · rw [p5 j hj2, landAt_field, if_neg (fun e => hj1 e.symm)]; rfl
def twoN (l : List Ci) (hs : List Bool) : Nat → List Ce × List Ce
  | 0 => ([], [])
  | i + 1 => if i < hs.length ∧ hs.getD i false = true then ((insF (twoN l hs i).1 false (l.getD i noC).key (l.getD i noC).seq (l.getD i noC).kind (l.getD i noC).val ((1 + i % 5 : Nat) : Int)).2, (twoN l hs i).2)
    else ((twoN l hs i).1, (insF (twoN l hs i).2 false (l.getD i noC).key (l.getD i noC).seq (l.getD i noC).kind (l.getD i noC).val ((1 + i % 3 : Nat) : Int)).2)
theorem twoN_len (l : List Ci) (hs : List Bool) : ∀ i, (twoN l hs i).1.length ≤ i ∧ (twoN l hs i).2.length ≤ i
  | 0 => ⟨Nat.le_refl _, Nat.le_refl _⟩
  | i + 1 => by
    have h1 := twoN_len l hs i
    have h2 := ins_len (twoN l hs i).1 false (l.getD i noC).key (l.getD i noC).seq (l.getD i noC).kind (l.getD i noC).val ((1 + i % 5 : Nat) : Int)
    have h3 := ins_len (twoN l hs i).2 false (l.getD i noC).key (l.getD i noC).seq (l.getD i noC).kind (l.getD i noC).val ((1 + i % 3 : Nat) : Int)
    rw [twoN]
    split
    · exact ⟨by simp only; omega, by simp only; omega⟩
    · exact ⟨by simp only; omega, by simp only; omega⟩
set_option maxRecDepth 100000 in
set_option maxHeartbeats 4000000 in
theorem SkipTwo_any (ad : Option Addr) (cap : Nat) (l : List Ci) (ad1 : Option Addr) (cap1 : Nat) (hs : List Bool) (w : World) (hr : Row w ad (cv l)) (hl : l.length ≤ 9223372036854775807) (hvl : ∀ c ∈ l, c.val.length ≤ 9223372036854775807) (hr1 : Row w ad1 (hs.map Value.bool)) (hl1 : hs.length ≤ 9223372036854775807) :
    Calls Try.prog 6 #[.slice ad l.length cap, .slice ad1 hs.length cap1] w fun e w' => e = .returned (.bool true) ∧ Gr w w' := by
  have HR := Lib.hid hr.ci
  have HR1 := Lib.hid hr1
  have HVL := Lib.hid hvl
  clear hr hvl hr1
  go_enter Try.func6, Try.ntmps6
  go_wp2_with (first
    | (go_at_call 8; go_must (refine (skips_any _).mono ?_); rintro e V0 ⟨rfl, g1⟩)
    | (go_at_call 11; go_must (refine (field_any V0 V0 (Gr.refl _) 300 (by decide) (by decide)).mono ?_); rintro e w2 ⟨g, gl, S0, rfl, k2, hsl, _, _⟩)
    | (go_at_call 10; go_must (refine (New_list w2 S0 g (fieldP 300) (twoP 300) 1 hsl.sk.pool hsl.sk.ok (gen_field 300) (Nat.le_refl _) (twoP_make 300)).mono ?_); rintro e w3 ⟨gk, rfl, m3, hb3, hk3, hn3⟩
       have HP := Lib.hid (TwoI.start hsl m3 hb3 hk3 hn3 ((Gr.alloc w3 (.cells #[.slice none 0 0, .bool false] 38)).trans (Gr.alloc _ (.cells #[.slice none 0 0, .bool false] 38))) (Blk.of2a (Gr.refl _)) (Blk.of2b (Gr.refl _))))
    | fail)
  generalize w3.heap.size = gm at *
  clear m3 hb3 hk3 hn3 hsl k2
  go_loopw [12] (fun vi wr => ∃ i : Nat, vi = .int .i64 (i : Int) ∧ i ≤ l.length ∧ i ≤ 100 ∧ TwoI V0 g gl gm gk (gm + 1) (twoN l hs i).1 (twoN l hs i).1 (twoN l hs i).2 (twoN l hs i).2 (300 - i) wr) (fun vi _ => 100 - (intOf vi).toNat)
  case atStart => exact ⟨0, rfl, Nat.zero_le _, Nat.zero_le _, HP.out⟩
  case round =>
    clear HP
    obtain ⟨i, rfl, hi, hi80, hP⟩ := hrel
    by_cases hlt : i < l.length ∧ i < 100
    · obtain ⟨hlt, hlt2⟩ := hlt
      obtain ⟨b, off, hade, e0, e1, e2, e3⟩ := HR.out i hlt
      subst hade
      have hv := HVL.out l[i] (List.getElem_mem hlt)
      have hgd : l.getD i noC = l[i] := by rw [List.getD_eq_getElem?_getD, List.getElem?_eq_getElem hlt, Option.getD_some]
      have hTN : twoN l hs (i + 1) = if i < hs.length ∧ hs.getD i false = true then ((insF (twoN l hs i).1 false l[i].key l[i].seq l[i].kind l[i].val ((1 + i % 5 : Nat) : Int)).2, (twoN l hs i).2) else ((twoN l hs i).1, (insF (twoN l hs i).2 false l[i].key l[i].seq l[i].kind l[i].val ((1 + i % 3 : Nat) : Int)).2) := by rw [twoN, hgd]
      obtain ⟨hA9, hB9⟩ := twoN_len l hs i
      have hA9 : (twoN l hs i).1.length ≤ 1000 := by omega
      have hB9 : (twoN l hs i).2.length ≤ 1000 := by omega
      clear hgd HR
      generalize l[i] = c at *
      generalize (twoN l hs i).1 = A at *
      generalize (twoN l hs i).2 = B at *
      obtain ⟨n, hn⟩ : ∃ n, n = 299 - i := ⟨_, rfl⟩
      have hn1 : 300 - i = n + 1 := by omega
      rw [hn1] at hP
      have hn2 : 300 - (i + 1) = n := by omega
      have HN := Lib.hid hn2
      have gW := g1.trans hP.gr
      have f0 := gW.cell e0
      have f1 := gW.cell e1
      have f2 := gW.cell e2
      have f3 := gW.cell e3
      have HB := Lib.hid (show ¬ Tt V0 (fun _ => False) b from fun e => by
        have h1 := World.block_lt_of_cell? _ _ e0
        have h2 := g1.size
        have h3 := e.1
        simp only at h1; omega)
      clear e0 e1 e2 e3 hn hn1 hn2 HVL
      by_cases hh : i < hs.length
      · obtain ⟨bh, offh, hadh, eh⟩ := HR1.out i (.bool hs[i]) (by simp [hh])
        subst hadh
        have hgd : hs.getD i false = hs[i] := by rw [List.getD_eq_getElem?_getD, List.getElem?_eq_getElem hh, Option.getD_some]
        rw [hgd] at hTN
        have eh' := gW.cell eh
        clear gW eh HR1 hgd g1
        cases hq : hs[i] with
        | true =>
          rw [hq] at hTN eh'
          rw [if_pos ⟨hh, rfl⟩] at hTN
          have HI0 := Lib.hid hTN
          obtain ⟨t, ht⟩ : ∃ t : Int, t = ((1 + i % 5 : Nat) : Int) := ⟨_, rfl⟩
          rw [← ht] at HI0
          clear hq
          obtain ⟨E, hE⟩ : ∃ E : Int, E = ((insF A false c.key c.seq c.kind c.val t).1 : Int) := ⟨_, rfl⟩
          have HI1 := Lib.hid (fun w' (h : TwoI V0 g gl gm gk (gm + 1) A A B B (n + 1) w') => h.ins1 c.key c.seq c.kind c.val t hv hA9)
          have HI2 := Lib.hid (fun w' (h : TwoI V0 g gl gm gk (gm + 1) (insF A false c.key c.seq c.kind c.val t).2 A B B n w') => h.ins2 c.key c.seq c.kind c.val t hv hA9)
          rw [← hE] at HI1 HI2
          unfold celV at HI1 HI2
          generalize hC2 : (insF A false c.key c.seq c.kind c.val t).2 = A2 at *
          have HK0 := Lib.hid (KInv.mk (K := KK (TwoI V0 g gl gm gk (gm + 1) A A B B (n + 1)) (TwoI V0 g gl gm gk (gm + 1) A2 A B B n) (TwoI V0 g gl gm gk (gm + 1) A2 A2 B B n)) (m := 2) (s := (wr.drew, 0)) (Nat.zero_le _) (hP.more (Gr.drew wr)))
          have H7 := Lib.hid (show (i : Int).tmod 5 = t - 1 by rw [ht]; rw [Int.tmod_eq_emod_of_nonneg (by omega)]; omega)
          have H8 := Lib.hid (show IntKind.i64.wrap (1 + (t - 1)) = t by rw [show 1 + (t - 1) = t by omega]; exact IntWalk.i64_in _ (by rw [ht]; constructor <;> omega))
          clear hP hE hC2 hA9 hB9 ht hv hTN
          go_wp2
          have d0 := (Gr.drew wr).cell f0
          have d1 := (Gr.drew wr).cell f1
          have d2 := (Gr.drew wr).cell f2
          have d3 := (Gr.drew wr).cell f3
          have HD := Lib.hid (And.intro d0 (And.intro d1 (And.intro d2 d3)))
          clear d0 d1 d2 d3 f0 f1 f2 f3
          refine region_ghostA (Le := KLe (Tt V0 (fun _ => False)) (KK (TwoI V0 g gl gm gk (gm + 1) A A B B (n + 1)) (TwoI V0 g gl gm gk (gm + 1) A2 A B B n) (TwoI V0 g gl gm gk (gm + 1) A2 A2 B B n)) 2) (PreK fun k => if k = 8 then 0 else if k = 17 then 1 else 2) KLe.refl KLe.trans 0 PreK.start _ [IsG (.pointer (some ⟨gl, 0, none⟩)), IsG (.slice (some ⟨b, off, none⟩) l.length cap), IsG (.int .i64 (i : Int)), IsG (.pointer (some ⟨b, off + i * 4, none⟩)), IsG (.agg #[.string (str c.key), .int .i64 c.seq, .int .i64 c.kind, .string (str c.val)]), IsG (.int .i64 (i : Int)), IsG (.int .i64 (t - 1)), IsG (.int .i64 t), IsS (.int .i64 E) (AtK 1), IsG (.pointer (some ⟨gm, 0, none⟩)), IsG (.slice (some ⟨b, off, none⟩) l.length cap), IsG (.int .i64 (i : Int)), IsG (.pointer (some ⟨b, off + i * 4, none⟩)), IsG (.agg #[.string (str c.key), .int .i64 c.seq, .int .i64 c.kind, .string (str c.val)]), IsG (.int .i64 (i : Int)), IsG (.int .i64 (t - 1)), IsG (.int .i64 t), IsS (.int .i64 E) (AtK 2), IsG (.bool false)] (by kernel_rfl) (by kernel_rfl) (by kernel_rfl) rfl rfl ⟨IsG.stable _, IsG.stable _, IsG.stable _, IsG.stable _, IsG.stable _, IsG.stable _, IsG.stable _, IsG.stable _, AtK.stable _ _, IsG.stable _, IsG.stable _, IsG.stable _, IsG.stable _, IsG.stable _, IsG.stable _, IsG.stable _, IsG.stable _, AtK.stable _ _, IsG.stable _, trivial⟩ ⟨?s0, ?s1, ?s2, ?s3, ?s4, ?s5, ?s6, ?s7, ?s8, ?s9, ?s10, ?s11, ?s12, ?s13, ?s14, ?s15, ?s16, ?s17, ?s18, trivial⟩ ?fin
          case' s0 | s1 | s2 | s3 | s4 | s5 | s6 | s7 | s9 | s10 | s11 | s12 | s13 | s14 | s15 | s16 | s18 =>
            intro ρ wr gh hρ hg hK
            simp [readsOf, slotsOf, Op.operands, Call.operands, tmpOf, List.filterMap_cons, List.filterMap_nil, KnownAll, knownOf, srcOf, depsOf, dstOf, Region.binds, nthG, IsG, IsS] at hK
            obtain ⟨hc, hf, hgl⟩ := hρ
            try simp only [wantedBy, dstOf, boolOf, nthG, List.getD_cons_zero, List.getD_cons_succ, List.getElem?_cons_zero, List.getElem?_cons_succ, Option.bind_some, if_true, hK, BEq.rfl]
            try go_simp
            first | exact rfl | exact pureG KLe.refl rfl | (refine pureG KLe.refl ?_; go_simp; done) | (refine pureG KLe.refl ?_; rfl) | (rw [if_pos (by omega)]; exact pureG KLe.refl rfl) | (rw [dif_pos (by omega)]; exact pureG KLe.refl rfl) | exact pureG KLe.refl (congrArg (Value.int _) (IntWalk.i64_in _ ⟨by omega, by omega⟩)) | skip
          case' s8 | s17 =>
            intro ρ wr gh hρ hg hK
            simp [readsOf, slotsOf, Op.operands, Call.operands, tmpOf, List.filterMap_cons, List.filterMap_nil, KnownAll, knownOf, srcOf, depsOf, dstOf, Region.binds, nthG, IsG, IsS] at hK
            obtain ⟨hc, hf, hgl⟩ := hρ
            try simp only [wantedBy, dstOf, boolOf, nthG, List.getD_cons_zero, List.getD_cons_succ, List.getElem?_cons_zero, List.getElem?_cons_succ, Option.bind_some, if_true, hK, BEq.rfl]
          case s4 | s13 =>
            obtain ⟨d0, d1, d2, d3⟩ := HD.out
            have z0 := hg.1.chg.cell d0 HB.out; have z1 := hg.1.chg.cell d1 HB.out; have z2 := hg.1.chg.cell d2 HB.out; have z3 := hg.1.chg.cell d3 HB.out
            clear d0 d1 d2 d3
            go_simp
            exact pureG KLe.refl rfl
          case s6 | s15 => rw [H7.out]; exact pureG KLe.refl rfl
          case s7 | s16 => rw [H8.out]; exact pureG KLe.refl rfl
          case s8 =>
            have HI := hg.1.inv HK0.out
            have hz : gh ≤ 0 := hg.2.1 8 (by kernel_rfl)
            obtain rfl : gh = 0 := by omega
            have hP : TwoI V0 g gl gm gk (gm + 1) A A B B (n + 1) wr := HI.at_
            have HPh := Lib.hid hP
            clear HI hP hz hg
            go_simp
            exact enterK (f2_ne (by decide)).1 (by decide) (HI1.out _ HPh.out)
          case s17 =>
            have HI := hg.1.inv HK0.out
            have hz : gh ≤ 1 := hg.2.1 17 (by kernel_rfl)
            obtain ⟨v9, _, h9⟩ := hg.2.2 8 (by decide)
            have h9 : 1 ≤ gh := h9
            obtain rfl : gh = 1 := by omega
            have hP : TwoI V0 g gl gm gk (gm + 1) A2 A B B n wr := HI.at_
            have HPh := Lib.hid hP
            clear HI hP hz hg h9
            go_simp
            exact enterK (f2_ne (by decide)).2 (by decide) (HI2.out _ HPh.out)
          case fin =>
            intro w1 g1 val hg hH
            simp only [HoldsG, IsG, IsS, Nat.zero_add, Nat.reduceAdd] at hH
            obtain ⟨h0, h1, h2, h3, h4, h5, h6, h7, h8, h9, h10, h11, h12, h13, h14, h15, h16, h17, h18, _⟩ := hH
            simp only [List.take_succ_cons, List.take_zero, List.drop_succ_cons, List.drop_zero, putAll, h0, h1, h2, h3, h4, h5, h6, h7, h9, h10, h11, h12, h13, h14, h15, h16, h18, Nat.zero_add, Nat.reduceAdd]
            have HI := hg.inv HK0.out
            have h19b := h17.2
            have h19b : 2 ≤ g1 := h19b
            have hle := HI.le
            obtain rfl : g1 = 2 := by simp only at hle; omega
            have hP : TwoI V0 g gl gm gk (gm + 1) A2 A2 B B n w1 := HI.at_
            have HPn := Lib.hid (show TwoI V0 g gl gm gk (gm + 1) (twoN l hs (i + 1)).1 (twoN l hs (i + 1)).1 (twoN l hs (i + 1)).2 (twoN l hs (i + 1)).2 (300 - (i + 1)) w1 by rw [HI0.out, HN.out]; exact hP)
            clear HI hP hle h19b h17 h8 hg HK0 HI1 HI2 HD HB
            go_simp
            go_wp2
            go_roundw
            case rel => exact ⟨i + 1, by go_num, hlt, hlt2, HPn.out⟩
            case measure => simp [intOf]; omega
        | false =>
          rw [hq] at hTN eh'
          rw [if_neg (fun e => by cases e.2)] at hTN
          clear hq
          have HI0 := Lib.hid hTN
          obtain ⟨t, ht⟩ : ∃ t : Int, t = ((1 + i % 3 : Nat) : Int) := ⟨_, rfl⟩
          rw [← ht] at HI0
          replace hP := hP.swap
          obtain ⟨E, hE⟩ : ∃ E : Int, E = ((insF B false c.key c.seq c.kind c.val t).1 : Int) := ⟨_, rfl⟩
          have HI1 := Lib.hid (fun w' (h : TwoI V0 g gk (gm + 1) gl gm B B A A (n + 1) w') => h.ins1 c.key c.seq c.kind c.val t hv hB9)
          have HI2 := Lib.hid (fun w' (h : TwoI V0 g gk (gm + 1) gl gm (insF B false c.key c.seq c.kind c.val t).2 B A A n w') => h.ins2 c.key c.seq c.kind c.val t hv hB9)
          rw [← hE] at HI1 HI2
          unfold celV at HI1 HI2
          generalize hC2 : (insF B false c.key c.seq c.kind c.val t).2 = A2 at *
          have HK0 := Lib.hid (KInv.mk (K := KK (TwoI V0 g gk (gm + 1) gl gm B B A A (n + 1)) (TwoI V0 g gk (gm + 1) gl gm A2 B A A n) (TwoI V0 g gk (gm + 1) gl gm A2 A2 A A n)) (m := 2) (s := (wr.drew, 0)) (Nat.zero_le _) (hP.more (Gr.drew wr)))
          have H7 := Lib.hid (show (i : Int).tmod 3 = t - 1 by rw [ht]; rw [Int.tmod_eq_emod_of_nonneg (by omega)]; omega)
          have H8 := Lib.hid (show IntKind.i64.wrap (1 + (t - 1)) = t by rw [show 1 + (t - 1) = t by omega]; exact IntWalk.i64_in _ (by rw [ht]; constructor <;> omega))
          clear hP hE hC2 hB9 hA9 ht hv hTN
          go_wp2
          have d0 := (Gr.drew wr).cell f0
          have d1 := (Gr.drew wr).cell f1
          have d2 := (Gr.drew wr).cell f2
          have d3 := (Gr.drew wr).cell f3
          have HD := Lib.hid (And.intro d0 (And.intro d1 (And.intro d2 d3)))
          clear d0 d1 d2 d3 f0 f1 f2 f3
          refine region_ghostA (Le := KLe (Tt V0 (fun _ => False)) (KK (TwoI V0 g gk (gm + 1) gl gm B B A A (n + 1)) (TwoI V0 g gk (gm + 1) gl gm A2 B A A n) (TwoI V0 g gk (gm + 1) gl gm A2 A2 A A n)) 2) (PreK fun k => if k = 8 then 0 else if k = 17 then 1 else 2) KLe.refl KLe.trans 0 PreK.start _ [IsG (.pointer (some ⟨gk, 0, none⟩)), IsG (.slice (some ⟨b, off, none⟩) l.length cap), IsG (.int .i64 (i : Int)), IsG (.pointer (some ⟨b, off + i * 4, none⟩)), IsG (.agg #[.string (str c.key), .int .i64 c.seq, .int .i64 c.kind, .string (str c.val)]), IsG (.int .i64 (i : Int)), IsG (.int .i64 (t - 1)), IsG (.int .i64 t), IsS (.int .i64 E) (AtK 1), IsG (.pointer (some ⟨(gm + 1), 0, none⟩)), IsG (.slice (some ⟨b, off, none⟩) l.length cap), IsG (.int .i64 (i : Int)), IsG (.pointer (some ⟨b, off + i * 4, none⟩)), IsG (.agg #[.string (str c.key), .int .i64 c.seq, .int .i64 c.kind, .string (str c.val)]), IsG (.int .i64 (i : Int)), IsG (.int .i64 (t - 1)), IsG (.int .i64 t), IsS (.int .i64 E) (AtK 2), IsG (.bool false)] (by kernel_rfl) (by kernel_rfl) (by kernel_rfl) rfl rfl ⟨IsG.stable _, IsG.stable _, IsG.stable _, IsG.stable _, IsG.stable _, IsG.stable _, IsG.stable _, IsG.stable _, AtK.stable _ _, IsG.stable _, IsG.stable _, IsG.stable _, IsG.stable _, IsG.stable _, IsG.stable _, IsG.stable _, IsG.stable _, AtK.stable _ _, IsG.stable _, trivial⟩ ⟨?s0x1, ?s1x1, ?s2x1, ?s3x1, ?s4x1, ?s5x1, ?s6x1, ?s7x1, ?s8x1, ?s9x1, ?s10x1, ?s11x1, ?s12x1, ?s13x1, ?s14x1, ?s15x1, ?s16x1, ?s17x1, ?s18x1, trivial⟩ ?finx1
          case' s0x1 | s1x1 | s2x1 | s3x1 | s4x1 | s5x1 | s6x1 | s7x1 | s9x1 | s10x1 | s11x1 | s12x1 | s13x1 | s14x1 | s15x1 | s16x1 | s18x1 =>
            intro ρ wr gh hρ hg hK
            simp [readsOf, slotsOf, Op.operands, Call.operands, tmpOf, List.filterMap_cons, List.filterMap_nil, KnownAll, knownOf, srcOf, depsOf, dstOf, Region.binds, nthG, IsG, IsS] at hK
            obtain ⟨hc, hf, hgl⟩ := hρ
            try simp only [wantedBy, dstOf, boolOf, nthG, List.getD_cons_zero, List.getD_cons_succ, List.getElem?_cons_zero, List.getElem?_cons_succ, Option.bind_some, if_true, hK, BEq.rfl]
            try go_simp
            first | exact rfl | exact pureG KLe.refl rfl | (refine pureG KLe.refl ?_; go_simp; done) | (refine pureG KLe.refl ?_; rfl) | (rw [if_pos (by omega)]; exact pureG KLe.refl rfl) | (rw [dif_pos (by omega)]; exact pureG KLe.refl rfl) | exact pureG KLe.refl (congrArg (Value.int _) (IntWalk.i64_in _ ⟨by omega, by omega⟩)) | skip
          case' s8x1 | s17x1 =>
            intro ρ wr gh hρ hg hK
            simp [readsOf, slotsOf, Op.operands, Call.operands, tmpOf, List.filterMap_cons, List.filterMap_nil, KnownAll, knownOf, srcOf, depsOf, dstOf, Region.binds, nthG, IsG, IsS] at hK
            obtain ⟨hc, hf, hgl⟩ := hρ
            try simp only [wantedBy, dstOf, boolOf, nthG, List.getD_cons_zero, List.getD_cons_succ, List.getElem?_cons_zero, List.getElem?_cons_succ, Option.bind_some, if_true, hK, BEq.rfl]
          case s4x1 | s13x1 =>
            obtain ⟨d0, d1, d2, d3⟩ := HD.out
            have z0 := hg.1.chg.cell d0 HB.out; have z1 := hg.1.chg.cell d1 HB.out; have z2 := hg.1.chg.cell d2 HB.out; have z3 := hg.1.chg.cell d3 HB.out
            clear d0 d1 d2 d3
            go_simp
            exact pureG KLe.refl rfl
          case s6x1 | s15x1 => rw [H7.out]; exact pureG KLe.refl rfl
          case s7x1 | s16x1 => rw [H8.out]; exact pureG KLe.refl rfl
          case s8x1 =>
            have HI := hg.1.inv HK0.out
            have hz : gh ≤ 0 := hg.2.1 8 (by kernel_rfl)
            obtain rfl : gh = 0 := by omega
            have hP : TwoI V0 g gk (gm + 1) gl gm B B A A (n + 1) wr := HI.at_
            have HPh := Lib.hid hP
            clear HI hP hz hg
            go_simp
            exact enterK (f2_ne (by decide)).1 (by decide) (HI1.out _ HPh.out)
          case s17x1 =>
            have HI := hg.1.inv HK0.out
            have hz : gh ≤ 1 := hg.2.1 17 (by kernel_rfl)
            obtain ⟨v9, _, h9⟩ := hg.2.2 8 (by decide)
            have h9 : 1 ≤ gh := h9
            obtain rfl : gh = 1 := by omega
            have hP : TwoI V0 g gk (gm + 1) gl gm A2 B A A n wr := HI.at_
            have HPh := Lib.hid hP
            clear HI hP hz hg h9
            go_simp
            exact enterK (f2_ne (by decide)).2 (by decide) (HI2.out _ HPh.out)
          case finx1 =>
            intro w1 g1 val hg hH
            simp only [HoldsG, IsG, IsS, Nat.zero_add, Nat.reduceAdd] at hH
            obtain ⟨h0, h1, h2, h3, h4, h5, h6, h7, h8, h9, h10, h11, h12, h13, h14, h15, h16, h17, h18, _⟩ := hH
            simp only [List.take_succ_cons, List.take_zero, List.drop_succ_cons, List.drop_zero, putAll, h0, h1, h2, h3, h4, h5, h6, h7, h9, h10, h11, h12, h13, h14, h15, h16, h18, Nat.zero_add, Nat.reduceAdd]
            have HI := hg.inv HK0.out
            have h19b := h17.2
            have h19b : 2 ≤ g1 := h19b
            have hle := HI.le
            obtain rfl : g1 = 2 := by simp only at hle; omega
            have hP : TwoI V0 g gk (gm + 1) gl gm A2 A2 A A n w1 := HI.at_
            have HPn := Lib.hid (show TwoI V0 g gl gm gk (gm + 1) (twoN l hs (i + 1)).1 (twoN l hs (i + 1)).1 (twoN l hs (i + 1)).2 (twoN l hs (i + 1)).2 (300 - (i + 1)) w1 by rw [HI0.out, HN.out]; exact hP.swap)
            clear HI hP hle h19b h17 h8 hg HK0 HI1 HI2 HD HB
            go_simp
            go_wp2
            go_roundw
            case rel => exact ⟨i + 1, by go_num, hlt, hlt2, HPn.out⟩
            case measure => simp [intOf]; omega
      · rw [if_neg (fun e => hh e.1)] at hTN
        clear HR1 gW g1
        have HI0 := Lib.hid hTN
        obtain ⟨t, ht⟩ : ∃ t : Int, t = ((1 + i % 3 : Nat) : Int) := ⟨_, rfl⟩
        rw [← ht] at HI0
        replace hP := hP.swap
        obtain ⟨E, hE⟩ : ∃ E : Int, E = ((insF B false c.key c.seq c.kind c.val t).1 : Int) := ⟨_, rfl⟩
        have HI1 := Lib.hid (fun w' (h : TwoI V0 g gk (gm + 1) gl gm B B A A (n + 1) w') => h.ins1 c.key c.seq c.kind c.val t hv hB9)
        have HI2 := Lib.hid (fun w' (h : TwoI V0 g gk (gm + 1) gl gm (insF B false c.key c.seq c.kind c.val t).2 B A A n w') => h.ins2 c.key c.seq c.kind c.val t hv hB9)
        rw [← hE] at HI1 HI2
        unfold celV at HI1 HI2
        generalize hC2 : (insF B false c.key c.seq c.kind c.val t).2 = A2 at *
        have HK0 := Lib.hid (KInv.mk (K := KK (TwoI V0 g gk (gm + 1) gl gm B B A A (n + 1)) (TwoI V0 g gk (gm + 1) gl gm A2 B A A n) (TwoI V0 g gk (gm + 1) gl gm A2 A2 A A n)) (m := 2) (s := (wr.drew, 0)) (Nat.zero_le _) (hP.more (Gr.drew wr)))
        have H7 := Lib.hid (show (i : Int).tmod 3 = t - 1 by rw [ht]; rw [Int.tmod_eq_emod_of_nonneg (by omega)]; omega)
        have H8 := Lib.hid (show IntKind.i64.wrap (1 + (t - 1)) = t by rw [show 1 + (t - 1) = t by omega]; exact IntWalk.i64_in _ (by rw [ht]; constructor <;> omega))
        clear hP hE hC2 hB9 hA9 ht hv hTN
        go_wp2
        have d0 := (Gr.drew wr).cell f0
        have d1 := (Gr.drew wr).cell f1
        have d2 := (Gr.drew wr).cell f2
        have d3 := (Gr.drew wr).cell f3
        have HD := Lib.hid (And.intro d0 (And.intro d1 (And.intro d2 d3)))
        clear d0 d1 d2 d3 f0 f1 f2 f3
        refine region_ghostA (Le := KLe (Tt V0 (fun _ => False)) (KK (TwoI V0 g gk (gm + 1) gl gm B B A A (n + 1)) (TwoI V0 g gk (gm + 1) gl gm A2 B A A n) (TwoI V0 g gk (gm + 1) gl gm A2 A2 A A n)) 2) (PreK fun k => if k = 8 then 0 else if k = 17 then 1 else 2) KLe.refl KLe.trans 0 PreK.start _ [IsG (.pointer (some ⟨gk, 0, none⟩)), IsG (.slice (some ⟨b, off, none⟩) l.length cap), IsG (.int .i64 (i : Int)), IsG (.pointer (some ⟨b, off + i * 4, none⟩)), IsG (.agg #[.string (str c.key), .int .i64 c.seq, .int .i64 c.kind, .string (str c.val)]), IsG (.int .i64 (i : Int)), IsG (.int .i64 (t - 1)), IsG (.int .i64 t), IsS (.int .i64 E) (AtK 1), IsG (.pointer (some ⟨(gm + 1), 0, none⟩)), IsG (.slice (some ⟨b, off, none⟩) l.length cap), IsG (.int .i64 (i : Int)), IsG (.pointer (some ⟨b, off + i * 4, none⟩)), IsG (.agg #[.string (str c.key), .int .i64 c.seq, .int .i64 c.kind, .string (str c.val)]), IsG (.int .i64 (i : Int)), IsG (.int .i64 (t - 1)), IsG (.int .i64 t), IsS (.int .i64 E) (AtK 2), IsG (.bool false)] (by kernel_rfl) (by kernel_rfl) (by kernel_rfl) rfl rfl ⟨IsG.stable _, IsG.stable _, IsG.stable _, IsG.stable _, IsG.stable _, IsG.stable _, IsG.stable _, IsG.stable _, AtK.stable _ _, IsG.stable _, IsG.stable _, IsG.stable _, IsG.stable _, IsG.stable _, IsG.stable _, IsG.stable _, IsG.stable _, AtK.stable _ _, IsG.stable _, trivial⟩ ⟨?s0x2, ?s1x2, ?s2x2, ?s3x2, ?s4x2, ?s5x2, ?s6x2, ?s7x2, ?s8x2, ?s9x2, ?s10x2, ?s11x2, ?s12x2, ?s13x2, ?s14x2, ?s15x2, ?s16x2, ?s17x2, ?s18x2, trivial⟩ ?finx2
        case' s0x2 | s1x2 | s2x2 | s3x2 | s4x2 | s5x2 | s6x2 | s7x2 | s9x2 | s10x2 | s11x2 | s12x2 | s13x2 | s14x2 | s15x2 | s16x2 | s18x2 =>
          intro ρ wr gh hρ hg hK
          simp [readsOf, slotsOf, Op.operands, Call.operands, tmpOf, List.filterMap_cons, List.filterMap_nil, KnownAll, knownOf, srcOf, depsOf, dstOf, Region.binds, nthG, IsG, IsS] at hK
          obtain ⟨hc, hf, hgl⟩ := hρ
          try simp only [wantedBy, dstOf, boolOf, nthG, List.getD_cons_zero, List.getD_cons_succ, List.getElem?_cons_zero, List.getElem?_cons_succ, Option.bind_some, if_true, hK, BEq.rfl]
          try go_simp
          first | exact rfl | exact pureG KLe.refl rfl | (refine pureG KLe.refl ?_; go_simp; done) | (refine pureG KLe.refl ?_; rfl) | (rw [if_pos (by omega)]; exact pureG KLe.refl rfl) | (rw [dif_pos (by omega)]; exact pureG KLe.refl rfl) | exact pureG KLe.refl (congrArg (Value.int _) (IntWalk.i64_in _ ⟨by omega, by omega⟩)) | skip
        case' s8x2 | s17x2 =>
          intro ρ wr gh hρ hg hK
          simp [readsOf, slotsOf, Op.operands, Call.operands, tmpOf, List.filterMap_cons, List.filterMap_nil, KnownAll, knownOf, srcOf, depsOf, dstOf, Region.binds, nthG, IsG, IsS] at hK
          obtain ⟨hc, hf, hgl⟩ := hρ
          try simp only [wantedBy, dstOf, boolOf, nthG, List.getD_cons_zero, List.getD_cons_succ, List.getElem?_cons_zero, List.getElem?_cons_succ, Option.bind_some, if_true, hK, BEq.rfl]
        case s4x2 | s13x2 =>
          obtain ⟨d0, d1, d2, d3⟩ := HD.out
          have z0 := hg.1.chg.cell d0 HB.out; have z1 := hg.1.chg.cell d1 HB.out; have z2 := hg.1.chg.cell d2 HB.out; have z3 := hg.1.chg.cell d3 HB.out
          clear d0 d1 d2 d3
          go_simp
          exact pureG KLe.refl rfl
        case s6x2 | s15x2 => rw [H7.out]; exact pureG KLe.refl rfl
        case s7x2 | s16x2 => rw [H8.out]; exact pureG KLe.refl rfl
        case s8x2 =>
          have HI := hg.1.inv HK0.out
          have hz : gh ≤ 0 := hg.2.1 8 (by kernel_rfl)
          obtain rfl : gh = 0 := by omega
          have hP : TwoI V0 g gk (gm + 1) gl gm B B A A (n + 1) wr := HI.at_
          have HPh := Lib.hid hP
          clear HI hP hz hg
          go_simp
          exact enterK (f2_ne (by decide)).1 (by decide) (HI1.out _ HPh.out)
        case s17x2 =>
          have HI := hg.1.inv HK0.out
          have hz : gh ≤ 1 := hg.2.1 17 (by kernel_rfl)
          obtain ⟨v9, _, h9⟩ := hg.2.2 8 (by decide)
          have h9 : 1 ≤ gh := h9
          obtain rfl : gh = 1 := by omega
          have hP : TwoI V0 g gk (gm + 1) gl gm A2 B A A n wr := HI.at_
          have HPh := Lib.hid hP
          clear HI hP hz hg h9
          go_simp
          exact enterK (f2_ne (by decide)).2 (by decide) (HI2.out _ HPh.out)
        case finx2 =>
          intro w1 g1 val hg hH
          simp only [HoldsG, IsG, IsS, Nat.zero_add, Nat.reduceAdd] at hH
          obtain ⟨h0, h1, h2, h3, h4, h5, h6, h7, h8, h9, h10, h11, h12, h13, h14, h15, h16, h17, h18, _⟩ := hH
          simp only [List.take_succ_cons, List.take_zero, List.drop_succ_cons, List.drop_zero, putAll, h0, h1, h2, h3, h4, h5, h6, h7, h9, h10, h11, h12, h13, h14, h15, h16, h18, Nat.zero_add, Nat.reduceAdd]
          have HI := hg.inv HK0.out
          have h19b := h17.2
          have h19b : 2 ≤ g1 := h19b
          have hle := HI.le
          obtain rfl : g1 = 2 := by simp only at hle; omega
          have hP : TwoI V0 g gk (gm + 1) gl gm A2 A2 A A n w1 := HI.at_
          have HPn := Lib.hid (show TwoI V0 g gl gm gk (gm + 1) (twoN l hs (i + 1)).1 (twoN l hs (i + 1)).1 (twoN l hs (i + 1)).2 (twoN l hs (i + 1)).2 (300 - (i + 1)) w1 by rw [HI0.out, HN.out]; exact hP.swap)
          clear HI hP hle h19b h17 h8 hg HK0 HI1 HI2 HD HB
          go_simp
          go_wp2
          go_roundw
          case rel => exact ⟨i + 1, by go_num, hlt, hlt2, HPn.out⟩
          case measure => simp [intOf]; omega
    · have hx : l.length ≤ i ∨ (i < l.length ∧ 100 ≤ i) := by omega
      have hlen := (twoN_len l hs i).2
      clear HR1 HVL HR
      generalize (twoN l hs i).1 = C1 at *
      generalize (twoN l hs i).2 = C2 at *
      obtain ⟨S, p, a, ⟨gk9, gn9, L, N, C, ad2, cap2⟩, hT, ⟨rfl, e2, rfl, e4⟩, ⟨_, _, e5, e6⟩, _, _, hpl, hsl⟩ := hP
      simp only at e4 e5 e6 hsl
      subst e5 e6 e4
      obtain ⟨p', hF, f1, f2, f3⟩ := hT.free1
      have HLand := Lib.hid (show ∀ j, j ≠ L.r → (landAt p' j).slabs = [] from fun j hj => by
        by_cases e : j = a.L.r
        · rw [e]; exact f2
        · rw [f3 j e]; exact hsl j e hj)
      have hpl2 := f1.trans hpl
      have HLen := Lib.hid hpl2
      unfold Lr.At at hF
      simp only at hF
      have HF := Lib.hid hF
      obtain ⟨M, hM⟩ : ∃ M, M = N.length := ⟨_, rfl⟩
      have hlN : (cellsN N).length = M := by rw [hM]; simp [cellsN]
      have hM9 : M ≤ 1000000 := by omega
      have HB0 := Lib.hid (fun w' (h : Rl w' V0.heap.size (gm + 1) (cellsN N) L.fz ad2 cap2) => h.blk.cell (i := 0) rfl)
      rw [hlN] at HB0
      have HM := Lib.hid hM
      generalize a.gl = gl at *
      clear hlN hlen hM hF f1 f2 f3 hsl hpl hpl2 hT e2
      rcases hx with hx | ⟨hx, hx2⟩
      · go_wp2_with (first
          | (go_at_call 20; go_must (refine HF.out.mono ?_); rintro e w4 ⟨rfl, hPr, g4⟩; clear HF)
          | (go_at_call 14; go_must (refine (Cursor_any _ _).mono ?_); rintro e w5 ⟨rfl, b3, g3⟩; have S3 := Lib.hid (Cu.new hPr g3 b3))
          | fail)
        generalize w4.heap.size = gc at *
        clear b3 g3 hPr g4
        go_loopw [14] (fun vj wj => ∃ (j : Nat) (side : Int) (q : Nat × Nat), vj = .int .i64 (j : Int) ∧ j ≤ M ∧ Cu V0 wj (fun _ => False) S g gk9 (gm + 1) p' L N (cellsN N) ad2 cap2 gc side q ∧ Fw N j side q) (fun vj _ => M - (intOf vj).toNat)
        case atStart => exact ⟨0, 0, (0, 0), rfl, Nat.zero_le _, S3.out, .inl ⟨rfl, rfl⟩⟩
        case round =>
          clear S3
          obtain ⟨j, side, q, rfl, hj, hS, hF⟩ := hrel
          have m0 := HB0.out _ hS.pr.rl
          by_cases hjl : j < M
          · obtain ⟨a, x, b, hN, ha⟩ := nd_split (HM.out ▸ hjl : j < N.length)
            obtain ⟨b2, off2, rfl, _⟩ := hS.pr.rl.at_ (nd_get hN)
            have hat := nd_get hN
            rw [ha] at hat
            have HRx := Lib.hid (fun w' (h : Rl w' V0.heap.size (gm + 1) (cellsN N) L.fz (some ⟨b2, off2, none⟩) cap2) => h.at2 hat)
            have HNX := Lib.hid (hS.fw hF hN ha.symm)
            have HCL := Lib.hid (fun w' (h : Cu V0 w' (fun _ => False) S g gk9 (gm + 1) p' L N (cellsN N) (some ⟨b2, off2, none⟩) cap2 gc 1 (x.off, x.size)) => h.cell_at hN rfl)
            have HFw := Lib.hid (Fw.step hN)
            rw [ha] at HFw
            have GA := Lib.hid (fun w' => Gr.alloc w' (.cells #[.string (str x.c.key), .int .i64 (x.c.seq : Int), .int .i64 (x.c.kind : Int), .string (str x.c.val)] 41))
            unfold ceV at HCL
            clear hat hN ha hF hS
            go_wp2_with (first
              | (go_at_call 19; go_must (refine HNX.out.mono ?_); rintro e w5 ⟨rfl, S5⟩; clear m0)
              | (go_at_call 17; go_must (refine (HCL.out _ S5).mono ?_); rintro e w6 ⟨rfl, S6, g6⟩; have m0 := (GA.out w6).cell (HB0.out _ S6.pr.rl); clear S5 g6)
              | fail)
            obtain ⟨z0, z1, z2, z3⟩ := HRx.out _ S6.pr.rl
            have y0 := (GA.out w6).cell z0
            have y1 := (GA.out w6).cell z1
            have y2 := (GA.out w6).cell z2
            have y3 := (GA.out w6).cell z3
            clear z0 z1 z2 z3
            go_quiet (fail)
            clear y0 y1 y2 y3 m0
            go_wp2
            go_roundw
            case rel => exact ⟨j + 1, 1, (x.off, x.size), by go_num, hjl, S6.more ((GA.out w6).trans (Gr.drewN _ _)), HFw.out⟩
            case measure => simp [intOf]; omega
          · obtain rfl : j = M := by omega
            rw [HM.out] at hF
            have HN1 := Lib.hid (hS.fw_end hF)
            clear hF hS hjl
            go_wp2_with (first
              | (go_at_call 19; go_must (refine HN1.out.mono ?_); rintro e w5 ⟨rfl, q5, S5⟩
                 obtain ⟨p3, hF3, f2, f3, f4, f5, f6⟩ := S5.pr.sl.free
                 have g5 := S5.pr.sl.gr
                 have HGo := Lib.hid (show ∀ w', Chg (fun j => S j ∨ j = gk9) w5 w' → Gr V0 w' from fun w' k => k.gr g5 (fun j hj => hj.elim (S5.pr.sl.base j) (fun e => by rw [e]; exact S5.pr.sl.bl)))
                 have HCt := Lib.hid (show PoolOk p3 → countF p3 = 300 from fun ok => by
                   rw [count_all ok (fun j => by
                     by_cases e : j = L.r
                     · rw [e, f4]
                     · rw [f5 j e]; exact HLand.out j e), f3]
                   exact HLen.out)
                 have HF3 := Lib.hid hF3
                 clear m0 HN1 hF3 f2 f3 f4 f5 f6)
              | (go_at_call 20; go_must (refine HF3.out.mono ?_); rintro e w7 ⟨rfl, hs7, hc7⟩
                 have hct := HCt.out hs7.ok
                 have HI9 := Lib.hid (Idle_any w7 S g p3 hs7.pool hs7.ok)
                 rw [hct] at HI9
                 have g7 := HGo.out _ hc7
                 clear hs7 hc7 hct)
              | (go_at_call 21; go_must (refine HI9.out.mono ?_); rintro e w8 ⟨rfl, rfl⟩)
              | fail)
            go_ret
            exact ⟨rfl, g1.trans g7⟩
      · go_wp2_with (first
          | (go_at_call 20; go_must (refine HF.out.mono ?_); rintro e w4 ⟨rfl, hPr, g4⟩; clear HF)
          | (go_at_call 14; go_must (refine (Cursor_any _ _).mono ?_); rintro e w5 ⟨rfl, b3, g3⟩; have S3 := Lib.hid (Cu.new hPr g3 b3))
          | fail)
        generalize w4.heap.size = gc at *
        clear b3 g3 hPr g4
        go_loopw [14] (fun vj wj => ∃ (j : Nat) (side : Int) (q : Nat × Nat), vj = .int .i64 (j : Int) ∧ j ≤ M ∧ Cu V0 wj (fun _ => False) S g gk9 (gm + 1) p' L N (cellsN N) ad2 cap2 gc side q ∧ Fw N j side q) (fun vj _ => M - (intOf vj).toNat)
        case atStart => exact ⟨0, 0, (0, 0), rfl, Nat.zero_le _, S3.out, .inl ⟨rfl, rfl⟩⟩
        case round =>
          clear S3
          obtain ⟨j, side, q, rfl, hj, hS, hF⟩ := hrel
          have m0 := HB0.out _ hS.pr.rl
          by_cases hjl : j < M
          · obtain ⟨a, x, b, hN, ha⟩ := nd_split (HM.out ▸ hjl : j < N.length)
            obtain ⟨b2, off2, rfl, _⟩ := hS.pr.rl.at_ (nd_get hN)
            have hat := nd_get hN
            rw [ha] at hat
            have HRx := Lib.hid (fun w' (h : Rl w' V0.heap.size (gm + 1) (cellsN N) L.fz (some ⟨b2, off2, none⟩) cap2) => h.at2 hat)
            have HNX := Lib.hid (hS.fw hF hN ha.symm)
            have HCL := Lib.hid (fun w' (h : Cu V0 w' (fun _ => False) S g gk9 (gm + 1) p' L N (cellsN N) (some ⟨b2, off2, none⟩) cap2 gc 1 (x.off, x.size)) => h.cell_at hN rfl)
            have HFw := Lib.hid (Fw.step hN)
            rw [ha] at HFw
            have GA := Lib.hid (fun w' => Gr.alloc w' (.cells #[.string (str x.c.key), .int .i64 (x.c.seq : Int), .int .i64 (x.c.kind : Int), .string (str x.c.val)] 41))
            unfold ceV at HCL
            clear hat hN ha hF hS
            go_wp2_with (first
              | (go_at_call 19; go_must (refine HNX.out.mono ?_); rintro e w5 ⟨rfl, S5⟩; clear m0)
              | (go_at_call 17; go_must (refine (HCL.out _ S5).mono ?_); rintro e w6 ⟨rfl, S6, g6⟩; have m0 := (GA.out w6).cell (HB0.out _ S6.pr.rl); clear S5 g6)
              | fail)
            obtain ⟨z0, z1, z2, z3⟩ := HRx.out _ S6.pr.rl
            have y0 := (GA.out w6).cell z0
            have y1 := (GA.out w6).cell z1
            have y2 := (GA.out w6).cell z2
            have y3 := (GA.out w6).cell z3
            clear z0 z1 z2 z3
            go_quiet (fail)
            clear y0 y1 y2 y3 m0
            go_wp2
            go_roundw
            case rel => exact ⟨j + 1, 1, (x.off, x.size), by go_num, hjl, S6.more ((GA.out w6).trans (Gr.drewN _ _)), HFw.out⟩
            case measure => simp [intOf]; omega
          · obtain rfl : j = M := by omega
            rw [HM.out] at hF
            have HN1 := Lib.hid (hS.fw_end hF)
            clear hF hS hjl
            go_wp2_with (first
              | (go_at_call 19; go_must (refine HN1.out.mono ?_); rintro e w5 ⟨rfl, q5, S5⟩
                 obtain ⟨p3, hF3, f2, f3, f4, f5, f6⟩ := S5.pr.sl.free
                 have g5 := S5.pr.sl.gr
                 have HGo := Lib.hid (show ∀ w', Chg (fun j => S j ∨ j = gk9) w5 w' → Gr V0 w' from fun w' k => k.gr g5 (fun j hj => hj.elim (S5.pr.sl.base j) (fun e => by rw [e]; exact S5.pr.sl.bl)))
                 have HCt := Lib.hid (show PoolOk p3 → countF p3 = 300 from fun ok => by
                   rw [count_all ok (fun j => by
                     by_cases e : j = L.r
                     · rw [e, f4]
                     · rw [f5 j e]; exact HLand.out j e), f3]
                   exact HLen.out)
                 have HF3 := Lib.hid hF3
                 clear m0 HN1 hF3 f2 f3 f4 f5 f6)
              | (go_at_call 20; go_must (refine HF3.out.mono ?_); rintro e w7 ⟨rfl, hs7, hc7⟩
                 have hct := HCt.out hs7.ok
                 have HI9 := Lib.hid (Idle_any w7 S g p3 hs7.pool hs7.ok)
                 rw [hct] at HI9
                 have g7 := HGo.out _ hc7
                 clear hs7 hc7 hct)
              | (go_at_call 21; go_must (refine HI9.out.mono ?_); rintro e w8 ⟨rfl, rfl⟩)
              | fail)
            go_ret
            exact ⟨rfl, g1.trans g7⟩
end Go.Proofs.Ytnafhjgfkofkbaa
namespace Go.Proofs.Ytnafhjgfkofkbaa.skipTwo
set_option linter.unusedSimpArgs false
open Go.ChangeShapes Go.WideShapes Go.ChangeAt Go.RowKit
open Go.ChangeMaps (open_string shut_string)
set_option linter.unusedVariables false
theorem own : ownKnob Try.prog.godebug = none := by kernel_rfl
theorem laidOut : laidOutB Try.prog = true := by kernel_rfl
set_option maxRecDepth 100000 in
theorem contract (H : Type) (enc : TypeId × Value → H) (W : World) (base : Nat) (args : Array Value) (ds gs : List (DataW H)) (before : List MemPlace)
    (hval0 : ∀ (j : Nat) t v, Try.f6.params[j]? = some t → args[j]? = some v → Value.okWide Try.prog W .any base t v)
    (hW : DataW.Whole enc Try.prog Try.f6.params.toList Rows.skipTwoSpec.vars false W args.toList ds gs before)
    (hsz0 : (DataW.weightsEach Try.prog (Try.f6.params.toList ++ Rows.skipTwoSpec.plain.varTypes Try.prog) (ds ++ gs)).all (· ≤ reachBytes) = true) :
    Calls Try.prog 6 args W fun e W' => ∃ v, e = .returned v ∧ Rows.skipTwoSpec.post enc Try.prog Try.f6 false true false false W args v W' := by
  have hval : ∀ (j : Nat) t v, Try.f6.params[j]? = some t → args[j]? = some v → Value.okWide Try.prog W .any base t v := hval0
  have hW' := hW
  obtain ⟨p, q, hA0, hV, rfl, hfz, hnd⟩ := hW
  have hA : DataW.TrodAll enc Try.prog W 0 (fun _ => true) true Try.f6.params.toList args.toList ds p := hA0
  have hsz : (DataW.weightsEach Try.prog (Try.f6.params.toList ++ Rows.skipTwoSpec.plain.varTypes Try.prog) (ds ++ gs)).all (· ≤ reachBytes) = true := hsz0
  rw [Try.params6] at hA hval hsz
  obtain ⟨v0, vs0, d0, ds0, p0, q0, hargs, rfl, rfl, h0, r0⟩ := trodAll_cons hA
  obtain ⟨v1, vs1, d1, ds1, p1, q1, rfl, rfl, rfl, h1, r1⟩ := trodAll_cons r0
  obtain ⟨rfl, rfl, rfl⟩ := trodAll_nil r1
  obtain rfl : args = #[v0, v1] := by cases args; simp_all
  obtain ⟨rfl, rfl⟩ := trodVars_none hV
  have k0 := h0
  have lt0 : ∀ x ∈ p0, x.block < W.heap.size := by obtain ⟨m, hm⟩ := k0; exact DataW.trod_lt m _ _ _ hm
  obtain ⟨ad0, len0, cap0, l0, rfl, hl0, hc0, hm0, hb0, hq0⟩ := open_cells Try.underlying31 (by kernel_rfl) Try.underlying41 Try.underlying33 ⟨rfl, rfl, rfl, rfl, rfl⟩ ⟨by kernel_rfl, by kernel_rfl, by kernel_rfl, by kernel_rfl, by kernel_rfl⟩ Try.underlying9 Try.underlying9 Try.underlying3 Try.underlying3 (hval 0 31 v0 rfl rfl) h0
  subst hl0
  have k1 := h1
  have lt1 : ∀ x ∈ p1, x.block < W.heap.size := by obtain ⟨m, hm⟩ := k1; exact DataW.trod_lt m _ _ _ hm
  obtain ⟨ad1, len1, cap1, l1, rfl, hl1, hc1, hm1, hb1⟩ := open_bools Try.underlying53 Try.underlying4 (by kernel_rfl) (hval 1 53 v1 rfl rfl) h1
  subst hl1
  clear hA0 hval0
  refine (SkipTwo_any ad0 cap0 l0 ad1 cap1 l1 W hb0 (len_of_ hc0 hm0) (fun c hc => le_of_max (hq0 c hc).2.1) hb1 (len_of_ hc1 hm1)).mono fun e W' ⟨he, bel⟩ => ?_
  subst he
  exact ⟨_, rfl, _, _, _, [], _, [], hW', trodAll_mk1 (shut_bool Try.underlying4 _), (trodAll_cons_mk (Below.trod laidOut (by kernel_rfl) (of_decide_eq_true (by kernel_rfl)) k0 bel lt0) (trodAll_cons_mk (Below.trod laidOut (by kernel_rfl) (of_decide_eq_true (by kernel_rfl)) k1 bel lt1) trodAll_mk0)), rfl, bel.frame _, fun h => by cases h⟩
set_option maxRecDepth 100000 in
theorem lifted (os : Os) (started : os.Started) (H : Type) (enc : TypeId × Value → H) :
    ReturnsInHanded {} Try.checked os 6 .any (Rows.skipTwoSpec.pre6 enc Try.prog Try.f6 Rows.skipTwoRow.domain false) (Rows.skipTwoSpec.post enc Try.prog Try.f6 false true false false) := by
  refine returnsInHanded_of_change_sized (C := Try.checked) own started (by kernel_rfl) Try.func6
    (ChangeSpec.witness6 (enc := enc) (C := Try.checked) false ⟨#[], #[.slice none 0 0, .slice none 0 0], []⟩ 8 (by kernel_rfl) (by kernel_rfl) (by kernel_rfl) (by kernel_rfl)) ?_
  intro W base args ds gs before hval0 hW hcnd0 hsz0 _
  exact contract H enc W base args ds gs before hval0 hW hsz0
theorem over : Rows.skipTwoRow.holds Try.pinned (OpenSpec.ofChange Rows.skipTwoSpec) :=
  OpenClaim.holds_of_wide 6 Try.f6 rfl rfl rfl rfl rfl rfl rfl ⟨rfl, rfl, rfl, rfl, rfl⟩ rfl rfl rfl rfl rfl (by kernel_rfl) Try.func6 (by kernel_rfl)
    (of_decide_eq_true (by kernel_rfl)) (by unfold Func.isWrapper; first | (rw [if_pos (by decide +kernel)]; kernel_rfl) | (rw [if_neg (by decide +kernel)]; exact ⟨rfl, rfl⟩))
    (fun os started H enc _ => lifted os started H enc)
theorem proved : Rows.SkipTwoSaid := over
#print axioms proved
end Go.Proofs.Ytnafhjgfkofkbaa.skipTwo
