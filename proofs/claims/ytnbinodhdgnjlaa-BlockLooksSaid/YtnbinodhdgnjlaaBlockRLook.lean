/- Layer 13 (block): the reference's look; the calls of no look. -/
import Derived.Test.YtnbinodhdgnjlaaBlockSought
import Derived.StillTailTactics
namespace Go.Proofs.Ytnbinodhdgnjlaa
set_option linter.unusedVariables false
set_option linter.unusedSimpArgs false
open Go.RowKit Bk
open Go.Op (bytesLess)
def RL (w : World) (gm : Nat) (adl : Option Addr) (cpl : Nat) (L : List Pr) (A : Int) : Prop := Blk w gm 52 [.slice adl L.length cpl, .int .i64 A]
set_option maxRecDepth 100000 in
theorem rstand_any (w : World) (gm : Nat) (adl : Option Addr) (cpl : Nat) (L : List Pr) (A i : Int) (h : RL w gm adl cpl L A) :
    Calls Try.prog 49 #[.pointer (some ⟨gm, 0, none⟩), .int .i64 i] w fun e w' => e = .returned (.int .i64 (endF L.length (Go.Proofs.Ytnbinodhdgnjlaa.posF L.length i) : Int)) ∧ w.grownBy w' (some gm) ∧ RL w' gm adl cpl L (Go.Proofs.Ytnbinodhdgnjlaa.posF L.length i) := by
  obtain ⟨hc0, hc1⟩ := Blk.two h
  have hf1 := Blk.frozen h 1
  obtain ⟨p, hp⟩ : ∃ p, min (max i (-1)) (L.length : Int) = p := ⟨_, rfl⟩
  have HN := Lib.hid (show Go.Proofs.Ytnbinodhdgnjlaa.posF L.length i = p from hp)
  have HS := Lib.hid (show RL (w.setCell ⟨gm, 1, none⟩ (.int .i64 p)) gm adl cpl L p from Blk.set_ h 1 (.int .i64 p))
  clear h
  by_cases h0 : p < 0
  · go_enter Try.func49, Try.ntmps49
    go_wp2
    go_quiet (fail)
    go_wp2
    go_ret
    rw [HN.out]
    exact ⟨by unfold endF; first | rw [if_pos (by omega)]; rfl | rw [if_neg (by omega)]; rfl, grown_trans (grown_set w gm 1 _) (Gr.drewN _ nq).far, Blk.gr HS.out (Gr.drewN _ nq)⟩
  · by_cases h9 : p = (L.length : Int)
    · subst h9
      go_enter Try.func49, Try.ntmps49
      go_wp2
      go_quiet (fail)
      go_wp2
      go_ret
      rw [HN.out]
      exact ⟨by unfold endF; first | rw [if_pos (by omega)]; rfl | rw [if_neg (by omega)]; rfl, grown_trans (grown_set w gm 1 _) (Gr.drewN _ nq).far, Blk.gr HS.out (Gr.drewN _ nq)⟩
    · have hz : (p == (L.length : Int)) = false := by rw [beq_eq_false_iff_ne]; exact h9
      go_enter Try.func49, Try.ntmps49
      go_wp2
      go_quiet (fail)
      go_wp2
      go_ret
      rw [HN.out]
      exact ⟨by unfold endF; first | rw [if_pos (by omega)]; rfl | rw [if_neg (by omega)]; rfl, grown_trans (grown_set w gm 1 _) (Gr.drewN _ nq).far, Blk.gr HS.out (Gr.drewN _ nq)⟩
theorem rFirst_any (w : World) (gm : Nat) (adl : Option Addr) (cpl : Nat) (L : List Pr) (A : Int) (h : RL w gm adl cpl L A) :
    Calls Try.prog 22 #[.pointer (some ⟨gm, 0, none⟩)] w fun e w' => e = .returned (.int .i64 (endF L.length (Go.Proofs.Ytnbinodhdgnjlaa.posF L.length 0) : Int)) ∧ w.grownBy w' (some gm) ∧ RL w' gm adl cpl L (Go.Proofs.Ytnbinodhdgnjlaa.posF L.length 0) := by
  obtain ⟨hc0, hc1⟩ := Blk.two h
  have H := Lib.hid (fun i => rstand_any w gm adl cpl L A i h)
  clear h
  go_enter Try.func22, Try.ntmps22
  go_wp2_with (go_at_call 49; refine (H.out _).mono ?_; rintro e w1 ⟨rfl, k1, l1⟩)
  go_ret
  exact ⟨rfl, k1, l1⟩
theorem rLast_any (w : World) (gm : Nat) (adl : Option Addr) (cpl : Nat) (L : List Pr) (A : Int) (hl : L.length ≤ 10000) (h : RL w gm adl cpl L A) :
    Calls Try.prog 24 #[.pointer (some ⟨gm, 0, none⟩)] w fun e w' => e = .returned (.int .i64 (endF L.length (Go.Proofs.Ytnbinodhdgnjlaa.posF L.length ((L.length : Int) - 1)) : Int)) ∧ w.grownBy w' (some gm) ∧ RL w' gm adl cpl L (Go.Proofs.Ytnbinodhdgnjlaa.posF L.length ((L.length : Int) - 1)) := by
  obtain ⟨hc0, hc1⟩ := Blk.two h
  have H := Lib.hid (fun i => rstand_any w gm adl cpl L A i h)
  clear h
  go_enter Try.func24, Try.ntmps24
  go_wp2_with (go_at_call 49; refine (H.out _).mono ?_; rintro e w1 ⟨rfl, k1, l1⟩)
  go_ret
  exact ⟨rfl, k1, l1⟩
theorem rNext_any (w : World) (gm : Nat) (adl : Option Addr) (cpl : Nat) (L : List Pr) (A : Int) (hl : L.length ≤ 10000) (hA : -1 ≤ A) (hA2 : A ≤ (L.length : Int)) (h : RL w gm adl cpl L A) :
    Calls Try.prog 27 #[.pointer (some ⟨gm, 0, none⟩)] w fun e w' => e = .returned (.int .i64 (endF L.length (Go.Proofs.Ytnbinodhdgnjlaa.posF L.length (A + 1)) : Int)) ∧ w.grownBy w' (some gm) ∧ RL w' gm adl cpl L (Go.Proofs.Ytnbinodhdgnjlaa.posF L.length (A + 1)) := by
  obtain ⟨hc0, hc1⟩ := Blk.two h
  have H := Lib.hid (fun i => rstand_any w gm adl cpl L A i h)
  clear h
  go_enter Try.func27, Try.ntmps27
  go_wp2_with (go_at_call 49; refine (H.out _).mono ?_; rintro e w1 ⟨rfl, k1, l1⟩)
  go_ret
  exact ⟨rfl, k1, l1⟩
theorem rPrev_any (w : World) (gm : Nat) (adl : Option Addr) (cpl : Nat) (L : List Pr) (A : Int) (hl : L.length ≤ 10000) (hA : -1 ≤ A) (hA2 : A ≤ (L.length : Int)) (h : RL w gm adl cpl L A) :
    Calls Try.prog 28 #[.pointer (some ⟨gm, 0, none⟩)] w fun e w' => e = .returned (.int .i64 (endF L.length (Go.Proofs.Ytnbinodhdgnjlaa.posF L.length (A - 1)) : Int)) ∧ w.grownBy w' (some gm) ∧ RL w' gm adl cpl L (Go.Proofs.Ytnbinodhdgnjlaa.posF L.length (A - 1)) := by
  obtain ⟨hc0, hc1⟩ := Blk.two h
  have H := Lib.hid (fun i => rstand_any w gm adl cpl L A i h)
  clear h
  go_enter Try.func28, Try.ntmps28
  go_wp2_with (go_at_call 49; refine (H.out _).mono ?_; rintro e w1 ⟨rfl, k1, l1⟩)
  go_ret
  exact ⟨rfl, k1, l1⟩
set_option maxRecDepth 100000 in
theorem rSeek_any (w : World) (gm : Nat) (adl : Option Addr) (cpl : Nat) (L : List Pr) (A : Int) (key : List UInt8) (hl : L.length ≤ 10000) (hr : Row w adl (pv L)) (h : RL w gm adl cpl L A) :
    Calls Try.prog 25 #[.pointer (some ⟨gm, 0, none⟩), .string (str key)] w fun e w' => e = .returned (.int .i64 (endF L.length (Go.Proofs.Ytnbinodhdgnjlaa.posF L.length (lowF key L : Int)) : Int)) ∧ w.grownBy w' (some gm) ∧ RL w' gm adl cpl L (Go.Proofs.Ytnbinodhdgnjlaa.posF L.length (lowF key L : Int)) := by
  obtain ⟨hc0, hc1⟩ := Blk.two h
  have H := Lib.hid (fun i => rstand_any w gm adl cpl L A i h)
  clear h
  have HR := Lib.hid hr.pair
  obtain ⟨s, hs⟩ : ∃ s, s = lowF key L := ⟨_, rfl⟩
  have hsl : s ≤ L.length := by rw [hs]; exact lowF_le key L
  have HLT := Lib.hid (fun i (hi : i < s) => lowF_lt (key := key) (l := L) (i := i) (by rw [← hs]; exact hi))
  have HGE := Lib.hid (fun (hi : s < L.length) => (show bytesLess (L.getD s noPr).1 key = false by rw [hs] at hi ⊢; exact lowF_ge hi))
  rw [← hs]
  clear hr hs
  go_enter Try.func25, Try.ntmps25
  go_wp2
  go_loopw [5] (fun v wr => ∃ i : Nat, i ≤ s ∧ v = .int .i64 (i : Int) ∧ wr = w) (fun v _ => s - (intOf v).toNat)
  case atStart => exact ⟨0, Nat.zero_le _, rfl, by first | rfl | trivial⟩
  case round =>
    obtain ⟨i, his, rfl, rfl⟩ := hrel
    by_cases hi : i < s
    · have hil : i < L.length := by omega
      obtain ⟨bl, off, hb, z1, z2⟩ := HR.out i hil
      have hlt := HLT.out i hi
      rw [List.getD_eq_getElem?_getD, List.getElem?_eq_getElem hil, Option.getD_some] at hlt
      subst hb
      go_wp2
      go_roundw
      case rel => exact ⟨i + 1, hi, by go_num, by first | rfl | trivial⟩
      case measure => simp [intOf]; omega
    · obtain rfl : i = s := by omega
      by_cases hil : i < L.length
      · obtain ⟨bl, off, hb, z1, z2⟩ := HR.out i hil
        have hge := HGE.out hil
        rw [List.getD_eq_getElem?_getD, List.getElem?_eq_getElem hil, Option.getD_some] at hge
        subst hb
        go_wp2_with (go_at_call 49; refine (H.out _).mono ?_; rintro e w1 ⟨rfl, k1, l1⟩)
        go_ret
        exact ⟨rfl, k1, l1⟩
      · go_wp2_with (go_at_call 49; refine (H.out _).mono ?_; rintro e w1 ⟨rfl, k1, l1⟩)
        go_ret
        exact ⟨rfl, k1, l1⟩
set_option maxRecDepth 100000 in
set_option maxHeartbeats 1000000 in
theorem rPair_any (w : World) (gm : Nat) (adl : Option Addr) (cpl : Nat) (L : List Pr) (A : Int) (hl : L.length ≤ 10000) (hA : -1 ≤ A) (hA2 : A ≤ (L.length : Int)) (hr : Row w adl (pv L)) (h : RL w gm adl cpl L A) :
    Calls Try.prog 29 #[.pointer (some ⟨gm, 0, none⟩)] w fun e w' => e = .returned (.tuple #[.agg #[.string (str (pairAt L A).1.1), .string (str (pairAt L A).1.2)], .int .i64 ((pairAt L A).2 : Int)]) ∧ Gr w w' := by
  obtain ⟨hc0, hc1⟩ := Blk.two h
  have hgl := Blk.lt h
  clear h
  have HR := Lib.hid hr.pair
  clear hr
  by_cases h0 : A < 0
  · have HN := Lib.hid (show pairAt L A = (([], []), 15) by unfold pairAt; rw [if_pos (.inl h0)])
    go_enter Try.func29, Try.ntmps29
    go_wp2
    go_quiet (fail)
    go_wp2
    have b2 : Blk ((((w.alloc (.cells #[.string ⟨#[]⟩, .string ⟨#[]⟩] 31)).drewN nq).setCell ⟨w.heap.size, 0, none⟩ (.string ⟨#[]⟩)).setCell ⟨w.heap.size, 1, none⟩ (.string ⟨#[]⟩)) w.heap.size 31 [.string ⟨#[]⟩, .string ⟨#[]⟩] := (((Blk.new w 31 #[.string ⟨#[]⟩, .string ⟨#[]⟩]).gr (Gr.drewN _ nq)).set_ 0 (.string ⟨#[]⟩)).set_ 1 (.string ⟨#[]⟩)
    obtain ⟨d0, d1⟩ := Blk.two b2
    have gE : Gr w ((((w.alloc (.cells #[.string ⟨#[]⟩, .string ⟨#[]⟩] 31)).drewN nq).setCell ⟨w.heap.size, 0, none⟩ (.string ⟨#[]⟩)).setCell ⟨w.heap.size, 1, none⟩ (.string ⟨#[]⟩)) := Gr.of_far (Gr.of_far ((Gr.alloc w _).trans (Gr.drewN _ nq)) (grown_set _ _ 0 _) (Nat.le_refl _)) (grown_set _ _ 1 _) (Nat.le_refl _)
    refine bodyPost_ret (v := .tuple #[.agg #[.string ⟨#[]⟩, .string ⟨#[]⟩], .int .i64 15]) (by simp [results, Try.results29, go_sem, d0, d1]) rfl ?_
    rw [HN.out]
    exact ⟨rfl, gE⟩
  · by_cases h9 : A = (L.length : Int)
    · have HN := Lib.hid (show pairAt L A = (([], []), 15) by unfold pairAt; rw [if_pos (.inr h9)])
      subst h9
      go_enter Try.func29, Try.ntmps29
      go_wp2
      go_quiet (fail)
      go_wp2
      have b2 : Blk ((((w.alloc (.cells #[.string ⟨#[]⟩, .string ⟨#[]⟩] 31)).drewN nq).setCell ⟨w.heap.size, 0, none⟩ (.string ⟨#[]⟩)).setCell ⟨w.heap.size, 1, none⟩ (.string ⟨#[]⟩)) w.heap.size 31 [.string ⟨#[]⟩, .string ⟨#[]⟩] := (((Blk.new w 31 #[.string ⟨#[]⟩, .string ⟨#[]⟩]).gr (Gr.drewN _ nq)).set_ 0 (.string ⟨#[]⟩)).set_ 1 (.string ⟨#[]⟩)
      obtain ⟨d0, d1⟩ := Blk.two b2
      have gE : Gr w ((((w.alloc (.cells #[.string ⟨#[]⟩, .string ⟨#[]⟩] 31)).drewN nq).setCell ⟨w.heap.size, 0, none⟩ (.string ⟨#[]⟩)).setCell ⟨w.heap.size, 1, none⟩ (.string ⟨#[]⟩)) := Gr.of_far (Gr.of_far ((Gr.alloc w _).trans (Gr.drewN _ nq)) (grown_set _ _ 0 _) (Nat.le_refl _)) (grown_set _ _ 1 _) (Nat.le_refl _)
      refine bodyPost_ret (v := .tuple #[.agg #[.string ⟨#[]⟩, .string ⟨#[]⟩], .int .i64 15]) (by simp [results, Try.results29, go_sem, d0, d1]) rfl ?_
      rw [HN.out]
      exact ⟨rfl, gE⟩
    · obtain ⟨a, rfl⟩ : ∃ a : Nat, A = (a : Int) := ⟨A.toNat, by omega⟩
      have hal : a < L.length := by omega
      have HPA := Lib.hid (pairAt_in hal)
      obtain ⟨bl, off, hb, z1, z2⟩ := HR.out a hal
      have hp : L[a] = L.getD a noPr := by rw [List.getD_eq_getElem?_getD, List.getElem?_eq_getElem hal]; rfl
      rw [hp] at z1 z2
      have hbl : bl < w.heap.size := World.block_lt_of_cell? w _ z1
      generalize L.getD a noPr = p at *
      subst hb
      clear hp h9
      go_enter Try.func29, Try.ntmps29
      go_wp2
      go_quiet (fail)
      go_wp2
      have b1 : Blk ((w.alloc (.cells #[.string ⟨#[]⟩, .string ⟨#[]⟩] 31)).drewN nq) w.heap.size 31 [.string ⟨#[]⟩, .string ⟨#[]⟩] := (Blk.new w 31 #[.string ⟨#[]⟩, .string ⟨#[]⟩]).gr (Gr.drewN _ nq)
      have gV : Gr w ((w.alloc (.cells #[.string ⟨#[]⟩, .string ⟨#[]⟩] 31)).drewN nq) := (Gr.alloc w _).trans (Gr.drewN _ nq)
      obtain ⟨gp, hgp⟩ : ∃ gp, gp = w.heap.size := ⟨_, rfl⟩
      have hgp2 : w.heap.size ≤ gp := by omega
      rw [← hgp] at b1 ⊢
      clear hgp
      generalize (w.alloc (.cells #[.string ⟨#[]⟩, .string ⟨#[]⟩] 31)).drewN nq = V at *
      have y0 := gV.cell hc0
      have y1 := gV.cell hc1
      have y2 := gV.cell z1
      have y3 := gV.cell z2
      have HB1 := Lib.hid b1
      have HGV := Lib.hid gV
      clear hc0 hc1 z1 z2 b1 gV
      refine region_tail_gr 10 _ [Is ?r0, Is ?r1, Is ?r2, Is (.slice (some ⟨bl, off, none⟩) L.length cpl), Is ?r4, Is ?r5, Is ?r6, Is (.int .i64 (a : Int)), Is (.pointer (some ⟨bl, off + a * 2, none⟩)), Is (.agg #[.string (str p.1), .string (str p.2)])] (by kernel_rfl) (by kernel_rfl) (by kernel_rfl) (by kernel_rfl) rfl rfl ⟨Is.stable _, Is.stable _, Is.stable _, Is.stable _, Is.stable _, Is.stable _, Is.stable _, Is.stable _, Is.stable _, Is.stable _, trivial⟩ ⟨?s0, ?s1, ?s2, ?s3, ?s4, ?s5, ?s6, ?s7, ?s8, ?s9, trivial⟩ ?fin
      case' s0 | s1 | s2 | s3 | s4 | s5 | s6 | s7 | s8 | s9 =>
        intro ρ wr hρ hg hK
        simp [readsOf, slotsOf, Op.operands, Call.operands, tmpOf, List.filterMap_cons, List.filterMap_nil, KnownAll, knownOf, srcOf, depsOf, dstOf, Region.binds, nth, Is] at hK
        obtain ⟨hc, hf, hgl⟩ := hρ
        try simp only [wantedBy, dstOf, boolOf, nth, List.getD_cons_zero, List.getD_cons_succ, List.getElem?_cons_zero, List.getElem?_cons_succ, Option.bind_some, if_true, hK, BEq.rfl]
        try go_simp
        first | exact rfl | (rw [if_pos (by omega)]; exact is_here rfl) | (rw [dif_pos (by omega)]; exact is_here rfl) | exact congrArg (Value.int _) (IntWalk.i64_in _ ⟨by omega, by omega⟩) | skip
      case s3 => have := hg.cell y0; go_simp; exact rfl
      case s7 => have := hg.cell y1; go_simp; exact rfl
      case s9 => have := hg.cell y2; have := hg.cell y3; go_simp; exact rfl
      case fin =>
        intro w1 val hg hH
        simp only [Holds, Is, Nat.zero_add, Nat.reduceAdd] at hH
        obtain ⟨h0, h1, h2, h3, h4, h5, h6, h7, h8, h9, _⟩ := hH
        simp only [List.take_succ_cons, List.take_zero, List.drop_succ_cons, List.drop_zero, putAll, h0, h1, h2, h3, h4, h5, h6, h7, h8, h9, Nat.zero_add, Nat.reduceAdd]
        have hb1 := HB1.out.gr hg
        obtain ⟨x0, x1⟩ := Blk.two hb1
        have f0 := hb1.frozen 0
        have f1 := hb1.frozen 1
        have b2 : Blk ((w1.setCell ⟨gp, 0, none⟩ (.string (str p.1))).setCell ⟨gp, 1, none⟩ (.string (str p.2))) gp 31 [.string (str p.1), .string (str p.2)] := (hb1.set_ 0 (.string (str p.1))).set_ 1 (.string (str p.2))
        obtain ⟨d0, d1⟩ := Blk.two b2
        have HK2 := Lib.hid (grown_trans (grown_set w1 gp 0 (.string (str p.1))) (grown_set _ gp 1 (.string (str p.2))))
        clear hb1 b2
        go_simp
        go_wp2
        refine bodyPost_ret (v := .tuple #[.agg #[.string (str p.1), .string (str p.2)], .int .i64 0]) (by simp [results, Try.results29, go_sem, d0, d1]) rfl ?_
        rw [HPA.out]
        exact ⟨rfl, Gr.of_far (HGV.out.trans hg) HK2.out hgp2⟩
theorem none_any (w : World) : Calls Try.prog 17 #[] w fun e w' => e = .returned (.pointer none) ∧ w = w' := by
  go_enter Try.func17, Try.ntmps17
  go_wp2
  go_ret
  exact ⟨rfl, rfl⟩
theorem Seek_none (w : World) (s : ByteArray) : Calls Try.prog 19 #[.pointer none, .string s] w fun e w' => e = .returned (.int .i64 1) ∧ w = w' := by
  go_enter Try.func19, Try.ntmps19
  go_wp2
  go_ret
  exact ⟨rfl, rfl⟩
theorem Prev_none (w : World) : Calls Try.prog 20 #[.pointer none] w fun e w' => e = .returned (.int .i64 1) ∧ w = w' := by
  go_enter Try.func20, Try.ntmps20
  go_wp2
  go_ret
  exact ⟨rfl, rfl⟩
theorem Pair_none (w : World) : Calls Try.prog 18 #[.pointer none] w fun e w' => e = .returned (.tuple #[.agg #[.string ⟨#[]⟩, .string ⟨#[]⟩], .int .i64 1]) ∧ Gr w w' := by
  go_enter Try.func18, Try.ntmps18
  go_wp2
  have b2 : Blk (w.alloc (.cells #[.string ⟨#[]⟩, .string ⟨#[]⟩] 31)) w.heap.size 31 [.string ⟨#[]⟩, .string ⟨#[]⟩] := Blk.new w 31 #[.string ⟨#[]⟩, .string ⟨#[]⟩]
  obtain ⟨d0, d1⟩ := Blk.two b2
  refine bodyPost_ret (v := .tuple #[.agg #[.string ⟨#[]⟩, .string ⟨#[]⟩], .int .i64 1]) (by simp [results, Try.results18, go_sem, d0, d1]) rfl ?_
  exact ⟨rfl, Gr.alloc _ _⟩
end Go.Proofs.Ytnbinodhdgnjlaa
