/- Layer 1 (region): a piece of a region, walked. -/
import Derived.Test.YtfnimpgphagnfaaRegionFns
import Derived.Test.YtfnimpgphagnfaaRegionPut
namespace Go.Proofs.Ytfnimpgphagnfaa
set_option linter.unusedVariables false
set_option linter.unusedSimpArgs false
open Go.RowKit
theorem pieceF_ok {p : PoolF} {h : Hd} {s k : Nat} (hp : PoolOk p) (e : pieceF p h = ((s, k), 0)) : ∃ i o l : Nat, landF p h.region = some i ∧ i < 256 ∧ h.off = (o : Int) ∧ h.len = (l : Int) ∧ h.region = (i : Int) ∧ h.gen = ((landAt p i).gen : Int) ∧ 1 ≤ l ∧ o + l ≤ (landAt p i).fill ∧
    o / p.size < (landAt p i).slabs.length ∧ (landAt p i).slabs[o / p.size]? = some s ∧ k = o % p.size ∧ k + l ≤ p.size ∧ s < p.bytes.length := by
  unfold pieceF at e
  cases hl : landF p h.region with
  | none => rw [hl] at e; simp at e
  | some i =>
    obtain ⟨e0, hi, hth⟩ := landF_some hl
    have hlk := hp.ld i hi
    have hfl := hlk.fill_le
    have hs1 := hp.s1
    rw [hl] at e
    simp only at e
    split at e
    · simp at e
    · rename_i hg
      split at e
      · simp at e
      · rename_i hb
        split at e
        · simp at e
        · rename_i hf
          simp only [Prod.mk.injEq, and_true] at e
          have ho : h.off = ((h.off.toNat : Nat) : Int) := by omega
          have hln : h.len = ((h.len.toNat : Nat) : Int) := by omega
          have hlt : h.off.toNat / p.size < (landAt p i).slabs.length := by
            rw [Nat.div_lt_iff_lt_mul (by omega)]; omega
          have hsl : (landAt p i).slabs[h.off.toNat / p.size]? = some s := by
            rw [List.getElem?_eq_getElem hlt, ← e.1, List.getD_eq_getElem?_getD, List.getElem?_eq_getElem hlt]; rfl
          refine ⟨i, h.off.toNat, h.len.toNat, rfl, hi, ho, hln, e0, by omega, by omega, by omega, hlt, hsl, e.2.symm, by omega, ?_⟩
          exact hlk.lt s (List.mem_of_getElem? hsl)
set_option maxRecDepth 100000 in
set_option maxHeartbeats 4000000 in
theorem piece_e1 (w : World) (S : Nat → Prop) (g : Nat) (p : PoolF) (ads adt : Option Addr) (cs ct : Nat) (A : Nat → Option Addr) (C bd : Nat → Nat) (i : Nat) (hx : PX w S g p ads cs adt ct A C bd) (hl : landF p (i : Int) = some i) (hi : i < 256) (hs1 : 64 ≤ p.size) (hs2 : p.size ≤ 65536) (hfm : (landAt p i).fill ≤ 268435456) (of ln : Int) (hb : ln < 1) :
    Calls Try.prog 36 #[.pointer (some ⟨g, 0, none⟩), .agg #[.int .i64 (i : Int), .int .i64 ((landAt p i).gen : Int), .int .i64 of, .int .i64 ln]] w fun e w' => e = .returned (.tuple #[.slice none 0 0, .int .i64 1]) ∧ Gr w w' := by
  have HLA := Lib.hid (fun w' (k : Gr w w') => land_any w' S g p (i : Int) ⟨ads, cs, adt, ct, A, C, bd, hx.gr k⟩)
  rw [hl] at HLA
  have hx1 := hx.gr (Gr.alloc w (.cells #[.int .i64 (i : Int), .int .i64 ((landAt p i).gen : Int), .int .i64 of, .int .i64 ln] 33))
  obtain ⟨c0, c1, _⟩ := hx1.head
  obtain ⟨_, l1, l2, l3⟩ := hx1.lcell hi
  obtain ⟨h0, h1, h2, h3, _⟩ := Blk.four (Blk.new w 33 #[.int .i64 (i : Int), .int .i64 ((landAt p i).gen : Int), .int .i64 of, .int .i64 ln])
  clear hx1
  clear hx hl
  go_enter Try.func36, Try.ntmps36
  go_wp2_with (first
    | (go_at_call 34; refine (HLA.out _ (Gr.alloc _ _)).mono ?_; rintro e w1 ⟨rfl, rfl⟩)
    | fail)
  go_quiet (fail)
  have gV : Gr (w.alloc (.cells #[.int .i64 (i : Int), .int .i64 ((landAt p i).gen : Int), .int .i64 of, .int .i64 ln] 33)) ((w.alloc (.cells #[.int .i64 (i : Int), .int .i64 ((landAt p i).gen : Int), .int .i64 of, .int .i64 ln] 33)).drewN nq) := Gr.drewN _ nq
  have c0a := gV.cell c0
  have c1a := gV.cell c1
  have l1a := gV.cell l1
  have l2a := gV.cell l2
  have l3a := gV.cell l3
  have h1a := gV.cell h1
  have h2a := gV.cell h2
  have h3a := gV.cell h3

  have GW : Gr w ((w.alloc (.cells #[.int .i64 (i : Int), .int .i64 ((landAt p i).gen : Int), .int .i64 of, .int .i64 ln] 33)).drewN nq) := (Gr.alloc w _).trans gV
  clear gV c0 c1 l1 l2 l3 h0 h1 h2 h3
  generalize (w.alloc (.cells #[.int .i64 (i : Int), .int .i64 ((landAt p i).gen : Int), .int .i64 of, .int .i64 ln] 33)).drewN nq = V at *
  go_wp2
  clear c0a c1a l1a l2a
  go_quiet (fail)
  go_wp2
  go_ret2
  exact ⟨rfl, GW.trans (Gr.drewN _ _)⟩

set_option maxRecDepth 100000 in
set_option maxHeartbeats 4000000 in
theorem piece_e2 (w : World) (S : Nat → Prop) (g : Nat) (p : PoolF) (ads adt : Option Addr) (cs ct : Nat) (A : Nat → Option Addr) (C bd : Nat → Nat) (i : Nat) (hx : PX w S g p ads cs adt ct A C bd) (hl : landF p (i : Int) = some i) (hi : i < 256) (hs1 : 64 ≤ p.size) (hs2 : p.size ≤ 65536) (hfm : (landAt p i).fill ≤ 268435456) (of ln : Int) (hb0 : ¬ ln < 1) (hb : of < 0) :
    Calls Try.prog 36 #[.pointer (some ⟨g, 0, none⟩), .agg #[.int .i64 (i : Int), .int .i64 ((landAt p i).gen : Int), .int .i64 of, .int .i64 ln]] w fun e w' => e = .returned (.tuple #[.slice none 0 0, .int .i64 1]) ∧ Gr w w' := by
  have HLA := Lib.hid (fun w' (k : Gr w w') => land_any w' S g p (i : Int) ⟨ads, cs, adt, ct, A, C, bd, hx.gr k⟩)
  rw [hl] at HLA
  have hx1 := hx.gr (Gr.alloc w (.cells #[.int .i64 (i : Int), .int .i64 ((landAt p i).gen : Int), .int .i64 of, .int .i64 ln] 33))
  obtain ⟨c0, c1, _⟩ := hx1.head
  obtain ⟨_, l1, l2, l3⟩ := hx1.lcell hi
  obtain ⟨h0, h1, h2, h3, _⟩ := Blk.four (Blk.new w 33 #[.int .i64 (i : Int), .int .i64 ((landAt p i).gen : Int), .int .i64 of, .int .i64 ln])
  have k1 : decide (ln < 1) = false := decide_eq_false hb0
  have k2 : decide (of < 0) = true := decide_eq_true hb
  clear hb0 hb
  clear hx1
  clear hx hl
  go_enter Try.func36, Try.ntmps36
  go_wp2_with (first
    | (go_at_call 34; refine (HLA.out _ (Gr.alloc _ _)).mono ?_; rintro e w1 ⟨rfl, rfl⟩)
    | fail)
  go_quiet (fail)
  have gV : Gr (w.alloc (.cells #[.int .i64 (i : Int), .int .i64 ((landAt p i).gen : Int), .int .i64 of, .int .i64 ln] 33)) ((w.alloc (.cells #[.int .i64 (i : Int), .int .i64 ((landAt p i).gen : Int), .int .i64 of, .int .i64 ln] 33)).drewN nq) := Gr.drewN _ nq
  have c0a := gV.cell c0
  have c1a := gV.cell c1
  have l1a := gV.cell l1
  have l2a := gV.cell l2
  have l3a := gV.cell l3
  have h1a := gV.cell h1
  have h2a := gV.cell h2
  have h3a := gV.cell h3

  have GW : Gr w ((w.alloc (.cells #[.int .i64 (i : Int), .int .i64 ((landAt p i).gen : Int), .int .i64 of, .int .i64 ln] 33)).drewN nq) := (Gr.alloc w _).trans gV
  clear gV c0 c1 l1 l2 l3 h0 h1 h2 h3
  generalize (w.alloc (.cells #[.int .i64 (i : Int), .int .i64 ((landAt p i).gen : Int), .int .i64 of, .int .i64 ln] 33)).drewN nq = V at *
  go_wp2
  clear c0a c1a l1a l2a
  go_quiet (fail)
  go_wp2
  go_ret2
  exact ⟨rfl, GW.trans (Gr.drewN _ _)⟩

set_option maxRecDepth 100000 in
set_option maxHeartbeats 4000000 in
theorem piece_e3 (w : World) (S : Nat → Prop) (g : Nat) (p : PoolF) (ads adt : Option Addr) (cs ct : Nat) (A : Nat → Option Addr) (C bd : Nat → Nat) (i : Nat) (hx : PX w S g p ads cs adt ct A C bd) (hl : landF p (i : Int) = some i) (hi : i < 256) (hs1 : 64 ≤ p.size) (hs2 : p.size ≤ 65536) (hfm : (landAt p i).fill ≤ 268435456) (o l : Nat) (hb0 : 1 ≤ l) (hb : o > (landAt p i).fill) :
    Calls Try.prog 36 #[.pointer (some ⟨g, 0, none⟩), .agg #[.int .i64 (i : Int), .int .i64 ((landAt p i).gen : Int), .int .i64 (o : Int), .int .i64 (l : Int)]] w fun e w' => e = .returned (.tuple #[.slice none 0 0, .int .i64 1]) ∧ Gr w w' := by
  have HLA := Lib.hid (fun w' (k : Gr w w') => land_any w' S g p (i : Int) ⟨ads, cs, adt, ct, A, C, bd, hx.gr k⟩)
  rw [hl] at HLA
  have hx1 := hx.gr (Gr.alloc w (.cells #[.int .i64 (i : Int), .int .i64 ((landAt p i).gen : Int), .int .i64 (o : Int), .int .i64 (l : Int)] 33))
  obtain ⟨c0, c1, _⟩ := hx1.head
  obtain ⟨_, l1, l2, l3⟩ := hx1.lcell hi
  obtain ⟨h0, h1, h2, h3, _⟩ := Blk.four (Blk.new w 33 #[.int .i64 (i : Int), .int .i64 ((landAt p i).gen : Int), .int .i64 (o : Int), .int .i64 (l : Int)])
  have k1 : decide ((l : Int) < 1) = false := decide_eq_false (by omega)
  have k2 : decide ((o : Int) < 0) = false := decide_eq_false (by omega)
  have k3 : decide (((landAt p i).fill : Int) < (o : Int)) = true := decide_eq_true (by omega)
  have k4 : decide ((landAt p i).fill < o) = true := decide_eq_true (by omega)
  clear hx1
  clear hx hl
  go_enter Try.func36, Try.ntmps36
  go_wp2_with (first
    | (go_at_call 34; refine (HLA.out _ (Gr.alloc _ _)).mono ?_; rintro e w1 ⟨rfl, rfl⟩)
    | fail)
  go_quiet (fail)
  have gV : Gr (w.alloc (.cells #[.int .i64 (i : Int), .int .i64 ((landAt p i).gen : Int), .int .i64 (o : Int), .int .i64 (l : Int)] 33)) ((w.alloc (.cells #[.int .i64 (i : Int), .int .i64 ((landAt p i).gen : Int), .int .i64 (o : Int), .int .i64 (l : Int)] 33)).drewN nq) := Gr.drewN _ nq
  have c0a := gV.cell c0
  have c1a := gV.cell c1
  have l1a := gV.cell l1
  have l2a := gV.cell l2
  have l3a := gV.cell l3
  have h1a := gV.cell h1
  have h2a := gV.cell h2
  have h3a := gV.cell h3

  have GW : Gr w ((w.alloc (.cells #[.int .i64 (i : Int), .int .i64 ((landAt p i).gen : Int), .int .i64 (o : Int), .int .i64 (l : Int)] 33)).drewN nq) := (Gr.alloc w _).trans gV
  clear gV c0 c1 l1 l2 l3 h0 h1 h2 h3
  generalize (w.alloc (.cells #[.int .i64 (i : Int), .int .i64 ((landAt p i).gen : Int), .int .i64 (o : Int), .int .i64 (l : Int)] 33)).drewN nq = V at *
  go_wp2
  clear c0a c1a l1a l2a
  go_quiet (fail)
  go_wp2
  go_ret2
  exact ⟨rfl, GW.trans (Gr.drewN _ _)⟩

set_option maxRecDepth 100000 in
set_option maxHeartbeats 4000000 in
theorem piece_e4 (w : World) (S : Nat → Prop) (g : Nat) (p : PoolF) (ads adt : Option Addr) (cs ct : Nat) (A : Nat → Option Addr) (C bd : Nat → Nat) (i : Nat) (hx : PX w S g p ads cs adt ct A C bd) (hl : landF p (i : Int) = some i) (hi : i < 256) (hs1 : 64 ≤ p.size) (hs2 : p.size ≤ 65536) (hfm : (landAt p i).fill ≤ 268435456) (o l : Nat) (hb0 : 1 ≤ l) (hb1 : o ≤ (landAt p i).fill) (hb : l > (landAt p i).fill - o) :
    Calls Try.prog 36 #[.pointer (some ⟨g, 0, none⟩), .agg #[.int .i64 (i : Int), .int .i64 ((landAt p i).gen : Int), .int .i64 (o : Int), .int .i64 (l : Int)]] w fun e w' => e = .returned (.tuple #[.slice none 0 0, .int .i64 1]) ∧ Gr w w' := by
  have HLA := Lib.hid (fun w' (k : Gr w w') => land_any w' S g p (i : Int) ⟨ads, cs, adt, ct, A, C, bd, hx.gr k⟩)
  rw [hl] at HLA
  have hx1 := hx.gr (Gr.alloc w (.cells #[.int .i64 (i : Int), .int .i64 ((landAt p i).gen : Int), .int .i64 (o : Int), .int .i64 (l : Int)] 33))
  obtain ⟨c0, c1, _⟩ := hx1.head
  obtain ⟨_, l1, l2, l3⟩ := hx1.lcell hi
  obtain ⟨h0, h1, h2, h3, _⟩ := Blk.four (Blk.new w 33 #[.int .i64 (i : Int), .int .i64 ((landAt p i).gen : Int), .int .i64 (o : Int), .int .i64 (l : Int)])
  have k1 : decide ((l : Int) < 1) = false := decide_eq_false (by omega)
  have k2 : decide ((o : Int) < 0) = false := decide_eq_false (by omega)
  have k3 : decide (((landAt p i).fill : Int) < (o : Int)) = false := decide_eq_false (by omega)
  have k4 : decide ((landAt p i).fill < o) = false := decide_eq_false (by omega)
  obtain ⟨q, hq⟩ : ∃ q, q = (landAt p i).fill - o := ⟨_, rfl⟩
  have hqi : ((landAt p i).fill : Int) - (o : Int) = (q : Int) := by omega
  have k5 : decide ((q : Int) < (l : Int)) = true := decide_eq_true (by omega)
  have k6 : decide (q < l) = true := decide_eq_true (by omega)
  clear hq
  clear hx1
  clear hx hl
  go_enter Try.func36, Try.ntmps36
  go_wp2_with (first
    | (go_at_call 34; refine (HLA.out _ (Gr.alloc _ _)).mono ?_; rintro e w1 ⟨rfl, rfl⟩)
    | fail)
  go_quiet (fail)
  have gV : Gr (w.alloc (.cells #[.int .i64 (i : Int), .int .i64 ((landAt p i).gen : Int), .int .i64 (o : Int), .int .i64 (l : Int)] 33)) ((w.alloc (.cells #[.int .i64 (i : Int), .int .i64 ((landAt p i).gen : Int), .int .i64 (o : Int), .int .i64 (l : Int)] 33)).drewN nq) := Gr.drewN _ nq
  have c0a := gV.cell c0
  have c1a := gV.cell c1
  have l1a := gV.cell l1
  have l2a := gV.cell l2
  have l3a := gV.cell l3
  have h1a := gV.cell h1
  have h2a := gV.cell h2
  have h3a := gV.cell h3

  have GW : Gr w ((w.alloc (.cells #[.int .i64 (i : Int), .int .i64 ((landAt p i).gen : Int), .int .i64 (o : Int), .int .i64 (l : Int)] 33)).drewN nq) := (Gr.alloc w _).trans gV
  clear gV c0 c1 l1 l2 l3 h0 h1 h2 h3
  generalize (w.alloc (.cells #[.int .i64 (i : Int), .int .i64 ((landAt p i).gen : Int), .int .i64 (o : Int), .int .i64 (l : Int)] 33)).drewN nq = V at *
  go_wp2
  clear c0a c1a l1a l2a
  go_quiet (fail)
  go_wp2
  go_ret2
  exact ⟨rfl, GW.trans (Gr.drewN _ _)⟩

end Go.Proofs.Ytfnimpgphagnfaa
