/- Layer 1 (region): pieces: what each holds, whatever is done to others. No walk here. -/
import Derived.Test.YtnafhjgfkofkbaaBunC
import Derived.Test.YtnafhjgfkofkbaaBunA
import Derived.Lib.SliceRun
/- Layer 1 (region): a piece of a region, walked. -/
namespace Go.Proofs.Ytnafhjgfkofkbaa
set_option linter.unusedVariables false
set_option linter.unusedSimpArgs false
open Go.RowKit
theorem pieceF_ok {p : PoolF} {h : Hd} {s k : Nat} (hp : PoolOk p) (e : pieceF p h = ((s, k), 0)) : ∃ i o l : Nat, landF p h.region = some i ∧ i < 256 ∧ h.off = (o : Int) ∧ h.len = (l : Int) ∧ h.region = (i : Int) ∧ h.gen = ((landAt p i).gen : Int) ∧ 1 ≤ l ∧ o + l ≤ (landAt p i).fill ∧
    o / p.size < (landAt p i).slabs.length ∧ (landAt p i).slabs[o / p.size]? = some s ∧ k = o % p.size ∧ k + l ≤ p.size ∧ s < p.bytes.length := by
  unfold pieceF at e
  cases hl : landF p h.region with
  | none => rw [hl] at e; simp at e
  | some i =>
    obtain ⟨e0, hi, hth⟩ := landF_some hl
    have hlk := hp.ld i hi
    have hfl := hlk.fill_le
    have hs1 := hp.s1
    rw [hl] at e
    simp only at e
    split at e
    · simp at e
    · rename_i hg
      split at e
      · simp at e
      · rename_i hb
        split at e
        · simp at e
        · rename_i hf
          simp only [Prod.mk.injEq, and_true] at e
          have ho : h.off = ((h.off.toNat : Nat) : Int) := by omega
          have hln : h.len = ((h.len.toNat : Nat) : Int) := by omega
          have hlt : h.off.toNat / p.size < (landAt p i).slabs.length := by
            rw [Nat.div_lt_iff_lt_mul (by omega)]; omega
          have hsl : (landAt p i).slabs[h.off.toNat / p.size]? = some s := by
            rw [List.getElem?_eq_getElem hlt, ← e.1, List.getD_eq_getElem?_getD, List.getElem?_eq_getElem hlt]; rfl
          refine ⟨i, h.off.toNat, h.len.toNat, rfl, hi, ho, hln, e0, by omega, by omega, by omega, hlt, hsl, e.2.symm, by omega, ?_⟩
          exact hlk.lt s (List.mem_of_getElem? hsl)
set_option maxRecDepth 100000 in
set_option maxHeartbeats 4000000 in
theorem piece_e1 (w : World) (S : Nat → Prop) (g : Nat) (p : PoolF) (ads adt : Option Addr) (cs ct : Nat) (A : Nat → Option Addr) (C bd : Nat → Nat) (i : Nat) (hx : PX w S g p ads cs adt ct A C bd) (hl : landF p (i : Int) = some i) (hi : i < 256) (hs1 : 64 ≤ p.size) (hs2 : p.size ≤ 65536) (hfm : (landAt p i).fill ≤ 268435456) (of ln : Int) (hb : ln < 1) :
    Calls Try.prog 68 #[.pointer (some ⟨g, 0, none⟩), .agg #[.int .i64 (i : Int), .int .i64 ((landAt p i).gen : Int), .int .i64 of, .int .i64 ln]] w fun e w' => e = .returned (.tuple #[.slice none 0 0, .int .i64 1]) ∧ Gr w w' := by
  have HLA := Lib.hid (fun w' (k : Gr w w') => land_any w' S g p (i : Int) ⟨ads, cs, adt, ct, A, C, bd, hx.gr k⟩)
  rw [hl] at HLA
  have hx1 := hx.gr (Gr.alloc w (.cells #[.int .i64 (i : Int), .int .i64 ((landAt p i).gen : Int), .int .i64 of, .int .i64 ln] 93))
  obtain ⟨c0, c1, _⟩ := hx1.head
  obtain ⟨_, l1, l2, l3⟩ := hx1.lcell hi
  obtain ⟨h0, h1, h2, h3, _⟩ := Blk.four (Blk.new w 93 #[.int .i64 (i : Int), .int .i64 ((landAt p i).gen : Int), .int .i64 of, .int .i64 ln])
  clear hx1
  clear hx hl
  go_enter Try.func68, Try.ntmps68
  go_wp2_with (first
    | (go_at_call 66; refine (HLA.out _ (Gr.alloc _ _)).mono ?_; rintro e w1 ⟨rfl, rfl⟩)
    | fail)
  go_quiet (fail)
  have gV : Gr (w.alloc (.cells #[.int .i64 (i : Int), .int .i64 ((landAt p i).gen : Int), .int .i64 of, .int .i64 ln] 93)) ((w.alloc (.cells #[.int .i64 (i : Int), .int .i64 ((landAt p i).gen : Int), .int .i64 of, .int .i64 ln] 93)).drewN nq) := Gr.drewN _ nq
  have c0a := gV.cell c0
  have c1a := gV.cell c1
  have l1a := gV.cell l1
  have l2a := gV.cell l2
  have l3a := gV.cell l3
  have h1a := gV.cell h1
  have h2a := gV.cell h2
  have h3a := gV.cell h3

  have GW : Gr w ((w.alloc (.cells #[.int .i64 (i : Int), .int .i64 ((landAt p i).gen : Int), .int .i64 of, .int .i64 ln] 93)).drewN nq) := (Gr.alloc w _).trans gV
  clear gV c0 c1 l1 l2 l3 h0 h1 h2 h3
  generalize (w.alloc (.cells #[.int .i64 (i : Int), .int .i64 ((landAt p i).gen : Int), .int .i64 of, .int .i64 ln] 93)).drewN nq = V at *
  go_wp2
  clear c0a c1a l1a l2a
  go_quiet (fail)
  go_wp2
  go_ret2
  exact ⟨rfl, GW.trans (Gr.drewN _ _)⟩

set_option maxRecDepth 100000 in
set_option maxHeartbeats 4000000 in
theorem piece_e2 (w : World) (S : Nat → Prop) (g : Nat) (p : PoolF) (ads adt : Option Addr) (cs ct : Nat) (A : Nat → Option Addr) (C bd : Nat → Nat) (i : Nat) (hx : PX w S g p ads cs adt ct A C bd) (hl : landF p (i : Int) = some i) (hi : i < 256) (hs1 : 64 ≤ p.size) (hs2 : p.size ≤ 65536) (hfm : (landAt p i).fill ≤ 268435456) (of ln : Int) (hb0 : ¬ ln < 1) (hb : of < 0) :
    Calls Try.prog 68 #[.pointer (some ⟨g, 0, none⟩), .agg #[.int .i64 (i : Int), .int .i64 ((landAt p i).gen : Int), .int .i64 of, .int .i64 ln]] w fun e w' => e = .returned (.tuple #[.slice none 0 0, .int .i64 1]) ∧ Gr w w' := by
  have HLA := Lib.hid (fun w' (k : Gr w w') => land_any w' S g p (i : Int) ⟨ads, cs, adt, ct, A, C, bd, hx.gr k⟩)
  rw [hl] at HLA
  have hx1 := hx.gr (Gr.alloc w (.cells #[.int .i64 (i : Int), .int .i64 ((landAt p i).gen : Int), .int .i64 of, .int .i64 ln] 93))
  obtain ⟨c0, c1, _⟩ := hx1.head
  obtain ⟨_, l1, l2, l3⟩ := hx1.lcell hi
  obtain ⟨h0, h1, h2, h3, _⟩ := Blk.four (Blk.new w 93 #[.int .i64 (i : Int), .int .i64 ((landAt p i).gen : Int), .int .i64 of, .int .i64 ln])
  have k1 : decide (ln < 1) = false := decide_eq_false hb0
  have k2 : decide (of < 0) = true := decide_eq_true hb
  clear hb0 hb
  clear hx1
  clear hx hl
  go_enter Try.func68, Try.ntmps68
  go_wp2_with (first
    | (go_at_call 66; refine (HLA.out _ (Gr.alloc _ _)).mono ?_; rintro e w1 ⟨rfl, rfl⟩)
    | fail)
  go_quiet (fail)
  have gV : Gr (w.alloc (.cells #[.int .i64 (i : Int), .int .i64 ((landAt p i).gen : Int), .int .i64 of, .int .i64 ln] 93)) ((w.alloc (.cells #[.int .i64 (i : Int), .int .i64 ((landAt p i).gen : Int), .int .i64 of, .int .i64 ln] 93)).drewN nq) := Gr.drewN _ nq
  have c0a := gV.cell c0
  have c1a := gV.cell c1
  have l1a := gV.cell l1
  have l2a := gV.cell l2
  have l3a := gV.cell l3
  have h1a := gV.cell h1
  have h2a := gV.cell h2
  have h3a := gV.cell h3

  have GW : Gr w ((w.alloc (.cells #[.int .i64 (i : Int), .int .i64 ((landAt p i).gen : Int), .int .i64 of, .int .i64 ln] 93)).drewN nq) := (Gr.alloc w _).trans gV
  clear gV c0 c1 l1 l2 l3 h0 h1 h2 h3
  generalize (w.alloc (.cells #[.int .i64 (i : Int), .int .i64 ((landAt p i).gen : Int), .int .i64 of, .int .i64 ln] 93)).drewN nq = V at *
  go_wp2
  clear c0a c1a l1a l2a
  go_quiet (fail)
  go_wp2
  go_ret2
  exact ⟨rfl, GW.trans (Gr.drewN _ _)⟩

set_option maxRecDepth 100000 in
set_option maxHeartbeats 4000000 in
theorem piece_e3 (w : World) (S : Nat → Prop) (g : Nat) (p : PoolF) (ads adt : Option Addr) (cs ct : Nat) (A : Nat → Option Addr) (C bd : Nat → Nat) (i : Nat) (hx : PX w S g p ads cs adt ct A C bd) (hl : landF p (i : Int) = some i) (hi : i < 256) (hs1 : 64 ≤ p.size) (hs2 : p.size ≤ 65536) (hfm : (landAt p i).fill ≤ 268435456) (o l : Nat) (hb0 : 1 ≤ l) (hb : o > (landAt p i).fill) :
    Calls Try.prog 68 #[.pointer (some ⟨g, 0, none⟩), .agg #[.int .i64 (i : Int), .int .i64 ((landAt p i).gen : Int), .int .i64 (o : Int), .int .i64 (l : Int)]] w fun e w' => e = .returned (.tuple #[.slice none 0 0, .int .i64 1]) ∧ Gr w w' := by
  have HLA := Lib.hid (fun w' (k : Gr w w') => land_any w' S g p (i : Int) ⟨ads, cs, adt, ct, A, C, bd, hx.gr k⟩)
  rw [hl] at HLA
  have hx1 := hx.gr (Gr.alloc w (.cells #[.int .i64 (i : Int), .int .i64 ((landAt p i).gen : Int), .int .i64 (o : Int), .int .i64 (l : Int)] 93))
  obtain ⟨c0, c1, _⟩ := hx1.head
  obtain ⟨_, l1, l2, l3⟩ := hx1.lcell hi
  obtain ⟨h0, h1, h2, h3, _⟩ := Blk.four (Blk.new w 93 #[.int .i64 (i : Int), .int .i64 ((landAt p i).gen : Int), .int .i64 (o : Int), .int .i64 (l : Int)])
  have k1 : decide ((l : Int) < 1) = false := decide_eq_false (by omega)
  have k2 : decide ((o : Int) < 0) = false := decide_eq_false (by omega)
  have k3 : decide (((landAt p i).fill : Int) < (o : Int)) = true := decide_eq_true (by omega)
  have k4 : decide ((landAt p i).fill < o) = true := decide_eq_true (by omega)
  clear hx1
  clear hx hl
  go_enter Try.func68, Try.ntmps68
  go_wp2_with (first
    | (go_at_call 66; refine (HLA.out _ (Gr.alloc _ _)).mono ?_; rintro e w1 ⟨rfl, rfl⟩)
    | fail)
  go_quiet (fail)
  have gV : Gr (w.alloc (.cells #[.int .i64 (i : Int), .int .i64 ((landAt p i).gen : Int), .int .i64 (o : Int), .int .i64 (l : Int)] 93)) ((w.alloc (.cells #[.int .i64 (i : Int), .int .i64 ((landAt p i).gen : Int), .int .i64 (o : Int), .int .i64 (l : Int)] 93)).drewN nq) := Gr.drewN _ nq
  have c0a := gV.cell c0
  have c1a := gV.cell c1
  have l1a := gV.cell l1
  have l2a := gV.cell l2
  have l3a := gV.cell l3
  have h1a := gV.cell h1
  have h2a := gV.cell h2
  have h3a := gV.cell h3

  have GW : Gr w ((w.alloc (.cells #[.int .i64 (i : Int), .int .i64 ((landAt p i).gen : Int), .int .i64 (o : Int), .int .i64 (l : Int)] 93)).drewN nq) := (Gr.alloc w _).trans gV
  clear gV c0 c1 l1 l2 l3 h0 h1 h2 h3
  generalize (w.alloc (.cells #[.int .i64 (i : Int), .int .i64 ((landAt p i).gen : Int), .int .i64 (o : Int), .int .i64 (l : Int)] 93)).drewN nq = V at *
  go_wp2
  clear c0a c1a l1a l2a
  go_quiet (fail)
  go_wp2
  go_ret2
  exact ⟨rfl, GW.trans (Gr.drewN _ _)⟩

set_option maxRecDepth 100000 in
set_option maxHeartbeats 4000000 in
theorem piece_e4 (w : World) (S : Nat → Prop) (g : Nat) (p : PoolF) (ads adt : Option Addr) (cs ct : Nat) (A : Nat → Option Addr) (C bd : Nat → Nat) (i : Nat) (hx : PX w S g p ads cs adt ct A C bd) (hl : landF p (i : Int) = some i) (hi : i < 256) (hs1 : 64 ≤ p.size) (hs2 : p.size ≤ 65536) (hfm : (landAt p i).fill ≤ 268435456) (o l : Nat) (hb0 : 1 ≤ l) (hb1 : o ≤ (landAt p i).fill) (hb : l > (landAt p i).fill - o) :
    Calls Try.prog 68 #[.pointer (some ⟨g, 0, none⟩), .agg #[.int .i64 (i : Int), .int .i64 ((landAt p i).gen : Int), .int .i64 (o : Int), .int .i64 (l : Int)]] w fun e w' => e = .returned (.tuple #[.slice none 0 0, .int .i64 1]) ∧ Gr w w' := by
  have HLA := Lib.hid (fun w' (k : Gr w w') => land_any w' S g p (i : Int) ⟨ads, cs, adt, ct, A, C, bd, hx.gr k⟩)
  rw [hl] at HLA
  have hx1 := hx.gr (Gr.alloc w (.cells #[.int .i64 (i : Int), .int .i64 ((landAt p i).gen : Int), .int .i64 (o : Int), .int .i64 (l : Int)] 93))
  obtain ⟨c0, c1, _⟩ := hx1.head
  obtain ⟨_, l1, l2, l3⟩ := hx1.lcell hi
  obtain ⟨h0, h1, h2, h3, _⟩ := Blk.four (Blk.new w 93 #[.int .i64 (i : Int), .int .i64 ((landAt p i).gen : Int), .int .i64 (o : Int), .int .i64 (l : Int)])
  have k1 : decide ((l : Int) < 1) = false := decide_eq_false (by omega)
  have k2 : decide ((o : Int) < 0) = false := decide_eq_false (by omega)
  have k3 : decide (((landAt p i).fill : Int) < (o : Int)) = false := decide_eq_false (by omega)
  have k4 : decide ((landAt p i).fill < o) = false := decide_eq_false (by omega)
  obtain ⟨q, hq⟩ : ∃ q, q = (landAt p i).fill - o := ⟨_, rfl⟩
  have hqi : ((landAt p i).fill : Int) - (o : Int) = (q : Int) := by omega
  have k5 : decide ((q : Int) < (l : Int)) = true := decide_eq_true (by omega)
  have k6 : decide (q < l) = true := decide_eq_true (by omega)
  clear hq
  clear hx1
  clear hx hl
  go_enter Try.func68, Try.ntmps68
  go_wp2_with (first
    | (go_at_call 66; refine (HLA.out _ (Gr.alloc _ _)).mono ?_; rintro e w1 ⟨rfl, rfl⟩)
    | fail)
  go_quiet (fail)
  have gV : Gr (w.alloc (.cells #[.int .i64 (i : Int), .int .i64 ((landAt p i).gen : Int), .int .i64 (o : Int), .int .i64 (l : Int)] 93)) ((w.alloc (.cells #[.int .i64 (i : Int), .int .i64 ((landAt p i).gen : Int), .int .i64 (o : Int), .int .i64 (l : Int)] 93)).drewN nq) := Gr.drewN _ nq
  have c0a := gV.cell c0
  have c1a := gV.cell c1
  have l1a := gV.cell l1
  have l2a := gV.cell l2
  have l3a := gV.cell l3
  have h1a := gV.cell h1
  have h2a := gV.cell h2
  have h3a := gV.cell h3

  have GW : Gr w ((w.alloc (.cells #[.int .i64 (i : Int), .int .i64 ((landAt p i).gen : Int), .int .i64 (o : Int), .int .i64 (l : Int)] 93)).drewN nq) := (Gr.alloc w _).trans gV
  clear gV c0 c1 l1 l2 l3 h0 h1 h2 h3
  generalize (w.alloc (.cells #[.int .i64 (i : Int), .int .i64 ((landAt p i).gen : Int), .int .i64 (o : Int), .int .i64 (l : Int)] 93)).drewN nq = V at *
  go_wp2
  clear c0a c1a l1a l2a
  go_quiet (fail)
  go_wp2
  go_ret2
  exact ⟨rfl, GW.trans (Gr.drewN _ _)⟩

end Go.Proofs.Ytnafhjgfkofkbaa
/- Layer 1 (region): a piece of a region, walked: the other cases. -/
namespace Go.Proofs.Ytnafhjgfkofkbaa
set_option linter.unusedVariables false
set_option linter.unusedSimpArgs false
open Go.RowKit
set_option maxRecDepth 100000 in
set_option maxHeartbeats 4000000 in
theorem piece_e5 (w : World) (S : Nat → Prop) (g : Nat) (p : PoolF) (ads adt : Option Addr) (cs ct : Nat) (A : Nat → Option Addr) (C bd : Nat → Nat) (i : Nat) (hx : PX w S g p ads cs adt ct A C bd) (hl : landF p (i : Int) = some i) (hi : i < 256) (hs1 : 64 ≤ p.size) (hs2 : p.size ≤ 65536) (hfm : (landAt p i).fill ≤ 268435456) (o l : Nat) (hb0 : 1 ≤ l) (hb1 : o ≤ (landAt p i).fill) (hb : l ≤ (landAt p i).fill - o) (hk2 : o % p.size + l > p.size) :
    Calls Try.prog 68 #[.pointer (some ⟨g, 0, none⟩), .agg #[.int .i64 (i : Int), .int .i64 ((landAt p i).gen : Int), .int .i64 (o : Int), .int .i64 (l : Int)]] w fun e w' => e = .returned (.tuple #[.slice none 0 0, .int .i64 1]) ∧ Gr w w' := by
  have HLA := Lib.hid (fun w' (k : Gr w w') => land_any w' S g p (i : Int) ⟨ads, cs, adt, ct, A, C, bd, hx.gr k⟩)
  rw [hl] at HLA
  have hx1 := hx.gr (Gr.alloc w (.cells #[.int .i64 (i : Int), .int .i64 ((landAt p i).gen : Int), .int .i64 (o : Int), .int .i64 (l : Int)] 93))
  obtain ⟨c0, c1, _⟩ := hx1.head
  obtain ⟨_, l1, l2, l3⟩ := hx1.lcell hi
  obtain ⟨h0, h1, h2, h3, _⟩ := Blk.four (Blk.new w 93 #[.int .i64 (i : Int), .int .i64 ((landAt p i).gen : Int), .int .i64 (o : Int), .int .i64 (l : Int)])
  have k1 : decide ((l : Int) < 1) = false := decide_eq_false (by omega)
  have k2 : decide ((o : Int) < 0) = false := decide_eq_false (by omega)
  have k3 : decide (((landAt p i).fill : Int) < (o : Int)) = false := decide_eq_false (by omega)
  have k4 : decide ((landAt p i).fill < o) = false := decide_eq_false (by omega)
  obtain ⟨q, hq⟩ : ∃ q, q = (landAt p i).fill - o := ⟨_, rfl⟩
  have hqi : ((landAt p i).fill : Int) - (o : Int) = (q : Int) := by omega
  have k5 : decide ((q : Int) < (l : Int)) = false := decide_eq_false (by omega)
  have k6 : decide (q < l) = false := decide_eq_false (by omega)
  obtain ⟨k, hk⟩ : ∃ k, k = o % p.size := ⟨_, rfl⟩
  have hkt : (o : Int).tmod (p.size : Int) = (k : Int) := by rw [hk]; rfl
  have hkl : k < p.size := by rw [hk]; exact Nat.mod_lt _ (by omega)
  rw [← hk] at hk2
  have hz : ((p.size : Int) == 0) = false := beq_eq_false_iff_ne.2 (by omega)
  clear hk
  clear hq
  clear hx1
  clear hx hl
  go_enter Try.func68, Try.ntmps68
  go_wp2_with (first
    | (go_at_call 66; refine (HLA.out _ (Gr.alloc _ _)).mono ?_; rintro e w1 ⟨rfl, rfl⟩)
    | fail)
  go_quiet (fail)
  have gV : Gr (w.alloc (.cells #[.int .i64 (i : Int), .int .i64 ((landAt p i).gen : Int), .int .i64 (o : Int), .int .i64 (l : Int)] 93)) ((w.alloc (.cells #[.int .i64 (i : Int), .int .i64 ((landAt p i).gen : Int), .int .i64 (o : Int), .int .i64 (l : Int)] 93)).drewN nq) := Gr.drewN _ nq
  have c0a := gV.cell c0
  have c1a := gV.cell c1
  have l1a := gV.cell l1
  have l2a := gV.cell l2
  have l3a := gV.cell l3
  have h1a := gV.cell h1
  have h2a := gV.cell h2
  have h3a := gV.cell h3

  have GW : Gr w ((w.alloc (.cells #[.int .i64 (i : Int), .int .i64 ((landAt p i).gen : Int), .int .i64 (o : Int), .int .i64 (l : Int)] 93)).drewN nq) := (Gr.alloc w _).trans gV
  clear gV c0 c1 l1 l2 l3 h0 h1 h2 h3
  generalize (w.alloc (.cells #[.int .i64 (i : Int), .int .i64 ((landAt p i).gen : Int), .int .i64 (o : Int), .int .i64 (l : Int)] 93)).drewN nq = V at *
  go_wp2
  clear c1a l1a l2a
  go_quiet (fail)
  go_wp2
  go_quiet (fail)
  go_wp2
  go_quiet (fail)
  go_wp2
  go_ret2
  exact ⟨rfl, ((GW.trans (Gr.drewN _ _)).trans (Gr.drewN _ _)).trans (Gr.drewN _ _)⟩

set_option maxRecDepth 100000 in
set_option maxHeartbeats 4000000 in
theorem piece_ok (w : World) (S : Nat → Prop) (g : Nat) (p : PoolF) (ads adt : Option Addr) (cs ct : Nat) (A : Nat → Option Addr) (C bd : Nat → Nat) (i : Nat) (hx : PX w S g p ads cs adt ct A C bd) (hl : landF p (i : Int) = some i) (hi : i < 256) (hs1 : 64 ≤ p.size) (hs2 : p.size ≤ 65536) (hfm : (landAt p i).fill ≤ 268435456) (o l : Nat) (hb0 : 1 ≤ l) (hb1 : o ≤ (landAt p i).fill) (hb : l ≤ (landAt p i).fill - o) (hk2 : ¬ o % p.size + l > p.size) (s : Nat) (hdl : o / p.size < (landAt p i).slabs.length) (hs : (landAt p i).slabs[o / p.size]? = some s) (hsb : s < p.bytes.length) (hnl : p.bytes.length ≤ 4096) (hln : (landAt p i).slabs.length ≤ 4096) :
    Calls Try.prog 68 #[.pointer (some ⟨g, 0, none⟩), .agg #[.int .i64 (i : Int), .int .i64 ((landAt p i).gen : Int), .int .i64 (o : Int), .int .i64 (l : Int)]] w fun e w' => e = .returned (.tuple #[.slice (some ⟨bd s, o % p.size, none⟩) l (p.size - o % p.size), .int .i64 0]) ∧ Gr w w' := by
  have HLA := Lib.hid (fun w' (k : Gr w w') => land_any w' S g p (i : Int) ⟨ads, cs, adt, ct, A, C, bd, hx.gr k⟩)
  rw [hl] at HLA
  have hx1 := hx.gr (Gr.alloc w (.cells #[.int .i64 (i : Int), .int .i64 ((landAt p i).gen : Int), .int .i64 (o : Int), .int .i64 (l : Int)] 93))
  obtain ⟨c0, c1, _⟩ := hx1.head
  obtain ⟨_, l1, l2, l3⟩ := hx1.lcell hi
  obtain ⟨h0, h1, h2, h3, _⟩ := Blk.four (Blk.new w 93 #[.int .i64 (i : Int), .int .i64 ((landAt p i).gen : Int), .int .i64 (o : Int), .int .i64 (l : Int)])
  have k1 : decide ((l : Int) < 1) = false := decide_eq_false (by omega)
  have k2 : decide ((o : Int) < 0) = false := decide_eq_false (by omega)
  have k3 : decide (((landAt p i).fill : Int) < (o : Int)) = false := decide_eq_false (by omega)
  have k4 : decide ((landAt p i).fill < o) = false := decide_eq_false (by omega)
  obtain ⟨q, hq⟩ : ∃ q, q = (landAt p i).fill - o := ⟨_, rfl⟩
  have hqi : ((landAt p i).fill : Int) - (o : Int) = (q : Int) := by omega
  have k5 : decide ((q : Int) < (l : Int)) = false := decide_eq_false (by omega)
  have k6 : decide (q < l) = false := decide_eq_false (by omega)
  obtain ⟨k, hk⟩ : ∃ k, k = o % p.size := ⟨_, rfl⟩
  have hkt : (o : Int).tmod (p.size : Int) = (k : Int) := by rw [hk]; rfl
  have hkl : k < p.size := by rw [hk]; exact Nat.mod_lt _ (by omega)
  obtain ⟨d, hd⟩ : ∃ d, d = o / p.size := ⟨_, rfl⟩
  have hdt : (o : Int).tdiv (p.size : Int) = (d : Int) := by rw [hd]; rfl
  rw [← hk] at hk2 ⊢
  rw [← hd] at hdl hs
  have hz : ((p.size : Int) == 0) = false := beq_eq_false_iff_ne.2 (by omega)
  obtain ⟨ba, hba, _, za⟩ := (hx1.land i hi).at (iv_get _ d s hs)
  obtain ⟨br, hbr, _, zr⟩ := hx1.row.at (slabV_get (bd := bd) (size := p.size) hsb)
  rw [hba] at l2
  rw [hbr] at c1
  have hk3 : k + l ≤ p.size := by omega
  clear hk hd hs hk2
  clear hq
  clear hx1
  clear hx hl
  go_enter Try.func68, Try.ntmps68
  go_wp2_with (first
    | (go_at_call 66; refine (HLA.out _ (Gr.alloc _ _)).mono ?_; rintro e w1 ⟨rfl, rfl⟩)
    | fail)
  go_quiet (fail)
  have gV : Gr (w.alloc (.cells #[.int .i64 (i : Int), .int .i64 ((landAt p i).gen : Int), .int .i64 (o : Int), .int .i64 (l : Int)] 93)) ((w.alloc (.cells #[.int .i64 (i : Int), .int .i64 ((landAt p i).gen : Int), .int .i64 (o : Int), .int .i64 (l : Int)] 93)).drewN nq) := Gr.drewN _ nq
  have c0a := gV.cell c0
  have c1a := gV.cell c1
  have l1a := gV.cell l1
  have l2a := gV.cell l2
  have l3a := gV.cell l3
  have h1a := gV.cell h1
  have h2a := gV.cell h2
  have h3a := gV.cell h3

  have zaa := gV.cell za
  have zra := gV.cell zr
  have GW : Gr w ((w.alloc (.cells #[.int .i64 (i : Int), .int .i64 ((landAt p i).gen : Int), .int .i64 (o : Int), .int .i64 (l : Int)] 93)).drewN nq) := (Gr.alloc w _).trans gV
  clear gV za zr c0 c1 l1 l2 l3 h0 h1 h2 h3
  generalize (w.alloc (.cells #[.int .i64 (i : Int), .int .i64 ((landAt p i).gen : Int), .int .i64 (o : Int), .int .i64 (l : Int)] 93)).drewN nq = V at *
  go_wp2
  clear l1a
  go_quiet (fail)
  go_wp2
  go_quiet (fail)
  go_wp2
  go_quiet (fail)
  go_wp2
  go_quiet (fail)
  go_wp2
  go_ret2
  refine ⟨?_, (((GW.trans (Gr.drewN _ _)).trans (Gr.drewN _ _)).trans (Gr.drewN _ _)).trans (Gr.drewN _ _)⟩
  show Ending.returned (.tuple #[.slice (some ⟨bd s, k, none⟩) (k + l - k) (p.size - k), .int .i64 0]) = _
  rw [Nat.add_sub_cancel_left]

def pieceV (bd : Nat → Nat) (p : PoolF) (h : Hd) : Value := match pieceF p h with
  | ((s, k), 0) => .tuple #[.slice (some ⟨bd s, k, none⟩) h.len.toNat (p.size - k), .int .i64 0]
  | (_, e) => .tuple #[.slice none 0 0, .int .i64 (e : Int)]
set_option maxRecDepth 100000 in
set_option maxHeartbeats 4000000 in
theorem piece_n (w : World) (S : Nat → Prop) (g : Nat) (p : PoolF) (r gn of ln : Int) (h : PoolAt w S g p) (hl : landF p r = none) :
    Calls Try.prog 68 #[.pointer (some ⟨g, 0, none⟩), .agg #[.int .i64 r, .int .i64 gn, .int .i64 of, .int .i64 ln]] w fun e w' => e = .returned (.tuple #[.slice none 0 0, .int .i64 3]) ∧ Gr w w' := by
  have HLA := Lib.hid (fun w' (k : Gr w w') => land_any w' S g p r (h.gr k))
  rw [hl] at HLA
  clear h hl
  go_enter Try.func68, Try.ntmps68
  go_wp2_with (first
    | (go_at_call 66; refine (HLA.out _ (Gr.alloc _ _)).mono ?_; rintro e w1 ⟨rfl, rfl⟩)
    | fail)
  go_quiet (fail)
  go_wp2
  go_ret2
  exact ⟨rfl, (Gr.alloc _ _).trans (Gr.drewN _ _)⟩
set_option maxRecDepth 100000 in
set_option maxHeartbeats 4000000 in
theorem piece_g (w : World) (S : Nat → Prop) (g : Nat) (p : PoolF) (i : Nat) (gn of ln : Int) (h : PoolAt w S g p) (hl : landF p (i : Int) = some i) (hi : i < 256) (hg : ((landAt p i).gen : Int) ≠ gn) :
    Calls Try.prog 68 #[.pointer (some ⟨g, 0, none⟩), .agg #[.int .i64 (i : Int), .int .i64 gn, .int .i64 of, .int .i64 ln]] w fun e w' => e = .returned (.tuple #[.slice none 0 0, .int .i64 3]) ∧ Gr w w' := by
  have HLA := Lib.hid (fun w' (k : Gr w w') => land_any w' S g p (i : Int) (h.gr k))
  rw [hl] at HLA
  obtain ⟨ads, cs, adt, ct, A, C, bd, hx⟩ := h
  have hx1 := hx.gr (Gr.alloc w (.cells #[.int .i64 (i : Int), .int .i64 gn, .int .i64 of, .int .i64 ln] 93))
  obtain ⟨_, l1, _, _⟩ := hx1.lcell hi
  have hz : (((landAt p i).gen : Int) != gn) = true := by simpa using hg
  clear hx hx1 hl hg
  go_enter Try.func68, Try.ntmps68
  go_wp2_with (first
    | (go_at_call 66; refine (HLA.out _ (Gr.alloc _ _)).mono ?_; rintro e w1 ⟨rfl, rfl⟩)
    | fail)
  go_quiet (fail)
  go_wp2
  go_ret2
  exact ⟨rfl, (Gr.alloc _ _).trans (Gr.drewN _ _)⟩
theorem pieceV_err {bd : Nat → Nat} {p : PoolF} {h : Hd} {x : Nat × Nat} {e : Nat} (hp : pieceF p h = (x, e + 1)) : pieceV bd p h = .tuple #[.slice none 0 0, .int .i64 ((e + 1 : Nat) : Int)] := by unfold pieceV; rw [hp]; rfl
theorem pieceV_ok {bd : Nat → Nat} {p : PoolF} {h : Hd} {s k : Nat} (hp : pieceF p h = ((s, k), 0)) : pieceV bd p h = .tuple #[.slice (some ⟨bd s, k, none⟩) h.len.toNat (p.size - k), .int .i64 0] := by unfold pieceV; rw [hp]; rfl
theorem piece_any (w : World) (S : Nat → Prop) (g : Nat) (p : PoolF) (ads adt : Option Addr) (cs ct : Nat) (A : Nat → Option Addr) (C bd : Nat → Nat) (hd : Hd) (hx : PX w S g p ads cs adt ct A C bd) (hp : PoolOk p) :
    Calls Try.prog 68 #[.pointer (some ⟨g, 0, none⟩), hdv hd] w fun e w' => e = .returned (pieceV bd p hd) ∧ Gr w w' := by
  obtain ⟨r, gn, of, ln⟩ := hd
  have hpa : PoolAt w S g p := ⟨ads, cs, adt, ct, A, C, bd, hx⟩
  have hs1 := hp.s1
  have hs2 := hp.s2
  show Calls Try.prog 68 #[.pointer (some ⟨g, 0, none⟩), .agg #[.int .i64 r, .int .i64 gn, .int .i64 of, .int .i64 ln]] w _
  cases hl : landF p r with
  | none =>
    have he : pieceF p ⟨r, gn, of, ln⟩ = ((0, 0), 2 + 1) := by unfold pieceF; rw [hl]
    rw [pieceV_err he]
    exact piece_n w S g p r gn of ln hpa hl
  | some i =>
    obtain ⟨rfl, hi, hth⟩ := landF_some hl
    by_cases hgn : ((landAt p i).gen : Int) = gn
    · subst hgn
      have hlk := hp.ld i hi
      have hfm : (landAt p i).fill ≤ 268435456 := Nat.le_trans hlk.fill_le (hlk.cap hp)
      have hfl := hlk.fill_le
      have h0 : pieceF p ⟨(i : Int), ((landAt p i).gen : Int), of, ln⟩ = if ln < 1 ∨ of < 0 ∨ of > ((landAt p i).fill : Int) ∨ ln > ((landAt p i).fill : Int) - of then ((0, 0), 0 + 1)
          else if of.toNat % p.size + ln.toNat > p.size then ((0, 0), 0 + 1) else (((landAt p i).slabs.getD (of.toNat / p.size) 0, of.toNat % p.size), 0) := by
        unfold pieceF; rw [hl]; simp only; rw [if_neg (by simp)]
      by_cases b1 : ln < 1
      · rw [if_pos (.inl b1)] at h0
        rw [pieceV_err h0]
        exact piece_e1 w S g p ads adt cs ct A C bd i hx hl hi hs1 hs2 hfm of ln b1
      · by_cases b2 : of < 0
        · rw [if_pos (.inr (.inl b2))] at h0
          rw [pieceV_err h0]
          exact piece_e2 w S g p ads adt cs ct A C bd i hx hl hi hs1 hs2 hfm of ln b1 b2
        · obtain ⟨o, rfl⟩ : ∃ o : Nat, of = (o : Int) := ⟨of.toNat, by omega⟩
          obtain ⟨l, rfl⟩ : ∃ l : Nat, ln = (l : Int) := ⟨ln.toNat, by omega⟩
          by_cases b3 : o > (landAt p i).fill
          · rw [if_pos (.inr (.inr (.inl (by omega))))] at h0
            rw [pieceV_err h0]
            exact piece_e3 w S g p ads adt cs ct A C bd i hx hl hi hs1 hs2 hfm o l (by omega) b3
          · by_cases b4 : l > (landAt p i).fill - o
            · rw [if_pos (.inr (.inr (.inr (by omega))))] at h0
              rw [pieceV_err h0]
              exact piece_e4 w S g p ads adt cs ct A C bd i hx hl hi hs1 hs2 hfm o l (by omega) (by omega) b4
            · rw [if_neg (by omega), Int.toNat_natCast, Int.toNat_natCast] at h0
              by_cases b5 : o % p.size + l > p.size
              · rw [if_pos b5] at h0
                rw [pieceV_err h0]
                exact piece_e5 w S g p ads adt cs ct A C bd i hx hl hi hs1 hs2 hfm o l (by omega) (by omega) (by omega) b5
              · rw [if_neg b5] at h0
                have hdl : o / p.size < (landAt p i).slabs.length := by
                  rw [Nat.div_lt_iff_lt_mul (by omega)]; omega
                have hs : (landAt p i).slabs[o / p.size]? = some ((landAt p i).slabs.getD (o / p.size) 0) := by
                  rw [List.getD_eq_getElem?_getD, List.getElem?_eq_getElem hdl]; rfl
                rw [pieceV_ok h0]
                exact piece_ok w S g p ads adt cs ct A C bd i hx hl hi hs1 hs2 hfm o l (by omega) (by omega) (by omega) b5 _ hdl hs (hlk.lt _ (List.mem_of_getElem? hs)) hp.n2 (Nat.le_trans hlk.len hp.n2)
    · have he : pieceF p ⟨(i : Int), gn, of, ln⟩ = ((0, 0), 2 + 1) := by unfold pieceF; rw [hl]; simp only; rw [if_pos hgn]
      rw [pieceV_err he]
      exact piece_g w S g p i gn of ln hpa hl hi hgn
end Go.Proofs.Ytnafhjgfkofkbaa
/- Layer 1 (region): Load, Slabs, Raw, Store walked. -/
namespace Go.Proofs.Ytnafhjgfkofkbaa
set_option linter.unusedVariables false
set_option linter.unusedSimpArgs false
open Go.RowKit
set_option maxRecDepth 100000 in
theorem clone_any (ad : Option Addr) (n cap : Nat) (l : List UInt8) (w : World) (hn : n = l.length) (h1 : 1 ≤ l.length) (hl : l.length ≤ 1000000000) (hb : Bytes w ad l) :
    Calls Try.prog 75 #[.slice ad n cap] w fun e w' => ∃ ad' cap', e = .returned (.slice ad' n cap') ∧ Owns w' w.heap.size 5 1 ad' cap' n (bv l) ∧ Gr w w' := by
  subst hn
  obtain ⟨a, rfl⟩ : ∃ a, ad = some a := by
    obtain ⟨b, off, e, _⟩ := hb 0 (by omega)
    exact ⟨_, e⟩
  have HB := Lib.hid hb
  have HE := fun w' => Lib.run_eql_slice_nil (P := Try.prog) w' 73 5 (some a) l.length cap 0 0 Try.underlying73
  clear hb
  go_enter Try.func75, Try.ntmps75
  go_wp2_with (first
    | (at_builtin; refine wp_append elemB rfl _ _ rfl rfl (Owns.void w w.heap.size 5 1 (Nat.le_refl _)) rfl (Src.bytes (HB.out.gr (Gr.alloc _ _)) rfl Try.underlying73) (by unfold maxLen; omega) (by omega) (by simp) ?_; intro ad7 c7 w7 o7 k7 f7)
    | fail)
  go_ret
  refine ⟨ad7, c7, by simp, ?_, (Gr.alloc _ _).grown k7 (fun g h => by cases h; exact Nat.le_refl _)⟩
  simpa using o7
set_option maxRecDepth 100000 in
theorem clone_nil (w : World) : Calls Try.prog 75 #[.slice none 0 0] w fun e w' => e = .returned (.slice none 0 0) ∧ w = w' := by
  have HE := fun w' => Lib.run_eql_slice_nil (P := Try.prog) w' 73 5 none 0 0 0 0 Try.underlying73
  go_enter Try.func75, Try.ntmps75
  go_wp2
  go_ret
  exact ⟨rfl, rfl⟩
theorem iv_one (l : List Nat) : ∀ v ∈ iv l, v.oneCell' = true := by
  intro v hv
  simp only [iv, List.mem_map] at hv
  obtain ⟨x, _, rfl⟩ := hv
  rfl
theorem iv_length (l : List Nat) : (iv l).length = l.length := by simp [iv]
theorem bytes_part {w : World} {b k n : Nat} {l : List UInt8} (h : Blk w b 5 (bv l)) (hk : k + n ≤ l.length) : Bytes w (some ⟨b, k, none⟩) ((l.drop k).take n) := by
  have hb : Bytes w (some ⟨b, 0, none⟩) l := fun i hi => ⟨b, 0, rfl, by rw [Nat.zero_add]; exact h.cell (bv_get l i hi)⟩
  have := (hb.drop k).take n
  rw [Nat.zero_add] at this
  exact this
theorem bytesAt_len {p : PoolF} (hp : PoolOk p) {s : Nat} (hs : s < p.bytes.length) : (bytesAt p s).length = p.size := by
  unfold bytesAt
  rw [List.getD_eq_getElem?_getD, List.getElem?_eq_getElem hs]
  exact hp.bl _ (List.getElem_mem hs)
theorem loadF_ok {p : PoolF} {h : Hd} {s k : Nat} (e : pieceF p h = ((s, k), 0)) : loadF p h = (((bytesAt p s).drop k).take h.len.toNat, 0) := by unfold loadF; rw [e]; rfl
theorem loadF_err {p : PoolF} {h : Hd} {x : Nat × Nat} {n : Nat} (e : pieceF p h = (x, n + 1)) : loadF p h = ([], n + 1) := by unfold loadF; rw [e]; rfl
set_option maxRecDepth 100000 in
set_option maxHeartbeats 4000000 in
theorem Load_any (w : World) (S : Nat → Prop) (g : Nat) (p : PoolF) (hd : Hd) (h : PoolAt w S g p) (hp : PoolOk p) :
    Calls Try.prog 70 #[.pointer (some ⟨g, 0, none⟩), hdv hd] w fun e w' => ∃ ad cap, e = .returned (.tuple #[.slice ad (loadF p hd).1.length cap, .int .i64 ((loadF p hd).2 : Int)]) ∧ Owns w' w.heap.size 5 1 ad cap (loadF p hd).1.length (bv (loadF p hd).1) ∧ Gr w w' := by
  obtain ⟨ads, cs, adt, ct, A, C, bd, hx⟩ := h
  have HPC := Lib.hid (fun w' (k : Gr w w') => piece_any w' S g p ads adt cs ct A C bd hd (hx.gr k) hp)
  rcases hpf : pieceF p hd with ⟨⟨s, k⟩, e⟩
  cases e with
  | succ e =>
    rw [pieceV_err hpf] at HPC
    rw [loadF_err hpf]
    clear hx hpf hp
    obtain ⟨r, gn, of, ln⟩ := hd
    unfold hdv at *
    simp only at HPC ⊢
    go_enter Try.func70, Try.ntmps70
    go_wp2_with (first
      | (go_at_call 68; refine (HPC.out _ (Gr.alloc _ _)).mono ?_; rintro e w1 ⟨rfl, g1⟩)
      | (go_at_call 75; refine (clone_nil _).mono ?_; rintro e w2 ⟨rfl, rfl⟩)
      | fail)
    go_ret2
    exact ⟨none, 0, rfl, Owns.empty _ _ _ _, (Gr.alloc _ _).trans g1⟩
  | zero =>
    obtain ⟨i, o, l, -, hi, e2, e3, e4, e5, hl1, -, -, -, -, hkl, hs⟩ := pieceF_ok hp hpf
    have hbl := bytesAt_len hp hs
    have hs2 := hp.s2
    rw [pieceV_ok hpf] at HPC
    rw [loadF_ok hpf]
    have HX := Lib.hid hx
    have hlen : (((bytesAt p s).drop k).take hd.len.toNat).length = hd.len.toNat := by rw [e3, Int.toNat_natCast, List.length_take, List.length_drop]; omega
    have HB := Lib.hid (fun w' (kk : Gr w w') => bytes_part (n := hd.len.toNat) ((hx.gr kk).slab s hs) (by rw [e3, Int.toNat_natCast]; omega : k + hd.len.toNat ≤ (bytesAt p s).length))
    have h1 : 1 ≤ (((bytesAt p s).drop k).take hd.len.toNat).length := by rw [hlen, e3, Int.toNat_natCast]; exact hl1
    have h2 : (((bytesAt p s).drop k).take hd.len.toNat).length ≤ 1000000000 := by rw [hlen, e3, Int.toNat_natCast]; omega
    generalize ((bytesAt p s).drop k).take hd.len.toNat = B at *
    rw [← hlen] at HPC
    clear hx hpf hp hlen e2 e3 e4 e5 hbl
    obtain ⟨r, gn, of, ln⟩ := hd
    unfold hdv at *
    simp only at HPC ⊢
    go_enter Try.func70, Try.ntmps70
    go_wp2_with (first
      | (go_at_call 68; refine (HPC.out _ (Gr.alloc _ _)).mono ?_; rintro e w1 ⟨rfl, g1⟩; have hbb := HB.out _ ((Gr.alloc _ _).trans g1); have HC := Lib.hid (clone_any _ _ (p.size - k) B w1 rfl h1 h2 hbb))
      | (go_at_call 75; go_must (refine HC.out.mono ?_); rintro e w2 ⟨ad2, cp2, rfl, o2, g2⟩)
      | fail)
    go_ret2
    have hsz := ((Gr.alloc w (.cells #[.int .i64 r, .int .i64 gn, .int .i64 of, .int .i64 ln] 93)).trans g1).size
    exact ⟨ad2, cp2, rfl, o2.base hsz, ((Gr.alloc _ _).trans g1).trans g2⟩
theorem storeF_err {p : PoolF} {h : Hd} {x : Nat × Nat} {n : Nat} {a : Int} {b : List UInt8} (e : pieceF p h = (x, n + 1)) : storeF p h a b = (n + 1, p) := by unfold storeF; rw [e]; rfl
theorem storeF_bad {p : PoolF} {h : Hd} {s k : Nat} {a : Int} {b : List UInt8} (e : pieceF p h = ((s, k), 0)) (hb : a < 0 ∨ a > h.len ∨ (b.length : Int) > h.len - a) : storeF p h a b = (1, p) := by
  unfold storeF; rw [e]; simp only; rw [if_pos hb]
theorem storeF_ok {p : PoolF} {h : Hd} {s k : Nat} {a : Int} {b : List UInt8} (e : pieceF p h = ((s, k), 0)) (hb : ¬ (a < 0 ∨ a > h.len ∨ (b.length : Int) > h.len - a)) :
    storeF p h a b = (0, setBytes p s (((bytesAt p s).take (k + a.toNat)) ++ b ++ ((bytesAt p s).drop (k + a.toNat + b.length)))) := by
  unfold storeF; rw [e]; simp only; rw [if_neg hb]; rfl
theorem bv_take (l : List UInt8) (n : Nat) : (bv l).take n = bv (l.take n) := by simp [bv]
theorem bv_drop (l : List UInt8) (n : Nat) : (bv l).drop n = bv (l.drop n) := by simp [bv]
set_option maxRecDepth 100000 in
set_option maxHeartbeats 4000000 in
theorem Store_any (w : World) (S : Nat → Prop) (g : Nat) (p : PoolF) (hd : Hd) (a : Int) (ad : Option Addr) (n cap : Nat) (b : List UInt8) (h : PoolAt w S g p) (hp : PoolOk p) (hb : Bytes w ad b) (hn : b.length = n) (hnm : n ≤ 9223372036854775807) :
    Calls Try.prog 48 #[.pointer (some ⟨g, 0, none⟩), hdv hd, .int .i64 a, .slice ad n cap] w fun e w' => e = .returned (.int .i64 ((storeF p hd a b).1 : Int)) ∧ Moved S g (storeF p hd a b).2 w w' S := by
  have HPO := Lib.hid h
  obtain ⟨ads, cs, adt, ct, A, C, bd, hx⟩ := h
  have HPC := Lib.hid (fun w' (k : Gr w w') => piece_any w' S g p ads adt cs ct A C bd hd (hx.gr k) hp)
  rcases hpf : pieceF p hd with ⟨⟨s, k⟩, e⟩
  cases e with
  | succ e =>
    rw [pieceV_err hpf] at HPC
    rw [storeF_err hpf]
    have he : (((e + 1 : Nat) : Int) != 0) = true := by simp; omega
    obtain ⟨e2, he2⟩ : ∃ e2, e2 = e + 1 := ⟨_, rfl⟩
    rw [← he2] at HPC he ⊢
    clear hx hpf hp he2 hb
    obtain ⟨r, gn, of, ln⟩ := hd
    unfold hdv at *
    simp only at HPC ⊢
    go_enter Try.func48, Try.ntmps48
    go_wp2_with (first
      | (go_at_call 68; go_must (refine (HPC.out _ (Gr.alloc _ _)).mono ?_); rintro e w1 ⟨rfl, g1⟩)
      | fail)
    go_ret
    exact ⟨rfl, (Moved.refl HPO.out).gr ((Gr.alloc _ _).trans g1)⟩
  | zero =>
    obtain ⟨i, o, l, -, hi, e2, e3, e4, e5, hl1, -, -, -, -, hkl, hs⟩ := pieceF_ok hp hpf
    have hbl := bytesAt_len hp hs
    have hs2 := hp.s2
    rw [pieceV_ok hpf] at HPC
    have HX := Lib.hid hx
    obtain ⟨r, gn, of, ln⟩ := hd
    simp only at e2 e3 e4 e5
    subst e3
    have hbs : ¬ (a < 0 ∨ a > (l : Int) ∨ (b.length : Int) > (l : Int) - a) → _ := fun hh => storeF_ok (a := a) (b := b) hpf hh
    have hbb : (a < 0 ∨ a > (l : Int) ∨ (b.length : Int) > (l : Int) - a) → _ := fun hh => storeF_bad (a := a) (b := b) hpf hh
    simp only [Int.toNat_natCast] at HPC
    have HBS := Lib.hid hbs
    have HBB := Lib.hid hbb
    have HB := Lib.hid hb
    clear hx hpf hp hbs hbb e2 e4 e5 hb
    unfold hdv at *
    simp only at HPC ⊢
    by_cases b1 : a < 0
    · have hbad : a < 0 ∨ a > (l : Int) ∨ (b.length : Int) > (l : Int) - a := .inl b1
      rw [HBB.out hbad]
      clear hbad
      go_enter Try.func48, Try.ntmps48
      go_wp2_with (first
        | (go_at_call 68; go_must (refine (HPC.out _ (Gr.alloc _ _)).mono ?_); rintro e w1 ⟨rfl, g1⟩)
        | fail)
      go_ret
      exact ⟨rfl, (Moved.refl HPO.out).gr ((Gr.alloc _ _).trans g1)⟩
    · obtain ⟨t, rfl⟩ : ∃ t : Nat, a = (t : Int) := ⟨a.toNat, by omega⟩
      by_cases b2 : t > l
      · have hbad : (t : Int) < 0 ∨ (t : Int) > (l : Int) ∨ (b.length : Int) > (l : Int) - (t : Int) := .inr (.inl (by omega))
        rw [HBB.out hbad]
        clear hbad
        go_enter Try.func48, Try.ntmps48
        go_wp2_with (first
          | (go_at_call 68; go_must (refine (HPC.out _ (Gr.alloc _ _)).mono ?_); rintro e w1 ⟨rfl, g1⟩)
          | fail)
        go_ret
        exact ⟨rfl, (Moved.refl HPO.out).gr ((Gr.alloc _ _).trans g1)⟩
      · by_cases b3 : n > l - t
        · have hbad : (t : Int) < 0 ∨ (t : Int) > (l : Int) ∨ (b.length : Int) > (l : Int) - (t : Int) := .inr (.inr (by omega))
          clear hn
          rw [HBB.out hbad]
          clear hbad
          go_enter Try.func48, Try.ntmps48
          go_wp2_with (first
            | (go_at_call 68; go_must (refine (HPC.out _ (Gr.alloc _ _)).mono ?_); rintro e w1 ⟨rfl, g1⟩)
            | fail)
          go_ret
          exact ⟨rfl, (Moved.refl HPO.out).gr ((Gr.alloc _ _).trans g1)⟩
        · rw [HBS.out (by omega)]
          rw [Int.toNat_natCast]
          have HN := Lib.hid hn
          have hf : k + t + n ≤ p.size := by omega
          have hnl : n ≤ l - t := by omega
          have HBL := Lib.hid hbl
          clear hn hbl
          go_enter Try.func48, Try.ntmps48
          go_wp2_with (first
            | (go_at_call 68; go_must (refine (HPC.out _ (Gr.alloc _ _)).mono ?_); rintro e w1 ⟨rfl, g1⟩)
            | ((with_reducible show Go.wpList _ _ _ (Oper.mk _ (Op.call (Call.mk (Callee.builtin Builtin.copy) _ _)) _ _ _ _ :: _) _ _)
               go_must (refine wp_copy elemB rfl _ _ rfl rfl (fun h0 => by rw [if_neg (by omega)]) rfl ((HX.out.gr ((Gr.alloc _ _).trans g1)).slab s hs) (HB.out.gr ((Gr.alloc _ _).trans g1)).row (by rw [bv_length]; exact HN.out) (by omega) (by rw [bv_length, HBL.out]; exact hf) (bv_one _) ?_); intro w2 q2 k2)
            | fail)
          all_goals
            go_ret
            have hgr := (Gr.alloc w (.cells #[.int .i64 r, .int .i64 gn, .int .i64 of, .int .i64 (l : Int)] 93)).trans g1
            refine ⟨rfl, ?_⟩
            rw [bv_take, bv_drop, ← bv_append, ← bv_append] at q2
            have hm := (HX.out.gr hgr).put_bytes hs _ q2 k2
            have hn := HN.out
            refine ⟨Chg.trans (S' := S) (hgr.chg (S := S)) (Chg.grown k2 (HX.out.sslab s hs)) (fun j hj => .inl hj), fun j hj => .inl hj, ads, cs, adt, ct, A, C, bd, ?_⟩
            rw [hn]
            rw [List.append_assoc] at hm
            exact hm
end Go.Proofs.Ytnafhjgfkofkbaa
/- Layer 1 (region): Free walked. -/
namespace Go.Proofs.Ytnafhjgfkofkbaa
set_option linter.unusedVariables false
set_option linter.unusedSimpArgs false
open Go.RowKit
theorem foldl_set_len {α β : Type} (l : List Nat) (x : β) : ∀ (b : List β), (l.foldl (fun bs s => bs.set s x) b).length = b.length := by
  induction l with
  | nil => intro b; rfl
  | cons s t ih => intro b; rw [List.foldl_cons, ih, List.length_set]
theorem freeSlabs_len (p : PoolF) (l : List Nat) : (freeSlabs p l).bytes.length = p.bytes.length ∧ (freeSlabs p l).taken.length = p.taken.length := ⟨foldl_set_len (α := Nat) l _ _, foldl_set_len (α := Nat) l _ _⟩
theorem freeSlabs_snoc (p : PoolF) (l : List Nat) (s : Nat) : freeSlabs p (l ++ [s]) = setTaken (setBytes (freeSlabs p l) s (List.replicate p.size 0xDD)) s false := by
  unfold freeSlabs setTaken setBytes
  simp only [List.foldl_append, List.foldl_cons, List.foldl_nil]
theorem setBytes_twice (p : PoolF) (s : Nat) (a b : List UInt8) : setBytes (setBytes p s a) s b = setBytes p s b := by unfold setBytes; simp only [List.set_set]
theorem poison_step (x : UInt8) (l : List UInt8) (j : Nat) (hj : j < l.length) : (List.replicate j x ++ l.drop j).set j x = List.replicate (j + 1) x ++ l.drop (j + 1) := by
  rw [List.set_append_right _ _ (by simp), List.length_replicate, Nat.sub_self, List.replicate_succ', List.append_assoc]
  congr 1
  rw [List.drop_eq_getElem_cons hj, List.set_cons_zero]
  rfl
theorem bytesAt_foldl_len (sz : Nat) (x : List UInt8) (hx : x.length = sz) : ∀ (l : List Nat) (b : List (List UInt8)), (∀ y ∈ b, y.length = sz) → ∀ y ∈ l.foldl (fun bs s => bs.set s x) b, y.length = sz
  | [], _, h => h
  | s :: t, b, h => by
    rw [List.foldl_cons]
    refine bytesAt_foldl_len sz x hx t _ fun y hy => ?_
    rcases List.mem_or_eq_of_mem_set hy with h1 | h1
    · exact h y h1
    · rw [h1]; exact hx
set_option maxRecDepth 100000 in
set_option maxHeartbeats 4000000 in
theorem Free_any (w : World) (S : Nat → Prop) (g : Nat) (p : PoolF) (r : Int) (h : PoolAt w S g p) (hp : PoolOk p) :
    Calls Try.prog 57 #[.pointer (some ⟨g, 0, none⟩), .int .i64 r] w fun e w' => e = .returned (.int .i64 ((freeF p r).1 : Int)) ∧ Moved S g (freeF p r).2 w w' S := by
  have HLA := Lib.hid (land_any w S g p r h)
  have HPO := Lib.hid h
  cases hl : landF p r with
  | none =>
    rw [hl] at HLA
    have he : freeF p r = (7, p) := by unfold freeF; rw [hl]
    rw [he]
    clear h hp he hl
    go_enter Try.func57, Try.ntmps57
    go_wp2_with (first
      | (go_at_call 66; refine HLA.out.mono ?_; rintro e w1 ⟨rfl, rfl⟩)
      | fail)
    go_ret
    exact ⟨rfl, Moved.refl HPO.out⟩
  | some i =>
    rw [hl] at HLA
    obtain ⟨rfl, hi, _⟩ := landF_some hl
    obtain ⟨ads, cs, adt, ct, A, C, bd, hx⟩ := h
    obtain ⟨L, hL⟩ : ∃ L, L = (landAt p i).slabs := ⟨_, rfl⟩
    have he : freeF p (i : Int) = (0, setLand (freeSlabs p L) i ⟨false, (landAt p i).gen, [], 0⟩) := by unfold freeF; rw [hl, hL]; rfl
    rw [he]
    obtain ⟨_, l1, l2, _⟩ := hx.lcell hi
    have hlt : ∀ s ∈ L, s < p.bytes.length := by rw [hL]; exact (hp.ld i hi).lt
    have hLl : L.length ≤ 4096 := by rw [hL]; exact Nat.le_trans (hp.ld i hi).len hp.n2
    have hs1 := hp.s1
    have hs2 := hp.s2
    have hn2 := hp.n2
    have htk := hp.tk
    have HBL := Lib.hid hp.bl
    have hln := hp.ln
    have H0 := Lib.hid (show PX w S g (freeSlabs p (L.take 0)) ads cs adt ct A C bd from hx)
    rw [← hL] at l2
    have HL := Lib.hid hL
    clear hx hp he hl hL
    go_enter Try.func57, Try.ntmps57
    go_wp2_with (first
      | (go_at_call 66; refine HLA.out.mono ?_; rintro e w1 ⟨rfl, rfl⟩)
      | fail)
    clear l1 l2
    go_loopw [21] (fun v wr => ∃ k : Nat, k ≤ L.length ∧ v = .int .i64 (k : Int) ∧ PX wr S g (freeSlabs p (L.take k)) ads cs adt ct A C bd ∧ Chg S w wr) (fun v _ => L.length - (intOf v).toNat)
    case atStart => exact ⟨0, Nat.zero_le _, rfl, H0.out, Chg.refl _⟩
    case round =>
      obtain ⟨k, hk, rfl, hx, hc⟩ := hrel
      by_cases hkl : k < L.length
      · obtain ⟨s, hs⟩ : ∃ s, L[k]? = some s := ⟨_, List.getElem?_eq_getElem hkl⟩
        have hsb : s < p.bytes.length := hlt s (List.mem_of_getElem? hs)
        have hst : s < p.taken.length := by omega
        obtain ⟨hfb, hft⟩ := freeSlabs_len p (L.take k)
        have htake : L.take (k + 1) = L.take k ++ [s] := by rw [List.take_add_one, hs]; rfl
        have HT := Lib.hid (show freeSlabs p (L.take (k + 1)) = setTaken (setBytes (freeSlabs p (L.take k)) s (List.replicate p.size 0xDD)) s false by rw [htake, freeSlabs_snoc])
        have hbs : (bytesAt (freeSlabs p (L.take k)) s).length = p.size := by
          unfold bytesAt
          rw [List.getD_eq_getElem?_getD, List.getElem?_eq_getElem (by rw [hfb]; exact hsb)]
          exact bytesAt_foldl_len p.size _ (by simp) _ _ HBL.out _ (List.getElem_mem _)
        have hlo := hx.land i hi
        have hla : (landAt (freeSlabs p (L.take k)) i).slabs = L := HL.out.symm
        rw [hla] at hlo
        obtain ⟨ba, hba, _, za⟩ := hlo.at (iv_get L k s hs)
        obtain ⟨br, hbr, _, zr⟩ := hx.row.at (slabV_get (bd := bd) (size := p.size) (by rw [hfb]; exact hsb))
        obtain ⟨_, c1, _⟩ := hx.head
        rw [hfb, hbr] at c1
        have HX := Lib.hid hx
        have HC := Lib.hid hc
        have HFB := Lib.hid hfb
        have HFT := Lib.hid hft
        have HBS := Lib.hid hbs
        clear hx hc hlo hla hs htake hfb hft hbs
        have HSZ := Lib.hid (show (freeSlabs p (L.take k)).size = p.size from rfl)
        generalize freeSlabs p (L.take k) = P at *
        go_wp2
        obtain ⟨wA, hwA⟩ : ∃ wA, wA = wr := ⟨_, rfl⟩
        have HD := Lib.hid (show bytesAt P s = List.replicate 0 0xDD ++ (bytesAt P s).drop 0 by simp)
        subst hwA
        go_loopw [33] (fun v wr => ∃ j : Nat, j ≤ p.size ∧ v = .int .i64 (j : Int) ∧ PX wr S g (setBytes P s (List.replicate j 0xDD ++ (bytesAt P s).drop j)) ads cs adt ct A C bd ∧ Chg S w wr) (fun v _ => p.size - (intOf v).toNat)
        case atStart =>
          refine ⟨0, Nat.zero_le _, rfl, ?_, HC.out⟩
          have e : setBytes P s (List.replicate 0 0xDD ++ (bytesAt P s).drop 0) = P := by
            rw [← HD.out]
            have hb : P.bytes.set s (bytesAt P s) = P.bytes := by
              unfold bytesAt
              rw [List.getD_eq_getElem?_getD, List.getElem?_eq_getElem (by rw [HFB.out]; exact hsb)]
              simp
            unfold setBytes
            rw [hb]
          rw [e]
          exact HX.out
        case round =>
          obtain ⟨j, hj, rfl, hx2, hc2⟩ := hrel
          have hlb : (setBytes P s (List.replicate j 0xDD ++ (bytesAt P s).drop j)).bytes.length = p.bytes.length := by show (P.bytes.set s _).length = _; rw [List.length_set]; exact HFB.out
          obtain ⟨_, d1, d2⟩ := hx2.head
          have hrow2 := hx2.row
          rw [show (setBytes P s (List.replicate j 0xDD ++ (bytesAt P s).drop j)).size = p.size from HSZ.out, hlb] at hrow2
          obtain ⟨br2, hbr2, _, zr2⟩ := hrow2.at (slabV_get (bd := bd) (size := p.size) hsb)
          rw [hlb, hbr2] at d1
          by_cases hjl : j < p.size
          · have hpl : (List.replicate j 0xDD ++ (bytesAt P s).drop j).length = p.size := by
              have := HBS.out
              simp; omega
            have hbl := hx2.slab s (by rw [hlb]; exact hsb)
            rw [bytesAt_set _ _ _ _ (by rw [HFB.out]; exact hsb), if_pos rfl] at hbl
            obtain ⟨xv, hcell⟩ : ∃ xv : UInt8, wr.cell? ⟨bd s, j, none⟩ = some (.int .u8 (xv.toNat : Int)) := ⟨_, hbl.cell (bv_get _ j (by rw [hpl]; exact hjl))⟩
            have hfz := hbl.frozen j
            have HPS := Lib.hid (show PX (wr.setCell ⟨bd s, j, none⟩ (.int .u8 221)) S g (setBytes P s (List.replicate (j + 1) 0xDD ++ (bytesAt P s).drop (j + 1))) ads cs adt ct A C bd by
              have h1 := hbl.set_ j (.int .u8 221)
              have h2 := hx2.put_bytes (s := s) (by rw [hlb]; exact hsb) (List.replicate (j + 1) 0xDD ++ (bytesAt P s).drop (j + 1)) (w' := wr.setCell ⟨bd s, j, none⟩ (.int .u8 221)) (by
                rw [← poison_step 0xDD _ j (by rw [HBS.out]; exact hjl), ← bv_set]; exact h1) (grown_set _ _ _ _)
              rw [setBytes_twice] at h2
              exact h2)
            have HC2 := Lib.hid (Chg.trans hc2 (Chg.grown (grown_set wr (bd s) j (.int .u8 221)) (hx2.sslab s (by rw [hlb]; exact hsb))) (fun j hj => .inl hj))
            clear hx2 hc2 hlb hpl hbl d2 hrow2
            go_wp2
            go_roundw
            case rel => exact ⟨j + 1, hjl, by go_num, HPS.out, HC2.out⟩
            case measure => simp [intOf]; omega
          · obtain rfl : j = p.size := by omega
            have hbb : List.replicate p.size 0xDD ++ (bytesAt P s).drop p.size = List.replicate p.size 0xDD := by rw [List.drop_of_length_le (by rw [HBS.out]; exact Nat.le_refl _), List.append_nil]
            rw [hbb] at hx2
            have hlt2 : (setBytes P s (List.replicate p.size 0xDD)).taken.length = p.taken.length := HFT.out
            rw [show (setBytes P s (List.replicate p.size 0xDD ++ (bytesAt P s).drop p.size)).taken.length = p.taken.length from HFT.out] at d2
            obtain ⟨bt, hbt, _, zt⟩ := hx2.tak.at (taken_get _ s (by rw [hlt2]; exact hst))
            have hfz := hx2.tak.unfrozen hbt (show s < (setBytes P s (List.replicate p.size 0xDD)).taken.length * 1 by rw [hlt2]; omega)
            rw [hbt] at d2
            have HPT := Lib.hid (hx2.put_taken hbt (show s < (setBytes P s (List.replicate p.size 0xDD)).taken.length by rw [hlt2]; exact hst) false)
            have HC2 := Lib.hid (Chg.trans hc2 (Chg.grown (grown_set wr bt s (.bool false)) (hx2.stak _ hbt)) (fun j hj => .inl hj))
            clear hx2 hc2 hlb hbb hlt2 hrow2
            go_wp2
            go_roundw
            case rel => exact ⟨k + 1, hkl, by go_num, by rw [HT.out]; exact HPT.out, HC2.out⟩
            case measure => simp [intOf]; omega
      · obtain rfl : k = L.length := by omega
        rw [List.take_length] at hx
        obtain ⟨_, l1, l2, l3⟩ := hx.lcell hi
        have f0 := hx.blk.frozen (3 + i * 4)
        have f1 := hx.blk.frozen (3 + i * 4 + 1)
        have f2 := hx.blk.frozen (3 + i * 4 + 2)
        have f3 := hx.blk.frozen (3 + i * 4 + 3)
        have l1' : wr.cell? ⟨g, 3 + i * 4 + 1, none⟩ = some (.int .i64 ((landAt p i).gen : Int)) := l1
        have HPF := Lib.hid (hx.put4 (show (freeSlabs p L).lands.length = 256 from hln) hi false (landAt p i).gen)
        have HC := Lib.hid hc
        clear hx hc l1
        go_wp2
        go_ret
        exact ⟨rfl, HPF.out.after HC.out⟩
end Go.Proofs.Ytnafhjgfkofkbaa
/- Layer 1 (region): New walked. -/
namespace Go.Proofs.Ytnafhjgfkofkbaa
set_option linter.unusedVariables false
set_option linter.unusedSimpArgs false
open Go.RowKit
set_option maxRecDepth 100000 in
set_option maxHeartbeats 4000000 in
theorem New_bad (w : World) (size slabs : Int) (h : newOk size slabs = false) :
    Calls Try.prog 9 #[.int .i64 size, .int .i64 slabs] w fun e w' => e = .returned (.tuple #[.pointer none, .int .i64 1]) ∧ w = w' := by
  unfold newOk at h
  by_cases b1 : size < 64
  · clear h
    go_enter Try.func9, Try.ntmps9
    go_wp2
    go_ret2
    exact ⟨rfl, rfl⟩
  · by_cases b2 : size > 65536
    · clear h
      go_enter Try.func9, Try.ntmps9
      go_wp2
      go_ret2
      exact ⟨rfl, rfl⟩
    · obtain ⟨a, rfl⟩ : ∃ a : Nat, size = (a : Int) := ⟨size.toNat, by omega⟩
      obtain ⟨m, hm⟩ : ∃ m, m = a % 8 := ⟨_, rfl⟩
      have hmt : (a : Int).tmod 8 = (m : Int) := by rw [hm]; rfl
      by_cases b3 : m = 0
      · by_cases b4 : slabs < 1
        · clear hm
          clear h
          go_enter Try.func9, Try.ntmps9
          go_wp2
          go_ret2
          exact ⟨rfl, rfl⟩
        · by_cases b5 : slabs > 4096
          · clear hm
            clear h
            go_enter Try.func9, Try.ntmps9
            go_wp2
            go_ret2
            exact ⟨rfl, rfl⟩
          · obtain ⟨n, rfl⟩ : ∃ n : Nat, slabs = (n : Int) := ⟨slabs.toNat, by omega⟩
            obtain ⟨q, hq⟩ : ∃ q, q = a * n := ⟨_, rfl⟩
            have hqi : (a : Int) * (n : Int) = (q : Int) := by rw [hq]; simp
            have hql : q ≤ 268435456 := by rw [hq]; exact Nat.le_trans (Nat.mul_le_mul (show a ≤ 65536 by omega) (show n ≤ 4096 by omega)) (by decide)
            have hqw : IntKind.i64.wrap (q : Int) = (q : Int) := by rw [IntKind.wrap_i64]; omega
            have hb : q > 4194304 := by
              rcases Nat.lt_or_ge 4194304 q with h1 | h1
              · exact h1
              · exfalso
                rw [hqi] at h
                have e1 : decide ((64 : Int) ≤ (a : Int)) = true := decide_eq_true (by omega)
                have e2 : decide ((a : Int) ≤ 65536) = true := decide_eq_true (by omega)
                have e3 : decide ((a : Int) % 8 = 0) = true := decide_eq_true (by omega)
                have e4 : decide ((1 : Int) ≤ (n : Int)) = true := decide_eq_true (by omega)
                have e5 : decide ((n : Int) ≤ 4096) = true := decide_eq_true (by omega)
                have e6 : decide ((q : Int) ≤ 4194304) = true := decide_eq_true (by omega)
                rw [e1, e2, e3, e4, e5, e6] at h
                cases h
            clear hm hq
            clear h
            go_enter Try.func9, Try.ntmps9
            go_wp2
            go_ret2
            exact ⟨rfl, rfl⟩
      · have hz : ((m : Int) != 0) = true := by simp; omega
        clear hm
        clear h
        go_enter Try.func9, Try.ntmps9
        go_wp2
        go_ret2
        exact ⟨rfl, rfl⟩
theorem pool_built (s : Int) (ad : Option Addr) (n c : Nat) : Try.prog.built 72 [(0, .int .i64 s), (2, .slice ad n c)] = some ([Value.int .i64 s, .slice none 0 0, .slice ad n c] ++ flat (fun _ => landV noLand none 0) 256).toArray := by kernel_rfl
def poolN (s : Int) (s1 s2 : Value) : List Value := [.int .i64 s, s1, s2] ++ flat (fun _ => landV noLand none 0) 256
theorem wp_pool {w : World} {ops : Array Oper} {rest : List Oper} {o : Oper} {a : Act} {Q : Exit → Act → World → Prop} (hg : o.guard = none) (x y : Operand) (ho : o.op = .build 72 #[(0, x), (2, y)]) {s : Int} {ad : Option Addr} {n c : Nat} (hx : a.eval x = .int .i64 s) (hy : a.eval y = .slice ad n c)
    (h : wpList Try.prog ops Q rest (a.put o.dst (.agg (poolN s (.slice none 0 0) (.slice ad n c)).toArray)) w) : wpList Try.prog ops Q (o :: rest) a w := by
  have hb : Try.prog.built 72 ((#[(0, x), (2, y)] : Array (Nat × Operand)).map fun (i, x) => (i, a.eval x)).toList = some (poolN s (.slice none 0 0) (.slice ad n c)).toArray := by
    simp only [List.map_toArray, List.map_cons, List.map_nil, hx, hy]
    exact pool_built s ad n c
  refine wpList_build hg 72 #[(0, x), (2, y)] ho (by rw [hb]; rfl) ?_
  rw [hb]
  exact h
/-- a slab of noughts, in block N -/
def NewAt (N a : Nat) : Value → World → Prop := fun v w => v = .slice (some ⟨N, 0, none⟩) a a ∧ Blk w N 5 (bv (List.replicate a 0))
theorem NewAt.dstable {row : Option Nat} {A B : Option Obj} {g : Nat} {Good : World → Prop} {N a : Nat} (hg : g < N) (hr : ∀ r, row = some r → r < N) : Stable (Duo row A B g Good) (NewAt N a) := by
  rintro v w1 w2 ⟨e, h⟩ d
  exact ⟨e, (d.block N h.lt (fun e => by have := hr N e.symm; omega) (by omega)).trans h⟩
def NPre (N g : Nat) (cs : List Value) : Nat → World → Prop := fun s w => if s = 6 then w.heap.size = N else if s = 11 then Blk w g 72 cs else True
theorem NPre.six {N g : Nat} {cs : List Value} {w : World} : NPre N g cs 6 w ↔ w.heap.size = N := by simp [NPre]
theorem NPre.eleven {N g : Nat} {cs : List Value} {w : World} : NPre N g cs 11 w ↔ Blk w g 72 cs := by simp [NPre]
theorem NPre.step {N g : Nat} {cs : List Value} {w w' : World} {i : Nat} (h6 : i ≠ 6 → w.heap.size = N → w'.heap.size = N) (h11 : i ≠ 11 → Blk w g 72 cs → Blk w' g 72 cs) : ∀ s, s ≠ i → NPre N g cs s w → NPre N g cs s w' := by
  intro s hs h
  by_cases e6 : s = 6
  · subst e6; rw [NPre.six] at h ⊢; exact h6 (fun e => hs e.symm) h
  · by_cases e11 : s = 11
    · subst e11; rw [NPre.eleven] at h ⊢; exact h11 (fun e => hs e.symm) h
    · simp [NPre, e6, e11]
theorem make_slab (w : World) (a : Nat) (h : a ≤ 65536) (kl kc : IntKind) : ∃ w', (Instr.makeSlice 73 (.int kl (a : Int)) (.int kc (a : Int))).run Try.prog w = .ok (.slice (some ⟨w.heap.size, 0, none⟩) a a) w' ∧ Gr w w' ∧ Blk w' w.heap.size 5 (bv (List.replicate a 0)) := by
  obtain ⟨ht, hinfo, hzs, hpos⟩ := elemB
  obtain ⟨i, hi, hz, hsize, hby⟩ := info_parts hinfo
  have hb' : (i.bytes : Int) * (a : Int) ≤ 281474976710656 := by rw [hby]; omega
  have hr := run_make (P := Try.prog) w 73 5 i (.int .u8 0) ht hi hz kl kc a a (by omega) (by omega) hb' (by omega)
  simp only [Int.toNat_natCast] at hr
  refine ⟨_, hr, Gr.alloc _ _, ?_⟩
  have e : (madeCells (Value.int .u8 0).cells (a * i.size)).toList = bv (List.replicate a 0) := by
    rw [hsize, Nat.mul_one, ← bv_replicate, show (Value.int .u8 0).cells = #[Value.int .u8 0] from rfl, toList_madeCells_one]
  rw [← e]
  exact Blk.new w 5 _
/-- while slabs are made -/
structure NW (w wr : World) (g bt a n i : Nat) (ads : Option Addr) (cs : Nat) (bd : Nat → Nat) : Prop where
  gr : Gr w wr
  hg : w.heap.size ≤ g
  blk : Blk wr g 72 (poolN (a : Int) (.slice ads i cs) (.slice (some ⟨bt, 0, none⟩) n n))
  row : Owns wr w.heap.size 73 1 ads cs i (slabV bd a i)
  slab : ∀ j, j < i → Blk wr (bd j) 5 (bv (List.replicate a 0)) ∧ w.heap.size ≤ bd j
  inj : ∀ j k, j < i → k < i → bd j = bd k → j = k
  tak : Owns wr w.heap.size 4 1 (some ⟨bt, 0, none⟩) n n (List.replicate n (.bool false))
set_option maxRecDepth 100000 in
set_option maxHeartbeats 4000000 in
theorem New_good (w : World) (a n : Nat) (h1 : 64 ≤ a) (h2 : a ≤ 65536) (h3 : a % 8 = 0) (h4 : 1 ≤ n) (h5 : n ≤ 4096) (h6 : a * n ≤ 4194304) :
    Calls Try.prog 9 #[.int .i64 (a : Int), .int .i64 (n : Int)] w fun e w' => ∃ g S, e = .returned (.tuple #[.pointer (some ⟨g, 0, none⟩), .int .i64 0]) ∧ Gr w w' ∧ PoolAt w' S g (newF a n) ∧ ∀ j, S j → w.heap.size ≤ j := by
  have hmt : (a : Int).tmod 8 = 0 := by show ((a % 8 : Nat) : Int) = 0; rw [h3]; rfl
  obtain ⟨q, hq⟩ : ∃ q, q = a * n := ⟨_, rfl⟩
  have hqi : (a : Int) * (n : Int) = (q : Int) := by rw [hq]; simp
  have hql : q ≤ 4194304 := by rw [hq]; exact h6
  have hqw : IntKind.i64.wrap (q : Int) = (q : Int) := by rw [IntKind.wrap_i64]; omega
  have m1 : n ≤ maxLen := by unfold maxLen; omega
  have m2 : 1 * n ≤ 281474976710656 := by omega
  clear hq h6 h3
  go_enter Try.func9, Try.ntmps9
  go_wp2_with (first
    | (at_make; go_must (refine wp_make elemBool rfl rfl _ _ rfl n n rfl rfl rfl rfl (Nat.le_refl _) m1 m2 ?_); intro w1 o1 g1 z1)
    | ((with_reducible show Go.wpList _ _ _ (Oper.mk _ (Op.build _ _) _ _ _ _ :: _) _ _); go_must (refine wp_pool rfl _ _ rfl rfl rfl ?_))
    | fail)
  have hNW : NW w (w1.alloc (.cells (poolN (a : Int) (.slice none 0 0) (.slice (some ⟨w.heap.size, 0, none⟩) n n)).toArray 72)) (w.heap.size + 1) w.heap.size a n 0 none 0 (fun _ => 0) := by
    have hb := Blk.new w1 72 (poolN (a : Int) (.slice none 0 0) (.slice (some ⟨w.heap.size, 0, none⟩) n n)).toArray
    rw [z1] at hb
    exact ⟨g1.trans (Gr.alloc _ _), by omega, hb, Owns.empty _ _ _ _, fun j hj => by omega, fun j k hj => by omega, o1.gr (Gr.alloc _ _)⟩
  have HN := Lib.hid hNW
  have hgb : w.heap.size ≤ w.heap.size + 1 := by omega
  clear hNW o1 g1 z1
  generalize w.heap.size + 1 = g at *
  generalize (w1.alloc (.cells (poolN (a : Int) (.slice none 0 0) (.slice (some ⟨w.heap.size, 0, none⟩) n n)).toArray 72)) = W1 at *
  go_loopw [38] (fun v wr => ∃ (i : Nat) (ads : Option Addr) (cs : Nat) (bd : Nat → Nat), i ≤ n ∧ v = .int .i64 (i : Int) ∧ NW w wr g w.heap.size a n i ads cs bd) (fun v _ => n - (intOf v).toNat)
  case atStart => exact ⟨0, none, 0, fun _ => 0, Nat.zero_le _, rfl, HN.out⟩
  case round =>
    obtain ⟨i, ads, cs, bd, hi, rfl, hN⟩ := hrel
    by_cases hin : i < n
    · have c1 := hN.blk.cell (i := 1) rfl
      have f1 := hN.blk.frozen 1
      have HN2 := Lib.hid hN
      have hb := hN.gr.size
      clear hN
      have m3 : i + 1 ≤ maxLen := by unfold maxLen; omega
      have m4 : (i + 1) * 24 ≤ 140737488355328 := by omega
      go_wp2
      obtain ⟨W0, hW0⟩ : ∃ W0, W0 = wr := ⟨_, rfl⟩
      subst hW0
      obtain ⟨row, hrow⟩ : ∃ row, row = ads.map (·.block) := ⟨_, rfl⟩
      have hNo := HN2.out
      have hgW := hNo.blk.lt
      have hrlt : ∀ g', row = some g' → g' < W0.heap.size ∧ w.heap.size ≤ g' := by
        intro g' hg'
        rw [hrow] at hg'
        cases ads with
        | none => cases hg'
        | some y => cases hg'; exact ⟨(hNo.row.lt y rfl).2, (hNo.row.lt y rfl).1⟩
      have hgne : some g ≠ row := fun h => by
        rw [hrow] at h
        cases hads : ads with
        | none => rw [hads] at h; cases h
        | some y => rw [hads] at h; exact hNo.blk.owns_ne hNo.row (by decide) y hads (Option.some.inj h).symm
      obtain ⟨A9, hA⟩ : ∃ A9 : Option Obj, ∀ g, row = some g → A9 = W0.heap[g]? := ⟨row.bind fun g => W0.heap[g]?, fun g hg' => by rw [hg']; rfl⟩
      obtain ⟨B9, hB⟩ : ∃ B9 : Option Obj, B9 = if i + 1 ≤ cs then appRow (i * 1) [.slice (some ⟨W0.heap.size, 0, none⟩) a a] A9 else A9 := ⟨_, rfl⟩
      have HRow := Lib.hid hrow
      have HA := Lib.hid hA
      have HBB := Lib.hid hB
      have HRL := Lib.hid hrlt
      have oj2 := hNo.row
      have HRV := Lib.hid (fun r (h : row = some r) => (hrlt r h).1)
      have HP0 := Lib.hid (show ∀ s, NPre W0.heap.size g (poolN (a : Int) (.slice ads i cs) (.slice (some ⟨w.heap.size, 0, none⟩) n n)) s W0.drew from fun s => by
        by_cases e6 : s = 6
        · subst e6; rw [NPre.six]; rfl
        · by_cases e11 : s = 11
          · subst e11; rw [NPre.eleven]; exact hNo.blk.drew
          · simp [NPre, e6, e11])
      have HSET := Lib.hid (show ∀ w' v, Blk w' g 72 (poolN (a : Int) (.slice ads i cs) (.slice (some ⟨w.heap.size, 0, none⟩) n n)) → Blk (w'.setCell ⟨g, 1, none⟩ v) g 72 (poolN (a : Int) v (.slice (some ⟨w.heap.size, 0, none⟩) n n)) from fun w' v h => h.set_ 1 v)
      have HPRE := Lib.hid (show ∀ w', Blk w' g 72 (poolN (a : Int) (.slice ads i cs) (.slice (some ⟨w.heap.size, 0, none⟩) n n)) → w'.cell? ⟨g, 1, none⟩ = some (.slice ads i cs) ∧ w'.frozen? ⟨g, 1, none⟩ = false from fun w' h => ⟨h.cell rfl, h.frozen 1⟩)
      clear hrow hA hB hrlt hNo c1 f1
      refine region_phases (Le := Duo row A9 B9 g (GoodF row B9 w.heap.size 72 73 1 (i + 1) (slabV bd a i ++ [.slice (some ⟨W0.heap.size, 0, none⟩) a a]) W0.heap.size g (fun v => poolN (a : Int) v (.slice (some ⟨w.heap.size, 0, none⟩) n n)))) (NPre W0.heap.size g (poolN (a : Int) (.slice ads i cs) (.slice (some ⟨w.heap.size, 0, none⟩) n n))) Duo.refl (fun _ _ _ => Duo.trans) (Duo.drew (GoodF.drew hgW hgne)) HP0.out _ [Is ?r0, Is ?r1, Is ?r2, Is (.pointer (some ⟨g, 1, none⟩)), Is (.slice ads i cs), Is (.int .i64 (a : Int)), NewAt W0.heap.size a, OneD W0.heap.size [.slice (some ⟨W0.heap.size, 0, none⟩) a a], Apn row B9 w.heap.size 73 1 (i + 1) (slabV bd a i ++ [.slice (some ⟨W0.heap.size, 0, none⟩) a a]) W0.heap.size, Is ?r9, Is (.pointer (some ⟨g, 1, none⟩)), SinceG (GoodF row B9 w.heap.size 72 73 1 (i + 1) (slabV bd a i ++ [.slice (some ⟨W0.heap.size, 0, none⟩) a a]) W0.heap.size g (fun v => poolN (a : Int) v (.slice (some ⟨w.heap.size, 0, none⟩) n n)))] (by kernel_rfl) (by kernel_rfl) (by kernel_rfl) rfl rfl ⟨Is.stable _, Is.stable _, Is.stable _, Is.stable _, Is.stable _, Is.stable _, NewAt.dstable hgW HRV.out, OneD.dstable hgW HRV.out, Apn.dstable hgW hgne, Is.stable _, Is.stable _, SinceG.stable, trivial⟩ ⟨?s0, ?s1, ?s2, ?s3, ?s4, ?s5, ?s6, ?s7, ?s8, ?s9, ?s10, ?s11, trivial⟩ ?fin
      case' s0 | s1 | s2 | s3 | s4 | s5 | s6 | s7 | s9 | s10 =>
        intro ρ wr hρ hg hK
        simp [readsOf, slotsOf, Op.operands, Call.operands, tmpOf, List.filterMap_cons, List.filterMap_nil, KnownAll, knownOf, srcOf, depsOf, dstOf, Region.binds, nth, Is] at hK
        obtain ⟨hc, hf, hgl⟩ := hρ
        try simp only [wantedBy, dstOf, boolOf, nth, List.getD_cons_zero, List.getD_cons_succ, List.getElem?_cons_zero, List.getElem?_cons_succ, Option.bind_some, if_true, hK, BEq.rfl]
        try go_simp
        first | exact rfl | (rw [if_pos (by omega)]; exact is_here rfl) | (rw [dif_pos (by omega)]; exact is_here rfl) | exact congrArg (Value.int _) (IntWalk.i64_in _ ⟨by omega, by omega⟩) | skip
      case' s8 | s11 =>
        intro ρ wr hρ hg hK
        simp [readsOf, slotsOf, Op.operands, Call.operands, tmpOf, List.filterMap_cons, List.filterMap_nil, KnownAll, knownOf, srcOf, depsOf, dstOf, Region.binds, nth, Is] at hK
        obtain ⟨hc, hf, hgl⟩ := hρ
        try simp only [wantedBy, dstOf, boolOf, nth, List.getD_cons_zero, List.getD_cons_succ, List.getElem?_cons_zero, List.getElem?_cons_succ, Option.bind_some, if_true, hK, BEq.rfl]
      case s4 =>
        obtain ⟨p1, p2⟩ := HPRE.out _ (NPre.eleven.1 (hg.2 11 (by kernel_rfl)))
        go_simp
        exact rfl
      case s6 =>
        obtain ⟨w9, r1, r2, r3⟩ := make_slab _ a h2 .i64 .i64
        have e9 := NPre.six.1 (hg.2 6 (by kernel_rfl))
        have hs := hg.1.size
        rw [r1]
        rw [e9] at r3 ⊢
        simp only [Result.andThen_ok, growUpon_value]
        have k := Gr.duo (row := row) (A := A9) (B := B9) (g := g) (Good := fun _ => True) r2 (fun r h => by have := HRV.out r h; omega) (by omega) (fun _ => trivial)
        exact ⟨⟨r2.duo (fun r h => by have := HRV.out r h; omega) (by omega) (fun h => h.duo hgW hgne k (r2.block g (by omega))), NPre.step (fun h => absurd rfl h) (fun _ h => h.gr r2)⟩, rfl, r3⟩
      case s7 =>
        obtain ⟨e0, hb0⟩ := hK
        have hlt0 := hb0.lt
        have hs := hg.1.size
        simp only [e0]
        go_simp
        have k := Gr.duo (row := row) (A := A9) (B := B9) (g := g) (Good := fun _ => True) (Gr.alloc wr (.cells #[.slice (some ⟨W0.heap.size, 0, none⟩) a a] 73)) (fun r h => by have := HRV.out r h; omega) (by omega) (fun _ => trivial)
        exact ⟨⟨(Gr.alloc _ _).duo (fun r h => by have := HRV.out r h; omega) (by omega) (fun h => h.duo hgW hgne k ((Gr.alloc _ _).block g (by omega))), NPre.step (fun _ h => by omega) (fun _ h => h.alloc _)⟩, _, _, _, rfl, hs, heap_alloc_new _ _⟩
      case s8 =>
        obtain ⟨e0, hone⟩ := hK
        have hs := hg.1.size
        obtain ⟨g9, q9, fr9, o1, o2, o3⟩ := hone
        have hlt9 := (Array.getElem?_eq_some_iff.1 o3).1
        obtain ⟨v, w3, r1, r2, r3⟩ := append_once3 (ty := 67) (u := 67) elemRow oj2 HRow.out HA.out HBB.out hg.1.row hs (OneB.src ⟨g9, q9, fr9, o1, o3⟩ rfl (fun x hx => by rw [List.mem_singleton] at hx; rw [hx]; rfl) Try.underlying67) m3 m4 hb
        have k := Once.duo (g := g) (Good := fun _ => True) r2 (by omega) hgne (fun _ => trivial)
        simp only [execOp, resolve, invoke, builtin, Sem.run_bind, Sem.run_pure, Result.andThen_ok, List.map_toArray, List.map_cons, List.map_nil, e0]
        rw [r1]
        exact ⟨⟨r2.duo (by omega) hgne (fun h => h.duo hgW hgne k (r2.1.block g (by omega) hgne)), NPre.step (fun _ h => by omega) (fun _ h => Blk.grown h r2.1 hgne)⟩, r3⟩
      case s11 =>
        obtain ⟨e0, hap⟩ := hK
        have hb := NPre.eleven.1 (hg.2 11 (by kernel_rfl))
        obtain ⟨p1, p2⟩ := HPRE.out _ hb
        have hset := HSET.out _ (ρ (.tmp 48)) hb
        obtain ⟨d1, d2⟩ := duo_setF (A := A9) (F := fun v => poolN (a : Int) v (.slice (some ⟨w.heap.size, 0, none⟩) n n)) hset hap hgW hgne
        obtain ⟨adv, cpv, e1, _⟩ := hap
        rw [e1] at d1 d2
        go_simp
        exact ⟨⟨d1, NPre.step (fun _ h => by simpa using h) (fun h => absurd rfl h)⟩, d2⟩
      case fin =>
        intro w1 val hg hH
        simp only [Holds, Is, Nat.zero_add, Nat.reduceAdd] at hH
        obtain ⟨h0, h1, h2, h3, h4, h5, h6, h7, h8, h9, h10, h11, _⟩ := hH
        simp only [List.take_succ_cons, List.take_zero, List.drop_succ_cons, List.drop_zero, putAll, h0, h1, h2, h3, h4, h5, h9, h10, Nat.zero_add, Nat.reduceAdd]
        obtain ⟨v9, b9, ad9, c9, rfl, o9, _, _⟩ := h11
        obtain ⟨ad7, c7, e7, _⟩ := h8
        obtain ⟨g6, e6, fr6, e6', _⟩ := h7
        obtain ⟨e5, b5⟩ := h6
        simp only [e7, e6', e5]
        go_simp
        have hNo := HN2.out
        have hkeep : ∀ j, j < W0.heap.size → j ≠ g → some j ≠ row → w1.heap[j]? = W0.heap[j]? := fun j hj h1 h2 => hg.block j hj h2 h1
        have hne : ∀ {b : Nat} {t : TypeId} {cs' : List Value}, Blk W0 b t cs' → t ≠ 73 → some b ≠ row := fun hb ht e => by
          rw [HRow.out] at e
          cases hads : ads with
          | none => rw [hads] at e; cases e
          | some y => rw [hads] at e; exact hb.owns_ne hNo.row ht y hads (Option.some.inj e).symm
        have hNW : NW w w1 g w.heap.size a n (i + 1) ad9 c9 (upd bd i W0.heap.size) := by
          refine ⟨⟨hg.os.trans hNo.gr.os, hg.tape.trans hNo.gr.tape, hg.output.trans hNo.gr.output, Nat.le_trans hNo.gr.size hg.size, fun j hj => (hkeep j (Nat.lt_of_lt_of_le hj hNo.gr.size) (by have := hNo.hg; omega) (fun e => by have := (HRL.out j e.symm).2; omega)).trans (hNo.gr.block j hj)⟩, hNo.hg, b9, ?_, fun j hj => ?_, fun j k hj hk => ?_, ?_⟩
          · have e : slabV (upd bd i W0.heap.size) a (i + 1) = slabV bd a i ++ [.slice (some ⟨W0.heap.size, 0, none⟩) a a] := by
              unfold slabV
              rw [List.range_succ, List.map_append]
              congr 1
              · apply List.map_congr_left
                intro j hj
                rw [List.mem_range] at hj
                rw [upd_other _ _ (by omega)]
              · simp [upd_same]
            rw [e]; exact o9
          · by_cases e : j = i
            · subst e; rw [upd_same]; exact ⟨b5, hNo.gr.size⟩
            · rw [upd_other _ _ e]
              obtain ⟨q1, q2⟩ := hNo.slab j (by omega)
              exact ⟨(hkeep _ q1.lt (q1.ne hNo.blk (by decide)) (hne q1 (by decide))).trans q1, q2⟩
          · by_cases ej : j = i
            · by_cases ek : k = i
              · intro _; omega
              · subst ej; rw [upd_same, upd_other _ _ ek]
                have := (hNo.slab k (by omega)).1.lt
                intro e; omega
            · by_cases ek : k = i
              · subst ek; rw [upd_same, upd_other _ _ ej]
                have := (hNo.slab j (by omega)).1.lt
                intro e; omega
              · rw [upd_other _ _ ej, upd_other _ _ ek]
                exact hNo.inj j k (by omega) (by omega)
          · exact hNo.tak.kept (fun b hb => hkeep b (hNo.tak.lt _ hb).2 (hNo.blk.owns_ne hNo.tak (by decide) _ hb) (fun e => by
              rw [HRow.out] at e
              cases hads : ads with
              | none => rw [hads] at e; cases e
              | some y => rw [hads] at e; exact hNo.tak.ne hNo.row (by decide) _ y hb hads (Option.some.inj e)))
        have HNW := Lib.hid hNW
        clear hNW hNo b9 o9 b5 hne hkeep
        go_wp2
        go_roundw
        case rel => exact ⟨i + 1, ad9, c9, upd bd i W0.heap.size, hin, by go_num, HNW.out⟩
        case measure => simp [intOf]; omega
    · obtain rfl : i = n := by omega
      have HN2 := Lib.hid hN
      clear hN
      go_wp2
      go_ret2
      have hN := HN2.out
      have hbl : (newF a i).bytes.length = i := List.length_replicate
      have htl : (newF a i).taken.length = i := List.length_replicate
      refine ⟨g, fun j => w.heap.size ≤ j ∧ j < wr.heap.size, rfl, hN.gr, ⟨ads, cs, some ⟨w.heap.size, 0, none⟩, i, fun _ => none, fun _ => 0, bd, ?_⟩, fun j hj => hj.1⟩
      have hpv : poolV (newF a i) ads cs (some ⟨w.heap.size, 0, none⟩) i (fun _ => none) (fun _ => 0) = poolN (a : Int) (.slice ads i cs) (.slice (some ⟨w.heap.size, 0, none⟩) i i) := by
        unfold poolV poolN
        rw [hbl, htl]
        rw [flat_congr (G := fun _ => landV noLand none 0) 256 (fun j hj => by rw [landAt_new])]
        rfl
      refine ⟨by rw [hpv]; exact hN.blk, by rw [hbl]; exact hN.row.base (Nat.zero_le _), ?_, fun j hj => ?_, fun j hj => ?_, fun j k hj hk => hN.inj j k (by omega) (by omega), fun j k x y _ _ hx => (by cases hx), ⟨hN.hg, hN.blk.lt⟩, fun x hx => ⟨(hN.row.lt x hx).1, (hN.row.lt x hx).2⟩, fun x hx => ⟨(hN.tak.lt x hx).1, (hN.tak.lt x hx).2⟩, fun j hj => ⟨(hN.slab j (by omega)).2, (hN.slab j (by omega)).1.lt⟩, fun j x _ hx => (by cases hx), fun j hj => hj.2⟩
      · rw [htl]
        show Owns wr 0 _ 1 _ _ i ((List.replicate i false).map .bool)
        rw [List.map_replicate]
        exact hN.tak.base (Nat.zero_le _)
      · have e : bytesAt (newF a i) j = List.replicate a 0 := by
          unfold bytesAt newF
          simp only [List.getD_eq_getElem?_getD, List.getElem?_replicate]
          rw [if_pos (by omega)]; rfl
        rw [e]
        exact (hN.slab j (by omega)).1
      · rw [landAt_new]
        exact Owns.empty _ _ _ _
end Go.Proofs.Ytnafhjgfkofkbaa
/- Layer 1 (region): every call leaves the pool in order. No program is in sight here. -/
namespace Go.Proofs.Ytnafhjgfkofkbaa
set_option linter.unusedVariables false
set_option linter.unusedSimpArgs false
open Go.RowKit
theorem Land.eta (l : Land) : (⟨l.there, l.gen, l.slabs, l.fill⟩ : Land) = l := rfl
theorem getD_set_bool (l : List Bool) (s j : Nat) (b : Bool) (hs : s < l.length) : (l.set s b).getD j false = if s = j then b else l.getD j false := by
  simp only [List.getD_eq_getElem?_getD, List.getElem?_set]
  by_cases h : s = j
  · subst h; simp [hs]
  · simp [h]
theorem landAt_grow {p : PoolF} (h : PoolOk p) {i : Nat} (hi : i < 256) (s j : Nat) : landAt (growAt p i s) j = if i = j then ⟨(landAt p i).there, (landAt p i).gen, (landAt p i).slabs ++ [s], (landAt p i).slabs.length * p.size⟩ else landAt p j :=
  landAt_set { p with bytes := p.bytes.set s (List.replicate p.size 0), taken := p.taken.set s true } i j _ (by show i < p.lands.length; rw [h.ln]; exact hi)
theorem landAt_fill {p : PoolF} (h : p.lands.length = 256) {i : Nat} (hi : i < 256) (f j : Nat) : landAt (fillAt p i f) j = if i = j then ⟨(landAt p i).there, (landAt p i).gen, (landAt p i).slabs, f⟩ else landAt p j :=
  landAt_set p i j _ (by rw [h]; exact hi)
theorem grow_lands {p : PoolF} (h : PoolOk p) (i s : Nat) : (growAt p i s).lands.length = 256 := by show (p.lands.set i _).length = 256; rw [List.length_set]; exact h.ln
theorem mem_bytes_set {α : Type} {l : List α} {s : Nat} {x y : α} (h : y ∈ l.set s x) : y ∈ l ∨ y = x := List.mem_or_eq_of_mem_set h
/-- a region has a slab more, and is handed out so far -/
theorem growfill_ok {p : PoolF} (h : PoolOk p) {i s f : Nat} (hi : i < 256) (hth : (landAt p i).there = true) (hs : s < p.taken.length) (h0 : p.taken.getD s false = false) (f1 : (landAt p i).slabs.length * p.size < f) (f2 : f ≤ ((landAt p i).slabs.length + 1) * p.size) :
    PoolOk (fillAt (growAt p i s) i f) := by
  have hA : ∀ j, landAt (fillAt (growAt p i s) i f) j = if i = j then ⟨(landAt p i).there, (landAt p i).gen, (landAt p i).slabs ++ [s], f⟩ else landAt p j := fun j => by
    rw [landAt_fill (grow_lands h i s) hi, landAt_grow h hi, landAt_grow h hi, if_pos rfl]
    split <;> rfl
  have hsb : s < p.bytes.length := by rw [← h.tk]; exact hs
  have hbl : (fillAt (growAt p i s) i f).bytes.length = p.bytes.length := List.length_set
  have hnot : ∀ j, j < 256 → s ∉ (landAt p j).slabs := fun j hj hm => by
    have := (h.has s hsb).2 ⟨j, hj, hm⟩
    rw [h0] at this; cases this
  have hsl : ∀ j, (landAt (fillAt (growAt p i s) i f) j).slabs = if i = j then (landAt p i).slabs ++ [s] else (landAt p j).slabs := fun j => by rw [hA]; split <;> rfl
  refine ⟨h.s1, h.s2, h.s3, by rw [hbl]; exact h.n1, by rw [hbl]; exact h.n2, fun b hb => ?_, ?_, ?_, fun j hj => ?_, fun t ht => ?_, fun j k t hj hk m1 m2 => ?_⟩
  · rcases mem_bytes_set hb with h1 | h1
    · exact h.bl b h1
    · rw [h1]; exact List.length_replicate
  · rw [hbl]; show (p.taken.set s true).length = _; rw [List.length_set]; exact h.tk
  · show ((growAt p i s).lands.set i _).length = 256; rw [List.length_set]; exact grow_lands h i s
  · rw [hA]
    by_cases e : i = j
    · subst e
      rw [if_pos rfl]
      have hl := h.ld i hi
      refine ⟨?_, fun t ht => ?_, .inr ⟨by simp, ?_, ?_⟩, fun hf => ?_⟩
      · refine List.nodup_append.2 ⟨hl.nodup, by simp, fun a ha b hb e => ?_⟩
        rw [List.mem_singleton] at hb
        exact hnot i hi (by rw [← hb, ← e]; exact ha)
      · rw [hbl]
        rcases List.mem_append.1 ht with h1 | h1
        · exact hl.lt t h1
        · rw [List.mem_singleton] at h1; rw [h1]; exact hsb
      · show (((landAt p i).slabs ++ [s]).length - 1) * p.size < f
        simpa using f1
      · show f ≤ ((landAt p i).slabs ++ [s]).length * p.size
        simpa using f2
      · exact absurd (hth.symm.trans hf) (by simp)
    · rw [if_neg e]
      have hl := h.ld j hj
      exact ⟨hl.nodup, fun t ht => by rw [hbl]; exact hl.lt t ht, hl.fill, hl.away⟩
  · rw [hbl] at ht
    have hg : (fillAt (growAt p i s) i f).taken.getD t false = if s = t then true else p.taken.getD t false := getD_set_bool p.taken s t true hs
    rw [hg]
    by_cases e : s = t
    · subst e
      rw [if_pos rfl]
      exact ⟨fun _ => ⟨i, hi, by rw [hsl, if_pos rfl]; simp⟩, fun _ => rfl⟩
    · rw [if_neg e, h.has t ht]
      constructor
      · rintro ⟨j, hj, hm⟩
        refine ⟨j, hj, ?_⟩
        rw [hsl]
        split
        · rename_i e2; subst e2; exact List.mem_append_left _ hm
        · exact hm
      · rintro ⟨j, hj, hm⟩
        refine ⟨j, hj, ?_⟩
        rw [hsl] at hm
        split at hm
        · rename_i e2; subst e2
          rcases List.mem_append.1 hm with h1 | h1
          · exact h1
          · rw [List.mem_singleton] at h1; exact absurd h1.symm e
        · exact hm
  · rw [hsl] at m1 m2
    by_cases ej : i = j
    · subst ej
      by_cases ek : i = k
      · exact ek
      · rw [if_pos rfl] at m1
        rw [if_neg ek] at m2
        rcases List.mem_append.1 m1 with h1 | h1
        · exact h.apart i k t hi hk h1 m2
        · rw [List.mem_singleton] at h1; rw [h1] at m2; exact absurd m2 (hnot k hk)
    · rw [if_neg ej] at m1
      by_cases ek : i = k
      · subst ek
        rw [if_pos rfl] at m2
        rcases List.mem_append.1 m2 with h1 | h1
        · exact h.apart j i t hj hi m1 h1
        · rw [List.mem_singleton] at h1; rw [h1] at m1; exact absurd m1 (hnot j hj)
      · rw [if_neg ek] at m2
        exact h.apart j k t hj hk m1 m2
/-- a region is handed out further within its last slab -/
theorem fill_ok {p : PoolF} (h : PoolOk p) {i f : Nat} (hi : i < 256) (hne : (landAt p i).slabs ≠ []) (f1 : ((landAt p i).slabs.length - 1) * p.size < f) (f2 : f ≤ (landAt p i).slabs.length * p.size) : PoolOk (fillAt p i f) := by
  have hA := fun j => landAt_fill (p := p) h.ln hi f j
  have hsl : ∀ j, (landAt (fillAt p i f) j).slabs = (landAt p j).slabs := fun j => by
    rw [hA]; split
    · rename_i e; subst e; rfl
    · rfl
  refine ⟨h.s1, h.s2, h.s3, h.n1, h.n2, h.bl, h.tk, ?_, fun j hj => ?_, fun t ht => ?_, fun j k t hj hk m1 m2 => ?_⟩
  · show (p.lands.set i _).length = 256; rw [List.length_set]; exact h.ln
  · have hl := h.ld j hj
    rw [hA]
    by_cases e : i = j
    · subst e; rw [if_pos rfl]
      exact ⟨hl.nodup, hl.lt, .inr ⟨hne, f1, f2⟩, hl.away⟩
    · rw [if_neg e]; exact ⟨hl.nodup, hl.lt, hl.fill, hl.away⟩
  · simp only [hsl]; exact h.has t ht
  · rw [hsl] at m1 m2; exact h.apart j k t hj hk m1 m2
theorem inF_bounds {p : PoolF} (h : PoolOk p) {i : Nat} (hi : i < 256) : inF p i ≤ p.size ∧ ((landAt p i).slabs ≠ [] → (landAt p i).fill = ((landAt p i).slabs.length - 1) * p.size + inF p i ∧ 1 ≤ inF p i) := by
  have hl := h.ld i hi
  unfold inF
  refine ⟨Nat.sub_le _ _, fun hne => ?_⟩
  rcases hl.fill with ⟨h1, _⟩ | ⟨_, h2, h3⟩
  · exact absurd h1 hne
  · obtain ⟨k, hk⟩ : ∃ k, (landAt p i).slabs.length = k + 1 := ⟨(landAt p i).slabs.length - 1, by
      cases hsl : (landAt p i).slabs with
      | nil => exact absurd hsl hne
      | cons _ _ => simp⟩
    rw [hk] at h2 h3 ⊢
    simp only [Nat.add_sub_cancel] at h2 ⊢
    rw [Nat.add_mul] at h3 ⊢
    omega
theorem alloc_ok {p : PoolF} (h : PoolOk p) (r n a : Int) : PoolOk (allocF p r n a).2.2 := by
  unfold allocF
  cases hl : landF p r with
  | none => exact h
  | some i =>
    obtain ⟨_, hi, hth⟩ := landF_some hl
    simp only
    split
    · exact h
    · rename_i hb
      have hn1 : 1 ≤ n.toNat := by omega
      have hn2 : n.toNat ≤ p.size := by omega
      split
      · cases hid : idleF p with
        | none => exact h
        | some s =>
          obtain ⟨h1, h2, _⟩ := idleF_some hid
          simp only
          exact growfill_ok h hi hth h1 h2 (by omega) (by rw [Nat.add_mul]; omega)
      · rename_i hg
        have hne : (landAt p i).slabs ≠ [] := fun e => hg (.inl e)
        have hfit : ¬ p.size < upTo (inF p i) a.toNat + n.toNat := fun e => hg (.inr e)
        simp only
        refine fill_ok h hi hne (by omega) ?_
        obtain ⟨k, hk⟩ : ∃ k, (landAt p i).slabs.length = k + 1 := ⟨(landAt p i).slabs.length - 1, by
          cases hsl : (landAt p i).slabs with
          | nil => exact absurd hsl hne
          | cons _ _ => simp⟩
        rw [hk, Nat.add_sub_cancel, Nat.add_mul]
        omega
theorem setB_ok {p : PoolF} (h : PoolOk p) (s : Nat) (b : List UInt8) (hb : s < p.bytes.length → b.length = p.size) : PoolOk { p with bytes := p.bytes.set s b } := by
  have hl : ∀ j, landAt { p with bytes := p.bytes.set s b } j = landAt p j := fun _ => rfl
  have hbl : ({ p with bytes := p.bytes.set s b } : PoolF).bytes.length = p.bytes.length := List.length_set
  refine ⟨h.s1, h.s2, h.s3, by rw [hbl]; exact h.n1, by rw [hbl]; exact h.n2, fun y hy => ?_, by rw [hbl]; exact h.tk, h.ln, fun j hj => ?_, fun t ht => h.has t (by rw [hbl] at ht; exact ht), h.apart⟩
  · by_cases hs : s < p.bytes.length
    · rcases mem_bytes_set hy with h1 | h1
      · exact h.bl y h1
      · rw [h1]; exact hb hs
    · rw [List.set_eq_of_length_le (by omega)] at hy
      exact h.bl y hy
  · have := h.ld j hj
    exact ⟨this.nodup, fun t ht => by rw [hbl]; exact this.lt t ht, this.fill, this.away⟩
end Go.Proofs.Ytnafhjgfkofkbaa
/- Layer 1 (region): Store and Free leave the pool in order; what is seen of it behind. -/
namespace Go.Proofs.Ytnafhjgfkofkbaa
set_option linter.unusedVariables false
set_option linter.unusedSimpArgs false
open Go.RowKit
theorem splice_len {l b : List UInt8} {k : Nat} (h : k + b.length ≤ l.length) : (l.take k ++ b ++ l.drop (k + b.length)).length = l.length := by
  simp only [List.length_append, List.length_take, List.length_drop]; omega
theorem store_ok {p : PoolF} (h : PoolOk p) (hd : Hd) (a : Int) (b : List UInt8) : PoolOk (storeF p hd a b).2 := by
  rcases hpf : pieceF p hd with ⟨⟨s, k⟩, e⟩
  cases e with
  | succ e => rw [storeF_err hpf]; exact h
  | zero =>
    obtain ⟨i, o, l, -, hi, e2, e3, e4, e5, hl1, -, -, -, -, hkl, hs⟩ := pieceF_ok h hpf
    by_cases hb : a < 0 ∨ a > hd.len ∨ (b.length : Int) > hd.len - a
    · rw [storeF_bad hpf hb]; exact h
    · rw [storeF_ok hpf hb]
      refine setB_ok h s _ (fun hs => ?_)
      have hbl := bytesAt_len h hs
      rw [splice_len (by omega), hbl]
theorem foldl_set_bool : ∀ (l : List Nat) (b : List Bool) (t : Nat), (l.foldl (fun t s => t.set s false) b).getD t false = if t ∈ l then false else b.getD t false
  | [], b, t => by simp
  | s :: r, b, t => by
    rw [List.foldl_cons, foldl_set_bool r]
    by_cases h1 : t ∈ r
    · rw [if_pos h1, if_pos (List.mem_cons_of_mem _ h1)]
    · rw [if_neg h1]
      by_cases h2 : t = s
      · subst h2
        rw [if_pos (by simp)]
        simp only [List.getD_eq_getElem?_getD, List.getElem?_set]
        by_cases hl : t < b.length
        · simp [hl]
        · simp [hl]
      · rw [if_neg (by simp [h1, h2])]
        simp only [List.getD_eq_getElem?_getD, List.getElem?_set]
        rw [if_neg (fun e => h2 e.symm)]
theorem foldl_set_get {β : Type} (x d : β) : ∀ (l : List Nat) (b : List β) (t : Nat), t < b.length → (l.foldl (fun t s => t.set s x) b).getD t d = if t ∈ l then x else b.getD t d
  | [], b, t, _ => by simp
  | s :: r, b, t, ht => by
    rw [List.foldl_cons, foldl_set_get x d r _ t (by rw [List.length_set]; exact ht)]
    by_cases h1 : t ∈ r
    · rw [if_pos h1, if_pos (List.mem_cons_of_mem _ h1)]
    · rw [if_neg h1]
      by_cases h2 : t = s
      · subst h2
        rw [if_pos (by simp)]
        simp [List.getD_eq_getElem?_getD, List.getElem?_set, ht]
      · rw [if_neg (by simp [h1, h2])]
        simp only [List.getD_eq_getElem?_getD, List.getElem?_set]
        rw [if_neg (fun e => h2 e.symm)]
theorem landAt_free {p : PoolF} (h : PoolOk p) {i : Nat} (hi : i < 256) (L : List Nat) (l : Land) (j : Nat) : landAt { freeSlabs p L with lands := p.lands.set i l } j = if i = j then l else landAt p j := by
  have := landAt_set p i j l (by rw [h.ln]; exact hi)
  exact this
theorem free_ok {p : PoolF} (h : PoolOk p) (r : Int) : PoolOk (freeF p r).2 := by
  unfold freeF
  cases hl : landF p r with
  | none => exact h
  | some i =>
    obtain ⟨_, hi, hth⟩ := landF_some hl
    simp only
    obtain ⟨L, hL⟩ : ∃ L, L = (landAt p i).slabs := ⟨_, rfl⟩
    rw [← hL]
    have hA := fun j => landAt_free h hi L ⟨false, (landAt p i).gen, [], 0⟩ j
    obtain ⟨q, hq⟩ : ∃ q : PoolF, q = { freeSlabs p L with lands := p.lands.set i ⟨false, (landAt p i).gen, [], 0⟩ } := ⟨_, rfl⟩
    rw [← hq] at hA ⊢
    have hbl : q.bytes.length = p.bytes.length := by rw [hq]; exact (freeSlabs_len p L).1
    have htl : q.taken.length = p.taken.length := by rw [hq]; exact (freeSlabs_len p L).2
    have hsz : q.size = p.size := by rw [hq]; rfl
    have htk : ∀ t, q.taken.getD t false = if t ∈ L then false else p.taken.getD t false := fun t => by rw [hq]; exact foldl_set_bool L p.taken t
    refine ⟨by rw [hsz]; exact h.s1, by rw [hsz]; exact h.s2, by rw [hsz]; exact h.s3, by rw [hbl]; exact h.n1, by rw [hbl]; exact h.n2, fun b hb => ?_, by rw [hbl, htl]; exact h.tk, ?_, fun j hj => ?_, fun t ht => ?_, fun j k t hj hk m1 m2 => ?_⟩
    · rw [hsz]
      rw [hq] at hb
      exact bytesAt_foldl_len p.size _ (by simp) L p.bytes h.bl b hb
    · rw [hq]; show (p.lands.set i _).length = 256; rw [List.length_set]; exact h.ln
    · rw [hA]
      split
      · exact ⟨by simp, by simp, .inl ⟨rfl, rfl⟩, fun _ => rfl⟩
      · have := h.ld j hj
        exact ⟨this.nodup, fun t ht => by rw [hbl]; exact this.lt t ht, by rw [hsz]; exact this.fill, this.away⟩
    · rw [hbl] at ht
      rw [htk]
      by_cases hm : t ∈ L
      · rw [if_pos hm]
        refine ⟨fun e => by simp at e, fun ⟨j, hj, hjm⟩ => ?_⟩
        rw [hA] at hjm
        split at hjm
        · simp at hjm
        · rename_i hne
          rw [hL] at hm
          exact absurd (h.apart i j t hi hj hm hjm) hne
      · rw [if_neg hm, h.has t ht]
        constructor
        · rintro ⟨j, hj, hjm⟩
          refine ⟨j, hj, ?_⟩
          rw [hA, if_neg (fun e => hm (by rw [hL, e]; exact hjm))]
          exact hjm
        · rintro ⟨j, hj, hjm⟩
          rw [hA] at hjm
          split at hjm
          · simp at hjm
          · exact ⟨j, hj, hjm⟩
    · rw [hA] at m1 m2
      split at m1
      · simp at m1
      · split at m2
        · simp at m2
        · exact h.apart j k t hj hk m1 m2
end Go.Proofs.Ytnafhjgfkofkbaa
/- Layer 1 (region): the pool's calls, as a law uses them; fertile. -/
namespace Go.Proofs.Ytnafhjgfkofkbaa
set_option linter.unusedVariables false
set_option linter.unusedSimpArgs false
open Go.RowKit
/-- a pool of a law's own -/
structure Pl (w0 w : World) (S : Nat → Prop) (g : Nat) (p : PoolF) : Prop where
  gr : Gr w0 w
  pool : PoolAt w S g p
  ok : PoolOk p
  base : ∀ j, S j → w0.heap.size ≤ j
section
variable {w0 w w' : World} {S S' : Nat → Prop} {g : Nat} {p p' : PoolF}
theorem Pl.moved (h : Pl w0 w S g p) (k : Moved S g p' w w' S') (ok' : PoolOk p') : Pl w0 w' S' g p' :=
  ⟨k.chg.gr h.gr h.base, k.pool, ok', fun j hj => by
    rcases k.sub j hj with h1 | h1
    · exact h.base j h1
    · exact Nat.le_trans h.gr.size h1⟩
theorem Pl.more (h : Pl w0 w S g p) (k : Gr w w') : Pl w0 w' S g p := ⟨h.gr.trans k, h.pool.gr k, h.ok, h.base⟩
theorem make_ok2 (h : PoolOk p) : PoolOk (makeR p).2.2 := by
  unfold makeR
  cases hm : makeF p with
  | none => exact h
  | some i =>
    obtain ⟨h1, h2, _⟩ := makeF_some hm
    exact make_ok h h1 h2
theorem Make_pl (h : Pl w0 w S g p) (hgen : ∀ i, i < 256 → (landAt p i).gen ≤ 1000000000) {r e : Nat} (he : makeR p = (r, e, p')) :
    Calls Try.prog 39 #[.pointer (some ⟨g, 0, none⟩)] w fun x w' => x = .returned (.tuple #[.int .i64 (r : Int), .int .i64 (e : Int)]) ∧ Moved S g p' w w' S ∧ Pl w0 w' S g p' := by
  refine (Make_any w S g p h.pool h.ok hgen).mono fun x w' ⟨h1, h2⟩ => ?_
  have h3 := h.moved h2 (make_ok2 h.ok)
  rw [he] at h1 h2 h3
  exact ⟨h1, h2, h3⟩
theorem Alloc_pl (h : Pl w0 w S g p) {r n a : Int} {x : Hd} {e : Nat} (he : allocF p r n a = (x, e, p')) :
    Calls Try.prog 47 #[.pointer (some ⟨g, 0, none⟩), .int .i64 r, .int .i64 n, .int .i64 a] w fun y w' => y = .returned (.tuple #[.agg #[.int .i64 x.region, .int .i64 x.gen, .int .i64 x.off, .int .i64 x.len], .int .i64 (e : Int)]) ∧ ∃ S', Moved S g p' w w' S' ∧ Pl w0 w' S' g p' := by
  refine (Alloc_any w S g p r n a h.pool h.ok).mono fun y w' ⟨h1, S', h2⟩ => ?_
  have h3 := h.moved h2 (alloc_ok h.ok r n a)
  rw [he] at h1 h2 h3
  exact ⟨h1, S', h2, h3⟩
theorem Store_pl (h : Pl w0 w S g p) {x : Hd} {t : Int} {ad : Option Addr} {n cap : Nat} {b : List UInt8} {e : Nat} (hb : Bytes w ad b) (hn : b.length = n) (hnm : n ≤ 9223372036854775807) (he : storeF p x t b = (e, p')) :
    Calls Try.prog 48 #[.pointer (some ⟨g, 0, none⟩), .agg #[.int .i64 x.region, .int .i64 x.gen, .int .i64 x.off, .int .i64 x.len], .int .i64 t, .slice ad n cap] w fun y w' => y = .returned (.int .i64 (e : Int)) ∧ Moved S g p' w w' S ∧ Pl w0 w' S g p' := by
  refine (Store_any w S g p x t ad n cap b h.pool h.ok hb hn hnm).mono fun y w' ⟨h1, h2⟩ => ?_
  have h3 := h.moved h2 (store_ok h.ok x t b)
  rw [he] at h1 h2 h3
  exact ⟨h1, h2, h3⟩
theorem Free_pl (h : Pl w0 w S g p) {r : Int} {e : Nat} (he : freeF p r = (e, p')) :
    Calls Try.prog 57 #[.pointer (some ⟨g, 0, none⟩), .int .i64 r] w fun y w' => y = .returned (.int .i64 (e : Int)) ∧ Moved S g p' w w' S ∧ Pl w0 w' S g p' := by
  refine (Free_any w S g p r h.pool h.ok).mono fun y w' ⟨h1, h2⟩ => ?_
  have h3 := h.moved h2 (free_ok h.ok r)
  rw [he] at h1 h2 h3
  exact ⟨h1, h2, h3⟩
theorem Load_pl (h : Pl w0 w S g p) {x : Hd} {b : List UInt8} {e : Nat} (he : loadF p x = (b, e)) :
    Calls Try.prog 70 #[.pointer (some ⟨g, 0, none⟩), .agg #[.int .i64 x.region, .int .i64 x.gen, .int .i64 x.off, .int .i64 x.len]] w fun y w' => ∃ ad cap, y = .returned (.tuple #[.slice ad b.length cap, .int .i64 (e : Int)]) ∧ Owns w' w.heap.size 5 1 ad cap b.length (bv b) ∧ Gr w w' := by
  have := Load_any w S g p x h.pool h.ok
  rw [he] at this
  exact this
theorem Idle_pl (h : Pl w0 w S g p) : Calls Try.prog 21 #[.pointer (some ⟨g, 0, none⟩)] w fun e w' => e = .returned (.int .i64 (countF p : Int)) ∧ w = w' := Idle_any w S g p h.pool h.ok
theorem New_pl (k : Gr w0 w) (a n : Nat) (h1 : 64 ≤ a) (h2 : a ≤ 65536) (h3 : a % 8 = 0) (h4 : 1 ≤ n) (h5 : n ≤ 4096) (h6 : a * n ≤ 4194304) :
    Calls Try.prog 9 #[.int .i64 (a : Int), .int .i64 (n : Int)] w fun e w' => ∃ g S, e = .returned (.tuple #[.pointer (some ⟨g, 0, none⟩), .int .i64 0]) ∧ Gr w w' ∧ w.heap.size ≤ g ∧ Pl w0 w' S g (newF a n) ∧ ∀ j, S j → w.heap.size ≤ j :=
  (New_good w a n h1 h2 h3 h4 h5 h6).mono fun e w' ⟨g, S, e1, e2, e3, e4⟩ => ⟨g, S, e1, e2, (by obtain ⟨_, _, _, _, _, _, _, hx⟩ := e3; exact e4 g hx.sg), ⟨k.trans e2, e3, new_ok h1 h2 h3 h4 h5, fun j hj => Nat.le_trans k.size (e4 j hj)⟩, e4⟩
end
theorem bytes_new (w : World) (C : Array Value) (e : TypeId) (l : List UInt8) (h : C.toList = bv l) (gb : Nat) (hg : gb = w.heap.size) : Bytes (w.alloc (.cells C e)) (some ⟨gb, 0, none⟩) l := by
  subst hg; exact Bytes.alloc w C e (0, 0) l h
/-- a block that is none of the pool's -/
structure Out (S : Nat → Prop) (w : World) (b : Nat) : Prop where
  no : ¬ S b
  lt : b < w.heap.size
section
variable {w0 w w' : World} {S S' : Nat → Prop} {g b : Nat} {p p' : PoolF}
theorem Out.moved (h : Out S w b) (m : Moved S g p' w w' S') : Out S' w' b := ⟨fun e => by
  rcases m.sub b e with h1 | h1
  · exact h.no h1
  · have := h.lt; omega, Nat.lt_of_lt_of_le h.lt m.chg.size⟩
theorem Out.more (h : Out S w b) (k : Gr w w') : Out S w' b := ⟨h.no, Nat.lt_of_lt_of_le h.lt k.size⟩
theorem Out.new (h : Pl w0 w S g p) (o : Obj) : Out S (w.alloc o) w.heap.size := ⟨fun e => Nat.lt_irrefl _ (h.pool.lt _ e), by simp⟩
theorem Moved.blk (m : Moved S g p' w w' S') {t : TypeId} {cs : List Value} (hb : Blk w b t cs) (h : Out S w b) : Blk w' b t cs := m.chg.blk hb h.no
end
def fp0 : PoolF := newF 64 2
def fp1 : PoolF := (makeR fp0).2.2
def fp2 : PoolF := (allocF fp1 0 10 1).2.2
def fp3 : PoolF := (allocF fp2 0 8 8).2.2
def fp4 : PoolF := (storeF fp3 ⟨0, 1, 0, 10⟩ 0 [9]).2
def fp5 : PoolF := (freeF fp4 0).2
def fp6 : PoolF := (makeR fp5).2.2
def fp7 : PoolF := (allocF fp6 0 1 1).2.2
theorem fe1 : makeR fp0 = (0, 0, fp1) := by kernel_rfl
theorem fe2 : allocF fp1 0 10 1 = (⟨0, 1, 0, 10⟩, 0, fp2) := by kernel_rfl
theorem fe3 : allocF fp2 0 8 8 = (⟨0, 1, 16, 8⟩, 0, fp3) := by kernel_rfl
theorem fe4 : storeF fp3 ⟨0, 1, 0, 10⟩ 0 [9] = (0, fp4) := by kernel_rfl
theorem fe5 : freeF fp4 0 = (0, fp5) := by kernel_rfl
theorem fe6 : makeR fp5 = (0, 0, fp6) := by kernel_rfl
theorem fe7 : allocF fp6 0 1 1 = (⟨0, 2, 0, 1⟩, 0, fp7) := by kernel_rfl
theorem fe8 : loadF fp7 ⟨0, 1, 0, 10⟩ = ([], 3) := by kernel_rfl
theorem fe9 : loadF fp7 ⟨0, 2, 0, 1⟩ = ([0], 0) := by kernel_rfl
theorem fgen0 : ∀ i, i < 256 → (landAt fp0 i).gen ≤ 1000000000 := fun i _ => by unfold fp0; rw [landAt_new]; decide
theorem fgen5 : ∀ i, i < 256 → (landAt fp5 i).gen ≤ 1000000000 := by
  have : ∀ i : Fin 256, (landAt fp5 i.val).gen ≤ 1000000000 := by decide +kernel
  exact fun i hi => this ⟨i, hi⟩
end Go.Proofs.Ytnafhjgfkofkbaa
namespace Go.Proofs.Ytnafhjgfkofkbaa
set_option linter.unusedVariables false
set_option linter.unusedSimpArgs false
open Go.RowKit
/-- a piece that is there -/
structure Pc (p : PoolF) (x : Hd) (i o l : Nat) : Prop where
  there : (landAt p i).there = true
  hi : i < 256
  reg : x.region = (i : Int)
  gen : x.gen = ((landAt p i).gen : Int)
  off : x.off = (o : Int)
  len : x.len = (l : Int)
  one : 1 ≤ l
  fit : o + l ≤ (landAt p i).fill
  ins : o % p.size + l ≤ p.size
def slabOf (p : PoolF) (i o : Nat) : Nat := (landAt p i).slabs.getD (o / p.size) 0
section
variable {p p' : PoolF} {x y : Hd} {i j o l o2 l2 s : Nat}
theorem Pc.piece (h : Pc p x i o l) : pieceF p x = ((slabOf p i o, o % p.size), 0) := by
  obtain ⟨r, gn, of, ln⟩ := x
  obtain ⟨h1, h2, e1, e2, e3, e4, h3, h4, h5⟩ := h
  simp only at e1 e2 e3 e4
  subst e1 e2 e3 e4
  unfold pieceF
  rw [landF_of h2 h1]
  simp only
  rw [if_neg (by simp), if_neg (by omega), Int.toNat_natCast, Int.toNat_natCast, if_neg (by omega)]
  rfl
theorem Pc.of (hp : PoolOk p) {s k : Nat} (h : pieceF p x = ((s, k), 0)) : ∃ i o l, Pc p x i o l := by
  obtain ⟨i, o, l, h1, hi, e2, e3, e4, e5, hl1, hf, h2, h3, h4, hkl, hs⟩ := pieceF_ok hp h
  exact ⟨i, o, l, (landF_some h1).2.2, hi, e4, e5, e2, e3, hl1, hf, by rw [← h4]; exact hkl⟩
theorem Pc.slab (hp : PoolOk p) (h : Pc p x i o l) : o / p.size < (landAt p i).slabs.length ∧ (landAt p i).slabs[o / p.size]? = some (slabOf p i o) ∧ slabOf p i o < p.bytes.length := by
  have hl := hp.ld i h.hi
  have h1 := hl.fill_le
  have h2 := h.fit
  have h3 := h.one
  have hs := hp.s1
  have hlt : o / p.size < (landAt p i).slabs.length := by rw [Nat.div_lt_iff_lt_mul (by omega)]; omega
  have he : (landAt p i).slabs[o / p.size]? = some (slabOf p i o) := by
    unfold slabOf; rw [List.getD_eq_getElem?_getD, List.getElem?_eq_getElem hlt]; rfl
  exact ⟨hlt, he, hl.lt _ (List.mem_of_getElem? he)⟩
theorem Pc.load (h : Pc p x i o l) : loadF p x = (((bytesAt p (slabOf p i o)).drop (o % p.size)).take l, 0) := by
  rw [loadF_ok h.piece, h.len, Int.toNat_natCast]
theorem Pc.load_len (hp : PoolOk p) (h : Pc p x i o l) : (loadF p x).1.length = l := by
  obtain ⟨_, _, hs⟩ := h.slab hp
  have h1 := bytesAt_len hp hs
  have h2 := h.ins
  rw [h.load, List.length_take, List.length_drop]; omega
/-- the lands stand as they stood, but that some have more slabs and are handed out further -/
structure Grew (p p' : PoolF) (i : Nat) : Prop where
  there : (landAt p' i).there = (landAt p i).there
  gen : (landAt p' i).gen = (landAt p i).gen
  slabs : ∃ t, (landAt p' i).slabs = (landAt p i).slabs ++ t
  fill : (landAt p i).fill ≤ (landAt p' i).fill
theorem Grew.refl (p : PoolF) (i : Nat) : Grew p p i := ⟨rfl, rfl, ⟨[], (List.append_nil _).symm⟩, Nat.le_refl _⟩
theorem Pc.grew (hp : PoolOk p) (h : Pc p x i o l) (g : Grew p p' i) (hs : p'.size = p.size) : Pc p' x i o l ∧ slabOf p' i o = slabOf p i o := by
  obtain ⟨t, ht⟩ := g.slabs
  obtain ⟨h1, h2, _⟩ := h.slab hp
  refine ⟨⟨g.there.trans h.there, h.hi, h.reg, by rw [h.gen, g.gen], h.off, h.len, h.one, Nat.le_trans h.fit g.fill, by rw [hs]; exact h.ins⟩, ?_⟩
  unfold slabOf
  rw [hs, ht, List.getD_eq_getElem?_getD, List.getElem?_append_left h1, ← List.getD_eq_getElem?_getD]
theorem Pc.kept (hp : PoolOk p) (h : Pc p x i o l) (g : Grew p p' i) (hs : p'.size = p.size) (hb : bytesAt p' (slabOf p i o) = bytesAt p (slabOf p i o)) : Pc p' x i o l ∧ loadF p' x = loadF p x := by
  obtain ⟨h1, h2⟩ := h.grew hp g hs
  refine ⟨h1, ?_⟩
  rw [h1.load, h.load, h2, hb, hs]
/-- Alloc that is answered -/
theorem alloc_pcs (hp : PoolOk p) {r n a : Int} (he : allocF p r n a = (y, 0, p')) :
    ∃ i o : Nat, landF p r = some i ∧ Pc p' y i o n.toNat ∧ (n.toNat : Int) = n ∧ (landAt p i).fill ≤ o ∧ p'.size = p.size ∧ p'.bytes.length = p.bytes.length ∧ (∀ j, j < 256 → Grew p p' j) ∧ (∀ x j o l, Pc p x j o l → Pc p' x j o l ∧ loadF p' x = loadF p x) ∧ (landAt p' i).fill = o + n.toNat ∧ o % p.size % a.toNat = 0 := by
  have hok := alloc_ok hp r n a
  have hs1 := hp.s1
  unfold allocF at he
  cases hl : landF p r with
  | none => rw [hl] at he; simp at he
  | some i =>
    obtain ⟨e0, hi, hth⟩ := landF_some hl
    rw [hl] at he
    simp only at he
    split at he
    · simp at he
    · rename_i hb
      have hn1 : 1 ≤ n.toNat := by omega
      have hn2 : n.toNat ≤ p.size := by omega
      have hn3 : ((n.toNat : Nat) : Int) = n := by omega
      split at he
      · cases hid : idleF p with
        | none => rw [hid] at he; simp at he
        | some s =>
          rw [hid] at he
          simp only [Prod.mk.injEq, true_and] at he
          obtain ⟨ey, ep⟩ := he
          obtain ⟨hst, h0, _⟩ := idleF_some hid
          have hsb : s < p.bytes.length := by rw [← hp.tk]; exact hst
          have hA : ∀ j, landAt p' j = if i = j then ⟨(landAt p i).there, (landAt p i).gen, (landAt p i).slabs ++ [s], (landAt p i).slabs.length * p.size + n.toNat⟩ else landAt p j := fun j => by
            rw [← ep, landAt_fill (grow_lands hp i s) hi, landAt_grow hp hi, landAt_grow hp hi, if_pos rfl]
            split <;> rfl
          have hsz : p'.size = p.size := by rw [← ep]; rfl
          have hbl : p'.bytes.length = p.bytes.length := by rw [← ep]; exact List.length_set
          have hfl := (hp.ld i hi).fill_le
          have hgrew : ∀ j, j < 256 → Grew p p' j := fun j _ => by
            by_cases e : i = j
            · subst e
              have := hA i
              rw [if_pos rfl] at this
              refine ⟨by rw [this], by rw [this], ⟨[s], by rw [this]⟩, by rw [this]; show (landAt p i).fill ≤ (landAt p i).slabs.length * p.size + n.toNat; omega⟩
            · have := hA j
              rw [if_neg e] at this
              exact ⟨by rw [this], by rw [this], ⟨[], by rw [this, List.append_nil]⟩, by rw [this]; exact Nat.le_refl _⟩
          have hAi := hA i
          rw [if_pos rfl] at hAi
          have hmod : (landAt p i).slabs.length * p.size % p.size = 0 := Nat.mul_mod_left _ _
          refine ⟨i, (landAt p i).slabs.length * p.size, rfl, ⟨by rw [hAi]; exact hth, hi, by rw [← ey], by rw [← ey, hAi], by rw [← ey], by rw [← ey]; exact hn3.symm, hn1, by rw [hAi]; exact Nat.le_refl _, by rw [hsz, hmod]; omega⟩, hn3, hfl, hsz, hbl, hgrew, fun x j o l hx => ?_, by rw [hAi], by rw [hmod]; exact Nat.zero_mod _⟩
          refine hx.kept hp (hgrew j hx.hi) hsz ?_
          obtain ⟨_, hm, _⟩ := hx.slab hp
          have hne : slabOf p j o ≠ s := fun e => by
            have := (hp.has s hsb).2 ⟨j, hx.hi, e ▸ List.mem_of_getElem? hm⟩
            rw [h0] at this; cases this
          rw [← ep]
          show (p.bytes.set s _).getD _ [] = p.bytes.getD _ []
          simp only [List.getD_eq_getElem?_getD, List.getElem?_set]
          rw [if_neg (fun e => hne e.symm)]
      · rename_i hg
        have hne : (landAt p i).slabs ≠ [] := fun e => hg (.inl e)
        have hfit : ¬ p.size < upTo (inF p i) a.toNat + n.toNat := fun e => hg (.inr e)
        simp only [Prod.mk.injEq, true_and] at he
        obtain ⟨ey, ep⟩ := he
        obtain ⟨_, hin⟩ := inF_bounds hp hi
        obtain ⟨hfe, _⟩ := hin hne
        have ha := alignOk_range (a := a) (by cases hk : alignOk a with | true => rfl | false => exact absurd (.inr (.inr hk)) hb)
        have hup := (upTo_bounds (x := inF p i) (a := a.toNat) (by omega)).1
        have hA := fun j => landAt_fill (p := p) hp.ln hi (((landAt p i).slabs.length - 1) * p.size + upTo (inF p i) a.toNat + n.toNat) j
        rw [ep] at hA
        have hsz : p'.size = p.size := by rw [← ep]; rfl
        have hAi := hA i
        rw [if_pos rfl] at hAi
        have hgrew : ∀ j, j < 256 → Grew p p' j := fun j _ => by
          by_cases e : i = j
          · subst e
            exact ⟨by rw [hAi], by rw [hAi], ⟨[], by rw [hAi, List.append_nil]⟩, by rw [hAi]; show (landAt p i).fill ≤ _ + n.toNat; omega⟩
          · have := hA j
            rw [if_neg e] at this
            exact ⟨by rw [this], by rw [this], ⟨[], by rw [this, List.append_nil]⟩, by rw [this]; exact Nat.le_refl _⟩
        have hmod : (((landAt p i).slabs.length - 1) * p.size + upTo (inF p i) a.toNat) % p.size = upTo (inF p i) a.toNat := by
          rw [Nat.add_comm, Nat.add_mul_mod_self_right, Nat.mod_eq_of_lt (by omega)]
        refine ⟨i, ((landAt p i).slabs.length - 1) * p.size + upTo (inF p i) a.toNat, rfl, ⟨by rw [hAi]; exact hth, hi, by rw [← ey], by rw [← ey, hAi], by rw [← ey], by rw [← ey]; exact hn3.symm, hn1, by rw [hAi]; exact Nat.le_refl _, by rw [hsz, hmod]; omega⟩, hn3, by omega, hsz, by rw [← ep]; rfl, hgrew, fun x j o l hx => hx.kept hp (hgrew j hx.hi) hsz (by rw [← ep]; rfl), by rw [hAi], ?_⟩
        rw [hmod]
        unfold upTo
        exact Nat.mul_mod_left _ _
end
theorem splice_get (B b : List UInt8) (k n : Nat) (h : k + b.length ≤ B.length) (m : Nat) : (B.take k ++ b ++ B.drop (k + b.length))[m]? = if k ≤ m ∧ m < k + b.length then b[m - k]? else B[m]? := by
  have h1 : (B.take k).length = k := by rw [List.length_take]; omega
  by_cases c1 : m < k
  · rw [if_neg (by omega), List.append_assoc, List.getElem?_append_left (by omega), List.getElem?_take, if_pos c1]
  · by_cases c2 : m < k + b.length
    · rw [if_pos ⟨by omega, c2⟩, List.append_assoc, List.getElem?_append_right (by omega), h1, List.getElem?_append_left (by omega)]
    · rw [if_neg (by omega), List.getElem?_append_right (by rw [List.length_append, h1]; omega), List.length_append, h1, List.getElem?_drop]
      congr 1; omega
theorem part_get (B : List UInt8) (k l m : Nat) : ((B.drop k).take l)[m]? = if m < l then B[k + m]? else none := by
  rw [List.getElem?_take, List.getElem?_drop]
theorem part_in (B b : List UInt8) (k t l : Nat) (h1 : t + b.length ≤ l) (h2 : k + l ≤ B.length) :
    ((B.take (k + t) ++ b ++ B.drop (k + t + b.length)).drop k).take l = ((B.drop k).take l).take t ++ b ++ ((B.drop k).take l).drop (t + b.length) := by
  have hlen : ((B.drop k).take l).length = l := by rw [List.length_take, List.length_drop]; omega
  apply List.ext_getElem?
  intro m
  rw [part_get, splice_get _ _ _ 0 (by omega), splice_get _ _ _ 0 (by omega), part_get]
  by_cases c : m < l
  · rw [if_pos c, if_pos c]
    by_cases c2 : t ≤ m ∧ m < t + b.length
    · rw [if_pos (by omega), if_pos c2]; congr 1; omega
    · rw [if_neg (by omega), if_neg c2]
  · rw [if_neg c, if_neg c, if_neg (by omega)]
theorem part_out (B b : List UInt8) (k k2 l2 : Nat) (h1 : k + b.length ≤ B.length) (h : k + b.length ≤ k2 ∨ k2 + l2 ≤ k) :
    ((B.take k ++ b ++ B.drop (k + b.length)).drop k2).take l2 = (B.drop k2).take l2 := by
  apply List.ext_getElem?
  intro m
  rw [part_get, part_get, splice_get _ _ _ 0 h1]
  by_cases c : m < l2
  · rw [if_pos c, if_pos c, if_neg (by omega)]
  · rw [if_neg c, if_neg c]
section
variable {p p' : PoolF} {x y : Hd} {i j o l o2 l2 s : Nat}
theorem Pc.same_slab (hp : PoolOk p) (h : Pc p x i o l) (k : Pc p y j o2 l2) (e : slabOf p i o = slabOf p j o2) : i = j ∧ o / p.size = o2 / p.size := by
  obtain ⟨a1, a2, a3⟩ := h.slab hp
  obtain ⟨b1, b2, b3⟩ := k.slab hp
  have hij : i = j := hp.apart i j _ h.hi k.hi (List.mem_of_getElem? a2) (e ▸ List.mem_of_getElem? b2)
  subst hij
  refine ⟨rfl, ?_⟩
  rw [← e] at b2
  exact (List.getElem?_inj a1 (hp.ld i h.hi).nodup).1 (a2.trans b2.symm)
/-- Store into a piece -/
theorem store_pcs (hp : PoolOk p) (hx : Pc p x i o l) (t : Nat) (b : List UInt8) (h : t + b.length ≤ l) : ∃ p', storeF p x (t : Int) b = (0, p') ∧ p'.size = p.size ∧ p'.bytes.length = p.bytes.length ∧ p'.taken = p.taken ∧ p'.lands = p.lands ∧
    loadF p' x = ((loadF p x).1.take t ++ b ++ (loadF p x).1.drop (t + b.length), 0) ∧ (∀ y j o2 l2, Pc p y j o2 l2 → Pc p' y j o2 l2 ∧ ((i ≠ j ∨ o + l ≤ o2 ∨ o2 + l2 ≤ o) → loadF p' y = loadF p y)) := by
  obtain ⟨q1, q2, q3⟩ := hx.slab hp
  have hlen := hx.len
  have hins := hx.ins
  have hbl := bytesAt_len hp q3
  have hb : ¬ ((t : Int) < 0 ∨ (t : Int) > x.len ∨ (b.length : Int) > x.len - (t : Int)) := by rw [hlen]; omega
  have he := storeF_ok hx.piece hb
  rw [Int.toNat_natCast] at he
  have hg : ∀ j, Grew p (setBytes p (slabOf p i o) ((bytesAt p (slabOf p i o)).take (o % p.size + t) ++ b ++ (bytesAt p (slabOf p i o)).drop (o % p.size + t + b.length))) j := fun j => ⟨rfl, rfl, ⟨[], (List.append_nil _).symm⟩, Nat.le_refl _⟩
  refine ⟨_, he, rfl, List.length_set, rfl, rfl, ?_, fun y j o2 l2 hy => ⟨(hy.grew hp (hg j) rfl).1, fun hd => ?_⟩⟩
  · obtain ⟨h1, h2⟩ := hx.grew hp (hg i) rfl
    rw [h1.load, h2, bytesAt_set _ _ _ _ q3, if_pos rfl, hx.load]
    show (((_ : List UInt8).drop (o % p.size)).take l, 0) = _
    rw [part_in _ _ _ _ _ h (by rw [hbl]; exact hins)]
  · obtain ⟨h1, h2⟩ := hy.grew hp (hg j) rfl
    rw [h1.load, h2, bytesAt_set _ _ _ _ q3, hy.load]
    by_cases e : slabOf p i o = slabOf p j o2
    · rw [if_pos e]
      obtain ⟨hij, hq⟩ := hx.same_slab hp hy e
      have d1 := Nat.div_add_mod o p.size
      have d2 := Nat.div_add_mod o2 p.size
      rw [hq] at d1
      show (((_ : List UInt8).drop (o2 % p.size)).take l2, 0) = _
      have hy2 := hy.one
      rw [part_out _ _ _ _ _ (by rw [hbl]; omega) (by
        rcases hd with hd | hd | hd
        · exact absurd hij hd
        · left; omega
        · right; omega), e]
    · rw [if_neg e]
      rfl
/-- Make -/
theorem make_pcs (hp : PoolOk p) {r : Nat} (he : makeR p = (r, 0, p')) : r < 256 ∧ (landAt p r).there = false ∧ (∀ j, j < r → (landAt p j).there = true) ∧ p'.size = p.size ∧ p'.bytes = p.bytes ∧ p'.taken = p.taken ∧ landAt p' r = ⟨true, (landAt p r).gen + 1, [], 0⟩ ∧ (∀ j, j ≠ r → landAt p' j = landAt p j) ∧
    ∀ x j o l, Pc p x j o l → j ≠ r ∧ Pc p' x j o l ∧ loadF p' x = loadF p x := by
  unfold makeR at he
  cases hm : makeF p with
  | none => rw [hm] at he; simp at he
  | some i =>
    rw [hm] at he
    simp only [Prod.mk.injEq, true_and] at he
    obtain ⟨rfl, ep⟩ := he
    obtain ⟨hi, h0, h1⟩ := makeF_some hm
    have hA : ∀ j, landAt p' j = if i = j then ⟨true, (landAt p i).gen + 1, [], 0⟩ else landAt p j := fun j => by rw [← ep]; exact landAt_set p i j _ (by rw [hp.ln]; exact hi)
    have hAj : ∀ j, j ≠ i → landAt p' j = landAt p j := fun j hj => by rw [hA, if_neg (fun e => hj e.symm)]
    refine ⟨hi, h0, h1, by rw [← ep]; rfl, by rw [← ep]; rfl, by rw [← ep]; rfl, by rw [hA, if_pos rfl], hAj, fun x j o l hx => ?_⟩
    have hj : j ≠ i := fun e => by have := hx.there; rw [e, h0] at this; cases this
    refine ⟨hj, hx.kept hp ⟨by rw [hAj j hj], by rw [hAj j hj], ⟨[], by rw [hAj j hj, List.append_nil]⟩, by rw [hAj j hj]; exact Nat.le_refl _⟩ (by rw [← ep]; rfl) (by rw [← ep]; rfl)⟩
/-- Free -/
theorem free_pcs (hp : PoolOk p) {r : Nat} (hr : r < 256) (hth : (landAt p r).there = true) : ∃ p', freeF p (r : Int) = (0, p') ∧ p'.size = p.size ∧ p'.bytes.length = p.bytes.length ∧ landAt p' r = ⟨false, (landAt p r).gen, [], 0⟩ ∧ (∀ j, j ≠ r → landAt p' j = landAt p j) ∧
    (∀ t, t ∈ (landAt p r).slabs → bytesAt p' t = List.replicate p.size 0xDD) ∧ (∀ t, t ∉ (landAt p r).slabs → bytesAt p' t = bytesAt p t) ∧ (∀ t, p'.taken.getD t false = if t ∈ (landAt p r).slabs then false else p.taken.getD t false) ∧
    ∀ x j o l, Pc p x j o l → j ≠ r → Pc p' x j o l ∧ loadF p' x = loadF p x := by
  have he : freeF p (r : Int) = (0, { freeSlabs p (landAt p r).slabs with lands := p.lands.set r ⟨false, (landAt p r).gen, [], 0⟩ }) := by unfold freeF; rw [landF_of hr hth]
  have hA := fun j => landAt_free hp hr (landAt p r).slabs ⟨false, (landAt p r).gen, [], 0⟩ j
  have hAj : ∀ j, j ≠ r → landAt { freeSlabs p (landAt p r).slabs with lands := p.lands.set r ⟨false, (landAt p r).gen, [], 0⟩ } j = landAt p j := fun j hj => by rw [hA, if_neg (fun e => hj e.symm)]
  have hlt := (hp.ld r hr).lt
  have hb2 : ∀ t, t ∉ (landAt p r).slabs → bytesAt { freeSlabs p (landAt p r).slabs with lands := p.lands.set r ⟨false, (landAt p r).gen, [], 0⟩ } t = bytesAt p t := fun t ht => by
    by_cases hl : t < p.bytes.length
    · have := foldl_set_get (List.replicate p.size (0xDD : UInt8)) [] (landAt p r).slabs p.bytes t hl
      rw [if_neg ht] at this
      exact this
    · unfold bytesAt
      rw [List.getD_eq_getElem?_getD, List.getD_eq_getElem?_getD, List.getElem?_eq_none (by rw [(freeSlabs_len p (landAt p r).slabs).1]; omega), List.getElem?_eq_none (by omega)]
  refine ⟨_, he, rfl, (freeSlabs_len p _).1, by rw [hA, if_pos rfl], hAj, fun t ht => ?_, hb2, fun t => foldl_set_bool _ _ _, fun x j o l hx hj => ?_⟩
  · have := foldl_set_get (List.replicate p.size (0xDD : UInt8)) [] (landAt p r).slabs p.bytes t (hlt t ht)
    rw [if_pos ht] at this
    exact this
  · obtain ⟨q1, q2, q3⟩ := hx.slab hp
    refine hx.kept hp ⟨by rw [hAj j hj], by rw [hAj j hj], ⟨[], by rw [hAj j hj, List.append_nil]⟩, by rw [hAj j hj]; exact Nat.le_refl _⟩ rfl (hb2 _ (fun hm => hj (hp.apart j r _ hx.hi hr (List.mem_of_getElem? q2) hm)))
theorem alloc_cases {r i : Nat} {n a : Int} (hl : landF p (r : Int) = some i) (h1 : 1 ≤ n) (h2 : n ≤ (p.size : Int)) (ha : alignOk a = true) : (∃ y p', allocF p (r : Int) n a = (y, 0, p')) ∨ (allocF p (r : Int) n a = (noHd, 5, p) ∧ idleF p = none) := by
  unfold allocF
  rw [hl]
  simp only
  rw [if_neg (by rw [ha]; simp; omega)]
  split
  · cases hid : idleF p with
    | none => exact .inr ⟨rfl, rfl⟩
    | some s => exact .inl ⟨_, _, rfl⟩
  · exact .inl ⟨_, _, rfl⟩
theorem stale_load (h : landF p x.region = none ∨ ∃ i, landF p x.region = some i ∧ ((landAt p i).gen : Int) ≠ x.gen) : pieceF p x = ((0, 0), 3) := by
  unfold pieceF
  rcases h with h | ⟨i, h, hg⟩
  · rw [h]
  · rw [h]; simp only; rw [if_pos hg]
end
end Go.Proofs.Ytnafhjgfkofkbaa
