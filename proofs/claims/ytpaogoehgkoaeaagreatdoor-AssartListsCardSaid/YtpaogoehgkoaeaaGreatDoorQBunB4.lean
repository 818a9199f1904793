/- The statements through the layers: 300 has two bytes. -/
import Derived.Test.YtpaogoehgkoaeaaGreatDoorQBunB2
import Derived.Test.YtpaogoehgkoaeaaGreatDoorQBunB3
import Derived.Test.YtpaogoehgkoaeaaGreatDoorQBunB1
import Derived.Lib.SliceRun
import Derived.Test.YtpaogoehgkoaeaaGreatDoorQBunB0
import Derived.ShutString
import Derived.ChangeOld
import Derived.SliceStrings
import Derived.SizedLaws
import Derived.Lib.SmallJoins
import Derived.Deep.SlicePairs
/- Layer 1 (region): a piece of a region, walked. -/
namespace Go.Proofs.YtpaogoehgkoaeaaGreatDoor
set_option linter.unusedVariables false
set_option linter.unusedSimpArgs false
open Go.RowKit
theorem pieceF_ok {p : PoolF} {h : Hd} {s k : Nat} (hp : PoolOk p) (e : pieceF p h = ((s, k), 0)) : ∃ i o l : Nat, landF p h.region = some i ∧ i < 256 ∧ h.off = (o : Int) ∧ h.len = (l : Int) ∧ h.region = (i : Int) ∧ h.gen = ((landAt p i).gen : Int) ∧ 1 ≤ l ∧ o + l ≤ (landAt p i).fill ∧
    o / p.size < (landAt p i).slabs.length ∧ (landAt p i).slabs[o / p.size]? = some s ∧ k = o % p.size ∧ k + l ≤ p.size ∧ s < p.bytes.length := by
  unfold pieceF at e
  cases hl : landF p h.region with
  | none => rw [hl] at e; simp at e
  | some i =>
    obtain ⟨e0, hi, hth⟩ := landF_some hl
    have hlk := hp.ld i hi
    have hfl := hlk.fill_le
    have hs1 := hp.s1
    rw [hl] at e
    simp only at e
    split at e
    · simp at e
    · rename_i hg
      split at e
      · simp at e
      · rename_i hb
        split at e
        · simp at e
        · rename_i hf
          simp only [Prod.mk.injEq, and_true] at e
          have ho : h.off = ((h.off.toNat : Nat) : Int) := by omega
          have hln : h.len = ((h.len.toNat : Nat) : Int) := by omega
          have hlt : h.off.toNat / p.size < (landAt p i).slabs.length := by
            rw [Nat.div_lt_iff_lt_mul (by omega)]; omega
          have hsl : (landAt p i).slabs[h.off.toNat / p.size]? = some s := by
            rw [List.getElem?_eq_getElem hlt, ← e.1, List.getD_eq_getElem?_getD, List.getElem?_eq_getElem hlt]; rfl
          refine ⟨i, h.off.toNat, h.len.toNat, rfl, hi, ho, hln, e0, by omega, by omega, by omega, hlt, hsl, e.2.symm, by omega, ?_⟩
          exact hlk.lt s (List.mem_of_getElem? hsl)
set_option maxRecDepth 100000 in
set_option maxHeartbeats 4000000 in
theorem piece_e1 (w : World) (S : Nat → Prop) (g : Nat) (p : PoolF) (ads adt : Option Addr) (cs ct : Nat) (A : Nat → Option Addr) (C bd : Nat → Nat) (i : Nat) (hx : PX w S g p ads cs adt ct A C bd) (hl : landF p (i : Int) = some i) (hi : i < 256) (hs1 : 64 ≤ p.size) (hs2 : p.size ≤ 65536) (hfm : (landAt p i).fill ≤ 268435456) (of ln : Int) (hb : ln < 1) :
    Calls Tryz.prog 114 #[.pointer (some ⟨g, 0, none⟩), .agg #[.int .i64 (i : Int), .int .i64 ((landAt p i).gen : Int), .int .i64 of, .int .i64 ln]] w fun e w' => e = .returned (.tuple #[.slice none 0 0, .int .i64 1]) ∧ Gr w w' := by
  have HLA := Lib.hid (fun w' (k : Gr w w') => land_any w' S g p (i : Int) ⟨ads, cs, adt, ct, A, C, bd, hx.gr k⟩)
  rw [hl] at HLA
  have hx1 := hx.gr (Gr.alloc w (.cells #[.int .i64 (i : Int), .int .i64 ((landAt p i).gen : Int), .int .i64 of, .int .i64 ln] 58))
  obtain ⟨c0, c1, _⟩ := hx1.head
  obtain ⟨_, l1, l2, l3⟩ := hx1.lcell hi
  obtain ⟨h0, h1, h2, h3, _⟩ := Blk.four (Blk.new w 58 #[.int .i64 (i : Int), .int .i64 ((landAt p i).gen : Int), .int .i64 of, .int .i64 ln])
  clear hx1
  clear hx hl
  go_enter Tryz.func114, Tryz.ntmps114
  go_wp2_with (first
    | (go_at_call 112; refine (HLA.out _ (Gr.alloc _ _)).mono ?_; rintro e w1 ⟨rfl, rfl⟩)
    | fail)
  go_quiet (fail)
  have gV : Gr (w.alloc (.cells #[.int .i64 (i : Int), .int .i64 ((landAt p i).gen : Int), .int .i64 of, .int .i64 ln] 58)) ((w.alloc (.cells #[.int .i64 (i : Int), .int .i64 ((landAt p i).gen : Int), .int .i64 of, .int .i64 ln] 58)).drewN nq) := Gr.drewN _ nq
  have c0a := gV.cell c0
  have c1a := gV.cell c1
  have l1a := gV.cell l1
  have l2a := gV.cell l2
  have l3a := gV.cell l3
  have h1a := gV.cell h1
  have h2a := gV.cell h2
  have h3a := gV.cell h3

  have GW : Gr w ((w.alloc (.cells #[.int .i64 (i : Int), .int .i64 ((landAt p i).gen : Int), .int .i64 of, .int .i64 ln] 58)).drewN nq) := (Gr.alloc w _).trans gV
  clear gV c0 c1 l1 l2 l3 h0 h1 h2 h3
  generalize (w.alloc (.cells #[.int .i64 (i : Int), .int .i64 ((landAt p i).gen : Int), .int .i64 of, .int .i64 ln] 58)).drewN nq = V at *
  go_wp2
  clear c0a c1a l1a l2a
  go_quiet (fail)
  go_wp2
  go_ret2
  exact ⟨rfl, GW.trans (Gr.drewN _ _)⟩

set_option maxRecDepth 100000 in
set_option maxHeartbeats 4000000 in
theorem piece_e2 (w : World) (S : Nat → Prop) (g : Nat) (p : PoolF) (ads adt : Option Addr) (cs ct : Nat) (A : Nat → Option Addr) (C bd : Nat → Nat) (i : Nat) (hx : PX w S g p ads cs adt ct A C bd) (hl : landF p (i : Int) = some i) (hi : i < 256) (hs1 : 64 ≤ p.size) (hs2 : p.size ≤ 65536) (hfm : (landAt p i).fill ≤ 268435456) (of ln : Int) (hb0 : ¬ ln < 1) (hb : of < 0) :
    Calls Tryz.prog 114 #[.pointer (some ⟨g, 0, none⟩), .agg #[.int .i64 (i : Int), .int .i64 ((landAt p i).gen : Int), .int .i64 of, .int .i64 ln]] w fun e w' => e = .returned (.tuple #[.slice none 0 0, .int .i64 1]) ∧ Gr w w' := by
  have HLA := Lib.hid (fun w' (k : Gr w w') => land_any w' S g p (i : Int) ⟨ads, cs, adt, ct, A, C, bd, hx.gr k⟩)
  rw [hl] at HLA
  have hx1 := hx.gr (Gr.alloc w (.cells #[.int .i64 (i : Int), .int .i64 ((landAt p i).gen : Int), .int .i64 of, .int .i64 ln] 58))
  obtain ⟨c0, c1, _⟩ := hx1.head
  obtain ⟨_, l1, l2, l3⟩ := hx1.lcell hi
  obtain ⟨h0, h1, h2, h3, _⟩ := Blk.four (Blk.new w 58 #[.int .i64 (i : Int), .int .i64 ((landAt p i).gen : Int), .int .i64 of, .int .i64 ln])
  have k1 : decide (ln < 1) = false := decide_eq_false hb0
  have k2 : decide (of < 0) = true := decide_eq_true hb
  clear hb0 hb
  clear hx1
  clear hx hl
  go_enter Tryz.func114, Tryz.ntmps114
  go_wp2_with (first
    | (go_at_call 112; refine (HLA.out _ (Gr.alloc _ _)).mono ?_; rintro e w1 ⟨rfl, rfl⟩)
    | fail)
  go_quiet (fail)
  have gV : Gr (w.alloc (.cells #[.int .i64 (i : Int), .int .i64 ((landAt p i).gen : Int), .int .i64 of, .int .i64 ln] 58)) ((w.alloc (.cells #[.int .i64 (i : Int), .int .i64 ((landAt p i).gen : Int), .int .i64 of, .int .i64 ln] 58)).drewN nq) := Gr.drewN _ nq
  have c0a := gV.cell c0
  have c1a := gV.cell c1
  have l1a := gV.cell l1
  have l2a := gV.cell l2
  have l3a := gV.cell l3
  have h1a := gV.cell h1
  have h2a := gV.cell h2
  have h3a := gV.cell h3

  have GW : Gr w ((w.alloc (.cells #[.int .i64 (i : Int), .int .i64 ((landAt p i).gen : Int), .int .i64 of, .int .i64 ln] 58)).drewN nq) := (Gr.alloc w _).trans gV
  clear gV c0 c1 l1 l2 l3 h0 h1 h2 h3
  generalize (w.alloc (.cells #[.int .i64 (i : Int), .int .i64 ((landAt p i).gen : Int), .int .i64 of, .int .i64 ln] 58)).drewN nq = V at *
  go_wp2
  clear c0a c1a l1a l2a
  go_quiet (fail)
  go_wp2
  go_ret2
  exact ⟨rfl, GW.trans (Gr.drewN _ _)⟩

set_option maxRecDepth 100000 in
set_option maxHeartbeats 4000000 in
theorem piece_e3 (w : World) (S : Nat → Prop) (g : Nat) (p : PoolF) (ads adt : Option Addr) (cs ct : Nat) (A : Nat → Option Addr) (C bd : Nat → Nat) (i : Nat) (hx : PX w S g p ads cs adt ct A C bd) (hl : landF p (i : Int) = some i) (hi : i < 256) (hs1 : 64 ≤ p.size) (hs2 : p.size ≤ 65536) (hfm : (landAt p i).fill ≤ 268435456) (o l : Nat) (hb0 : 1 ≤ l) (hb : o > (landAt p i).fill) :
    Calls Tryz.prog 114 #[.pointer (some ⟨g, 0, none⟩), .agg #[.int .i64 (i : Int), .int .i64 ((landAt p i).gen : Int), .int .i64 (o : Int), .int .i64 (l : Int)]] w fun e w' => e = .returned (.tuple #[.slice none 0 0, .int .i64 1]) ∧ Gr w w' := by
  have HLA := Lib.hid (fun w' (k : Gr w w') => land_any w' S g p (i : Int) ⟨ads, cs, adt, ct, A, C, bd, hx.gr k⟩)
  rw [hl] at HLA
  have hx1 := hx.gr (Gr.alloc w (.cells #[.int .i64 (i : Int), .int .i64 ((landAt p i).gen : Int), .int .i64 (o : Int), .int .i64 (l : Int)] 58))
  obtain ⟨c0, c1, _⟩ := hx1.head
  obtain ⟨_, l1, l2, l3⟩ := hx1.lcell hi
  obtain ⟨h0, h1, h2, h3, _⟩ := Blk.four (Blk.new w 58 #[.int .i64 (i : Int), .int .i64 ((landAt p i).gen : Int), .int .i64 (o : Int), .int .i64 (l : Int)])
  have k1 : decide ((l : Int) < 1) = false := decide_eq_false (by omega)
  have k2 : decide ((o : Int) < 0) = false := decide_eq_false (by omega)
  have k3 : decide (((landAt p i).fill : Int) < (o : Int)) = true := decide_eq_true (by omega)
  have k4 : decide ((landAt p i).fill < o) = true := decide_eq_true (by omega)
  clear hx1
  clear hx hl
  go_enter Tryz.func114, Tryz.ntmps114
  go_wp2_with (first
    | (go_at_call 112; refine (HLA.out _ (Gr.alloc _ _)).mono ?_; rintro e w1 ⟨rfl, rfl⟩)
    | fail)
  go_quiet (fail)
  have gV : Gr (w.alloc (.cells #[.int .i64 (i : Int), .int .i64 ((landAt p i).gen : Int), .int .i64 (o : Int), .int .i64 (l : Int)] 58)) ((w.alloc (.cells #[.int .i64 (i : Int), .int .i64 ((landAt p i).gen : Int), .int .i64 (o : Int), .int .i64 (l : Int)] 58)).drewN nq) := Gr.drewN _ nq
  have c0a := gV.cell c0
  have c1a := gV.cell c1
  have l1a := gV.cell l1
  have l2a := gV.cell l2
  have l3a := gV.cell l3
  have h1a := gV.cell h1
  have h2a := gV.cell h2
  have h3a := gV.cell h3

  have GW : Gr w ((w.alloc (.cells #[.int .i64 (i : Int), .int .i64 ((landAt p i).gen : Int), .int .i64 (o : Int), .int .i64 (l : Int)] 58)).drewN nq) := (Gr.alloc w _).trans gV
  clear gV c0 c1 l1 l2 l3 h0 h1 h2 h3
  generalize (w.alloc (.cells #[.int .i64 (i : Int), .int .i64 ((landAt p i).gen : Int), .int .i64 (o : Int), .int .i64 (l : Int)] 58)).drewN nq = V at *
  go_wp2
  clear c0a c1a l1a l2a
  go_quiet (fail)
  go_wp2
  go_ret2
  exact ⟨rfl, GW.trans (Gr.drewN _ _)⟩

set_option maxRecDepth 100000 in
set_option maxHeartbeats 4000000 in
theorem piece_e4 (w : World) (S : Nat → Prop) (g : Nat) (p : PoolF) (ads adt : Option Addr) (cs ct : Nat) (A : Nat → Option Addr) (C bd : Nat → Nat) (i : Nat) (hx : PX w S g p ads cs adt ct A C bd) (hl : landF p (i : Int) = some i) (hi : i < 256) (hs1 : 64 ≤ p.size) (hs2 : p.size ≤ 65536) (hfm : (landAt p i).fill ≤ 268435456) (o l : Nat) (hb0 : 1 ≤ l) (hb1 : o ≤ (landAt p i).fill) (hb : l > (landAt p i).fill - o) :
    Calls Tryz.prog 114 #[.pointer (some ⟨g, 0, none⟩), .agg #[.int .i64 (i : Int), .int .i64 ((landAt p i).gen : Int), .int .i64 (o : Int), .int .i64 (l : Int)]] w fun e w' => e = .returned (.tuple #[.slice none 0 0, .int .i64 1]) ∧ Gr w w' := by
  have HLA := Lib.hid (fun w' (k : Gr w w') => land_any w' S g p (i : Int) ⟨ads, cs, adt, ct, A, C, bd, hx.gr k⟩)
  rw [hl] at HLA
  have hx1 := hx.gr (Gr.alloc w (.cells #[.int .i64 (i : Int), .int .i64 ((landAt p i).gen : Int), .int .i64 (o : Int), .int .i64 (l : Int)] 58))
  obtain ⟨c0, c1, _⟩ := hx1.head
  obtain ⟨_, l1, l2, l3⟩ := hx1.lcell hi
  obtain ⟨h0, h1, h2, h3, _⟩ := Blk.four (Blk.new w 58 #[.int .i64 (i : Int), .int .i64 ((landAt p i).gen : Int), .int .i64 (o : Int), .int .i64 (l : Int)])
  have k1 : decide ((l : Int) < 1) = false := decide_eq_false (by omega)
  have k2 : decide ((o : Int) < 0) = false := decide_eq_false (by omega)
  have k3 : decide (((landAt p i).fill : Int) < (o : Int)) = false := decide_eq_false (by omega)
  have k4 : decide ((landAt p i).fill < o) = false := decide_eq_false (by omega)
  obtain ⟨q, hq⟩ : ∃ q, q = (landAt p i).fill - o := ⟨_, rfl⟩
  have hqi : ((landAt p i).fill : Int) - (o : Int) = (q : Int) := by omega
  have k5 : decide ((q : Int) < (l : Int)) = true := decide_eq_true (by omega)
  have k6 : decide (q < l) = true := decide_eq_true (by omega)
  clear hq
  clear hx1
  clear hx hl
  go_enter Tryz.func114, Tryz.ntmps114
  go_wp2_with (first
    | (go_at_call 112; refine (HLA.out _ (Gr.alloc _ _)).mono ?_; rintro e w1 ⟨rfl, rfl⟩)
    | fail)
  go_quiet (fail)
  have gV : Gr (w.alloc (.cells #[.int .i64 (i : Int), .int .i64 ((landAt p i).gen : Int), .int .i64 (o : Int), .int .i64 (l : Int)] 58)) ((w.alloc (.cells #[.int .i64 (i : Int), .int .i64 ((landAt p i).gen : Int), .int .i64 (o : Int), .int .i64 (l : Int)] 58)).drewN nq) := Gr.drewN _ nq
  have c0a := gV.cell c0
  have c1a := gV.cell c1
  have l1a := gV.cell l1
  have l2a := gV.cell l2
  have l3a := gV.cell l3
  have h1a := gV.cell h1
  have h2a := gV.cell h2
  have h3a := gV.cell h3

  have GW : Gr w ((w.alloc (.cells #[.int .i64 (i : Int), .int .i64 ((landAt p i).gen : Int), .int .i64 (o : Int), .int .i64 (l : Int)] 58)).drewN nq) := (Gr.alloc w _).trans gV
  clear gV c0 c1 l1 l2 l3 h0 h1 h2 h3
  generalize (w.alloc (.cells #[.int .i64 (i : Int), .int .i64 ((landAt p i).gen : Int), .int .i64 (o : Int), .int .i64 (l : Int)] 58)).drewN nq = V at *
  go_wp2
  clear c0a c1a l1a l2a
  go_quiet (fail)
  go_wp2
  go_ret2
  exact ⟨rfl, GW.trans (Gr.drewN _ _)⟩

end Go.Proofs.YtpaogoehgkoaeaaGreatDoor
/- Layer 1 (region): a piece of a region, walked: the other cases. -/
namespace Go.Proofs.YtpaogoehgkoaeaaGreatDoor
set_option linter.unusedVariables false
set_option linter.unusedSimpArgs false
open Go.RowKit
set_option maxRecDepth 100000 in
set_option maxHeartbeats 4000000 in
theorem piece_e5 (w : World) (S : Nat → Prop) (g : Nat) (p : PoolF) (ads adt : Option Addr) (cs ct : Nat) (A : Nat → Option Addr) (C bd : Nat → Nat) (i : Nat) (hx : PX w S g p ads cs adt ct A C bd) (hl : landF p (i : Int) = some i) (hi : i < 256) (hs1 : 64 ≤ p.size) (hs2 : p.size ≤ 65536) (hfm : (landAt p i).fill ≤ 268435456) (o l : Nat) (hb0 : 1 ≤ l) (hb1 : o ≤ (landAt p i).fill) (hb : l ≤ (landAt p i).fill - o) (hk2 : o % p.size + l > p.size) :
    Calls Tryz.prog 114 #[.pointer (some ⟨g, 0, none⟩), .agg #[.int .i64 (i : Int), .int .i64 ((landAt p i).gen : Int), .int .i64 (o : Int), .int .i64 (l : Int)]] w fun e w' => e = .returned (.tuple #[.slice none 0 0, .int .i64 1]) ∧ Gr w w' := by
  have HLA := Lib.hid (fun w' (k : Gr w w') => land_any w' S g p (i : Int) ⟨ads, cs, adt, ct, A, C, bd, hx.gr k⟩)
  rw [hl] at HLA
  have hx1 := hx.gr (Gr.alloc w (.cells #[.int .i64 (i : Int), .int .i64 ((landAt p i).gen : Int), .int .i64 (o : Int), .int .i64 (l : Int)] 58))
  obtain ⟨c0, c1, _⟩ := hx1.head
  obtain ⟨_, l1, l2, l3⟩ := hx1.lcell hi
  obtain ⟨h0, h1, h2, h3, _⟩ := Blk.four (Blk.new w 58 #[.int .i64 (i : Int), .int .i64 ((landAt p i).gen : Int), .int .i64 (o : Int), .int .i64 (l : Int)])
  have k1 : decide ((l : Int) < 1) = false := decide_eq_false (by omega)
  have k2 : decide ((o : Int) < 0) = false := decide_eq_false (by omega)
  have k3 : decide (((landAt p i).fill : Int) < (o : Int)) = false := decide_eq_false (by omega)
  have k4 : decide ((landAt p i).fill < o) = false := decide_eq_false (by omega)
  obtain ⟨q, hq⟩ : ∃ q, q = (landAt p i).fill - o := ⟨_, rfl⟩
  have hqi : ((landAt p i).fill : Int) - (o : Int) = (q : Int) := by omega
  have k5 : decide ((q : Int) < (l : Int)) = false := decide_eq_false (by omega)
  have k6 : decide (q < l) = false := decide_eq_false (by omega)
  obtain ⟨k, hk⟩ : ∃ k, k = o % p.size := ⟨_, rfl⟩
  have hkt : (o : Int).tmod (p.size : Int) = (k : Int) := by rw [hk]; rfl
  have hkl : k < p.size := by rw [hk]; exact Nat.mod_lt _ (by omega)
  rw [← hk] at hk2
  have hz : ((p.size : Int) == 0) = false := beq_eq_false_iff_ne.2 (by omega)
  clear hk
  clear hq
  clear hx1
  clear hx hl
  go_enter Tryz.func114, Tryz.ntmps114
  go_wp2_with (first
    | (go_at_call 112; refine (HLA.out _ (Gr.alloc _ _)).mono ?_; rintro e w1 ⟨rfl, rfl⟩)
    | fail)
  go_quiet (fail)
  have gV : Gr (w.alloc (.cells #[.int .i64 (i : Int), .int .i64 ((landAt p i).gen : Int), .int .i64 (o : Int), .int .i64 (l : Int)] 58)) ((w.alloc (.cells #[.int .i64 (i : Int), .int .i64 ((landAt p i).gen : Int), .int .i64 (o : Int), .int .i64 (l : Int)] 58)).drewN nq) := Gr.drewN _ nq
  have c0a := gV.cell c0
  have c1a := gV.cell c1
  have l1a := gV.cell l1
  have l2a := gV.cell l2
  have l3a := gV.cell l3
  have h1a := gV.cell h1
  have h2a := gV.cell h2
  have h3a := gV.cell h3

  have GW : Gr w ((w.alloc (.cells #[.int .i64 (i : Int), .int .i64 ((landAt p i).gen : Int), .int .i64 (o : Int), .int .i64 (l : Int)] 58)).drewN nq) := (Gr.alloc w _).trans gV
  clear gV c0 c1 l1 l2 l3 h0 h1 h2 h3
  generalize (w.alloc (.cells #[.int .i64 (i : Int), .int .i64 ((landAt p i).gen : Int), .int .i64 (o : Int), .int .i64 (l : Int)] 58)).drewN nq = V at *
  go_wp2
  clear c1a l1a l2a
  go_quiet (fail)
  go_wp2
  go_quiet (fail)
  go_wp2
  go_quiet (fail)
  go_wp2
  go_ret2
  exact ⟨rfl, ((GW.trans (Gr.drewN _ _)).trans (Gr.drewN _ _)).trans (Gr.drewN _ _)⟩

set_option maxRecDepth 100000 in
set_option maxHeartbeats 4000000 in
theorem piece_ok (w : World) (S : Nat → Prop) (g : Nat) (p : PoolF) (ads adt : Option Addr) (cs ct : Nat) (A : Nat → Option Addr) (C bd : Nat → Nat) (i : Nat) (hx : PX w S g p ads cs adt ct A C bd) (hl : landF p (i : Int) = some i) (hi : i < 256) (hs1 : 64 ≤ p.size) (hs2 : p.size ≤ 65536) (hfm : (landAt p i).fill ≤ 268435456) (o l : Nat) (hb0 : 1 ≤ l) (hb1 : o ≤ (landAt p i).fill) (hb : l ≤ (landAt p i).fill - o) (hk2 : ¬ o % p.size + l > p.size) (s : Nat) (hdl : o / p.size < (landAt p i).slabs.length) (hs : (landAt p i).slabs[o / p.size]? = some s) (hsb : s < p.bytes.length) (hnl : p.bytes.length ≤ 4096) (hln : (landAt p i).slabs.length ≤ 4096) :
    Calls Tryz.prog 114 #[.pointer (some ⟨g, 0, none⟩), .agg #[.int .i64 (i : Int), .int .i64 ((landAt p i).gen : Int), .int .i64 (o : Int), .int .i64 (l : Int)]] w fun e w' => e = .returned (.tuple #[.slice (some ⟨bd s, o % p.size, none⟩) l (p.size - o % p.size), .int .i64 0]) ∧ Gr w w' := by
  have HLA := Lib.hid (fun w' (k : Gr w w') => land_any w' S g p (i : Int) ⟨ads, cs, adt, ct, A, C, bd, hx.gr k⟩)
  rw [hl] at HLA
  have hx1 := hx.gr (Gr.alloc w (.cells #[.int .i64 (i : Int), .int .i64 ((landAt p i).gen : Int), .int .i64 (o : Int), .int .i64 (l : Int)] 58))
  obtain ⟨c0, c1, _⟩ := hx1.head
  obtain ⟨_, l1, l2, l3⟩ := hx1.lcell hi
  obtain ⟨h0, h1, h2, h3, _⟩ := Blk.four (Blk.new w 58 #[.int .i64 (i : Int), .int .i64 ((landAt p i).gen : Int), .int .i64 (o : Int), .int .i64 (l : Int)])
  have k1 : decide ((l : Int) < 1) = false := decide_eq_false (by omega)
  have k2 : decide ((o : Int) < 0) = false := decide_eq_false (by omega)
  have k3 : decide (((landAt p i).fill : Int) < (o : Int)) = false := decide_eq_false (by omega)
  have k4 : decide ((landAt p i).fill < o) = false := decide_eq_false (by omega)
  obtain ⟨q, hq⟩ : ∃ q, q = (landAt p i).fill - o := ⟨_, rfl⟩
  have hqi : ((landAt p i).fill : Int) - (o : Int) = (q : Int) := by omega
  have k5 : decide ((q : Int) < (l : Int)) = false := decide_eq_false (by omega)
  have k6 : decide (q < l) = false := decide_eq_false (by omega)
  obtain ⟨k, hk⟩ : ∃ k, k = o % p.size := ⟨_, rfl⟩
  have hkt : (o : Int).tmod (p.size : Int) = (k : Int) := by rw [hk]; rfl
  have hkl : k < p.size := by rw [hk]; exact Nat.mod_lt _ (by omega)
  obtain ⟨d, hd⟩ : ∃ d, d = o / p.size := ⟨_, rfl⟩
  have hdt : (o : Int).tdiv (p.size : Int) = (d : Int) := by rw [hd]; rfl
  rw [← hk] at hk2 ⊢
  rw [← hd] at hdl hs
  have hz : ((p.size : Int) == 0) = false := beq_eq_false_iff_ne.2 (by omega)
  obtain ⟨ba, hba, _, za⟩ := (hx1.land i hi).at (iv_get _ d s hs)
  obtain ⟨br, hbr, _, zr⟩ := hx1.row.at (slabV_get (bd := bd) (size := p.size) hsb)
  rw [hba] at l2
  rw [hbr] at c1
  have hk3 : k + l ≤ p.size := by omega
  clear hk hd hs hk2
  clear hq
  clear hx1
  clear hx hl
  go_enter Tryz.func114, Tryz.ntmps114
  go_wp2_with (first
    | (go_at_call 112; refine (HLA.out _ (Gr.alloc _ _)).mono ?_; rintro e w1 ⟨rfl, rfl⟩)
    | fail)
  go_quiet (fail)
  have gV : Gr (w.alloc (.cells #[.int .i64 (i : Int), .int .i64 ((landAt p i).gen : Int), .int .i64 (o : Int), .int .i64 (l : Int)] 58)) ((w.alloc (.cells #[.int .i64 (i : Int), .int .i64 ((landAt p i).gen : Int), .int .i64 (o : Int), .int .i64 (l : Int)] 58)).drewN nq) := Gr.drewN _ nq
  have c0a := gV.cell c0
  have c1a := gV.cell c1
  have l1a := gV.cell l1
  have l2a := gV.cell l2
  have l3a := gV.cell l3
  have h1a := gV.cell h1
  have h2a := gV.cell h2
  have h3a := gV.cell h3

  have zaa := gV.cell za
  have zra := gV.cell zr
  have GW : Gr w ((w.alloc (.cells #[.int .i64 (i : Int), .int .i64 ((landAt p i).gen : Int), .int .i64 (o : Int), .int .i64 (l : Int)] 58)).drewN nq) := (Gr.alloc w _).trans gV
  clear gV za zr c0 c1 l1 l2 l3 h0 h1 h2 h3
  generalize (w.alloc (.cells #[.int .i64 (i : Int), .int .i64 ((landAt p i).gen : Int), .int .i64 (o : Int), .int .i64 (l : Int)] 58)).drewN nq = V at *
  go_wp2
  clear l1a
  go_quiet (fail)
  go_wp2
  go_quiet (fail)
  go_wp2
  go_quiet (fail)
  go_wp2
  go_quiet (fail)
  go_wp2
  go_ret2
  refine ⟨?_, (((GW.trans (Gr.drewN _ _)).trans (Gr.drewN _ _)).trans (Gr.drewN _ _)).trans (Gr.drewN _ _)⟩
  show Ending.returned (.tuple #[.slice (some ⟨bd s, k, none⟩) (k + l - k) (p.size - k), .int .i64 0]) = _
  rw [Nat.add_sub_cancel_left]

def pieceV (bd : Nat → Nat) (p : PoolF) (h : Hd) : Value := match pieceF p h with
  | ((s, k), 0) => .tuple #[.slice (some ⟨bd s, k, none⟩) h.len.toNat (p.size - k), .int .i64 0]
  | (_, e) => .tuple #[.slice none 0 0, .int .i64 (e : Int)]
set_option maxRecDepth 100000 in
set_option maxHeartbeats 4000000 in
theorem piece_n (w : World) (S : Nat → Prop) (g : Nat) (p : PoolF) (r gn of ln : Int) (h : PoolAt w S g p) (hl : landF p r = none) :
    Calls Tryz.prog 114 #[.pointer (some ⟨g, 0, none⟩), .agg #[.int .i64 r, .int .i64 gn, .int .i64 of, .int .i64 ln]] w fun e w' => e = .returned (.tuple #[.slice none 0 0, .int .i64 3]) ∧ Gr w w' := by
  have HLA := Lib.hid (fun w' (k : Gr w w') => land_any w' S g p r (h.gr k))
  rw [hl] at HLA
  clear h hl
  go_enter Tryz.func114, Tryz.ntmps114
  go_wp2_with (first
    | (go_at_call 112; refine (HLA.out _ (Gr.alloc _ _)).mono ?_; rintro e w1 ⟨rfl, rfl⟩)
    | fail)
  go_quiet (fail)
  go_wp2
  go_ret2
  exact ⟨rfl, (Gr.alloc _ _).trans (Gr.drewN _ _)⟩
set_option maxRecDepth 100000 in
set_option maxHeartbeats 4000000 in
theorem piece_g (w : World) (S : Nat → Prop) (g : Nat) (p : PoolF) (i : Nat) (gn of ln : Int) (h : PoolAt w S g p) (hl : landF p (i : Int) = some i) (hi : i < 256) (hg : ((landAt p i).gen : Int) ≠ gn) :
    Calls Tryz.prog 114 #[.pointer (some ⟨g, 0, none⟩), .agg #[.int .i64 (i : Int), .int .i64 gn, .int .i64 of, .int .i64 ln]] w fun e w' => e = .returned (.tuple #[.slice none 0 0, .int .i64 3]) ∧ Gr w w' := by
  have HLA := Lib.hid (fun w' (k : Gr w w') => land_any w' S g p (i : Int) (h.gr k))
  rw [hl] at HLA
  obtain ⟨ads, cs, adt, ct, A, C, bd, hx⟩ := h
  have hx1 := hx.gr (Gr.alloc w (.cells #[.int .i64 (i : Int), .int .i64 gn, .int .i64 of, .int .i64 ln] 58))
  obtain ⟨_, l1, _, _⟩ := hx1.lcell hi
  have hz : (((landAt p i).gen : Int) != gn) = true := by simpa using hg
  clear hx hx1 hl hg
  go_enter Tryz.func114, Tryz.ntmps114
  go_wp2_with (first
    | (go_at_call 112; refine (HLA.out _ (Gr.alloc _ _)).mono ?_; rintro e w1 ⟨rfl, rfl⟩)
    | fail)
  go_quiet (fail)
  go_wp2
  go_ret2
  exact ⟨rfl, (Gr.alloc _ _).trans (Gr.drewN _ _)⟩
theorem pieceV_err {bd : Nat → Nat} {p : PoolF} {h : Hd} {x : Nat × Nat} {e : Nat} (hp : pieceF p h = (x, e + 1)) : pieceV bd p h = .tuple #[.slice none 0 0, .int .i64 ((e + 1 : Nat) : Int)] := by unfold pieceV; rw [hp]; rfl
theorem pieceV_ok {bd : Nat → Nat} {p : PoolF} {h : Hd} {s k : Nat} (hp : pieceF p h = ((s, k), 0)) : pieceV bd p h = .tuple #[.slice (some ⟨bd s, k, none⟩) h.len.toNat (p.size - k), .int .i64 0] := by unfold pieceV; rw [hp]; rfl
theorem piece_any (w : World) (S : Nat → Prop) (g : Nat) (p : PoolF) (ads adt : Option Addr) (cs ct : Nat) (A : Nat → Option Addr) (C bd : Nat → Nat) (hd : Hd) (hx : PX w S g p ads cs adt ct A C bd) (hp : PoolOk p) :
    Calls Tryz.prog 114 #[.pointer (some ⟨g, 0, none⟩), hdv hd] w fun e w' => e = .returned (pieceV bd p hd) ∧ Gr w w' := by
  obtain ⟨r, gn, of, ln⟩ := hd
  have hpa : PoolAt w S g p := ⟨ads, cs, adt, ct, A, C, bd, hx⟩
  have hs1 := hp.s1
  have hs2 := hp.s2
  show Calls Tryz.prog 114 #[.pointer (some ⟨g, 0, none⟩), .agg #[.int .i64 r, .int .i64 gn, .int .i64 of, .int .i64 ln]] w _
  cases hl : landF p r with
  | none =>
    have he : pieceF p ⟨r, gn, of, ln⟩ = ((0, 0), 2 + 1) := by unfold pieceF; rw [hl]
    rw [pieceV_err he]
    exact piece_n w S g p r gn of ln hpa hl
  | some i =>
    obtain ⟨rfl, hi, hth⟩ := landF_some hl
    by_cases hgn : ((landAt p i).gen : Int) = gn
    · subst hgn
      have hlk := hp.ld i hi
      have hfm : (landAt p i).fill ≤ 268435456 := Nat.le_trans hlk.fill_le (hlk.cap hp)
      have hfl := hlk.fill_le
      have h0 : pieceF p ⟨(i : Int), ((landAt p i).gen : Int), of, ln⟩ = if ln < 1 ∨ of < 0 ∨ of > ((landAt p i).fill : Int) ∨ ln > ((landAt p i).fill : Int) - of then ((0, 0), 0 + 1)
          else if of.toNat % p.size + ln.toNat > p.size then ((0, 0), 0 + 1) else (((landAt p i).slabs.getD (of.toNat / p.size) 0, of.toNat % p.size), 0) := by
        unfold pieceF; rw [hl]; simp only; rw [if_neg (by simp)]
      by_cases b1 : ln < 1
      · rw [if_pos (.inl b1)] at h0
        rw [pieceV_err h0]
        exact piece_e1 w S g p ads adt cs ct A C bd i hx hl hi hs1 hs2 hfm of ln b1
      · by_cases b2 : of < 0
        · rw [if_pos (.inr (.inl b2))] at h0
          rw [pieceV_err h0]
          exact piece_e2 w S g p ads adt cs ct A C bd i hx hl hi hs1 hs2 hfm of ln b1 b2
        · obtain ⟨o, rfl⟩ : ∃ o : Nat, of = (o : Int) := ⟨of.toNat, by omega⟩
          obtain ⟨l, rfl⟩ : ∃ l : Nat, ln = (l : Int) := ⟨ln.toNat, by omega⟩
          by_cases b3 : o > (landAt p i).fill
          · rw [if_pos (.inr (.inr (.inl (by omega))))] at h0
            rw [pieceV_err h0]
            exact piece_e3 w S g p ads adt cs ct A C bd i hx hl hi hs1 hs2 hfm o l (by omega) b3
          · by_cases b4 : l > (landAt p i).fill - o
            · rw [if_pos (.inr (.inr (.inr (by omega))))] at h0
              rw [pieceV_err h0]
              exact piece_e4 w S g p ads adt cs ct A C bd i hx hl hi hs1 hs2 hfm o l (by omega) (by omega) b4
            · rw [if_neg (by omega), Int.toNat_natCast, Int.toNat_natCast] at h0
              by_cases b5 : o % p.size + l > p.size
              · rw [if_pos b5] at h0
                rw [pieceV_err h0]
                exact piece_e5 w S g p ads adt cs ct A C bd i hx hl hi hs1 hs2 hfm o l (by omega) (by omega) (by omega) b5
              · rw [if_neg b5] at h0
                have hdl : o / p.size < (landAt p i).slabs.length := by
                  rw [Nat.div_lt_iff_lt_mul (by omega)]; omega
                have hs : (landAt p i).slabs[o / p.size]? = some ((landAt p i).slabs.getD (o / p.size) 0) := by
                  rw [List.getD_eq_getElem?_getD, List.getElem?_eq_getElem hdl]; rfl
                rw [pieceV_ok h0]
                exact piece_ok w S g p ads adt cs ct A C bd i hx hl hi hs1 hs2 hfm o l (by omega) (by omega) (by omega) b5 _ hdl hs (hlk.lt _ (List.mem_of_getElem? hs)) hp.n2 (Nat.le_trans hlk.len hp.n2)
    · have he : pieceF p ⟨(i : Int), gn, of, ln⟩ = ((0, 0), 2 + 1) := by unfold pieceF; rw [hl]; simp only; rw [if_pos hgn]
      rw [pieceV_err he]
      exact piece_g w S g p i gn of ln hpa hl hi hgn
end Go.Proofs.YtpaogoehgkoaeaaGreatDoor
/- Layer 1 (region): Load, Slabs, Raw, Store walked. -/
namespace Go.Proofs.YtpaogoehgkoaeaaGreatDoor
set_option linter.unusedVariables false
set_option linter.unusedSimpArgs false
open Go.RowKit
set_option maxRecDepth 100000 in
theorem clone_nil (w : World) : Calls Tryz.prog 49 #[.slice none 0 0] w fun e w' => e = .returned (.slice none 0 0) ∧ w = w' := by
  have HE := fun w' => Lib.run_eql_slice_nil (P := Tryz.prog) w' 31 5 none 0 0 0 0 Tryz.underlying31
  go_enter Tryz.func49, Tryz.ntmps49
  go_wp2
  go_ret
  exact ⟨rfl, rfl⟩
theorem bytes_part {w : World} {b k n : Nat} {l : List UInt8} (h : Blk w b 5 (bv l)) (hk : k + n ≤ l.length) : Bytes w (some ⟨b, k, none⟩) ((l.drop k).take n) := by
  have hb : Bytes w (some ⟨b, 0, none⟩) l := fun i hi => ⟨b, 0, rfl, by rw [Nat.zero_add]; exact h.cell (bv_get l i hi)⟩
  have := (hb.drop k).take n
  rw [Nat.zero_add] at this
  exact this
theorem bytesAt_len {p : PoolF} (hp : PoolOk p) {s : Nat} (hs : s < p.bytes.length) : (bytesAt p s).length = p.size := by
  unfold bytesAt
  rw [List.getD_eq_getElem?_getD, List.getElem?_eq_getElem hs]
  exact hp.bl _ (List.getElem_mem hs)
theorem loadF_ok {p : PoolF} {h : Hd} {s k : Nat} (e : pieceF p h = ((s, k), 0)) : loadF p h = (((bytesAt p s).drop k).take h.len.toNat, 0) := by unfold loadF; rw [e]; rfl
theorem loadF_err {p : PoolF} {h : Hd} {x : Nat × Nat} {n : Nat} (e : pieceF p h = (x, n + 1)) : loadF p h = ([], n + 1) := by unfold loadF; rw [e]; rfl
set_option maxRecDepth 100000 in
set_option maxHeartbeats 4000000 in
theorem Load_any (w : World) (S : Nat → Prop) (g : Nat) (p : PoolF) (hd : Hd) (h : PoolAt w S g p) (hp : PoolOk p) :
    Calls Tryz.prog 119 #[.pointer (some ⟨g, 0, none⟩), hdv hd] w fun e w' => ∃ ad cap, e = .returned (.tuple #[.slice ad (loadF p hd).1.length cap, .int .i64 ((loadF p hd).2 : Int)]) ∧ Owns w' w.heap.size 5 1 ad cap (loadF p hd).1.length (bv (loadF p hd).1) ∧ Gr w w' := by
  obtain ⟨ads, cs, adt, ct, A, C, bd, hx⟩ := h
  have HPC := Lib.hid (fun w' (k : Gr w w') => piece_any w' S g p ads adt cs ct A C bd hd (hx.gr k) hp)
  rcases hpf : pieceF p hd with ⟨⟨s, k⟩, e⟩
  cases e with
  | succ e =>
    rw [pieceV_err hpf] at HPC
    rw [loadF_err hpf]
    clear hx hpf hp
    obtain ⟨r, gn, of, ln⟩ := hd
    unfold hdv at *
    simp only at HPC ⊢
    go_enter Tryz.func119, Tryz.ntmps119
    go_wp2_with (first
      | (go_at_call 114; refine (HPC.out _ (Gr.alloc _ _)).mono ?_; rintro e w1 ⟨rfl, g1⟩)
      | (go_at_call 49; refine (clone_nil _).mono ?_; rintro e w2 ⟨rfl, rfl⟩)
      | fail)
    go_ret2
    exact ⟨none, 0, rfl, Owns.empty _ _ _ _, (Gr.alloc _ _).trans g1⟩
  | zero =>
    obtain ⟨i, o, l, -, hi, e2, e3, e4, e5, hl1, -, -, -, -, hkl, hs⟩ := pieceF_ok hp hpf
    have hbl := bytesAt_len hp hs
    have hs2 := hp.s2
    rw [pieceV_ok hpf] at HPC
    rw [loadF_ok hpf]
    have HX := Lib.hid hx
    have hlen : (((bytesAt p s).drop k).take hd.len.toNat).length = hd.len.toNat := by rw [e3, Int.toNat_natCast, List.length_take, List.length_drop]; omega
    have HB := Lib.hid (fun w' (kk : Gr w w') => bytes_part (n := hd.len.toNat) ((hx.gr kk).slab s hs) (by rw [e3, Int.toNat_natCast]; omega : k + hd.len.toNat ≤ (bytesAt p s).length))
    have h1 : 1 ≤ (((bytesAt p s).drop k).take hd.len.toNat).length := by rw [hlen, e3, Int.toNat_natCast]; exact hl1
    have h2 : (((bytesAt p s).drop k).take hd.len.toNat).length ≤ 1000000000 := by rw [hlen, e3, Int.toNat_natCast]; omega
    generalize ((bytesAt p s).drop k).take hd.len.toNat = B at *
    rw [← hlen] at HPC
    clear hx hpf hp hlen e2 e3 e4 e5 hbl
    obtain ⟨r, gn, of, ln⟩ := hd
    unfold hdv at *
    simp only at HPC ⊢
    go_enter Tryz.func119, Tryz.ntmps119
    go_wp2_with (first
      | (go_at_call 114; refine (HPC.out _ (Gr.alloc _ _)).mono ?_; rintro e w1 ⟨rfl, g1⟩; have hbb := HB.out _ ((Gr.alloc _ _).trans g1); have HC := Lib.hid (clone_any _ _ (p.size - k) B w1 rfl h1 h2 hbb))
      | (go_at_call 49; go_must (refine HC.out.mono ?_); rintro e w2 ⟨ad2, cp2, rfl, o2, g2⟩)
      | fail)
    go_ret2
    have hsz := ((Gr.alloc w (.cells #[.int .i64 r, .int .i64 gn, .int .i64 of, .int .i64 ln] 58)).trans g1).size
    exact ⟨ad2, cp2, rfl, o2.base hsz, ((Gr.alloc _ _).trans g1).trans g2⟩
theorem storeF_err {p : PoolF} {h : Hd} {x : Nat × Nat} {n : Nat} {a : Int} {b : List UInt8} (e : pieceF p h = (x, n + 1)) : storeF p h a b = (n + 1, p) := by unfold storeF; rw [e]; rfl
theorem storeF_bad {p : PoolF} {h : Hd} {s k : Nat} {a : Int} {b : List UInt8} (e : pieceF p h = ((s, k), 0)) (hb : a < 0 ∨ a > h.len ∨ (b.length : Int) > h.len - a) : storeF p h a b = (1, p) := by
  unfold storeF; rw [e]; simp only; rw [if_pos hb]
theorem storeF_ok {p : PoolF} {h : Hd} {s k : Nat} {a : Int} {b : List UInt8} (e : pieceF p h = ((s, k), 0)) (hb : ¬ (a < 0 ∨ a > h.len ∨ (b.length : Int) > h.len - a)) :
    storeF p h a b = (0, setBytes p s (((bytesAt p s).take (k + a.toNat)) ++ b ++ ((bytesAt p s).drop (k + a.toNat + b.length)))) := by
  unfold storeF; rw [e]; simp only; rw [if_neg hb]; rfl
theorem bv_take (l : List UInt8) (n : Nat) : (bv l).take n = bv (l.take n) := by simp [bv]
theorem bv_drop (l : List UInt8) (n : Nat) : (bv l).drop n = bv (l.drop n) := by simp [bv]
set_option maxRecDepth 100000 in
set_option maxHeartbeats 4000000 in
theorem Store_any (w : World) (S : Nat → Prop) (g : Nat) (p : PoolF) (hd : Hd) (a : Int) (ad : Option Addr) (n cap : Nat) (b : List UInt8) (h : PoolAt w S g p) (hp : PoolOk p) (hb : Bytes w ad b) (hn : b.length = n) (hnm : n ≤ 9223372036854775807) :
    Calls Tryz.prog 67 #[.pointer (some ⟨g, 0, none⟩), hdv hd, .int .i64 a, .slice ad n cap] w fun e w' => e = .returned (.int .i64 ((storeF p hd a b).1 : Int)) ∧ Moved S g (storeF p hd a b).2 w w' S := by
  have HPO := Lib.hid h
  obtain ⟨ads, cs, adt, ct, A, C, bd, hx⟩ := h
  have HPC := Lib.hid (fun w' (k : Gr w w') => piece_any w' S g p ads adt cs ct A C bd hd (hx.gr k) hp)
  rcases hpf : pieceF p hd with ⟨⟨s, k⟩, e⟩
  cases e with
  | succ e =>
    rw [pieceV_err hpf] at HPC
    rw [storeF_err hpf]
    have he : (((e + 1 : Nat) : Int) != 0) = true := by simp; omega
    obtain ⟨e2, he2⟩ : ∃ e2, e2 = e + 1 := ⟨_, rfl⟩
    rw [← he2] at HPC he ⊢
    clear hx hpf hp he2 hb
    obtain ⟨r, gn, of, ln⟩ := hd
    unfold hdv at *
    simp only at HPC ⊢
    go_enter Tryz.func67, Tryz.ntmps67
    go_wp2_with (first
      | (go_at_call 114; go_must (refine (HPC.out _ (Gr.alloc _ _)).mono ?_); rintro e w1 ⟨rfl, g1⟩)
      | fail)
    go_ret
    exact ⟨rfl, (Moved.refl HPO.out).gr ((Gr.alloc _ _).trans g1)⟩
  | zero =>
    obtain ⟨i, o, l, -, hi, e2, e3, e4, e5, hl1, -, -, -, -, hkl, hs⟩ := pieceF_ok hp hpf
    have hbl := bytesAt_len hp hs
    have hs2 := hp.s2
    rw [pieceV_ok hpf] at HPC
    have HX := Lib.hid hx
    obtain ⟨r, gn, of, ln⟩ := hd
    simp only at e2 e3 e4 e5
    subst e3
    have hbs : ¬ (a < 0 ∨ a > (l : Int) ∨ (b.length : Int) > (l : Int) - a) → _ := fun hh => storeF_ok (a := a) (b := b) hpf hh
    have hbb : (a < 0 ∨ a > (l : Int) ∨ (b.length : Int) > (l : Int) - a) → _ := fun hh => storeF_bad (a := a) (b := b) hpf hh
    simp only [Int.toNat_natCast] at HPC
    have HBS := Lib.hid hbs
    have HBB := Lib.hid hbb
    have HB := Lib.hid hb
    clear hx hpf hp hbs hbb e2 e4 e5 hb
    unfold hdv at *
    simp only at HPC ⊢
    by_cases b1 : a < 0
    · have hbad : a < 0 ∨ a > (l : Int) ∨ (b.length : Int) > (l : Int) - a := .inl b1
      rw [HBB.out hbad]
      clear hbad
      go_enter Tryz.func67, Tryz.ntmps67
      go_wp2_with (first
        | (go_at_call 114; go_must (refine (HPC.out _ (Gr.alloc _ _)).mono ?_); rintro e w1 ⟨rfl, g1⟩)
        | fail)
      go_ret
      exact ⟨rfl, (Moved.refl HPO.out).gr ((Gr.alloc _ _).trans g1)⟩
    · obtain ⟨t, rfl⟩ : ∃ t : Nat, a = (t : Int) := ⟨a.toNat, by omega⟩
      by_cases b2 : t > l
      · have hbad : (t : Int) < 0 ∨ (t : Int) > (l : Int) ∨ (b.length : Int) > (l : Int) - (t : Int) := .inr (.inl (by omega))
        rw [HBB.out hbad]
        clear hbad
        go_enter Tryz.func67, Tryz.ntmps67
        go_wp2_with (first
          | (go_at_call 114; go_must (refine (HPC.out _ (Gr.alloc _ _)).mono ?_); rintro e w1 ⟨rfl, g1⟩)
          | fail)
        go_ret
        exact ⟨rfl, (Moved.refl HPO.out).gr ((Gr.alloc _ _).trans g1)⟩
      · by_cases b3 : n > l - t
        · have hbad : (t : Int) < 0 ∨ (t : Int) > (l : Int) ∨ (b.length : Int) > (l : Int) - (t : Int) := .inr (.inr (by omega))
          clear hn
          rw [HBB.out hbad]
          clear hbad
          go_enter Tryz.func67, Tryz.ntmps67
          go_wp2_with (first
            | (go_at_call 114; go_must (refine (HPC.out _ (Gr.alloc _ _)).mono ?_); rintro e w1 ⟨rfl, g1⟩)
            | fail)
          go_ret
          exact ⟨rfl, (Moved.refl HPO.out).gr ((Gr.alloc _ _).trans g1)⟩
        · rw [HBS.out (by omega)]
          rw [Int.toNat_natCast]
          have HN := Lib.hid hn
          have hf : k + t + n ≤ p.size := by omega
          have hnl : n ≤ l - t := by omega
          have HBL := Lib.hid hbl
          clear hn hbl
          go_enter Tryz.func67, Tryz.ntmps67
          go_wp2_with (first
            | (go_at_call 114; go_must (refine (HPC.out _ (Gr.alloc _ _)).mono ?_); rintro e w1 ⟨rfl, g1⟩)
            | ((with_reducible show Go.wpList _ _ _ (Oper.mk _ (Op.call (Call.mk (Callee.builtin Builtin.copy) _ _)) _ _ _ _ :: _) _ _)
               go_must (refine wp_copy elemB rfl _ _ rfl rfl (fun h0 => by rw [if_neg (by omega)]) rfl ((HX.out.gr ((Gr.alloc _ _).trans g1)).slab s hs) (HB.out.gr ((Gr.alloc _ _).trans g1)).row (by rw [bv_length]; exact HN.out) (by omega) (by rw [bv_length, HBL.out]; exact hf) (bv_one _) ?_); intro w2 q2 k2)
            | fail)
          all_goals
            go_ret
            have hgr := (Gr.alloc w (.cells #[.int .i64 r, .int .i64 gn, .int .i64 of, .int .i64 (l : Int)] 58)).trans g1
            refine ⟨rfl, ?_⟩
            rw [bv_take, bv_drop, ← bv_append, ← bv_append] at q2
            have hm := (HX.out.gr hgr).put_bytes hs _ q2 k2
            have hn := HN.out
            refine ⟨Chg.trans (S' := S) (hgr.chg (S := S)) (Chg.grown k2 (HX.out.sslab s hs)) (fun j hj => .inl hj), fun j hj => .inl hj, ads, cs, adt, ct, A, C, bd, ?_⟩
            rw [hn]
            rw [List.append_assoc] at hm
            exact hm
end Go.Proofs.YtpaogoehgkoaeaaGreatDoor
/- Layer 1 (region): Store and Free leave the pool in order; what is seen of it behind. -/
namespace Go.Proofs.YtpaogoehgkoaeaaGreatDoor
set_option linter.unusedVariables false
set_option linter.unusedSimpArgs false
open Go.RowKit
theorem splice_len {l b : List UInt8} {k : Nat} (h : k + b.length ≤ l.length) : (l.take k ++ b ++ l.drop (k + b.length)).length = l.length := by
  simp only [List.length_append, List.length_take, List.length_drop]; omega
theorem store_ok {p : PoolF} (h : PoolOk p) (hd : Hd) (a : Int) (b : List UInt8) : PoolOk (storeF p hd a b).2 := by
  rcases hpf : pieceF p hd with ⟨⟨s, k⟩, e⟩
  cases e with
  | succ e => rw [storeF_err hpf]; exact h
  | zero =>
    obtain ⟨i, o, l, -, hi, e2, e3, e4, e5, hl1, -, -, -, -, hkl, hs⟩ := pieceF_ok h hpf
    by_cases hb : a < 0 ∨ a > hd.len ∨ (b.length : Int) > hd.len - a
    · rw [storeF_bad hpf hb]; exact h
    · rw [storeF_ok hpf hb]
      refine setB_ok h s _ (fun hs => ?_)
      have hbl := bytesAt_len h hs
      rw [splice_len (by omega), hbl]
theorem foldl_set_bool : ∀ (l : List Nat) (b : List Bool) (t : Nat), (l.foldl (fun t s => t.set s false) b).getD t false = if t ∈ l then false else b.getD t false
  | [], b, t => by simp
  | s :: r, b, t => by
    rw [List.foldl_cons, foldl_set_bool r]
    by_cases h1 : t ∈ r
    · rw [if_pos h1, if_pos (List.mem_cons_of_mem _ h1)]
    · rw [if_neg h1]
      by_cases h2 : t = s
      · subst h2
        rw [if_pos (by simp)]
        simp only [List.getD_eq_getElem?_getD, List.getElem?_set]
        by_cases hl : t < b.length
        · simp [hl]
        · simp [hl]
      · rw [if_neg (by simp [h1, h2])]
        simp only [List.getD_eq_getElem?_getD, List.getElem?_set]
        rw [if_neg (fun e => h2 e.symm)]
theorem foldl_set_get {β : Type} (x d : β) : ∀ (l : List Nat) (b : List β) (t : Nat), t < b.length → (l.foldl (fun t s => t.set s x) b).getD t d = if t ∈ l then x else b.getD t d
  | [], b, t, _ => by simp
  | s :: r, b, t, ht => by
    rw [List.foldl_cons, foldl_set_get x d r _ t (by rw [List.length_set]; exact ht)]
    by_cases h1 : t ∈ r
    · rw [if_pos h1, if_pos (List.mem_cons_of_mem _ h1)]
    · rw [if_neg h1]
      by_cases h2 : t = s
      · subst h2
        rw [if_pos (by simp)]
        simp [List.getD_eq_getElem?_getD, List.getElem?_set, ht]
      · rw [if_neg (by simp [h1, h2])]
        simp only [List.getD_eq_getElem?_getD, List.getElem?_set]
        rw [if_neg (fun e => h2 e.symm)]
theorem landAt_free {p : PoolF} (h : PoolOk p) {i : Nat} (hi : i < 256) (L : List Nat) (l : Land) (j : Nat) : landAt { freeSlabs p L with lands := p.lands.set i l } j = if i = j then l else landAt p j := by
  have := landAt_set p i j l (by rw [h.ln]; exact hi)
  exact this
theorem free_ok {p : PoolF} (h : PoolOk p) (r : Int) : PoolOk (freeF p r).2 := by
  unfold freeF
  cases hl : landF p r with
  | none => exact h
  | some i =>
    obtain ⟨_, hi, hth⟩ := landF_some hl
    simp only
    obtain ⟨L, hL⟩ : ∃ L, L = (landAt p i).slabs := ⟨_, rfl⟩
    rw [← hL]
    have hA := fun j => landAt_free h hi L ⟨false, (landAt p i).gen, [], 0⟩ j
    obtain ⟨q, hq⟩ : ∃ q : PoolF, q = { freeSlabs p L with lands := p.lands.set i ⟨false, (landAt p i).gen, [], 0⟩ } := ⟨_, rfl⟩
    rw [← hq] at hA ⊢
    have hbl : q.bytes.length = p.bytes.length := by rw [hq]; exact (freeSlabs_len p L).1
    have htl : q.taken.length = p.taken.length := by rw [hq]; exact (freeSlabs_len p L).2
    have hsz : q.size = p.size := by rw [hq]; rfl
    have htk : ∀ t, q.taken.getD t false = if t ∈ L then false else p.taken.getD t false := fun t => by rw [hq]; exact foldl_set_bool L p.taken t
    refine ⟨by rw [hsz]; exact h.s1, by rw [hsz]; exact h.s2, by rw [hsz]; exact h.s3, by rw [hbl]; exact h.n1, by rw [hbl]; exact h.n2, fun b hb => ?_, by rw [hbl, htl]; exact h.tk, ?_, fun j hj => ?_, fun t ht => ?_, fun j k t hj hk m1 m2 => ?_⟩
    · rw [hsz]
      rw [hq] at hb
      exact bytesAt_foldl_len p.size _ (by simp) L p.bytes h.bl b hb
    · rw [hq]; show (p.lands.set i _).length = 256; rw [List.length_set]; exact h.ln
    · rw [hA]
      split
      · exact ⟨by simp, by simp, .inl ⟨rfl, rfl⟩, fun _ => rfl⟩
      · have := h.ld j hj
        exact ⟨this.nodup, fun t ht => by rw [hbl]; exact this.lt t ht, by rw [hsz]; exact this.fill, this.away⟩
    · rw [hbl] at ht
      rw [htk]
      by_cases hm : t ∈ L
      · rw [if_pos hm]
        refine ⟨fun e => by simp at e, fun ⟨j, hj, hjm⟩ => ?_⟩
        rw [hA] at hjm
        split at hjm
        · simp at hjm
        · rename_i hne
          rw [hL] at hm
          exact absurd (h.apart i j t hi hj hm hjm) hne
      · rw [if_neg hm, h.has t ht]
        constructor
        · rintro ⟨j, hj, hjm⟩
          refine ⟨j, hj, ?_⟩
          rw [hA, if_neg (fun e => hm (by rw [hL, e]; exact hjm))]
          exact hjm
        · rintro ⟨j, hj, hjm⟩
          rw [hA] at hjm
          split at hjm
          · simp at hjm
          · exact ⟨j, hj, hjm⟩
    · rw [hA] at m1 m2
      split at m1
      · simp at m1
      · split at m2
        · simp at m2
        · exact h.apart j k t hj hk m1 m2
end Go.Proofs.YtpaogoehgkoaeaaGreatDoor
/- Layer 1 (region): pieces: what each holds, whatever is done to others. No walk here. -/
namespace Go.Proofs.YtpaogoehgkoaeaaGreatDoor
set_option linter.unusedVariables false
set_option linter.unusedSimpArgs false
open Go.RowKit
/-- a piece that is there -/
structure Pc (p : PoolF) (x : Hd) (i o l : Nat) : Prop where
  there : (landAt p i).there = true
  hi : i < 256
  reg : x.region = (i : Int)
  gen : x.gen = ((landAt p i).gen : Int)
  off : x.off = (o : Int)
  len : x.len = (l : Int)
  one : 1 ≤ l
  fit : o + l ≤ (landAt p i).fill
  ins : o % p.size + l ≤ p.size
def slabOf (p : PoolF) (i o : Nat) : Nat := (landAt p i).slabs.getD (o / p.size) 0
section
variable {p p' : PoolF} {x y : Hd} {i j o l o2 l2 s : Nat}
theorem Pc.piece (h : Pc p x i o l) : pieceF p x = ((slabOf p i o, o % p.size), 0) := by
  obtain ⟨r, gn, of, ln⟩ := x
  obtain ⟨h1, h2, e1, e2, e3, e4, h3, h4, h5⟩ := h
  simp only at e1 e2 e3 e4
  subst e1 e2 e3 e4
  unfold pieceF
  rw [landF_of h2 h1]
  simp only
  rw [if_neg (by simp), if_neg (by omega), Int.toNat_natCast, Int.toNat_natCast, if_neg (by omega)]
  rfl
theorem Pc.of (hp : PoolOk p) {s k : Nat} (h : pieceF p x = ((s, k), 0)) : ∃ i o l, Pc p x i o l := by
  obtain ⟨i, o, l, h1, hi, e2, e3, e4, e5, hl1, hf, h2, h3, h4, hkl, hs⟩ := pieceF_ok hp h
  exact ⟨i, o, l, (landF_some h1).2.2, hi, e4, e5, e2, e3, hl1, hf, by rw [← h4]; exact hkl⟩
theorem Pc.slab (hp : PoolOk p) (h : Pc p x i o l) : o / p.size < (landAt p i).slabs.length ∧ (landAt p i).slabs[o / p.size]? = some (slabOf p i o) ∧ slabOf p i o < p.bytes.length := by
  have hl := hp.ld i h.hi
  have h1 := hl.fill_le
  have h2 := h.fit
  have h3 := h.one
  have hs := hp.s1
  have hlt : o / p.size < (landAt p i).slabs.length := by rw [Nat.div_lt_iff_lt_mul (by omega)]; omega
  have he : (landAt p i).slabs[o / p.size]? = some (slabOf p i o) := by
    unfold slabOf; rw [List.getD_eq_getElem?_getD, List.getElem?_eq_getElem hlt]; rfl
  exact ⟨hlt, he, hl.lt _ (List.mem_of_getElem? he)⟩
theorem Pc.load (h : Pc p x i o l) : loadF p x = (((bytesAt p (slabOf p i o)).drop (o % p.size)).take l, 0) := by
  rw [loadF_ok h.piece, h.len, Int.toNat_natCast]
theorem Pc.load_len (hp : PoolOk p) (h : Pc p x i o l) : (loadF p x).1.length = l := by
  obtain ⟨_, _, hs⟩ := h.slab hp
  have h1 := bytesAt_len hp hs
  have h2 := h.ins
  rw [h.load, List.length_take, List.length_drop]; omega
/-- the lands stand as they stood, but that some have more slabs and are handed out further -/
structure Grew (p p' : PoolF) (i : Nat) : Prop where
  there : (landAt p' i).there = (landAt p i).there
  gen : (landAt p' i).gen = (landAt p i).gen
  slabs : ∃ t, (landAt p' i).slabs = (landAt p i).slabs ++ t
  fill : (landAt p i).fill ≤ (landAt p' i).fill
theorem Grew.refl (p : PoolF) (i : Nat) : Grew p p i := ⟨rfl, rfl, ⟨[], (List.append_nil _).symm⟩, Nat.le_refl _⟩
theorem Pc.grew (hp : PoolOk p) (h : Pc p x i o l) (g : Grew p p' i) (hs : p'.size = p.size) : Pc p' x i o l ∧ slabOf p' i o = slabOf p i o := by
  obtain ⟨t, ht⟩ := g.slabs
  obtain ⟨h1, h2, _⟩ := h.slab hp
  refine ⟨⟨g.there.trans h.there, h.hi, h.reg, by rw [h.gen, g.gen], h.off, h.len, h.one, Nat.le_trans h.fit g.fill, by rw [hs]; exact h.ins⟩, ?_⟩
  unfold slabOf
  rw [hs, ht, List.getD_eq_getElem?_getD, List.getElem?_append_left h1, ← List.getD_eq_getElem?_getD]
theorem Pc.kept (hp : PoolOk p) (h : Pc p x i o l) (g : Grew p p' i) (hs : p'.size = p.size) (hb : bytesAt p' (slabOf p i o) = bytesAt p (slabOf p i o)) : Pc p' x i o l ∧ loadF p' x = loadF p x := by
  obtain ⟨h1, h2⟩ := h.grew hp g hs
  refine ⟨h1, ?_⟩
  rw [h1.load, h.load, h2, hb, hs]
/-- Alloc that is answered -/
theorem alloc_pcs (hp : PoolOk p) {r n a : Int} (he : allocF p r n a = (y, 0, p')) :
    ∃ i o : Nat, landF p r = some i ∧ Pc p' y i o n.toNat ∧ (n.toNat : Int) = n ∧ (landAt p i).fill ≤ o ∧ p'.size = p.size ∧ p'.bytes.length = p.bytes.length ∧ (∀ j, j < 256 → Grew p p' j) ∧ (∀ x j o l, Pc p x j o l → Pc p' x j o l ∧ loadF p' x = loadF p x) ∧ (landAt p' i).fill = o + n.toNat ∧ o % p.size % a.toNat = 0 := by
  have hok := alloc_ok hp r n a
  have hs1 := hp.s1
  unfold allocF at he
  cases hl : landF p r with
  | none => rw [hl] at he; simp at he
  | some i =>
    obtain ⟨e0, hi, hth⟩ := landF_some hl
    rw [hl] at he
    simp only at he
    split at he
    · simp at he
    · rename_i hb
      have hn1 : 1 ≤ n.toNat := by omega
      have hn2 : n.toNat ≤ p.size := by omega
      have hn3 : ((n.toNat : Nat) : Int) = n := by omega
      split at he
      · cases hid : idleF p with
        | none => rw [hid] at he; simp at he
        | some s =>
          rw [hid] at he
          simp only [Prod.mk.injEq, true_and] at he
          obtain ⟨ey, ep⟩ := he
          obtain ⟨hst, h0, _⟩ := idleF_some hid
          have hsb : s < p.bytes.length := by rw [← hp.tk]; exact hst
          have hA : ∀ j, landAt p' j = if i = j then ⟨(landAt p i).there, (landAt p i).gen, (landAt p i).slabs ++ [s], (landAt p i).slabs.length * p.size + n.toNat⟩ else landAt p j := fun j => by
            rw [← ep, landAt_fill (grow_lands hp i s) hi, landAt_grow hp hi, landAt_grow hp hi, if_pos rfl]
            split <;> rfl
          have hsz : p'.size = p.size := by rw [← ep]; rfl
          have hbl : p'.bytes.length = p.bytes.length := by rw [← ep]; exact List.length_set
          have hfl := (hp.ld i hi).fill_le
          have hgrew : ∀ j, j < 256 → Grew p p' j := fun j _ => by
            by_cases e : i = j
            · subst e
              have := hA i
              rw [if_pos rfl] at this
              refine ⟨by rw [this], by rw [this], ⟨[s], by rw [this]⟩, by rw [this]; show (landAt p i).fill ≤ (landAt p i).slabs.length * p.size + n.toNat; omega⟩
            · have := hA j
              rw [if_neg e] at this
              exact ⟨by rw [this], by rw [this], ⟨[], by rw [this, List.append_nil]⟩, by rw [this]; exact Nat.le_refl _⟩
          have hAi := hA i
          rw [if_pos rfl] at hAi
          have hmod : (landAt p i).slabs.length * p.size % p.size = 0 := Nat.mul_mod_left _ _
          refine ⟨i, (landAt p i).slabs.length * p.size, rfl, ⟨by rw [hAi]; exact hth, hi, by rw [← ey], by rw [← ey, hAi], by rw [← ey], by rw [← ey]; exact hn3.symm, hn1, by rw [hAi]; exact Nat.le_refl _, by rw [hsz, hmod]; omega⟩, hn3, hfl, hsz, hbl, hgrew, fun x j o l hx => ?_, by rw [hAi], by rw [hmod]; exact Nat.zero_mod _⟩
          refine hx.kept hp (hgrew j hx.hi) hsz ?_
          obtain ⟨_, hm, _⟩ := hx.slab hp
          have hne : slabOf p j o ≠ s := fun e => by
            have := (hp.has s hsb).2 ⟨j, hx.hi, e ▸ List.mem_of_getElem? hm⟩
            rw [h0] at this; cases this
          rw [← ep]
          show (p.bytes.set s _).getD _ [] = p.bytes.getD _ []
          simp only [List.getD_eq_getElem?_getD, List.getElem?_set]
          rw [if_neg (fun e => hne e.symm)]
      · rename_i hg
        have hne : (landAt p i).slabs ≠ [] := fun e => hg (.inl e)
        have hfit : ¬ p.size < upTo (inF p i) a.toNat + n.toNat := fun e => hg (.inr e)
        simp only [Prod.mk.injEq, true_and] at he
        obtain ⟨ey, ep⟩ := he
        obtain ⟨_, hin⟩ := inF_bounds hp hi
        obtain ⟨hfe, _⟩ := hin hne
        have ha := alignOk_range (a := a) (by cases hk : alignOk a with | true => rfl | false => exact absurd (.inr (.inr hk)) hb)
        have hup := (upTo_bounds (x := inF p i) (a := a.toNat) (by omega)).1
        have hA := fun j => landAt_fill (p := p) hp.ln hi (((landAt p i).slabs.length - 1) * p.size + upTo (inF p i) a.toNat + n.toNat) j
        rw [ep] at hA
        have hsz : p'.size = p.size := by rw [← ep]; rfl
        have hAi := hA i
        rw [if_pos rfl] at hAi
        have hgrew : ∀ j, j < 256 → Grew p p' j := fun j _ => by
          by_cases e : i = j
          · subst e
            exact ⟨by rw [hAi], by rw [hAi], ⟨[], by rw [hAi, List.append_nil]⟩, by rw [hAi]; show (landAt p i).fill ≤ _ + n.toNat; omega⟩
          · have := hA j
            rw [if_neg e] at this
            exact ⟨by rw [this], by rw [this], ⟨[], by rw [this, List.append_nil]⟩, by rw [this]; exact Nat.le_refl _⟩
        have hmod : (((landAt p i).slabs.length - 1) * p.size + upTo (inF p i) a.toNat) % p.size = upTo (inF p i) a.toNat := by
          rw [Nat.add_comm, Nat.add_mul_mod_self_right, Nat.mod_eq_of_lt (by omega)]
        refine ⟨i, ((landAt p i).slabs.length - 1) * p.size + upTo (inF p i) a.toNat, rfl, ⟨by rw [hAi]; exact hth, hi, by rw [← ey], by rw [← ey, hAi], by rw [← ey], by rw [← ey]; exact hn3.symm, hn1, by rw [hAi]; exact Nat.le_refl _, by rw [hsz, hmod]; omega⟩, hn3, by omega, hsz, by rw [← ep]; rfl, hgrew, fun x j o l hx => hx.kept hp (hgrew j hx.hi) hsz (by rw [← ep]; rfl), by rw [hAi], ?_⟩
        rw [hmod]
        unfold upTo
        exact Nat.mul_mod_left _ _
end
theorem splice_get (B b : List UInt8) (k n : Nat) (h : k + b.length ≤ B.length) (m : Nat) : (B.take k ++ b ++ B.drop (k + b.length))[m]? = if k ≤ m ∧ m < k + b.length then b[m - k]? else B[m]? := by
  have h1 : (B.take k).length = k := by rw [List.length_take]; omega
  by_cases c1 : m < k
  · rw [if_neg (by omega), List.append_assoc, List.getElem?_append_left (by omega), List.getElem?_take, if_pos c1]
  · by_cases c2 : m < k + b.length
    · rw [if_pos ⟨by omega, c2⟩, List.append_assoc, List.getElem?_append_right (by omega), h1, List.getElem?_append_left (by omega)]
    · rw [if_neg (by omega), List.getElem?_append_right (by rw [List.length_append, h1]; omega), List.length_append, h1, List.getElem?_drop]
      congr 1; omega
theorem part_get (B : List UInt8) (k l m : Nat) : ((B.drop k).take l)[m]? = if m < l then B[k + m]? else none := by
  rw [List.getElem?_take, List.getElem?_drop]
theorem part_in (B b : List UInt8) (k t l : Nat) (h1 : t + b.length ≤ l) (h2 : k + l ≤ B.length) :
    ((B.take (k + t) ++ b ++ B.drop (k + t + b.length)).drop k).take l = ((B.drop k).take l).take t ++ b ++ ((B.drop k).take l).drop (t + b.length) := by
  have hlen : ((B.drop k).take l).length = l := by rw [List.length_take, List.length_drop]; omega
  apply List.ext_getElem?
  intro m
  rw [part_get, splice_get _ _ _ 0 (by omega), splice_get _ _ _ 0 (by omega), part_get]
  by_cases c : m < l
  · rw [if_pos c, if_pos c]
    by_cases c2 : t ≤ m ∧ m < t + b.length
    · rw [if_pos (by omega), if_pos c2]; congr 1; omega
    · rw [if_neg (by omega), if_neg c2]
  · rw [if_neg c, if_neg c, if_neg (by omega)]
theorem part_out (B b : List UInt8) (k k2 l2 : Nat) (h1 : k + b.length ≤ B.length) (h : k + b.length ≤ k2 ∨ k2 + l2 ≤ k) :
    ((B.take k ++ b ++ B.drop (k + b.length)).drop k2).take l2 = (B.drop k2).take l2 := by
  apply List.ext_getElem?
  intro m
  rw [part_get, part_get, splice_get _ _ _ 0 h1]
  by_cases c : m < l2
  · rw [if_pos c, if_pos c, if_neg (by omega)]
  · rw [if_neg c, if_neg c]
section
variable {p p' : PoolF} {x y : Hd} {i j o l o2 l2 s : Nat}
theorem Pc.same_slab (hp : PoolOk p) (h : Pc p x i o l) (k : Pc p y j o2 l2) (e : slabOf p i o = slabOf p j o2) : i = j ∧ o / p.size = o2 / p.size := by
  obtain ⟨a1, a2, a3⟩ := h.slab hp
  obtain ⟨b1, b2, b3⟩ := k.slab hp
  have hij : i = j := hp.apart i j _ h.hi k.hi (List.mem_of_getElem? a2) (e ▸ List.mem_of_getElem? b2)
  subst hij
  refine ⟨rfl, ?_⟩
  rw [← e] at b2
  exact (List.getElem?_inj a1 (hp.ld i h.hi).nodup).1 (a2.trans b2.symm)
/-- Store into a piece -/
theorem store_pcs (hp : PoolOk p) (hx : Pc p x i o l) (t : Nat) (b : List UInt8) (h : t + b.length ≤ l) : ∃ p', storeF p x (t : Int) b = (0, p') ∧ p'.size = p.size ∧ p'.bytes.length = p.bytes.length ∧ p'.taken = p.taken ∧ p'.lands = p.lands ∧
    loadF p' x = ((loadF p x).1.take t ++ b ++ (loadF p x).1.drop (t + b.length), 0) ∧ (∀ y j o2 l2, Pc p y j o2 l2 → Pc p' y j o2 l2 ∧ ((i ≠ j ∨ o + l ≤ o2 ∨ o2 + l2 ≤ o) → loadF p' y = loadF p y)) := by
  obtain ⟨q1, q2, q3⟩ := hx.slab hp
  have hlen := hx.len
  have hins := hx.ins
  have hbl := bytesAt_len hp q3
  have hb : ¬ ((t : Int) < 0 ∨ (t : Int) > x.len ∨ (b.length : Int) > x.len - (t : Int)) := by rw [hlen]; omega
  have he := storeF_ok hx.piece hb
  rw [Int.toNat_natCast] at he
  have hg : ∀ j, Grew p (setBytes p (slabOf p i o) ((bytesAt p (slabOf p i o)).take (o % p.size + t) ++ b ++ (bytesAt p (slabOf p i o)).drop (o % p.size + t + b.length))) j := fun j => ⟨rfl, rfl, ⟨[], (List.append_nil _).symm⟩, Nat.le_refl _⟩
  refine ⟨_, he, rfl, List.length_set, rfl, rfl, ?_, fun y j o2 l2 hy => ⟨(hy.grew hp (hg j) rfl).1, fun hd => ?_⟩⟩
  · obtain ⟨h1, h2⟩ := hx.grew hp (hg i) rfl
    rw [h1.load, h2, bytesAt_set _ _ _ _ q3, if_pos rfl, hx.load]
    show (((_ : List UInt8).drop (o % p.size)).take l, 0) = _
    rw [part_in _ _ _ _ _ h (by rw [hbl]; exact hins)]
  · obtain ⟨h1, h2⟩ := hy.grew hp (hg j) rfl
    rw [h1.load, h2, bytesAt_set _ _ _ _ q3, hy.load]
    by_cases e : slabOf p i o = slabOf p j o2
    · rw [if_pos e]
      obtain ⟨hij, hq⟩ := hx.same_slab hp hy e
      have d1 := Nat.div_add_mod o p.size
      have d2 := Nat.div_add_mod o2 p.size
      rw [hq] at d1
      show (((_ : List UInt8).drop (o2 % p.size)).take l2, 0) = _
      have hy2 := hy.one
      rw [part_out _ _ _ _ _ (by rw [hbl]; omega) (by
        rcases hd with hd | hd | hd
        · exact absurd hij hd
        · left; omega
        · right; omega), e]
    · rw [if_neg e]
      rfl
/-- Make -/
theorem make_pcs (hp : PoolOk p) {r : Nat} (he : makeR p = (r, 0, p')) : r < 256 ∧ (landAt p r).there = false ∧ (∀ j, j < r → (landAt p j).there = true) ∧ p'.size = p.size ∧ p'.bytes = p.bytes ∧ p'.taken = p.taken ∧ landAt p' r = ⟨true, (landAt p r).gen + 1, [], 0⟩ ∧ (∀ j, j ≠ r → landAt p' j = landAt p j) ∧
    ∀ x j o l, Pc p x j o l → j ≠ r ∧ Pc p' x j o l ∧ loadF p' x = loadF p x := by
  unfold makeR at he
  cases hm : makeF p with
  | none => rw [hm] at he; simp at he
  | some i =>
    rw [hm] at he
    simp only [Prod.mk.injEq, true_and] at he
    obtain ⟨rfl, ep⟩ := he
    obtain ⟨hi, h0, h1⟩ := makeF_some hm
    have hA : ∀ j, landAt p' j = if i = j then ⟨true, (landAt p i).gen + 1, [], 0⟩ else landAt p j := fun j => by rw [← ep]; exact landAt_set p i j _ (by rw [hp.ln]; exact hi)
    have hAj : ∀ j, j ≠ i → landAt p' j = landAt p j := fun j hj => by rw [hA, if_neg (fun e => hj e.symm)]
    refine ⟨hi, h0, h1, by rw [← ep]; rfl, by rw [← ep]; rfl, by rw [← ep]; rfl, by rw [hA, if_pos rfl], hAj, fun x j o l hx => ?_⟩
    have hj : j ≠ i := fun e => by have := hx.there; rw [e, h0] at this; cases this
    refine ⟨hj, hx.kept hp ⟨by rw [hAj j hj], by rw [hAj j hj], ⟨[], by rw [hAj j hj, List.append_nil]⟩, by rw [hAj j hj]; exact Nat.le_refl _⟩ (by rw [← ep]; rfl) (by rw [← ep]; rfl)⟩
/-- Free -/
theorem free_pcs (hp : PoolOk p) {r : Nat} (hr : r < 256) (hth : (landAt p r).there = true) : ∃ p', freeF p (r : Int) = (0, p') ∧ p'.size = p.size ∧ p'.bytes.length = p.bytes.length ∧ landAt p' r = ⟨false, (landAt p r).gen, [], 0⟩ ∧ (∀ j, j ≠ r → landAt p' j = landAt p j) ∧
    (∀ t, t ∈ (landAt p r).slabs → bytesAt p' t = List.replicate p.size 0xDD) ∧ (∀ t, t ∉ (landAt p r).slabs → bytesAt p' t = bytesAt p t) ∧ (∀ t, p'.taken.getD t false = if t ∈ (landAt p r).slabs then false else p.taken.getD t false) ∧
    ∀ x j o l, Pc p x j o l → j ≠ r → Pc p' x j o l ∧ loadF p' x = loadF p x := by
  have he : freeF p (r : Int) = (0, { freeSlabs p (landAt p r).slabs with lands := p.lands.set r ⟨false, (landAt p r).gen, [], 0⟩ }) := by unfold freeF; rw [landF_of hr hth]
  have hA := fun j => landAt_free hp hr (landAt p r).slabs ⟨false, (landAt p r).gen, [], 0⟩ j
  have hAj : ∀ j, j ≠ r → landAt { freeSlabs p (landAt p r).slabs with lands := p.lands.set r ⟨false, (landAt p r).gen, [], 0⟩ } j = landAt p j := fun j hj => by rw [hA, if_neg (fun e => hj e.symm)]
  have hlt := (hp.ld r hr).lt
  have hb2 : ∀ t, t ∉ (landAt p r).slabs → bytesAt { freeSlabs p (landAt p r).slabs with lands := p.lands.set r ⟨false, (landAt p r).gen, [], 0⟩ } t = bytesAt p t := fun t ht => by
    by_cases hl : t < p.bytes.length
    · have := foldl_set_get (List.replicate p.size (0xDD : UInt8)) [] (landAt p r).slabs p.bytes t hl
      rw [if_neg ht] at this
      exact this
    · unfold bytesAt
      rw [List.getD_eq_getElem?_getD, List.getD_eq_getElem?_getD, List.getElem?_eq_none (by rw [(freeSlabs_len p (landAt p r).slabs).1]; omega), List.getElem?_eq_none (by omega)]
  refine ⟨_, he, rfl, (freeSlabs_len p _).1, by rw [hA, if_pos rfl], hAj, fun t ht => ?_, hb2, fun t => foldl_set_bool _ _ _, fun x j o l hx hj => ?_⟩
  · have := foldl_set_get (List.replicate p.size (0xDD : UInt8)) [] (landAt p r).slabs p.bytes t (hlt t ht)
    rw [if_pos ht] at this
    exact this
  · obtain ⟨q1, q2, q3⟩ := hx.slab hp
    refine hx.kept hp ⟨by rw [hAj j hj], by rw [hAj j hj], ⟨[], by rw [hAj j hj, List.append_nil]⟩, by rw [hAj j hj]; exact Nat.le_refl _⟩ rfl (hb2 _ (fun hm => hj (hp.apart j r _ hx.hi hr (List.mem_of_getElem? q2) hm)))
theorem alloc_cases {r i : Nat} {n a : Int} (hl : landF p (r : Int) = some i) (h1 : 1 ≤ n) (h2 : n ≤ (p.size : Int)) (ha : alignOk a = true) : (∃ y p', allocF p (r : Int) n a = (y, 0, p')) ∨ (allocF p (r : Int) n a = (noHd, 5, p) ∧ idleF p = none) := by
  unfold allocF
  rw [hl]
  simp only
  rw [if_neg (by rw [ha]; simp; omega)]
  split
  · cases hid : idleF p with
    | none => exact .inr ⟨rfl, rfl⟩
    | some s => exact .inl ⟨_, _, rfl⟩
  · exact .inl ⟨_, _, rfl⟩
end
end Go.Proofs.YtpaogoehgkoaeaaGreatDoor
/- The plain law of layer 11 (skip): versions in their order, and nodes; the link of a level is the first node behind that is that high. No program is in sight here. -/
namespace Go.Proofs.YtpaogoehgkoaeaaGreatDoor
set_option linter.unusedVariables false
set_option linter.unusedSimpArgs false
open Go.RowKit Ikey Varint
open Go.Op (bytesLess)
/-- what is sought -/
structure Vr where
  key : List UInt8
  seq : Int
  kind : Int
/-- a version and its value -/
structure Ce where
  key : List UInt8
  seq : Nat
  kind : Nat
  val : List UInt8
def Ce.vr (c : Ce) : Vr := ⟨c.key, c.seq, c.kind⟩
def vless (a b : Vr) : Bool := lessF a.key a.seq a.kind b.key b.seq b.kind
theorem vless_iff (a b : Vr) : vless a b = true ↔ bytesLess a.key b.key = true ∨ (a.key = b.key ∧ (b.seq < a.seq ∨ (a.seq = b.seq ∧ b.kind < a.kind))) := by
  unfold vless lessF
  by_cases h1 : a.key = b.key
  · rw [if_neg (by simp [h1]), h1, bl_irr]
    by_cases h2 : a.seq = b.seq
    · rw [if_neg (by simp [h2])]
      simp [h2]
    · rw [if_pos h2]
      simp [h2]
  · rw [if_pos h1]
    simp [h1]
theorem vless_irr (a : Vr) : vless a a = false := less_irr _ _ _
theorem vless_trans {a b c : Vr} (h : vless a b = true) (k : vless b c = true) : vless a c = true := by
  rw [vless_iff] at *
  rcases h with h | ⟨h1, h2⟩
  · rcases k with k | ⟨k1, k2⟩
    · exact .inl (bl_trans h k)
    · exact .inl (k1 ▸ h)
  · rcases k with k | ⟨k1, k2⟩
    · exact .inl (h1 ▸ k)
    · exact .inr ⟨h1.trans k1, by omega⟩
theorem vless_tri {a b : Vr} (h : a ≠ b) : vless a b = !(vless b a) := less_tri (fun ⟨h1, h2, h3⟩ => h (by obtain ⟨_, _, _⟩ := a; obtain ⟨_, _, _⟩ := b; simp_all))
theorem vless_asymm {a b : Vr} (h : vless a b = true) : vless b a = false := by
  cases h2 : vless b a with
  | false => rfl
  | true => have := vless_trans h h2; rw [vless_irr] at this; cases this
/-- a node: where it lies, how many levels see it, how many links it has, its version and its value -/
structure Nd where
  off : Nat
  size : Nat
  h : Nat
  t : Nat
  c : Ce
/-- the first node of a row that has a level -/
def firstN (k : Nat) (r : List Nd) : Option Nd := r.find? fun n => decide (k < n.h)
/-- where it lies: a link of that level -/
def linkF : Option Nd → Nat × Nat
  | some n => (n.off, n.size)
  | none => (0, 0)
/-- the last node of a row that has a level -/
def lastN (k : Nat) (r : List Nd) : Option Nd := firstN k r.reverse
theorem firstN_append (k : Nat) (a b : List Nd) : firstN k (a ++ b) = (firstN k a).or (firstN k b) := by
  unfold firstN
  rw [List.find?_append]
theorem firstN_cons (k : Nat) (x : Nd) (b : List Nd) : firstN k (x :: b) = if k < x.h then some x else firstN k b := by
  unfold firstN
  rw [List.find?_cons]
  by_cases h : k < x.h <;> simp [h]
/-- a node that is put in: the link of a level is another one only where none of that level lies between -/
theorem firstN_put (k : Nat) (a b : List Nd) (x : Nd) : firstN k (a ++ x :: b) = if (firstN k a).isNone = true ∧ k < x.h then some x else firstN k (a ++ b) := by
  rw [firstN_append, firstN_append, firstN_cons]
  cases h : firstN k a with
  | some n => simp
  | none => by_cases hk : k < x.h <;> simp [hk]
theorem lastN_none {k : Nat} {r : List Nd} : lastN k r = none ↔ ∀ n ∈ r, n.h ≤ k := by
  unfold lastN firstN
  rw [List.find?_eq_none]
  simp
theorem firstN_none {k : Nat} {r : List Nd} : firstN k r = none ↔ ∀ n ∈ r, n.h ≤ k := by
  unfold firstN
  rw [List.find?_eq_none]
  simp
theorem firstN_some {k : Nat} {r : List Nd} {x : Nd} (h : firstN k r = some x) : ∃ a b, r = a ++ x :: b ∧ k < x.h ∧ ∀ n ∈ a, n.h ≤ k := by
  unfold firstN at h
  rw [List.find?_eq_some_iff_append] at h
  obtain ⟨h1, a, b, rfl, h2⟩ := h
  exact ⟨a, b, rfl, by simpa using h1, fun n hn => by simpa using h2 n hn⟩
theorem lastN_some {k : Nat} {r : List Nd} {x : Nd} (h : lastN k r = some x) : ∃ a b, r = a ++ x :: b ∧ k < x.h ∧ ∀ n ∈ b, n.h ≤ k := by
  obtain ⟨a, b, h1, h2, h3⟩ := firstN_some h
  refine ⟨b.reverse, a.reverse, ?_, h2, fun n hn => h3 n (by simpa using hn)⟩
  have := congrArg List.reverse h1
  simpa using this
theorem lastN_split {k : Nat} {a b : List Nd} {x : Nd} (h1 : k < x.h) (h2 : ∀ n ∈ b, n.h ≤ k) : lastN k (a ++ x :: b) = some x := by
  unfold lastN
  rw [List.reverse_append, List.reverse_cons, List.append_assoc, firstN_append, firstN_none.2 (fun n hn => h2 n (by simpa using hn))]
  simp [firstN_cons, h1]
/-- where a walk along a level stands: behind d, with nothing of that level left in r -/
theorem lastN_done {k : Nat} {d r : List Nd} (h : ∀ n ∈ r, n.h ≤ k) (hd : ∀ x, d.getLast? = some x → k < x.h) : lastN k (d ++ r) = d.getLast? := by
  rcases List.eq_nil_or_concat d with rfl | ⟨d', x, rfl⟩
  · exact lastN_none.2 (by simpa using h)
  · rw [List.concat_eq_append] at hd ⊢
    have hx := hd x (by simp)
    rw [List.append_assoc, List.singleton_append, lastN_split hx h]
    simp
/-- one step of such a walk -/
theorem step_done {k : Nat} {d r b : List Nd} {x : Nd} (p : Nd → Bool) (hr : ∀ n ∈ r, p n = true) (hb : ∀ n ∈ b, p n = false) (h : firstN k (r ++ b) = some x) :
    (p x = true → ∃ a c, r = a ++ x :: c ∧ k < x.h ∧ (d ++ a ++ [x]).getLast? = some x ∧ d ++ r = (d ++ a ++ [x]) ++ c) ∧ (p x = false → ∀ n ∈ r, n.h ≤ k) := by
  rw [firstN_append] at h
  cases hf : firstN k r with
  | some y =>
    rw [hf] at h
    obtain rfl : y = x := by simpa using h
    obtain ⟨a, c, rfl, h1, _⟩ := firstN_some hf
    refine ⟨fun _ => ⟨a, c, rfl, h1, by simp, by simp⟩, fun hp => ?_⟩
    rw [hr y (by simp)] at hp
    cases hp
  | none =>
    rw [hf] at h
    have hx : firstN k b = some x := by simpa using h
    obtain ⟨a, c, rfl, _, _⟩ := firstN_some hx
    refine ⟨fun hp => ?_, fun _ => firstN_none.1 hf⟩
    rw [hb x (by simp)] at hp
    cases hp
/-- a link's bytes, a node's links, a node's bytes -/
def ptrB (q : Nat × Nat) : List UInt8 := bytesN 4 q.1 ++ bytesN 4 q.2
def linksB (f : Nat → Nat × Nat) : Nat → List UInt8
  | 0 => []
  | n + 1 => linksB f n ++ ptrB (f n)
def headB (t : Nat) (c : Ce) : List UInt8 := UInt8.ofNat t :: (bytesN 2 (c.key.length + 8) ++ bytesN 2 c.val.length)
def restB (c : Ce) : List UInt8 := encF c.key c.seq c.kind ++ c.val
def nodeB (t : Nat) (f : Nat → Nat × Nat) (c : Ce) : List UInt8 := headB t c ++ (linksB f t ++ restB c)
theorem ptrB_len (q : Nat × Nat) : (ptrB q).length = 8 := by simp [ptrB, bytesN_len]
theorem linksB_len (f : Nat → Nat × Nat) : ∀ n, (linksB f n).length = 8 * n
  | 0 => rfl
  | n + 1 => by rw [linksB, List.length_append, linksB_len f n, ptrB_len]; omega
theorem headB_len (t : Nat) (c : Ce) : (headB t c).length = 5 := by simp [headB, bytesN_len]
theorem restB_len (c : Ce) : (restB c).length = c.key.length + 8 + c.val.length := by simp [restB, enc_len]
theorem nodeB_len (t : Nat) (f : Nat → Nat × Nat) (c : Ce) : (nodeB t f c).length = 5 + 8 * t + (c.key.length + 8 + c.val.length) := by
  rw [nodeB, List.length_append, List.length_append, headB_len, linksB_len, restB_len]; omega
theorem linksB_congr {f g : Nat → Nat × Nat} : ∀ n, (∀ k, k < n → f k = g k) → linksB f n = linksB g n
  | 0, _ => rfl
  | n + 1, h => by rw [linksB, linksB, linksB_congr n (fun k hk => h k (by omega)), h n (by omega)]
theorem nodeB_congr {f g : Nat → Nat × Nat} {t : Nat} (c : Ce) (h : ∀ k, k < t → f k = g k) : nodeB t f c = nodeB t g c := by
  unfold nodeB; rw [linksB_congr t h]
/-- the links, parted at one -/
theorem linksB_split (f : Nat → Nat × Nat) : ∀ n k, k < n → ∃ r, linksB f n = linksB f k ++ (ptrB (f k) ++ r) ∧ ∀ q, linksB (fun i => if i = k then q else f i) n = linksB f k ++ (ptrB q ++ r)
  | 0, k, h => by omega
  | n + 1, k, h => by
    by_cases e : k = n
    · subst e
      refine ⟨[], by rw [linksB, List.append_nil], fun q => ?_⟩
      rw [linksB, if_pos rfl, List.append_nil, linksB_congr k (fun i hi => by rw [if_neg (by omega)])]
    · obtain ⟨r, h1, h2⟩ := linksB_split f n k (by omega)
      refine ⟨r ++ ptrB (f n), by rw [linksB, h1]; simp, fun q => ?_⟩
      rw [linksB, h2, if_neg (fun e2 => e e2.symm)]
      simp
theorem cut_mid (a b c : List UInt8) {n m : Nat} (hn : a.length = n) (hm : b.length = m) : ((a ++ (b ++ c)).drop n).take m = b := by
  subst hn hm
  rw [List.drop_left, List.take_left]
theorem nodeB_link {t : Nat} (f : Nat → Nat × Nat) (c : Ce) {k : Nat} (h : k < t) :
    ((nodeB t f c).drop (5 + 8 * k)).take 4 = bytesN 4 (f k).1 ∧ ((nodeB t f c).drop (5 + 8 * k + 4)).take 4 = bytesN 4 (f k).2 := by
  obtain ⟨r, h1, _⟩ := linksB_split f t k h
  constructor
  · have e : nodeB t f c = (headB t c ++ linksB f k) ++ (bytesN 4 (f k).1 ++ (bytesN 4 (f k).2 ++ (r ++ restB c))) := by
      unfold nodeB; rw [h1, ptrB]; simp
    rw [e]
    exact cut_mid _ _ _ (by rw [List.length_append, headB_len, linksB_len]) (bytesN_len _ _)
  · have e : nodeB t f c = (headB t c ++ linksB f k ++ bytesN 4 (f k).1) ++ (bytesN 4 (f k).2 ++ (r ++ restB c)) := by
      unfold nodeB; rw [h1, ptrB]; simp
    rw [e]
    exact cut_mid _ _ _ (by rw [List.length_append, List.length_append, headB_len, linksB_len, bytesN_len]) (bytesN_len _ _)
theorem nodeB_put {t : Nat} (f : Nat → Nat × Nat) (c : Ce) {k : Nat} (h : k < t) (q : Nat × Nat) :
    (nodeB t f c).take (5 + 8 * k) ++ ptrB q ++ (nodeB t f c).drop (5 + 8 * k + (ptrB q).length) = nodeB t (fun i => if i = k then q else f i) c := by
  obtain ⟨r, h1, h2⟩ := linksB_split f t k h
  have e : nodeB t f c = (headB t c ++ linksB f k) ++ (ptrB (f k) ++ (r ++ restB c)) := by
    unfold nodeB; rw [h1]; simp
  have e2 : nodeB t (fun i => if i = k then q else f i) c = (headB t c ++ linksB f k) ++ (ptrB q ++ (r ++ restB c)) := by
    unfold nodeB; rw [h2]; simp
  have hl : (headB t c ++ linksB f k).length = 5 + 8 * k := by rw [List.length_append, headB_len, linksB_len]
  rw [e, e2, List.take_left' hl, ptrB_len]
  have : ((headB t c ++ linksB f k) ++ (ptrB (f k) ++ (r ++ restB c))).drop (5 + 8 * k + 8) = r ++ restB c := by
    rw [← List.append_assoc]
    exact List.drop_left' (by rw [List.length_append, hl, ptrB_len])
  rw [this]
  simp
theorem nodeB_parts (t : Nat) (f : Nat → Nat × Nat) (c : Ce) :
    (nodeB t f c)[0]? = some (UInt8.ofNat t) ∧ ((nodeB t f c).drop 1).take 2 = bytesN 2 (c.key.length + 8) ∧ ((nodeB t f c).drop 3).take 2 = bytesN 2 c.val.length ∧
    ((nodeB t f c).drop (5 + 8 * t)).take (c.key.length + 8) = encF c.key c.seq c.kind ∧ ((nodeB t f c).drop (5 + 8 * t + (c.key.length + 8))).take c.val.length = c.val := by
  refine ⟨by simp [nodeB, headB], ?_, ?_, ?_, ?_⟩
  · have e : nodeB t f c = [UInt8.ofNat t] ++ (bytesN 2 (c.key.length + 8) ++ (bytesN 2 c.val.length ++ (linksB f t ++ restB c))) := by unfold nodeB headB; simp
    rw [e]; exact cut_mid _ _ _ rfl (bytesN_len _ _)
  · have e : nodeB t f c = (UInt8.ofNat t :: bytesN 2 (c.key.length + 8)) ++ (bytesN 2 c.val.length ++ (linksB f t ++ restB c)) := by unfold nodeB headB; simp
    rw [e]; exact cut_mid _ _ _ (by simp [bytesN_len]) (bytesN_len _ _)
  · have e : nodeB t f c = (headB t c ++ linksB f t) ++ (encF c.key c.seq c.kind ++ c.val) := by unfold nodeB restB; simp
    rw [e]; exact cut_mid _ _ _ (by rw [List.length_append, headB_len, linksB_len]) (enc_len _ _ _)
  · have e : nodeB t f c = (headB t c ++ linksB f t ++ encF c.key c.seq c.kind) ++ (c.val ++ []) := by unfold nodeB restB; simp
    rw [e]; exact cut_mid _ _ _ (by rw [List.length_append, List.length_append, headB_len, linksB_len, enc_len]) rfl
end Go.Proofs.YtpaogoehgkoaeaaGreatDoor
/- Cells of the statements in memory: four values each; what the reference counts and places. -/
namespace Go.Proofs.YtpaogoehgkoaeaaGreatDoor
set_option linter.unusedVariables false
set_option linter.unusedSimpArgs false
open Go.RowKit Ikey Varint
/-- a cell with any numbers -/
structure Ci where
  key : List UInt8
  seq : Int
  kind : Int
  val : List UInt8
def Ci.vr (c : Ci) : Vr := ⟨c.key, c.seq, c.kind⟩
def Ce.i (c : Ce) : Ci := ⟨c.key, c.seq, c.kind, c.val⟩
def c4 (c : Ci) : List Value := [.string (str c.key), .int .i64 c.seq, .int .i64 c.kind, .string (str c.val)]
def cv (l : List Ci) : List Value := l.flatMap c4
theorem cv_cons (c : Ci) (l : List Ci) : cv (c :: l) = c4 c ++ cv l := rfl
theorem cv_length (l : List Ci) : (cv l).length = l.length * 4 := by
  induction l with
  | nil => rfl
  | cons p l ih => rw [cv_cons, List.length_append, ih, List.length_cons, c4]; simp only [List.length_cons, List.length_nil]; omega
theorem cv_append (l m : List Ci) : cv (l ++ m) = cv l ++ cv m := by simp [cv]
theorem cv_drop (l : List Ci) (n : Nat) : cv (l.drop n) = (cv l).drop (n * 4) := by
  induction l generalizing n with
  | nil => simp [cv]
  | cons p l ih =>
    cases n with
    | zero => simp
    | succ n =>
      rw [List.drop_succ_cons, ih, cv_cons, show (n + 1) * 4 = 4 + n * 4 by omega, ← List.drop_drop]
      rfl
theorem cv_take (l : List Ci) (n : Nat) : cv (l.take n) = (cv l).take (n * 4) := by
  have h : cv l = cv (l.take n) ++ cv (l.drop n) := by rw [← cv_append, List.take_append_drop]
  by_cases hn : n ≤ l.length
  · rw [h]
    exact (List.take_left' (by rw [cv_length, List.length_take]; omega)).symm
  · rw [List.take_of_length_le (show l.length ≤ n by omega), List.take_of_length_le (by rw [cv_length]; omega)]
theorem cv_get (l : List Ci) (i : Nat) (h : i < l.length) (j : Nat) (hj : j < 4) : (cv l)[i * 4 + j]? = (c4 l[i])[j]? := by
  have e := cv_drop l i
  rw [List.drop_eq_getElem_cons h, cv_cons] at e
  have e2 := congrArg (·[j]?) e
  simp only [List.getElem?_drop] at e2
  rw [← e2, List.getElem?_append_left (by unfold c4; simp; omega)]
theorem cv_one (l : List Ci) : ∀ v ∈ cv l, v.oneCell' = true := by
  intro v hv
  simp only [cv, List.mem_flatMap] at hv
  obtain ⟨p, _, h⟩ := hv
  simp only [c4, List.mem_cons, List.not_mem_nil, or_false] at h
  rcases h with rfl | rfl | rfl | rfl <;> rfl
theorem elemC : Elem Tryz.prog 22 56 (.agg #[.string ⟨#[]⟩, .int .i64 0, .int .i64 0, .string ⟨#[]⟩]) 4 48 := ⟨by kernel_rfl, by kernel_rfl, rfl, by decide⟩
/-- where a cell of a row lies -/
theorem Row.ci {w : World} {ad : Option Addr} {l : List Ci} (h : Row w ad (cv l)) (i : Nat) (hi : i < l.length) :
    ∃ b off, ad = some ⟨b, off, none⟩ ∧ w.cell? ⟨b, off + i * 4, none⟩ = some (.string (str l[i].key)) ∧ w.cell? ⟨b, off + i * 4 + 1, none⟩ = some (.int .i64 l[i].seq) ∧ w.cell? ⟨b, off + i * 4 + 2, none⟩ = some (.int .i64 l[i].kind) ∧ w.cell? ⟨b, off + i * 4 + 3, none⟩ = some (.string (str l[i].val)) := by
  obtain ⟨b, off, e, c0⟩ := h (i * 4) _ (cv_get l i hi 0 (by omega))
  obtain ⟨b1, off1, e1, c1⟩ := h (i * 4 + 1) _ (cv_get l i hi 1 (by omega))
  obtain ⟨b2, off2, e2, c2⟩ := h (i * 4 + 2) _ (cv_get l i hi 2 (by omega))
  obtain ⟨b3, off3, e3, c3⟩ := h (i * 4 + 3) _ (cv_get l i hi 3 (by omega))
  rw [e] at e1 e2 e3
  cases e1; cases e2; cases e3
  exact ⟨b, off, e, c0, c1, c2, c3⟩
theorem Row.drop_ {w : World} {b off : Nat} {vs : List Value} (h : Row w (some ⟨b, off, none⟩) vs) (k : Nat) : Row w (some ⟨b, off + k, none⟩) (vs.drop k) := fun i u hi => by
  rw [List.getElem?_drop] at hi
  obtain ⟨b', off', e, hc⟩ := h (k + i) u hi
  cases e
  exact ⟨b, off + k, rfl, by rw [Nat.add_assoc]; exact hc⟩
/-- how many cells come ahead of a version -/
def rankI (v : Vr) : List Ci → Nat
  | [] => 0
  | c :: l => if vless c.vr v = true then rankI v l + 1 else 0
theorem rankI_le (v : Vr) : ∀ l, rankI v l ≤ l.length
  | [] => Nat.le_refl _
  | q :: l => by have := rankI_le v l; simp only [rankI, List.length_cons]; split <;> omega
theorem rankI_step {v : Vr} {l : List Ci} {i : Nat} (h : i < l.length) (hb : vless l[i].vr v = true) : rankI v (l.drop i) = rankI v (l.drop (i + 1)) + 1 := by
  rw [List.drop_eq_getElem_cons h, rankI, if_pos hb]
theorem rankI_stop {v : Vr} {l : List Ci} {i : Nat} (h : i < l.length) (hb : vless l[i].vr v = false) : rankI v (l.drop i) = 0 := by
  rw [List.drop_eq_getElem_cons h, rankI, if_neg (by rw [hb]; exact Bool.false_ne_true)]
theorem rankI_end {v : Vr} {l : List Ci} {i : Nat} (h : l.length ≤ i) : rankI v (l.drop i) = 0 := by
  rw [List.drop_of_length_le h]; rfl
def placeI (l : List Ci) (c : Ci) : List Ci := l.take (rankI c.vr l) ++ [c] ++ l.drop (rankI c.vr l)
theorem placeI_len (l : List Ci) (c : Ci) : (placeI l c).length = l.length + 1 := by
  have := rankI_le c.vr l
  unfold placeI
  simp only [List.length_append, List.length_take, List.length_drop, List.length_cons, List.length_nil]; omega
/-- the reference's cells -/
def ci (C : List Ce) : List Ci := C.map Ce.i
theorem ci_len (C : List Ce) : (ci C).length = C.length := by simp [ci]
end Go.Proofs.YtpaogoehgkoaeaaGreatDoor
/- Cells laid one by one in their order, each version once. No program is in sight here. -/
namespace Go.Proofs.YtpaogoehgkoaeaaGreatDoor
set_option linter.unusedVariables false
set_option linter.unusedSimpArgs false
open Go.RowKit Ikey Varint
def zeroC : Ci := ⟨[], 0, 0, []⟩
instance : DecidableEq Vr := fun a b => decidable_of_iff (a.key = b.key ∧ a.seq = b.seq ∧ a.kind = b.kind) ⟨fun ⟨h1, h2, h3⟩ => by cases a; cases b; simp_all, fun h => by rw [h]; exact ⟨rfl, rfl, rfl⟩⟩
def addC (o : List Ci) (c : Ci) : List Ci := if rankI c.vr o < o.length ∧ (o.getD (rankI c.vr o) zeroC).vr = c.vr then o else placeI o c
def gatherN (ok : Ci → Bool) (l : List Ci) : Nat → List Ci
  | 0 => []
  | i + 1 => if ok (l.getD i zeroC) = true then addC (gatherN ok l i) (l.getD i zeroC) else gatherN ok l i
def AscI (a b : Ci) : Prop := vless a.vr b.vr = true
theorem rank_take (v : Vr) : ∀ l : List Ci, ∀ x ∈ l.take (rankI v l), vless x.vr v = true
  | [], x, h => by simp at h
  | c :: l, x, h => by
    unfold rankI at h
    cases hb : vless c.vr v with
    | true =>
      rw [hb] at h
      simp only [if_true, List.take_succ_cons] at h
      rcases List.mem_cons.1 h with rfl | h
      · exact hb
      · exact rank_take v l x h
    | false => rw [hb] at h; simp at h
theorem rank_drop (v : Vr) : ∀ (l : List Ci) (x : Ci) (B : List Ci), l.drop (rankI v l) = x :: B → vless x.vr v = false
  | [], x, B, h => by simp at h
  | c :: l, x, B, h => by
    unfold rankI at h
    cases hb : vless c.vr v with
    | true =>
      rw [hb] at h
      simp only [if_true, List.drop_succ_cons] at h
      exact rank_drop v l x B h
    | false =>
      rw [hb] at h
      simp at h
      rw [← h.1]
      exact hb
theorem place_sorted {l : List Ci} {c : Ci} (hs : l.Pairwise AscI) (hn : ∀ x B, l.drop (rankI c.vr l) = x :: B → x.vr ≠ c.vr) : (placeI l c).Pairwise AscI := by
  have h1 := rank_take c.vr l
  have h2 := rank_drop c.vr l
  have hsp : l = l.take (rankI c.vr l) ++ l.drop (rankI c.vr l) := (List.take_append_drop _ _).symm
  unfold placeI
  generalize l.take (rankI c.vr l) = A at *
  generalize l.drop (rankI c.vr l) = B at *
  rw [hsp, List.pairwise_append] at hs
  obtain ⟨hA, hB, hAB⟩ := hs
  have hcB : ∀ y ∈ B, AscI c y := by
    cases B with
    | nil => intro y hy; simp at hy
    | cons x B =>
      have hx : AscI c x := by
        have := vless_tri (hn x B rfl)
        rw [h2 x B rfl] at this
        unfold AscI
        cases hb : vless c.vr x.vr with
        | true => rfl
        | false => rw [hb] at this; cases this
      intro y hy
      rcases List.mem_cons.1 hy with rfl | hy
      · exact hx
      · exact vless_trans hx ((List.pairwise_cons.1 hB).1 y hy)
  rw [List.append_assoc, List.pairwise_append]
  refine ⟨hA, ?_, fun x hx y hy => ?_⟩
  · rw [List.singleton_append, List.pairwise_cons]
    exact ⟨hcB, hB⟩
  · rcases List.mem_append.1 hy with hy | hy
    · obtain rfl := List.mem_singleton.1 hy
      exact h1 x hx
    · exact hAB x hx y hy
theorem add_sorted {o : List Ci} {c : Ci} (hs : o.Pairwise AscI) : (addC o c).Pairwise AscI := by
  unfold addC
  split
  · exact hs
  · rename_i h
    refine place_sorted hs fun x B e hx => h ?_
    have hlt : rankI c.vr o < o.length := by
      rcases Nat.lt_or_ge (rankI c.vr o) o.length with h | h
      · exact h
      · rw [List.drop_of_length_le h] at e; cases e
    refine ⟨hlt, ?_⟩
    have : o[rankI c.vr o]? = some x := by
      have := congrArg (fun l => l[0]?) e
      simpa [List.getElem?_drop] using this
    rw [List.getD_eq_getElem?_getD, this]
    exact hx
theorem gather_sorted (ok : Ci → Bool) (l : List Ci) : ∀ i, (gatherN ok l i).Pairwise AscI
  | 0 => List.Pairwise.nil
  | i + 1 => by
    rw [gatherN]
    split
    · exact add_sorted (gather_sorted ok l i)
    · exact gather_sorted ok l i
theorem add_len (o : List Ci) (c : Ci) : (addC o c).length ≤ o.length + 1 := by
  unfold addC
  split
  · omega
  · rw [placeI_len]; exact Nat.le_refl _
theorem gather_len (ok : Ci → Bool) (l : List Ci) : ∀ i, (gatherN ok l i).length ≤ i
  | 0 => Nat.le_refl _
  | i + 1 => by
    have h1 := gather_len ok l i
    rw [gatherN]
    split
    · have := add_len (gatherN ok l i) (l.getD i zeroC)
      omega
    · omega
theorem place_mem {l : List Ci} {c x : Ci} (h : x ∈ placeI l c) : x ∈ l ∨ x = c := by
  unfold placeI at h
  rcases List.mem_append.1 h with h | h
  · rcases List.mem_append.1 h with h | h
    · exact .inl (List.mem_of_mem_take h)
    · exact .inr (List.mem_singleton.1 h)
  · exact .inl (List.mem_of_mem_drop h)
theorem add_mem {o : List Ci} {c x : Ci} (h : x ∈ addC o c) : x ∈ o ∨ x = c := by
  unfold addC at h
  split at h
  · exact .inl h
  · exact place_mem h
theorem gather_mem (ok : Ci → Bool) (l : List Ci) : ∀ i, i ≤ l.length → ∀ x ∈ gatherN ok l i, x ∈ l ∧ ok x = true
  | 0, _, x, h => by simp [gatherN] at h
  | i + 1, hi, x, h => by
    have h1 := gather_mem ok l i (by omega)
    rw [gatherN] at h
    split at h
    · rename_i hok
      rcases add_mem h with h | rfl
      · exact h1 x h
      · refine ⟨?_, hok⟩
        rw [List.getD_eq_getElem?_getD, List.getElem?_eq_getElem (by omega), Option.getD_some]
        exact List.getElem_mem _
    · exact h1 x h
/-- where the search ends -/
theorem add_at {o : List Ci} {c : Ci} {a : Nat} (ha : a < o.length) (hr : rankI c.vr o = a) : addC o c = if o[a].vr = c.vr then o else placeI o c := by
  unfold addC
  rw [hr, List.getD_eq_getElem?_getD, List.getElem?_eq_getElem ha, Option.getD_some]
  by_cases h : o[a].vr = c.vr
  · rw [if_pos ⟨ha, h⟩, if_pos h]
  · rw [if_neg (fun e => h e.2), if_neg h]
theorem add_end {o : List Ci} {c : Ci} (hr : rankI c.vr o = o.length) : addC o c = placeI o c := by
  unfold addC
  rw [if_neg (fun e => by omega)]
end Go.Proofs.YtpaogoehgkoaeaaGreatDoor
/- The reference of layer 11: a version's rank among the cells. -/
namespace Go.Proofs.YtpaogoehgkoaeaaGreatDoor
set_option linter.unusedVariables false
set_option linter.unusedSimpArgs false
open Go.RowKit Ikey Varint
end Go.Proofs.YtpaogoehgkoaeaaGreatDoor
/- The reference of layer 9: a cell is placed among cells. -/
namespace Go.Proofs.YtpaogoehgkoaeaaGreatDoor
set_option linter.unusedVariables false
set_option linter.unusedSimpArgs false
open Go.RowKit Ikey Varint
/-- cells of the call's own -/
def RetC (w : World) (l : List Ci) : Ending → World → Prop := fun x w' => ∃ ad cap, x = .returned (.slice ad l.length cap) ∧ Owns w' w.heap.size 56 4 ad cap l.length (cv l) ∧ Gr w w'
set_option maxRecDepth 100000 in
set_option maxHeartbeats 4000000 in
theorem Place_any (ad : Option Addr) (cap : Nat) (l : List Ci) (c : Ci) (w : World) (hr : Row w ad (cv l)) (hcap : l.length ≤ cap) (had : (ad = none ∧ cap = 0) ∨ ∃ b off, ad = some ⟨b, off, none⟩ ∧ b < w.heap.size) (hl : l.length ≤ 1000000) :
    Calls Tryz.prog 37 #[.slice ad l.length cap, .agg (c4 c).toArray] w (RetC w (placeI l c)) := by
  have HL := Lib.hid (show ∀ (x : Ci) (w : World), Calls Tryz.prog 36 #[ver x.key x.seq x.kind, ver c.key c.seq c.kind] w fun e w' => e = .returned (.bool (vless x.vr c.vr)) ∧ Gr w w' from fun x w => rLess_any x.key c.key x.seq x.kind c.seq c.kind w)
  have HR := Lib.hid hr.ci
  have g1 : Gr w (w.alloc (.cells (c4 c).toArray 56)) := Gr.alloc _ _
  have HR1 := Lib.hid (hr.gr g1)
  have b4 := (Blk.new w 56 (c4 c).toArray).four
  have hpl := Lib.hid (placeI_len l c)
  have hpe := Lib.hid (show placeI l c = l.take (rankI c.vr l) ++ [c] ++ l.drop (rankI c.vr l) from rfl)
  unfold ver at HL
  unfold c4 at g1 HR1 b4 ⊢
  obtain ⟨c0, c1, c2, c3, _⟩ := b4
  clear hr
  obtain ⟨v, hv⟩ : ∃ v, v = c.vr := ⟨_, rfl⟩
  rw [← hv] at HL hpe
  have HV := Lib.hid hv
  clear hv
  go_enter Tryz.func37, Tryz.ntmps37
  go_wp2
  go_loopw [5] (fun va wa => ∃ a : Nat, a ≤ l.length ∧ va = .int .i64 (a : Int) ∧ Gr (w.alloc (.cells #[.string (str c.key), .int .i64 c.seq, .int .i64 c.kind, .string (str c.val)] 56)) wa ∧ rankI v l = a + rankI v (l.drop a)) (fun va _ => l.length - (intOf va).toNat)
  case atStart => exact ⟨0, Nat.zero_le _, rfl, Gr.refl _, by simp⟩
  case round =>
    obtain ⟨a, ha, rfl, hga, hp⟩ := hrel
    have d0 := hga.cell c0
    have d1 := hga.cell c1
    have d2 := hga.cell c2
    have d3 := hga.cell c3
    have HP := Lib.hid hp
    clear hp
    by_cases hlt : a < l.length
    · obtain ⟨b, off, rfl, e0, e1, e2, e3⟩ := HR.out a hlt
      have hbw : b < w.heap.size := World.block_lt_of_cell? w _ e0
      have f0 := hga.cell (g1.cell e0)
      have f1 := hga.cell (g1.cell e1)
      have f2 := hga.cell (g1.cell e2)
      have HS := Lib.hid (fun h => rankI_step (v := v) hlt h)
      have HT := Lib.hid (fun h => rankI_stop (v := v) hlt h)
      generalize l[a] = x at *
      have HC := Lib.hid (HL.out x)
      cases hb : vless x.vr v with
      | true =>
        rw [hb] at HC
        go_wp2
        refine region_any_gr _ [Is (.int .i64 (a : Int)), Is ?r1, Is (.int .i64 (l.length : Int)), Is (.bool true), Is (.bool true), Is ?r5, Is ?r6, Is (.pointer (some ⟨b, off + a * 4, none⟩)), Is ?r8, Is (.agg #[.string (str x.key), .int .i64 x.seq, .int .i64 x.kind]), Is ?r10, Is (.agg #[.string (str c.key), .int .i64 c.seq, .int .i64 c.kind]), Is (.bool true), Is (.bool true)] (by kernel_rfl) (by kernel_rfl) (by kernel_rfl) rfl rfl ⟨Is.stable _, Is.stable _, Is.stable _, Is.stable _, Is.stable _, Is.stable _, Is.stable _, Is.stable _, Is.stable _, Is.stable _, Is.stable _, Is.stable _, Is.stable _, Is.stable _, trivial⟩ ⟨?s0, ?s1, ?s2, ?s3, ?s4, ?s5, ?s6, ?s7, ?s8, ?s9, ?s10, ?s11, ?s12, ?s13, trivial⟩ ?fin
        case' s0 | s1 | s2 | s3 | s4 | s5 | s6 | s7 | s8 | s9 | s10 | s11 | s12 | s13 =>
          intro ρ wr hρ hg hK
          simp [readsOf, slotsOf, Op.operands, Call.operands, tmpOf, List.filterMap_cons, List.filterMap_nil, KnownAll, knownOf, srcOf, depsOf, dstOf, Region.binds, nth, Is] at hK
          obtain ⟨hc, hf, hgl⟩ := hρ
          try simp only [wantedBy, dstOf, boolOf, nth, List.getD_cons_zero, List.getD_cons_succ, List.getElem?_cons_zero, List.getElem?_cons_succ, Option.bind_some, if_true, hK, BEq.rfl]
          try go_simp
          first | exact rfl | (rw [if_pos (by omega)]; exact is_here rfl) | (rw [dif_pos (by omega)]; exact is_here rfl) | exact congrArg (Value.int _) (IntWalk.i64_in _ ⟨by omega, by omega⟩) | skip
        case s9 => have z0 := hg.cell f0; have z1 := hg.cell f1; have z2 := hg.cell f2; go_simp; exact rfl
        case s11 => have z0 := hg.cell d0; have z1 := hg.cell d1; have z2 := hg.cell d2; go_simp; exact rfl
        case s12 => exact any_gr (HC.out _)
        case fin =>
          intro w1 val hg hH
          simp only [Holds, Is, Nat.zero_add, Nat.reduceAdd] at hH
          obtain ⟨h0, h1, h2, h3, h4, h5, h6, h7, h8, h9, h10, h11, h12, h13, _⟩ := hH
          simp only [List.take_succ_cons, List.take_zero, List.drop_succ_cons, List.drop_zero, putAll, h0, h1, h2, h3, h4, h5, h6, h7, h8, h9, h10, h11, h12, h13, Nat.zero_add, Nat.reduceAdd]
          go_simp
          go_wp2
          go_roundw
          case rel => exact ⟨a + 1, hlt, by go_num, hga.trans hg, by rw [HP.out, HS.out hb]; omega⟩
          case measure => simp [intOf]; omega
      | false =>
        rw [hb] at HC
        have HE := Lib.hid (show placeI l c = l.take a ++ [c] ++ l.drop a by rw [hpe.out, HP.out, HT.out hb, Nat.add_zero])
        go_wp2
        refine region_any_gr _ [Is (.int .i64 (a : Int)), Is ?r1x1, Is (.int .i64 (l.length : Int)), Is (.bool true), Is (.bool true), Is ?r5x1, Is ?r6x1, Is (.pointer (some ⟨b, off + a * 4, none⟩)), Is ?r8x1, Is (.agg #[.string (str x.key), .int .i64 x.seq, .int .i64 x.kind]), Is ?r10x1, Is (.agg #[.string (str c.key), .int .i64 c.seq, .int .i64 c.kind]), Is (.bool false), Is (.bool false)] (by kernel_rfl) (by kernel_rfl) (by kernel_rfl) rfl rfl ⟨Is.stable _, Is.stable _, Is.stable _, Is.stable _, Is.stable _, Is.stable _, Is.stable _, Is.stable _, Is.stable _, Is.stable _, Is.stable _, Is.stable _, Is.stable _, Is.stable _, trivial⟩ ⟨?s0x1, ?s1x1, ?s2x1, ?s3x1, ?s4x1, ?s5x1, ?s6x1, ?s7x1, ?s8x1, ?s9x1, ?s10x1, ?s11x1, ?s12x1, ?s13x1, trivial⟩ ?finx1
        case' s0x1 | s1x1 | s2x1 | s3x1 | s4x1 | s5x1 | s6x1 | s7x1 | s8x1 | s9x1 | s10x1 | s11x1 | s12x1 | s13x1 =>
          intro ρ wr hρ hg hK
          simp [readsOf, slotsOf, Op.operands, Call.operands, tmpOf, List.filterMap_cons, List.filterMap_nil, KnownAll, knownOf, srcOf, depsOf, dstOf, Region.binds, nth, Is] at hK
          obtain ⟨hc, hf, hgl⟩ := hρ
          try simp only [wantedBy, dstOf, boolOf, nth, List.getD_cons_zero, List.getD_cons_succ, List.getElem?_cons_zero, List.getElem?_cons_succ, Option.bind_some, if_true, hK, BEq.rfl]
          try go_simp
          first | exact rfl | (rw [if_pos (by omega)]; exact is_here rfl) | (rw [dif_pos (by omega)]; exact is_here rfl) | exact congrArg (Value.int _) (IntWalk.i64_in _ ⟨by omega, by omega⟩) | skip
        case s9x1 => have z0 := hg.cell f0; have z1 := hg.cell f1; have z2 := hg.cell f2; go_simp; exact rfl
        case s11x1 => have z0 := hg.cell d0; have z1 := hg.cell d1; have z2 := hg.cell d2; go_simp; exact rfl
        case s12x1 => exact any_gr (HC.out _)
        case finx1 =>
          intro w1 val hg hH
          simp only [Holds, Is, Nat.zero_add, Nat.reduceAdd] at hH
          obtain ⟨h0, h1, h2, h3, h4, h5, h6, h7, h8, h9, h10, h11, h12, h13, _⟩ := hH
          simp only [List.take_succ_cons, List.take_zero, List.drop_succ_cons, List.drop_zero, putAll, h0, h1, h2, h3, h4, h5, h6, h7, h8, h9, h10, h11, h12, h13, Nat.zero_add, Nat.reduceAdd]
          go_simp
          go_wp2
          clear f0 f1 f2 e0 e1 e2 e3
          have gW : Gr (w.alloc (.cells #[.string (str c.key), .int .i64 c.seq, .int .i64 c.kind, .string (str c.val)] 56)) w1 := hga.trans hg
          have e0' := gW.cell c0
          have e1' := gW.cell c1
          have e2' := gW.cell c2
          have e3' := gW.cell c3
          have rW : Row w1 _ (cv l) := HR1.out.gr gW
          have gw := g1.trans gW
          have hN9 := gW.size
          have hsz1 : (w.alloc (.cells #[.string (str c.key), .int .i64 c.seq, .int .i64 c.kind, .string (str c.val)] 56)).heap.size = w.heap.size + 1 := by simp
          obtain ⟨N, hN⟩ : ∃ N, N = w1.heap.size := ⟨_, rfl⟩
          have hn2 : (cv (l.take a)).length = a * 4 := by rw [cv_length, List.length_take, Nat.min_eq_left ha]
          have hblN : w.heap.size < N := by omega
          have rT : Row w1 _ (cv (l.take a)) := fun x u hx => rW x u (by rw [cv_take] at hx; rw [List.getElem?_take] at hx; split at hx <;> first | exact hx | cases hx)
          have m1 : a + 1 ≤ maxLen := by unfold maxLen; omega
          have m1' : (a + 1) * 48 ≤ 140737488355328 := by omega
          have HN := Lib.hid hN; have HN2 := Lib.hid hn2; have HRT := Lib.hid rT
          clear hN hn2 rT d0 d1 d2 d3 hga hg
          refine region_tail_fresh N (a * 4) (c4 c) 11 _ [Mt N 56 4, Is (.slice (some ⟨b, off, none⟩) l.length cap), Is (.int .i64 (a : Int)), Is (.slice (some ⟨b, off, none⟩) a cap), Made N 56 4 a (cv (l.take a)), Is (.agg #[.string (str c.key), .int .i64 c.seq, .int .i64 c.kind, .string (str c.val)]), OneB (c4 c), Made N 56 4 (a + 1) (cv (l.take a) ++ c4 c), Is (.slice (some ⟨b, off, none⟩) l.length cap), Is (.int .i64 (a : Int)), OldRow N (l.length - a) (cv (l.drop a))] (by kernel_rfl) (by kernel_rfl) (by kernel_rfl) (by kernel_rfl) rfl rfl ⟨Mt.stable _ _, Is.stable _, Is.stable _, Is.stable _, Made.stable _ _ _ _ (.inl (Nat.le_of_eq HN2.out)), Is.stable _, OneB.stable, Made.stable _ _ _ _ (.inr ⟨_, rfl, HN2.out⟩), Is.stable _, Is.stable _, OldRow.stable _ _, trivial⟩ ⟨?s0x2, ?s1x2, ?s2x2, ?s3x2, ?s4x2, ?s5x2, ?s6x2, ?s7x2, ?s8x2, ?s9x2, ?s10x2, trivial⟩ ?finx2
          case' s0x2 | s1x2 | s2x2 | s3x2 | s5x2 | s6x2 | s8x2 | s9x2 | s10x2 =>
            intro ρ wr hρ hg hK
            simp [readsOf, slotsOf, Op.operands, Call.operands, tmpOf, List.filterMap_cons, List.filterMap_nil, KnownAll, knownOf, srcOf, depsOf, dstOf, Region.binds, nth, Is] at hK
            obtain ⟨hc, hf, hgl⟩ := hρ
            try simp only [wantedBy, dstOf, boolOf, nth, List.getD_cons_zero, List.getD_cons_succ, List.getElem?_cons_zero, List.getElem?_cons_succ, Option.bind_some, if_true, hK, BEq.rfl]
            try go_simp
            first | exact rfl | (rw [if_pos (by omega)]; exact is_here rfl) | (rw [dif_pos (by omega)]; exact is_here rfl) | exact congrArg (Value.int _) (IntWalk.i64_in _ ⟨by omega, by omega⟩) | skip
          case' s4x2 | s7x2 =>
            intro ρ wr hρ hg hK
            simp [readsOf, slotsOf, Op.operands, Call.operands, tmpOf, List.filterMap_cons, List.filterMap_nil, KnownAll, knownOf, srcOf, depsOf, dstOf, Region.binds, nth, Is] at hK
            obtain ⟨hc, hf, hgl⟩ := hρ
            try simp only [wantedBy, dstOf, boolOf, nth, List.getD_cons_zero, List.getD_cons_succ, List.getElem?_cons_zero, List.getElem?_cons_succ, Option.bind_some, if_true, hK, BEq.rfl]
          case s0x2 => exact ⟨(Gr.alloc _ _).fresh (by rw [HN.out]; exact hg.size), _, rfl, Owns.void _ _ _ _ (by rw [HN.out]; exact hg.size)⟩
          case s3x2 => rw [if_pos (by omega)]; exact ⟨Fresh.refl _, rfl⟩
          case s4x2 =>
            obtain ⟨⟨ad0, e0, o0⟩, e1⟩ := hK
            obtain ⟨v, w2, r1, r2, r3⟩ := append_mt (news := c4 c) (n := a * 4) (ty := 22) (u := 22) elemC o0 (m := a) (xs := cv (l.take a)) ⟨HN2.out, cv_one _, .inl ⟨_, _, _, rfl, hg.row HRT.out (Nat.le_of_eq HN.out.symm), Tryz.underlying22⟩⟩ (by omega) (by omega) (by rw [HN.out]; exact hg.size)
            simp only [execOp, resolve, invoke, builtin, Sem.run_bind, Sem.run_pure, Result.andThen_ok, List.map_toArray, List.map_cons, List.map_nil, e0, e1]
            rw [r1]
            exact ⟨r2, r3⟩
          case s5x2 =>
            have z0 := hg.cell e0' hblN
            have z1 := hg.cell e1' hblN
            have z2 := hg.cell e2' hblN
            have z3 := hg.cell e3' hblN
            go_simp
            exact rfl
          case s6x2 => exact ⟨(Gr.alloc _ _).fresh (by rw [HN.out]; exact hg.size), _, _, _, rfl, heap_alloc_new _ _⟩
          case s7x2 =>
            obtain ⟨⟨ad0, cp0, e0, o0⟩, hone⟩ := hK
            obtain ⟨v, w2, r1, r2, r3⟩ := append_made (news := c4 c) (n := a * 4) (ty := 22) (u := 22) elemC o0 (hone.src rfl (by simpa [cv] using cv_one [c]) Tryz.underlying22) rfl m1 m1' (by rw [HN.out]; exact hg.size)
            simp only [execOp, resolve, invoke, builtin, Sem.run_bind, Sem.run_pure, Result.andThen_ok, List.map_toArray, List.map_cons, List.map_nil, e0]
            rw [r1]
            exact ⟨r2, r3⟩
          case s10x2 =>
            have hbo : b < N := by omega
            first
              | (rw [if_neg (by omega)]
                 exact ⟨_, _, rfl, by rw [cv_drop]; exact (hg.row rW (Nat.le_of_eq HN.out.symm)).drop_ _, fun x hx => by cases hx; exact hbo⟩)
              | (refine ⟨_, _, rfl, by rw [List.drop_of_length_le HAE.out]; exact Row.nil _ _, fun x hx => ?_⟩
                 split at hx <;> (cases hx; exact hbo))
          case finx2 =>
            intro w1 val hg hH
            simp only [Holds, Is, Nat.zero_add, Nat.reduceAdd] at hH
            obtain ⟨h0, h1, h2, h3, h4, h5, h6, h7, h8, h9, h10, _⟩ := hH
            simp only [List.take_succ_cons, List.take_zero, List.drop_succ_cons, List.drop_zero, putAll, h1, h2, h3, h5, h8, h9, Nat.zero_add, Nat.reduceAdd]
            obtain ⟨ad7, cp7, e7, o7⟩ := h7
            obtain ⟨ad10, cp10, e10, r10, _⟩ := h10
            have hs9 := hg.size
            have hNw : w.heap.size ≤ N := by omega
            have o7' := o7.base hNw
            have hbs : w.heap.size ≤ w1.heap.size := by omega
            have g10 : Gr w w1 := hg.gr gw hNw
            have m2 : a + 1 + (l.length - a) ≤ maxLen := by unfold maxLen; omega
            have m2' : (a + 1 + (l.length - a)) * 48 ≤ 140737488355328 := by omega
            have hdl : (cv (l.drop a)).length = (l.length - a) * 4 := by rw [cv_length, List.length_drop]
            have HDL := Lib.hid hdl; clear hdl
            simp only [e7, e10]
            go_simp
            go_wp2_with (at_builtin; go_must (refine wp_append elemC rfl _ _ rfl rfl o7' rfl (⟨HDL.out, cv_one _, .inl ⟨_, _, _, rfl, r10, Tryz.underlying22⟩⟩ : Src Tryz.prog 22 w1 4 (.slice ad10 (l.length - a) cp10) (l.length - a) (cv (l.drop a))) m2 m2' hbs ?_); intro ad5 cap5 w5 o5 k5 f5)
            go_ret
            have hL : (placeI l c).length = a + 1 + (l.length - a) := by rw [HE.out]; simp only [List.length_append, List.length_take, List.length_drop, List.length_cons, List.length_nil]; omega
            refine ⟨ad5, cap5, by rw [hL]; rfl, ?_, g10.grown k5 (row_from o7')⟩
            rw [hL, HE.out, cv_append, cv_append]
            simpa [cv] using o5
    · have HE := Lib.hid (show placeI l c = l.take a ++ [c] ++ l.drop a by rw [hpe.out, HP.out, rankI_end (by omega), Nat.add_zero])
      go_wp2
      refine region_any_gr _ [Is (.int .i64 (a : Int)), Is ?r1x3, Is (.int .i64 (l.length : Int)), Is (.bool false), Is (.bool false), Is (undef), Is (undef), Is (undef), Is (undef), Is (undef), Is (undef), Is (undef), Is (undef), Is (.bool false)] (by kernel_rfl) (by kernel_rfl) (by kernel_rfl) rfl rfl ⟨Is.stable _, Is.stable _, Is.stable _, Is.stable _, Is.stable _, Is.stable _, Is.stable _, Is.stable _, Is.stable _, Is.stable _, Is.stable _, Is.stable _, Is.stable _, Is.stable _, trivial⟩ ⟨?s0x3, ?s1x3, ?s2x3, ?s3x3, ?s4x3, ?s5x3, ?s6x3, ?s7x3, ?s8x3, ?s9x3, ?s10x3, ?s11x3, ?s12x3, ?s13x3, trivial⟩ ?finx3
      case' s0x3 | s1x3 | s2x3 | s3x3 | s4x3 | s5x3 | s6x3 | s7x3 | s8x3 | s9x3 | s10x3 | s11x3 | s12x3 | s13x3 =>
        intro ρ wr hρ hg hK
        simp [readsOf, slotsOf, Op.operands, Call.operands, tmpOf, List.filterMap_cons, List.filterMap_nil, KnownAll, knownOf, srcOf, depsOf, dstOf, Region.binds, nth, Is] at hK
        obtain ⟨hc, hf, hgl⟩ := hρ
        try simp only [wantedBy, dstOf, boolOf, nth, List.getD_cons_zero, List.getD_cons_succ, List.getElem?_cons_zero, List.getElem?_cons_succ, Option.bind_some, if_true, hK, BEq.rfl]
        try go_simp
        first | exact rfl | (rw [if_pos (by omega)]; exact is_here rfl) | (rw [dif_pos (by omega)]; exact is_here rfl) | exact congrArg (Value.int _) (IntWalk.i64_in _ ⟨by omega, by omega⟩) | skip
      case finx3 =>
        intro w1 val hg hH
        simp only [Holds, Is, Nat.zero_add, Nat.reduceAdd] at hH
        obtain ⟨h0, h1, h2, h3, h4, h5, h6, h7, h8, h9, h10, h11, h12, h13, _⟩ := hH
        simp only [List.take_succ_cons, List.take_zero, List.drop_succ_cons, List.drop_zero, putAll, h0, h1, h2, h3, h4, h5, h6, h7, h8, h9, h10, h11, h12, h13, Nat.zero_add, Nat.reduceAdd]
        go_simp
        go_wp2
        rcases had with ⟨rfl, rfl⟩ | ⟨b, off, rfl, hbw⟩
        · obtain rfl : l = [] := List.eq_nil_of_length_eq_zero (by omega)
          obtain rfl : a = 0 := by simpa using ha
          clear hlt HR
          have gW : Gr (w.alloc (.cells #[.string (str c.key), .int .i64 c.seq, .int .i64 c.kind, .string (str c.val)] 56)) w1 := hga.trans hg
          have e0' := gW.cell c0
          have e1' := gW.cell c1
          have e2' := gW.cell c2
          have e3' := gW.cell c3
          have rW : Row w1 none (cv ([] : List Ci)) := HR1.out.gr gW
          have gw := g1.trans gW
          have hN9 := gW.size
          have hsz1 : (w.alloc (.cells #[.string (str c.key), .int .i64 c.seq, .int .i64 c.kind, .string (str c.val)] 56)).heap.size = w.heap.size + 1 := by simp
          obtain ⟨N, hN⟩ : ∃ N, N = w1.heap.size := ⟨_, rfl⟩
          have hn2 : (cv (([] : List Ci))).length = 0 := rfl
          have hblN : w.heap.size < N := by omega
          have rT : Row w1 none (cv (([] : List Ci))) := Row.nil _ _
          have m1 : 0 + 1 ≤ maxLen := by unfold maxLen; omega
          have m1' : (0 + 1) * 48 ≤ 140737488355328 := by omega
          have HN := Lib.hid hN; have HN2 := Lib.hid hn2; have HRT := Lib.hid rT
          clear hN hn2 rT d0 d1 d2 d3 hga hg
          refine region_tail_fresh N (0) (c4 c) 11 _ [Mt N 56 4, Is (.slice none 0 0), Is (.int .i64 0), Is (.slice none 0 0), Made N 56 4 0 (cv (([] : List Ci))), Is (.agg #[.string (str c.key), .int .i64 c.seq, .int .i64 c.kind, .string (str c.val)]), OneB (c4 c), Made N 56 4 (0 + 1) (cv (([] : List Ci)) ++ c4 c), Is (.slice none 0 0), Is (.int .i64 0), OldRow N 0 (cv (([] : List Ci)))] (by kernel_rfl) (by kernel_rfl) (by kernel_rfl) (by kernel_rfl) rfl rfl ⟨Mt.stable _ _, Is.stable _, Is.stable _, Is.stable _, Made.stable _ _ _ _ (.inl (Nat.le_of_eq HN2.out)), Is.stable _, OneB.stable, Made.stable _ _ _ _ (.inr ⟨_, rfl, HN2.out⟩), Is.stable _, Is.stable _, OldRow.stable _ _, trivial⟩ ⟨?s0x4, ?s1x4, ?s2x4, ?s3x4, ?s4x4, ?s5x4, ?s6x4, ?s7x4, ?s8x4, ?s9x4, ?s10x4, trivial⟩ ?finx4
          case' s0x4 | s1x4 | s2x4 | s3x4 | s5x4 | s6x4 | s8x4 | s9x4 | s10x4 =>
            intro ρ wr hρ hg hK
            simp [readsOf, slotsOf, Op.operands, Call.operands, tmpOf, List.filterMap_cons, List.filterMap_nil, KnownAll, knownOf, srcOf, depsOf, dstOf, Region.binds, nth, Is] at hK
            obtain ⟨hc, hf, hgl⟩ := hρ
            try simp only [wantedBy, dstOf, boolOf, nth, List.getD_cons_zero, List.getD_cons_succ, List.getElem?_cons_zero, List.getElem?_cons_succ, Option.bind_some, if_true, hK, BEq.rfl]
            try go_simp
            first | exact rfl | (rw [if_pos (by omega)]; exact is_here rfl) | (rw [dif_pos (by omega)]; exact is_here rfl) | exact congrArg (Value.int _) (IntWalk.i64_in _ ⟨by omega, by omega⟩) | skip
          case' s4x4 | s7x4 =>
            intro ρ wr hρ hg hK
            simp [readsOf, slotsOf, Op.operands, Call.operands, tmpOf, List.filterMap_cons, List.filterMap_nil, KnownAll, knownOf, srcOf, depsOf, dstOf, Region.binds, nth, Is] at hK
            obtain ⟨hc, hf, hgl⟩ := hρ
            try simp only [wantedBy, dstOf, boolOf, nth, List.getD_cons_zero, List.getD_cons_succ, List.getElem?_cons_zero, List.getElem?_cons_succ, Option.bind_some, if_true, hK, BEq.rfl]
          case s0x4 => exact ⟨(Gr.alloc _ _).fresh (by rw [HN.out]; exact hg.size), _, rfl, Owns.void _ _ _ _ (by rw [HN.out]; exact hg.size)⟩
          case s4x4 =>
            obtain ⟨⟨ad0, e0, o0⟩, e1⟩ := hK
            obtain ⟨v, w2, r1, r2, r3⟩ := append_mt (news := c4 c) (n := 0) (ty := 22) (u := 22) elemC o0 (m := 0) (xs := cv (([] : List Ci))) ⟨HN2.out, cv_one _, .inl ⟨_, _, _, rfl, hg.row HRT.out (Nat.le_of_eq HN.out.symm), Tryz.underlying22⟩⟩ (by omega) (by omega) (by rw [HN.out]; exact hg.size)
            simp only [execOp, resolve, invoke, builtin, Sem.run_bind, Sem.run_pure, Result.andThen_ok, List.map_toArray, List.map_cons, List.map_nil, e0, e1]
            rw [r1]
            exact ⟨r2, r3⟩
          case s5x4 =>
            have z0 := hg.cell e0' hblN
            have z1 := hg.cell e1' hblN
            have z2 := hg.cell e2' hblN
            have z3 := hg.cell e3' hblN
            go_simp
            exact rfl
          case s6x4 => exact ⟨(Gr.alloc _ _).fresh (by rw [HN.out]; exact hg.size), _, _, _, rfl, heap_alloc_new _ _⟩
          case s7x4 =>
            obtain ⟨⟨ad0, cp0, e0, o0⟩, hone⟩ := hK
            obtain ⟨v, w2, r1, r2, r3⟩ := append_made (news := c4 c) (n := 0) (ty := 22) (u := 22) elemC o0 (hone.src rfl (by simpa [cv] using cv_one [c]) Tryz.underlying22) rfl m1 m1' (by rw [HN.out]; exact hg.size)
            simp only [execOp, resolve, invoke, builtin, Sem.run_bind, Sem.run_pure, Result.andThen_ok, List.map_toArray, List.map_cons, List.map_nil, e0]
            rw [r1]
            exact ⟨r2, r3⟩
          case s10x4 => exact ⟨_, _, rfl, Row.nil _ _, fun x hx => by cases hx⟩
          case finx4 =>
            intro w1 val hg hH
            simp only [Holds, Is, Nat.zero_add, Nat.reduceAdd] at hH
            obtain ⟨h0, h1, h2, h3, h4, h5, h6, h7, h8, h9, h10, _⟩ := hH
            simp only [List.take_succ_cons, List.take_zero, List.drop_succ_cons, List.drop_zero, putAll, h1, h2, h3, h5, h8, h9, Nat.zero_add, Nat.reduceAdd]
            obtain ⟨ad7, cp7, e7, o7⟩ := h7
            obtain ⟨ad10, cp10, e10, r10, _⟩ := h10
            have hs9 := hg.size
            have hNw : w.heap.size ≤ N := by omega
            have o7' := o7.base hNw
            have hbs : w.heap.size ≤ w1.heap.size := by omega
            have g10 : Gr w w1 := hg.gr gw hNw
            have m2 : 0 + 1 + 0 ≤ maxLen := by unfold maxLen; omega
            have m2' : (0 + 1 + 0) * 48 ≤ 140737488355328 := by omega
            have hdl : (cv (([] : List Ci))).length = 0 * 4 := rfl
            have HDL := Lib.hid hdl; clear hdl
            simp only [e7, e10]
            go_simp
            go_wp2_with (at_builtin; go_must (refine wp_append elemC rfl _ _ rfl rfl o7' rfl (⟨HDL.out, cv_one _, .inl ⟨_, _, _, rfl, r10, Tryz.underlying22⟩⟩ : Src Tryz.prog 22 w1 4 (.slice ad10 0 cp10) 0 (cv (([] : List Ci)))) m2 m2' hbs ?_); intro ad5 cap5 w5 o5 k5 f5)
            go_ret
            have hL : (placeI [] c).length = 0 + 1 + 0 := by rw [HE.out]; simp only [List.length_append, List.length_take, List.length_drop, List.length_cons, List.length_nil]; omega
            refine ⟨ad5, cap5, by rw [hL]; rfl, ?_, g10.grown k5 (row_from o7')⟩
            rw [hL, HE.out, cv_append, cv_append]
            simpa [cv] using o5
        · have HAE := Lib.hid (show l.length ≤ a by omega)
          clear hlt
          have gW : Gr (w.alloc (.cells #[.string (str c.key), .int .i64 c.seq, .int .i64 c.kind, .string (str c.val)] 56)) w1 := hga.trans hg
          have e0' := gW.cell c0
          have e1' := gW.cell c1
          have e2' := gW.cell c2
          have e3' := gW.cell c3
          have rW : Row w1 _ (cv l) := HR1.out.gr gW
          have gw := g1.trans gW
          have hN9 := gW.size
          have hsz1 : (w.alloc (.cells #[.string (str c.key), .int .i64 c.seq, .int .i64 c.kind, .string (str c.val)] 56)).heap.size = w.heap.size + 1 := by simp
          obtain ⟨N, hN⟩ : ∃ N, N = w1.heap.size := ⟨_, rfl⟩
          have hn2 : (cv (l.take a)).length = a * 4 := by rw [cv_length, List.length_take, Nat.min_eq_left ha]
          have hblN : w.heap.size < N := by omega
          have rT : Row w1 _ (cv (l.take a)) := fun x u hx => rW x u (by rw [cv_take] at hx; rw [List.getElem?_take] at hx; split at hx <;> first | exact hx | cases hx)
          have m1 : a + 1 ≤ maxLen := by unfold maxLen; omega
          have m1' : (a + 1) * 48 ≤ 140737488355328 := by omega
          have HN := Lib.hid hN; have HN2 := Lib.hid hn2; have HRT := Lib.hid rT
          clear hN hn2 rT d0 d1 d2 d3 hga hg
          refine region_tail_fresh N (a * 4) (c4 c) 11 _ [Mt N 56 4, Is (.slice (some ⟨b, off, none⟩) l.length cap), Is (.int .i64 (a : Int)), Is (.slice (some ⟨b, off, none⟩) a cap), Made N 56 4 a (cv (l.take a)), Is (.agg #[.string (str c.key), .int .i64 c.seq, .int .i64 c.kind, .string (str c.val)]), OneB (c4 c), Made N 56 4 (a + 1) (cv (l.take a) ++ c4 c), Is (.slice (some ⟨b, off, none⟩) l.length cap), Is (.int .i64 (a : Int)), OldRow N (l.length - a) (cv (l.drop a))] (by kernel_rfl) (by kernel_rfl) (by kernel_rfl) (by kernel_rfl) rfl rfl ⟨Mt.stable _ _, Is.stable _, Is.stable _, Is.stable _, Made.stable _ _ _ _ (.inl (Nat.le_of_eq HN2.out)), Is.stable _, OneB.stable, Made.stable _ _ _ _ (.inr ⟨_, rfl, HN2.out⟩), Is.stable _, Is.stable _, OldRow.stable _ _, trivial⟩ ⟨?s0x5, ?s1x5, ?s2x5, ?s3x5, ?s4x5, ?s5x5, ?s6x5, ?s7x5, ?s8x5, ?s9x5, ?s10x5, trivial⟩ ?finx5
          case' s0x5 | s1x5 | s2x5 | s3x5 | s5x5 | s6x5 | s8x5 | s9x5 | s10x5 =>
            intro ρ wr hρ hg hK
            simp [readsOf, slotsOf, Op.operands, Call.operands, tmpOf, List.filterMap_cons, List.filterMap_nil, KnownAll, knownOf, srcOf, depsOf, dstOf, Region.binds, nth, Is] at hK
            obtain ⟨hc, hf, hgl⟩ := hρ
            try simp only [wantedBy, dstOf, boolOf, nth, List.getD_cons_zero, List.getD_cons_succ, List.getElem?_cons_zero, List.getElem?_cons_succ, Option.bind_some, if_true, hK, BEq.rfl]
            try go_simp
            first | exact rfl | (rw [if_pos (by omega)]; exact is_here rfl) | (rw [dif_pos (by omega)]; exact is_here rfl) | exact congrArg (Value.int _) (IntWalk.i64_in _ ⟨by omega, by omega⟩) | skip
          case' s4x5 | s7x5 =>
            intro ρ wr hρ hg hK
            simp [readsOf, slotsOf, Op.operands, Call.operands, tmpOf, List.filterMap_cons, List.filterMap_nil, KnownAll, knownOf, srcOf, depsOf, dstOf, Region.binds, nth, Is] at hK
            obtain ⟨hc, hf, hgl⟩ := hρ
            try simp only [wantedBy, dstOf, boolOf, nth, List.getD_cons_zero, List.getD_cons_succ, List.getElem?_cons_zero, List.getElem?_cons_succ, Option.bind_some, if_true, hK, BEq.rfl]
          case s0x5 => exact ⟨(Gr.alloc _ _).fresh (by rw [HN.out]; exact hg.size), _, rfl, Owns.void _ _ _ _ (by rw [HN.out]; exact hg.size)⟩
          case s3x5 => rw [if_pos (by omega)]; exact ⟨Fresh.refl _, rfl⟩
          case s4x5 =>
            obtain ⟨⟨ad0, e0, o0⟩, e1⟩ := hK
            obtain ⟨v, w2, r1, r2, r3⟩ := append_mt (news := c4 c) (n := a * 4) (ty := 22) (u := 22) elemC o0 (m := a) (xs := cv (l.take a)) ⟨HN2.out, cv_one _, .inl ⟨_, _, _, rfl, hg.row HRT.out (Nat.le_of_eq HN.out.symm), Tryz.underlying22⟩⟩ (by omega) (by omega) (by rw [HN.out]; exact hg.size)
            simp only [execOp, resolve, invoke, builtin, Sem.run_bind, Sem.run_pure, Result.andThen_ok, List.map_toArray, List.map_cons, List.map_nil, e0, e1]
            rw [r1]
            exact ⟨r2, r3⟩
          case s5x5 =>
            have z0 := hg.cell e0' hblN
            have z1 := hg.cell e1' hblN
            have z2 := hg.cell e2' hblN
            have z3 := hg.cell e3' hblN
            go_simp
            exact rfl
          case s6x5 => exact ⟨(Gr.alloc _ _).fresh (by rw [HN.out]; exact hg.size), _, _, _, rfl, heap_alloc_new _ _⟩
          case s7x5 =>
            obtain ⟨⟨ad0, cp0, e0, o0⟩, hone⟩ := hK
            obtain ⟨v, w2, r1, r2, r3⟩ := append_made (news := c4 c) (n := a * 4) (ty := 22) (u := 22) elemC o0 (hone.src rfl (by simpa [cv] using cv_one [c]) Tryz.underlying22) rfl m1 m1' (by rw [HN.out]; exact hg.size)
            simp only [execOp, resolve, invoke, builtin, Sem.run_bind, Sem.run_pure, Result.andThen_ok, List.map_toArray, List.map_cons, List.map_nil, e0]
            rw [r1]
            exact ⟨r2, r3⟩
          case s10x5 =>
            have hbo : b < N := by omega
            first
              | (rw [if_neg (by omega)]
                 exact ⟨_, _, rfl, by rw [cv_drop]; exact (hg.row rW (Nat.le_of_eq HN.out.symm)).drop_ _, fun x hx => by cases hx; exact hbo⟩)
              | (refine ⟨_, _, rfl, by rw [List.drop_of_length_le HAE.out]; exact Row.nil _ _, fun x hx => ?_⟩
                 split at hx <;> (cases hx; exact hbo))
          case finx5 =>
            intro w1 val hg hH
            simp only [Holds, Is, Nat.zero_add, Nat.reduceAdd] at hH
            obtain ⟨h0, h1, h2, h3, h4, h5, h6, h7, h8, h9, h10, _⟩ := hH
            simp only [List.take_succ_cons, List.take_zero, List.drop_succ_cons, List.drop_zero, putAll, h1, h2, h3, h5, h8, h9, Nat.zero_add, Nat.reduceAdd]
            obtain ⟨ad7, cp7, e7, o7⟩ := h7
            obtain ⟨ad10, cp10, e10, r10, _⟩ := h10
            have hs9 := hg.size
            have hNw : w.heap.size ≤ N := by omega
            have o7' := o7.base hNw
            have hbs : w.heap.size ≤ w1.heap.size := by omega
            have g10 : Gr w w1 := hg.gr gw hNw
            have m2 : a + 1 + (l.length - a) ≤ maxLen := by unfold maxLen; omega
            have m2' : (a + 1 + (l.length - a)) * 48 ≤ 140737488355328 := by omega
            have hdl : (cv (l.drop a)).length = (l.length - a) * 4 := by rw [cv_length, List.length_drop]
            have HDL := Lib.hid hdl; clear hdl
            simp only [e7, e10]
            go_simp
            go_wp2_with (at_builtin; go_must (refine wp_append elemC rfl _ _ rfl rfl o7' rfl (⟨HDL.out, cv_one _, .inl ⟨_, _, _, rfl, r10, Tryz.underlying22⟩⟩ : Src Tryz.prog 22 w1 4 (.slice ad10 (l.length - a) cp10) (l.length - a) (cv (l.drop a))) m2 m2' hbs ?_); intro ad5 cap5 w5 o5 k5 f5)
            go_ret
            have hL : (placeI l c).length = a + 1 + (l.length - a) := by rw [HE.out]; simp only [List.length_append, List.length_take, List.length_drop, List.length_cons, List.length_nil]; omega
            refine ⟨ad5, cap5, by rw [hL]; rfl, ?_, g10.grown k5 (row_from o7')⟩
            rw [hL, HE.out, cv_append, cv_append]
            simpa [cv] using o5
end Go.Proofs.YtpaogoehgkoaeaaGreatDoor
/- How the arguments of a statement's function are opened. No program is in sight here. -/
namespace Go.Proofs.YtpaogoehgkoaeaaGreatDoor
set_option linter.unusedVariables false
set_option linter.unusedSimpArgs false
open Go.ChangeShapes Go.WideShapes Go.ChangeAt Go.RowKit
section
variable {H : Type} {P : Program} {w : World} {enc : TypeId × Value → H}

theorem wf_bounds {k : IntKind} {n : Int} (h : (Lit.int k n).wf = true) : k.min ≤ n ∧ n ≤ k.max := by
  simpa [Lit.wf] using h
theorem bounds_i64 {n : Int} (h : (Lit.int .i64 n).wf = true) : -9223372036854775808 ≤ n ∧ n ≤ 9223372036854775807 := wf_bounds h
/-- a slice of numbers that came in -/
theorem open_nums {base : Nat} {spare : Nat → Bool} {held : Bool} {r : Reach} {b0 : Nat} {t e : TypeId} {k : IntKind} {v : Value} {d : DataW H} {ps : List MemPlace} (ht : P.underlying t = some (.slice e)) (he : P.underlying e = some (.int k)) (hc : P.cellsOf e = 1)
    (hval : Value.okWide P w r b0 t v) (hd : DataW.Trod enc P w base spare held t v d ps) :
    ∃ ad len cap, ∃ zs : List Int, v = .slice ad len cap ∧ zs.length = len ∧ len ≤ cap ∧ cap ≤ maxLen ∧ Row w ad (zs.map (Value.int k)) ∧ (∀ n ∈ zs, (Lit.int k n).wf = true) ∧
      ((d = .nil ∧ len = 0) ∨ ∃ x y, d = .slice x y ∧ len ≤ x.length) := by
  obtain ⟨ad, len, cap, rfl⟩ := okWide_slice ht hval
  obtain ⟨fuel, hf⟩ := hd
  rcases open_ints ht he hc hf with ⟨hcs, hx⟩ | ⟨x, l, c, zs, hcs, _, hl, hm, hz, hx, hcell, hwz⟩
  · simp [Value.cells] at hcs
    obtain ⟨e1, e2, e3⟩ := hcs
    subst e1 e2 e3
    simp only [Prod.mk.injEq] at hx
    exact ⟨none, 0, 0, [], rfl, rfl, Nat.le_refl _, Nat.zero_le _, Row.nil _ _, by simp, .inl ⟨hx.1, rfl⟩⟩
  · simp [Value.cells] at hcs
    obtain ⟨e1, e2, e3⟩ := hcs
    subst e1 e2 e3
    have hzl : len ≤ zs.length := by rw [hz]; split <;> omega
    have htl : (zs.take len).length = len := by simp; omega
    simp only [Prod.mk.injEq] at hx
    refine ⟨some x, len, cap, zs.take len, rfl, htl, hl, hm, ?_, fun n hn => hwz n (List.mem_of_mem_take hn), .inr ⟨_, _, hx.1, by simp [lits]; omega⟩⟩
    intro i u hi
    have hil : i < len := by
      have := (List.getElem?_eq_some_iff.1 hi).1
      rw [List.length_map, htl] at this; exact this
    obtain ⟨b, off, rfl, hcc⟩ := ints_at hcell (by omega)
    refine ⟨b, off, rfl, ?_⟩
    rw [hcc i (by omega)]
    rw [List.getElem?_map, List.getElem?_take, if_pos hil] at hi
    rw [List.getD_eq_getElem?_getD]
    have : i < zs.length := by omega
    simp [this] at hi ⊢
    exact hi
theorem str_eta (t : ByteArray) : str t.data.toList = t := by
  apply ByteArray.ext
  simp [str]
theorem to_str (t : ByteArray) : ∃ l, t = str l := ⟨t.data.toList, (str_eta t).symm⟩

end
end Go.Proofs.YtpaogoehgkoaeaaGreatDoor
/- How slices of texts and of 64-bit numbers are opened. No program is in sight here. -/
namespace Go.Proofs.YtpaogoehgkoaeaaGreatDoor
set_option linter.unusedVariables false
set_option linter.unusedSimpArgs false
open Go.ChangeShapes Go.WideShapes Go.ChangeAt Go.RowKit
section
variable {H : Type} {P : Program} {w : World} {enc : TypeId × Value → H}
end
end Go.Proofs.YtpaogoehgkoaeaaGreatDoor
/- How a struct of a text and two numbers is opened. No program is in sight here. -/
namespace Go.Proofs.YtpaogoehgkoaeaaGreatDoor
set_option linter.unusedVariables false
set_option linter.unusedSimpArgs false
open Go.ChangeShapes Go.WideShapes Go.ChangeAt Go.RowKit Go.Joins Go.Deep
section
variable {H : Type} {P : Program} {w : World} {enc : TypeId × Value → H}
end
end Go.Proofs.YtpaogoehgkoaeaaGreatDoor
/- How a slice of cells (a version and a text each) is opened. No program is in sight here. -/
namespace Go.Proofs.YtpaogoehgkoaeaaGreatDoor
set_option linter.unusedVariables false
set_option linter.unusedSimpArgs false
open Go.ChangeShapes Go.WideShapes Go.ChangeAt Go.RowKit Go.Deep
theorem len_of_ {n cap : Nat} (hc : n ≤ cap) (hm : cap ≤ maxLen) : n ≤ 9223372036854775807 := by
  have : maxLen ≤ 9223372036854775807 := by decide
  omega
theorem le_of_max {n : Nat} (h : n ≤ maxLen) : n ≤ 9223372036854775807 := Nat.le_trans h (by decide)
instance : Inhabited Ci := ⟨⟨[], 0, 0, []⟩⟩
section
variable {H : Type} {P : Program} {w : World} {enc : TypeId × Value → H}
/-- what a struct of a version and a text tells -/
theorem trod_cell {base : Nat} {spare : Nat → Bool} {held : Bool} {e ver : TypeId} {f0 f1 g0 g1 g2 : Field} {fuel : Nat} {v0 v1 v2 v3 : Value} {d : DataW H} {ps : List MemPlace} (he : P.underlying e = some (.struct #[f0, f1])) (hv : P.underlying f0.type = some (.struct #[g0, g1, g2]))
    (ho : f0.offset = 0 ∧ f1.offset = 3 ∧ g0.offset = 0 ∧ g1.offset = 1 ∧ g2.offset = 2) (hc : P.cellsOf f0.type = 3 ∧ P.cellsOf f1.type = 1 ∧ P.cellsOf g0.type = 1 ∧ P.cellsOf g1.type = 1 ∧ P.cellsOf g2.type = 1)
    (s1 : P.underlying f1.type = some .string) (t0 : P.underlying g0.type = some .string) (t1 : P.underlying g1.type = some (.int .i64)) (t2 : P.underlying g2.type = some (.int .i64))
    (h : DataW.trod enc P w base spare held fuel e [v0, v1, v2, v3] = some (d, ps)) : ∃ q : Ci, [v0, v1, v2, v3] = c4 q ∧ q.key.length ≤ maxLen ∧ q.val.length ≤ maxLen ∧ (-9223372036854775808 ≤ q.seq ∧ q.seq ≤ 9223372036854775807) ∧ (-9223372036854775808 ≤ q.kind ∧ q.kind ≤ 9223372036854775807) := by
  obtain ⟨o0, o1, p0, p1, p2⟩ := ho
  obtain ⟨c0, c1, k0, k1, k2⟩ := hc
  obtain ⟨xs, k, hk, hxy, _, hxl, hf⟩ := DataW.trod_struct he h
  match xs, hxl with
  | [y0, y1], _ =>
    have g0' := hf 0 f0 rfl
    have g1' := hf 1 f1 rfl
    simp [o0, c0] at g0'
    simp [o1, c1] at g1'
    obtain ⟨zs, k', hk', hxy', _, hzl, hf'⟩ := DataW.trod_struct hv g0'
    match zs, hzl with
    | [z0, z1, z2], _ =>
      have a0 := hf' 0 g0 rfl
      have a1 := hf' 1 g1 rfl
      have a2 := hf' 2 g2 rfl
      simp [p0, k0] at a0
      simp [p1, k1] at a1
      simp [p2, k2] at a2
      obtain ⟨n0, q0, _, l0⟩ := DataW.trod_string t0 a0
      obtain ⟨n1, q1, _, w1⟩ := DataW.trod_int t1 a1
      obtain ⟨n2, q2, _, w2⟩ := DataW.trod_int t2 a2
      obtain ⟨n3, q3, _, l3⟩ := DataW.trod_string s1 g1'
      simp only [List.cons.injEq, and_true] at q0 q1 q2 q3
      obtain ⟨t0, rfl⟩ := to_str n0
      obtain ⟨t3, rfl⟩ := to_str n3
      subst q0 q1 q2 q3
      exact ⟨⟨t0, n1, n2, t3⟩, rfl, by rw [str_size] at l0; exact l0, by rw [str_size] at l3; exact l3, bounds_i64 w1, bounds_i64 w2⟩
theorem open_cells {base : Nat} {spare : Nat → Bool} {held : Bool} {r : Reach} {b0 : Nat} {t e : TypeId} {f0 f1 g0 g1 g2 : Field} {v : Value} {d : DataW H} {ps : List MemPlace} (ht : P.underlying t = some (.slice e)) (ce : P.cellsOf e = 4) (he : P.underlying e = some (.struct #[f0, f1])) (hv : P.underlying f0.type = some (.struct #[g0, g1, g2]))
    (ho : f0.offset = 0 ∧ f1.offset = 3 ∧ g0.offset = 0 ∧ g1.offset = 1 ∧ g2.offset = 2) (hc : P.cellsOf f0.type = 3 ∧ P.cellsOf f1.type = 1 ∧ P.cellsOf g0.type = 1 ∧ P.cellsOf g1.type = 1 ∧ P.cellsOf g2.type = 1)
    (s1 : P.underlying f1.type = some .string) (t0 : P.underlying g0.type = some .string) (t1 : P.underlying g1.type = some (.int .i64)) (t2 : P.underlying g2.type = some (.int .i64))
    (hval : Value.okWide P w r b0 t v) (hd : DataW.Trod enc P w base spare held t v d ps) :
    ∃ ad len cap, ∃ l : List Ci, v = .slice ad len cap ∧ l.length = len ∧ len ≤ cap ∧ cap ≤ maxLen ∧ Row w ad (cv l) ∧ ∀ c ∈ l, c.key.length ≤ maxLen ∧ c.val.length ≤ maxLen ∧ (-9223372036854775808 ≤ c.seq ∧ c.seq ≤ 9223372036854775807) ∧ (-9223372036854775808 ≤ c.kind ∧ c.kind ≤ 9223372036854775807) := by
  obtain ⟨ad, len, cap, rfl⟩ := okWide_slice ht hval
  obtain ⟨fuel, hf⟩ := hd
  rcases open_slice ht hf with ⟨hcs, hx⟩ | ⟨a, l, c, m, n, D, Pl, hcs, hb, hl, hm, hmm, hx0, hx⟩
  · simp [Value.cells] at hcs
    obtain ⟨e1, e2, e3⟩ := hcs
    subst e1 e2 e3
    exact ⟨none, 0, 0, [], rfl, rfl, Nat.le_refl _, Nat.zero_le _, Row.nil _ _, fun c hc => by simp at hc⟩
  · simp [Value.cells] at hcs
    obtain ⟨e1, e2, e3⟩ := hcs
    subst e1 e2 e3
    have hlm : len ≤ m := by rw [hmm]; split <;> omega
    have each : ∀ i, i < m → ∃ q : Ci, (∀ k u, (c4 q)[k]? = some u → w.cell? (a.add (i * 4 + k)) = some u) ∧ q.key.length ≤ maxLen ∧ q.val.length ≤ maxLen ∧ (-9223372036854775808 ≤ q.seq ∧ q.seq ≤ 9223372036854775807) ∧ (-9223372036854775808 ≤ q.kind ∧ q.kind ≤ 9223372036854775807) := by
      intro i hi
      obtain ⟨cs', h1, h2⟩ := hx i hi
      rw [ce] at h1
      obtain ⟨_, hlen, hcell⟩ := World.cells?_some h1
      match cs', hlen with
      | [v0, v1, v2, v3], _ =>
        obtain ⟨q, e, hq⟩ := trod_cell (ver := e) he hv ho hc s1 t0 t1 t2 h2
        refine ⟨q, fun k u hku => ?_, hq⟩
        have hk4 : k < 4 := (List.getElem?_eq_some_iff.1 hku).1
        have := hcell k hk4
        rw [add_add] at this
        rw [this, e]
        exact hku
    obtain ⟨q, hq⟩ := choose_lt each
    have hlen : ((List.range len).map q).length = len := by simp
    refine ⟨some a, len, cap, (List.range len).map q, rfl, hlen, hl, hm, ?_, ?_⟩
    · intro i u hi
      have hil : i < len * 4 := by
        have := (List.getElem?_eq_some_iff.1 hi).1
        rw [cv_length, hlen] at this; exact this
      obtain ⟨b, off, spot⟩ := a
      have h0 := (hq 0 (by omega)).1 0 _ rfl
      have hspot : spot = none := by simpa [Addr.add] using World.cell?_spot h0
      subst hspot
      refine ⟨b, off, rfl, ?_⟩
      have hdm := Nat.div_add_mod i 4
      have hj : i / 4 < len := by omega
      have e : i = (i / 4) * 4 + i % 4 := by omega
      have hg := cv_get ((List.range len).map q) (i / 4) (by rw [hlen]; exact hj) (i % 4) (Nat.mod_lt _ (by omega))
      rw [← e, hi] at hg
      simp only [List.getElem_map, List.getElem_range] at hg
      have := (hq (i / 4) (by omega)).1 (i % 4) u hg.symm
      rw [Go.WideShapes.add_plain, ← e] at this
      exact this
    · intro c hc
      obtain ⟨i, hi, rfl⟩ := List.mem_map.1 hc
      exact (hq i (by have := List.mem_range.1 hi; omega)).2
end
end Go.Proofs.YtpaogoehgkoaeaaGreatDoor
/- The statements through the layers: the cells of any cells, in their order. -/
namespace Go.Proofs.YtpaogoehgkoaeaaGreatDoor
set_option linter.unusedVariables false
set_option linter.unusedSimpArgs false
open Go.RowKit Ikey Varint
def okT (c : Ci) : Bool := okV c.key c.seq c.kind && decide (c.val.length ≤ 1000)
theorem Owns.had {w : World} {base : Nat} {e : TypeId} {size : Nat} {ad : Option Addr} {cap n : Nat} {xs : List Value} (h : Owns w base e size ad cap n xs) : (ad = none ∧ cap = 0) ∨ ∃ b off, ad = some ⟨b, off, none⟩ ∧ b < w.heap.size := by
  have hl := h.lt
  obtain ⟨h1, h2, h3, ⟨e1, e2, e3⟩ | ⟨g, cur, fr, e1, _⟩⟩ := h
  · exact .inl ⟨e1, e3⟩
  · exact .inr ⟨g, 0, e1, (hl _ e1).2⟩
set_option maxRecDepth 100000 in
set_option maxHeartbeats 4000000 in
theorem cells_any (ad : Option Addr) (cap : Nat) (l : List Ci) (w : World) (hr : Row w ad (cv l)) (hl : l.length ≤ 9223372036854775807) (hvl : ∀ c ∈ l, c.val.length ≤ 9223372036854775807) :
    Calls Tryz.prog 7 #[.slice ad l.length cap] w (RetC w (gatherN okT l (min l.length 50))) := by
  have HR := Lib.hid hr.ci
  have HVL := Lib.hid hvl
  have HL := Lib.hid (show ∀ (x c : Ci) (w : World), Calls Tryz.prog 36 #[ver x.key x.seq x.kind, ver c.key c.seq c.kind] w fun e w' => e = .returned (.bool (vless x.vr c.vr)) ∧ Gr w w' from fun x c w => rLess_any x.key c.key x.seq x.kind c.seq c.kind w)
  have HRt := Lib.hid (fun (c : Ci) (w : World) => rRight_any c.key c.seq c.kind w)
  unfold ver at HL HRt
  clear hr hvl
  go_enter Tryz.func7, Tryz.ntmps7
  go_wp2
  go_loopw [3, 4] (fun vo vi wr => ∃ (i : Nat) (adO : Option Addr) (capO : Nat), vi = .int .i64 (i : Int) ∧ i ≤ l.length ∧ i ≤ 50 ∧ vo = .slice adO (gatherN okT l i).length capO ∧ Owns wr w.heap.size 56 4 adO capO (gatherN okT l i).length (cv (gatherN okT l i)) ∧ Gr w wr) (fun _ vi _ => 50 - (intOf vi).toNat)
  case atStart => exact ⟨0, none, 0, rfl, Nat.zero_le _, Nat.zero_le _, rfl, Owns.empty _ _ _ _, Gr.refl _⟩
  case round =>
    obtain ⟨i, adO, capO, rfl, hi, hi50, rfl, hO, hG⟩ := hrel
    by_cases hlt : i < l.length ∧ i < 50
    · obtain ⟨hlt, hlt2⟩ := hlt
      obtain ⟨b, off, hade, e0, e1, e2, e3⟩ := HR.out i hlt
      subst hade
      have hv := HVL.out l[i] (List.getElem_mem hlt)
      have hgt : gatherN okT l (i + 1) = if okT l[i] = true then addC (gatherN okT l i) l[i] else gatherN okT l i := by rw [gatherN, List.getD_eq_getElem?_getD, List.getElem?_eq_getElem hlt, Option.getD_some]
      have hlen := gather_len okT l i
      generalize l[i] = c at *
      generalize gatherN okT l i = o at *
      have f0 := hG.cell e0
      have f1 := hG.cell e1
      have f2 := hG.cell e2
      have f3 := hG.cell e3
      have HC := Lib.hid (HRt.out c)
      have HO := Lib.hid hO
      have HG := Lib.hid hG
      clear e0 e1 e2 e3 HR HVL hO hG
      cases hq : okV c.key c.seq c.kind with
      | false =>
        rw [hq] at HC
        rw [if_neg (by unfold okT; rw [hq]; simp)] at hgt
        have HX := Lib.hid hgt
        clear hgt hq
        go_wp2_with (first
          | (go_at_call 35; go_must (refine (HC.out _).mono ?_); rintro e w2 ⟨rfl, g2⟩; have f3' := g2.cell f3)
          | fail)
        go_roundw
        case rel => exact ⟨i + 1, adO, capO, by go_num, hlt, hlt2, by rw [HX.out], by rw [HX.out]; exact HO.out.gr g2, HG.out.trans g2⟩
        case measure => simp [intOf]; omega
      | true =>
        rw [hq] at HC
        by_cases hvv : 1000 < c.val.length
        · rw [if_neg (by unfold okT; rw [hq]; simp; omega)] at hgt
          have HX := Lib.hid hgt
          clear hgt hq
          go_wp2_with (first
            | (go_at_call 35; go_must (refine (HC.out _).mono ?_); rintro e w2 ⟨rfl, g2⟩; have f3' := g2.cell f3)
            | fail)
          go_roundw
          case rel => exact ⟨i + 1, adO, capO, by go_num, hlt, hlt2, by rw [HX.out], by rw [HX.out]; exact HO.out.gr g2, HG.out.trans g2⟩
          case measure => simp [intOf]; omega
        · rw [if_pos (by unfold okT; rw [hq]; simp; omega)] at hgt
          have HX := Lib.hid hgt
          have hvv2 : c.val.length ≤ 1000 := by omega
          clear hgt hq hvv hv
          go_wp2_with (first
            | (go_at_call 35; go_must (refine (HC.out _).mono ?_); rintro e w2 ⟨rfl, g2⟩; have f3' := g2.cell f3)
            | fail)
          have HO2 := Lib.hid (HO.out.gr g2)
          have HG2 := Lib.hid (HG.out.trans g2)
          have k0 := g2.cell f0
          have k1 := g2.cell f1
          have k2 := g2.cell f2
          clear f0 f1 f2 f3 HO HG HC g2
          have HOr := Lib.hid HO2.out.row.ci
          go_loopw [5] (fun va wa => ∃ a : Nat, a ≤ o.length ∧ va = .int .i64 (a : Int) ∧ Gr w2 wa ∧ rankI c.vr o = a + rankI c.vr (o.drop a)) (fun va _ => o.length - (intOf va).toNat)
          case atStart => exact ⟨0, Nat.zero_le _, rfl, Gr.refl _, by simp⟩
          case round =>
            obtain ⟨a, ha, rfl, hga, hp⟩ := hrel
            have HP := Lib.hid hp
            clear hp
            have j0 := hga.cell k0
            have j1 := hga.cell k1
            have j2 := hga.cell k2
            have j3 := hga.cell f3'
            have HOw := Lib.hid (HO2.out.gr hga)
            have HGw := Lib.hid (HG2.out.trans hga)
            by_cases hao : a < o.length
            · obtain ⟨bo, offo, hadO, y0, y1, y2, _⟩ := HOr.out a hao
              subst hadO
              have z0 := hga.cell y0
              have z1 := hga.cell y1
              have z2 := hga.cell y2
              clear y0 y1 y2
              have HS := Lib.hid (fun h => rankI_step (v := c.vr) hao h)
              have HT := Lib.hid (fun h => rankI_stop (v := c.vr) hao h)
              have HAt := Lib.hid (fun h => add_at (c := c) hao h)
              generalize o[a] = x at *
              have HC := Lib.hid (HL.out x c)
              cases hb : vless x.vr c.vr with
              | true =>
                rw [hb] at HC
                clear HAt
                go_wp2
                refine region_any_gr _ [Is (.int .i64 (a : Int)), Is ?r1, Is (.int .i64 (o.length : Int)), Is (.bool true), Is (.bool true), Is ?r5, Is ?r6, Is (.pointer (some ⟨bo, offo + a * 4, none⟩)), Is ?r8, Is (.agg #[.string (str x.key), .int .i64 x.seq, .int .i64 x.kind]), Is ?r10, Is ?r11, Is (.pointer (some ⟨b, off + i * 4, none⟩)), Is ?r13, Is (.agg #[.string (str c.key), .int .i64 c.seq, .int .i64 c.kind]), Is (.bool true), Is (.bool true)] (by kernel_rfl) (by kernel_rfl) (by kernel_rfl) rfl rfl ⟨Is.stable _, Is.stable _, Is.stable _, Is.stable _, Is.stable _, Is.stable _, Is.stable _, Is.stable _, Is.stable _, Is.stable _, Is.stable _, Is.stable _, Is.stable _, Is.stable _, Is.stable _, Is.stable _, Is.stable _, trivial⟩ ⟨?s0, ?s1, ?s2, ?s3, ?s4, ?s5, ?s6, ?s7, ?s8, ?s9, ?s10, ?s11, ?s12, ?s13, ?s14, ?s15, ?s16, trivial⟩ ?fin
                case' s0 | s1 | s2 | s3 | s4 | s5 | s6 | s7 | s8 | s9 | s10 | s11 | s12 | s13 | s14 | s15 | s16 =>
                  intro ρ wr hρ hg hK
                  simp [readsOf, slotsOf, Op.operands, Call.operands, tmpOf, List.filterMap_cons, List.filterMap_nil, KnownAll, knownOf, srcOf, depsOf, dstOf, Region.binds, nth, Is] at hK
                  obtain ⟨hc, hf, hgl⟩ := hρ
                  try simp only [wantedBy, dstOf, boolOf, nth, List.getD_cons_zero, List.getD_cons_succ, List.getElem?_cons_zero, List.getElem?_cons_succ, Option.bind_some, if_true, hK, BEq.rfl]
                  try go_simp
                  first | exact rfl | (rw [if_pos (by omega)]; exact is_here rfl) | (rw [dif_pos (by omega)]; exact is_here rfl) | exact congrArg (Value.int _) (IntWalk.i64_in _ ⟨by omega, by omega⟩) | skip
                case s9 => have z0 := hg.cell z0; have z1 := hg.cell z1; have z2 := hg.cell z2; go_simp; exact rfl
                case s14 => have z0 := hg.cell j0; have z1 := hg.cell j1; have z2 := hg.cell j2; go_simp; exact rfl
                case s15 => exact any_gr (HC.out _)
                case fin =>
                  intro w1 val hg hH
                  simp only [Holds, Is, Nat.zero_add, Nat.reduceAdd] at hH
                  obtain ⟨h0, h1, h2, h3, h4, h5, h6, h7, h8, h9, h10, h11, h12, h13, h14, h15, h16, _⟩ := hH
                  simp only [List.take_succ_cons, List.take_zero, List.drop_succ_cons, List.drop_zero, putAll, h0, h1, h2, h3, h4, h5, h6, h7, h8, h9, h10, h11, h12, h13, h14, h15, h16, Nat.zero_add, Nat.reduceAdd]
                  go_simp
                  go_wp2
                  go_roundw
                  case rel => exact ⟨a + 1, hao, by go_num, hga.trans hg, by rw [HP.out, HS.out hb]; omega⟩
                  case measure => simp [intOf]; omega
              | false =>
                rw [hb] at HC
                have hra : rankI c.vr o = a := by rw [HP.out, HT.out hb]; rfl
                have hA := HAt.out hra
                clear HAt HS HT hra
                go_wp2
                refine region_any_gr _ [Is (.int .i64 (a : Int)), Is ?r1x1, Is (.int .i64 (o.length : Int)), Is (.bool true), Is (.bool true), Is ?r5x1, Is ?r6x1, Is (.pointer (some ⟨bo, offo + a * 4, none⟩)), Is ?r8x1, Is (.agg #[.string (str x.key), .int .i64 x.seq, .int .i64 x.kind]), Is ?r10x1, Is ?r11x1, Is (.pointer (some ⟨b, off + i * 4, none⟩)), Is ?r13x1, Is (.agg #[.string (str c.key), .int .i64 c.seq, .int .i64 c.kind]), Is (.bool false), Is (.bool false)] (by kernel_rfl) (by kernel_rfl) (by kernel_rfl) rfl rfl ⟨Is.stable _, Is.stable _, Is.stable _, Is.stable _, Is.stable _, Is.stable _, Is.stable _, Is.stable _, Is.stable _, Is.stable _, Is.stable _, Is.stable _, Is.stable _, Is.stable _, Is.stable _, Is.stable _, Is.stable _, trivial⟩ ⟨?s0x1, ?s1x1, ?s2x1, ?s3x1, ?s4x1, ?s5x1, ?s6x1, ?s7x1, ?s8x1, ?s9x1, ?s10x1, ?s11x1, ?s12x1, ?s13x1, ?s14x1, ?s15x1, ?s16x1, trivial⟩ ?finx1
                case' s0x1 | s1x1 | s2x1 | s3x1 | s4x1 | s5x1 | s6x1 | s7x1 | s8x1 | s9x1 | s10x1 | s11x1 | s12x1 | s13x1 | s14x1 | s15x1 | s16x1 =>
                  intro ρ wr hρ hg hK
                  simp [readsOf, slotsOf, Op.operands, Call.operands, tmpOf, List.filterMap_cons, List.filterMap_nil, KnownAll, knownOf, srcOf, depsOf, dstOf, Region.binds, nth, Is] at hK
                  obtain ⟨hc, hf, hgl⟩ := hρ
                  try simp only [wantedBy, dstOf, boolOf, nth, List.getD_cons_zero, List.getD_cons_succ, List.getElem?_cons_zero, List.getElem?_cons_succ, Option.bind_some, if_true, hK, BEq.rfl]
                  try go_simp
                  first | exact rfl | (rw [if_pos (by omega)]; exact is_here rfl) | (rw [dif_pos (by omega)]; exact is_here rfl) | exact congrArg (Value.int _) (IntWalk.i64_in _ ⟨by omega, by omega⟩) | skip
                case s9x1 => have z0 := hg.cell z0; have z1 := hg.cell z1; have z2 := hg.cell z2; go_simp; exact rfl
                case s14x1 => have z0 := hg.cell j0; have z1 := hg.cell j1; have z2 := hg.cell j2; go_simp; exact rfl
                case s15x1 => exact any_gr (HC.out _)
                case finx1 =>
                  intro w1 val hg hH
                  simp only [Holds, Is, Nat.zero_add, Nat.reduceAdd] at hH
                  obtain ⟨h0, h1, h2, h3, h4, h5, h6, h7, h8, h9, h10, h11, h12, h13, h14, h15, h16, _⟩ := hH
                  simp only [List.take_succ_cons, List.take_zero, List.drop_succ_cons, List.drop_zero, putAll, h0, h1, h2, h3, h4, h5, h6, h7, h8, h9, h10, h11, h12, h13, h14, h15, h16, Nat.zero_add, Nat.reduceAdd]
                  have HO1 := Lib.hid (HOw.out.gr hg)
                  have HG1 := Lib.hid (HGw.out.trans hg)
                  have z0 := hg.cell z0
                  have z1 := hg.cell z1
                  have z2 := hg.cell z2
                  have j0 := hg.cell j0
                  have j1 := hg.cell j1
                  have j2 := hg.cell j2
                  have j3 := hg.cell j3
                  clear hg HOw HGw HC hga
                  go_simp
                  go_wp2
                  generalize w1 = W0 at *
                  have hab : ((a : Int) == (o.length : Int)) = false := by rw [beq_eq_false_iff_ne]; omega
                  by_cases hxe : x.vr = c.vr
                  · rw [if_pos hxe] at hA
                    have HA := Lib.hid hA
                    obtain ⟨xk, xs, xd, xv⟩ := x
                    simp only [Ci.vr, Vr.mk.injEq] at hxe
                    obtain ⟨q1, q2, q3⟩ := hxe
                    simp only at z0 z1 z2
                    rw [q1] at z0
                    rw [q2] at z1
                    rw [q3] at z2
                    clear q1 q2 q3 hA hb
                    go_quiet (fail)
                    go_wp2
                    go_roundw
                    case rel => exact ⟨i + 1, _, capO, by go_num, hlt, hlt2, by rw [HX.out, HA.out], by rw [HX.out, HA.out]; exact HO1.out.gr (Gr.drewN _ _), HG1.out.trans (Gr.drewN _ _)⟩
                    case measure => simp [intOf]; omega
                  · rw [if_neg hxe] at hA
                    have HA := Lib.hid hA
                    obtain ⟨xk, xs, xd, xv⟩ := x
                    simp only at z0 z1 z2
                    have HQ := Lib.hid (show xk = c.key → xs = c.seq → xd = c.kind → False from fun q1 q2 q3 => hxe (by simp [Ci.vr, q1, q2, q3]))
                    clear hxe hA hb
                    refine region_any_gr _ [Is (.int .i64 (a : Int)), Is ?r1x2, Is (.int .i64 (o.length : Int)), Is (.bool false), Is (.bool false), Is ?r5x2, Is ?r6x2, Is (.pointer (some ⟨bo, offo + a * 4, none⟩)), Is ?r8x2, Is (.agg #[.string (str xk), .int .i64 xs, .int .i64 xd]), Is ?r10x2, Is ?r11x2, Is (.pointer (some ⟨b, off + i * 4, none⟩)), Is ?r13x2, Is (.agg #[.string (str c.key), .int .i64 c.seq, .int .i64 c.kind]), Is (.bool true), Is (.bool true)] (by kernel_rfl) (by kernel_rfl) (by kernel_rfl) rfl rfl ⟨Is.stable _, Is.stable _, Is.stable _, Is.stable _, Is.stable _, Is.stable _, Is.stable _, Is.stable _, Is.stable _, Is.stable _, Is.stable _, Is.stable _, Is.stable _, Is.stable _, Is.stable _, Is.stable _, Is.stable _, trivial⟩ ⟨?s0x2, ?s1x2, ?s2x2, ?s3x2, ?s4x2, ?s5x2, ?s6x2, ?s7x2, ?s8x2, ?s9x2, ?s10x2, ?s11x2, ?s12x2, ?s13x2, ?s14x2, ?s15x2, ?s16x2, trivial⟩ ?finx2
                    case' s0x2 | s1x2 | s2x2 | s3x2 | s4x2 | s5x2 | s6x2 | s7x2 | s8x2 | s9x2 | s10x2 | s11x2 | s12x2 | s13x2 | s14x2 | s15x2 | s16x2 =>
                      intro ρ wr hρ hg hK
                      simp [readsOf, slotsOf, Op.operands, Call.operands, tmpOf, List.filterMap_cons, List.filterMap_nil, KnownAll, knownOf, srcOf, depsOf, dstOf, Region.binds, nth, Is] at hK
                      obtain ⟨hc, hf, hgl⟩ := hρ
                      try simp only [wantedBy, dstOf, boolOf, nth, List.getD_cons_zero, List.getD_cons_succ, List.getElem?_cons_zero, List.getElem?_cons_succ, Option.bind_some, if_true, hK, BEq.rfl]
                      try go_simp
                      first | exact rfl | (rw [if_pos (by omega)]; exact is_here rfl) | (rw [dif_pos (by omega)]; exact is_here rfl) | exact congrArg (Value.int _) (IntWalk.i64_in _ ⟨by omega, by omega⟩) | skip
                    case s9x2 => have z0 := hg.cell z0; have z1 := hg.cell z1; have z2 := hg.cell z2; go_simp; exact rfl
                    case s14x2 => have z0 := hg.cell j0; have z1 := hg.cell j1; have z2 := hg.cell j2; go_simp; exact rfl
                    case s15x2 =>
                      split
                      · rename_i q1
                        split
                        · rename_i q2
                          split
                          · rename_i q3
                            exact (HQ.out q1 q2 q3).elim
                          · exact is_here rfl
                        · exact is_here rfl
                      · exact is_here rfl
                    case finx2 =>
                      intro w1 val hg hH
                      simp only [Holds, Is, Nat.zero_add, Nat.reduceAdd] at hH
                      obtain ⟨h0, h1, h2, h3, h4, h5, h6, h7, h8, h9, h10, h11, h12, h13, h14, h15, h16, _⟩ := hH
                      simp only [List.take_succ_cons, List.take_zero, List.drop_succ_cons, List.drop_zero, putAll, h0, h1, h2, h3, h4, h5, h6, h7, h8, h9, h10, h11, h12, h13, h14, h15, h16, Nat.zero_add, Nat.reduceAdd]
                      have HPl := Lib.hid (fun w' (g : Gr W0 w') => Place_any _ capO o c w' (HO1.out.gr g).row HO1.out.2.1 (HO1.out.gr g).had (by omega))
                      unfold c4 at HPl
                      have j0' := hg.cell j0
                      have j1' := hg.cell j1
                      have j2' := hg.cell j2
                      have j3' := hg.cell j3
                      go_simp
                      go_wp2_with (first
                        | (go_at_call 37; go_must (refine (HPl.out _ hg).mono ?_); rintro e w5 ⟨ad5, cap5, rfl, o5, g5⟩)
                        | fail)
                      go_roundw
                      case rel => exact ⟨i + 1, ad5, cap5, by go_num, hlt, hlt2, by rw [HX.out, HA.out], by rw [HX.out, HA.out]; exact o5.base (HG1.out.trans hg).size, (HG1.out.trans hg).trans g5⟩
                      case measure => simp [intOf]; omega
            · have hra : rankI c.vr o = o.length := by rw [HP.out, rankI_end (by omega)]; omega
              have HA := Lib.hid (add_end hra)
              obtain rfl : a = o.length := by omega
              clear hra
              go_wp2
              refine region_any_gr _ [Is (.int .i64 (o.length : Int)), Is ?r1x3, Is (.int .i64 (o.length : Int)), Is (.bool false), Is (.bool false), Is (undef), Is (undef), Is (undef), Is (undef), Is (undef), Is (undef), Is (undef), Is (undef), Is (undef), Is (undef), Is (undef), Is (.bool false)] (by kernel_rfl) (by kernel_rfl) (by kernel_rfl) rfl rfl ⟨Is.stable _, Is.stable _, Is.stable _, Is.stable _, Is.stable _, Is.stable _, Is.stable _, Is.stable _, Is.stable _, Is.stable _, Is.stable _, Is.stable _, Is.stable _, Is.stable _, Is.stable _, Is.stable _, Is.stable _, trivial⟩ ⟨?s0x3, ?s1x3, ?s2x3, ?s3x3, ?s4x3, ?s5x3, ?s6x3, ?s7x3, ?s8x3, ?s9x3, ?s10x3, ?s11x3, ?s12x3, ?s13x3, ?s14x3, ?s15x3, ?s16x3, trivial⟩ ?finx3
              case' s0x3 | s1x3 | s2x3 | s3x3 | s4x3 | s5x3 | s6x3 | s7x3 | s8x3 | s9x3 | s10x3 | s11x3 | s12x3 | s13x3 | s14x3 | s15x3 | s16x3 =>
                intro ρ wr hρ hg hK
                simp [readsOf, slotsOf, Op.operands, Call.operands, tmpOf, List.filterMap_cons, List.filterMap_nil, KnownAll, knownOf, srcOf, depsOf, dstOf, Region.binds, nth, Is] at hK
                obtain ⟨hc, hf, hgl⟩ := hρ
                try simp only [wantedBy, dstOf, boolOf, nth, List.getD_cons_zero, List.getD_cons_succ, List.getElem?_cons_zero, List.getElem?_cons_succ, Option.bind_some, if_true, hK, BEq.rfl]
                try go_simp
                first | exact rfl | (rw [if_pos (by omega)]; exact is_here rfl) | (rw [dif_pos (by omega)]; exact is_here rfl) | exact congrArg (Value.int _) (IntWalk.i64_in _ ⟨by omega, by omega⟩) | skip
              case finx3 =>
                intro w1 val hg hH
                simp only [Holds, Is, Nat.zero_add, Nat.reduceAdd] at hH
                obtain ⟨h0, h1, h2, h3, h4, h5, h6, h7, h8, h9, h10, h11, h12, h13, h14, h15, h16, _⟩ := hH
                simp only [List.take_succ_cons, List.take_zero, List.drop_succ_cons, List.drop_zero, putAll, h0, h1, h2, h3, h4, h5, h6, h7, h8, h9, h10, h11, h12, h13, h14, h15, h16, Nat.zero_add, Nat.reduceAdd]
                have HO1 := Lib.hid (HOw.out.gr hg)
                have HG1 := Lib.hid (HGw.out.trans hg)
                have j0 := hg.cell j0
                have j1 := hg.cell j1
                have j2 := hg.cell j2
                have j3 := hg.cell j3
                clear hg HOw HGw hga
                go_simp
                go_wp2
                generalize w1 = W0 at *
                refine region_any_gr _ [Is (.int .i64 (o.length : Int)), Is ?r1x4, Is (.int .i64 (o.length : Int)), Is (.bool true), Is (.bool true), Is (undef), Is (undef), Is (undef), Is (undef), Is (undef), Is (undef), Is (undef), Is (undef), Is (undef), Is (undef), Is (undef), Is (.bool true)] (by kernel_rfl) (by kernel_rfl) (by kernel_rfl) rfl rfl ⟨Is.stable _, Is.stable _, Is.stable _, Is.stable _, Is.stable _, Is.stable _, Is.stable _, Is.stable _, Is.stable _, Is.stable _, Is.stable _, Is.stable _, Is.stable _, Is.stable _, Is.stable _, Is.stable _, Is.stable _, trivial⟩ ⟨?s0x4, ?s1x4, ?s2x4, ?s3x4, ?s4x4, ?s5x4, ?s6x4, ?s7x4, ?s8x4, ?s9x4, ?s10x4, ?s11x4, ?s12x4, ?s13x4, ?s14x4, ?s15x4, ?s16x4, trivial⟩ ?finx4
                case' s0x4 | s1x4 | s2x4 | s3x4 | s4x4 | s5x4 | s6x4 | s7x4 | s8x4 | s9x4 | s10x4 | s11x4 | s12x4 | s13x4 | s14x4 | s15x4 | s16x4 =>
                  intro ρ wr hρ hg hK
                  simp [readsOf, slotsOf, Op.operands, Call.operands, tmpOf, List.filterMap_cons, List.filterMap_nil, KnownAll, knownOf, srcOf, depsOf, dstOf, Region.binds, nth, Is] at hK
                  obtain ⟨hc, hf, hgl⟩ := hρ
                  try simp only [wantedBy, dstOf, boolOf, nth, List.getD_cons_zero, List.getD_cons_succ, List.getElem?_cons_zero, List.getElem?_cons_succ, Option.bind_some, if_true, hK, BEq.rfl]
                  try go_simp
                  first | exact rfl | (rw [if_pos (by omega)]; exact is_here rfl) | (rw [dif_pos (by omega)]; exact is_here rfl) | exact congrArg (Value.int _) (IntWalk.i64_in _ ⟨by omega, by omega⟩) | skip
                case finx4 =>
                  intro w1 val hg hH
                  simp only [Holds, Is, Nat.zero_add, Nat.reduceAdd] at hH
                  obtain ⟨h0, h1, h2, h3, h4, h5, h6, h7, h8, h9, h10, h11, h12, h13, h14, h15, h16, _⟩ := hH
                  simp only [List.take_succ_cons, List.take_zero, List.drop_succ_cons, List.drop_zero, putAll, h0, h1, h2, h3, h4, h5, h6, h7, h8, h9, h10, h11, h12, h13, h14, h15, h16, Nat.zero_add, Nat.reduceAdd]
                  have HPl := Lib.hid (fun w' (g : Gr W0 w') => Place_any _ capO o c w' (HO1.out.gr g).row HO1.out.2.1 (HO1.out.gr g).had (by omega))
                  unfold c4 at HPl
                  have j0' := hg.cell j0
                  have j1' := hg.cell j1
                  have j2' := hg.cell j2
                  have j3' := hg.cell j3
                  go_simp
                  go_wp2_with (first
                    | (go_at_call 37; go_must (refine (HPl.out _ hg).mono ?_); rintro e w5 ⟨ad5, cap5, rfl, o5, g5⟩)
                    | fail)
                  go_roundw
                  case rel => exact ⟨i + 1, ad5, cap5, by go_num, hlt, hlt2, by rw [HX.out, HA.out], by rw [HX.out, HA.out]; exact o5.base (HG1.out.trans hg).size, (HG1.out.trans hg).trans g5⟩
                  case measure => simp [intOf]; omega
    · have hx : l.length ≤ i ∨ (i < l.length ∧ 50 ≤ i) := by omega
      have he : gatherN okT l (min l.length 50) = gatherN okT l i := by
        congr 1; omega
      have HE := Lib.hid he
      have HO := Lib.hid hO
      have HG := Lib.hid hG
      clear he hO hG HR HVL
      rcases hx with hx | ⟨hx, hx2⟩
      all_goals
        go_wp2
        go_ret
        exact ⟨adO, capO, by rw [HE.out]; rfl, by rw [HE.out]; exact HO.out, HG.out⟩
end Go.Proofs.YtpaogoehgkoaeaaGreatDoor
namespace Go.Proofs.YtpaogoehgkoaeaaGreatDoor
set_option linter.unusedVariables false
set_option linter.unusedSimpArgs false
open Go.RowKit Varint
theorem put300 : putF 300 = [172, 2] := by decide +kernel
set_option maxRecDepth 100000 in
theorem awake_any (w : World) : Calls Tryz.prog 6 #[] w fun e w' => e = .returned (.bool true) ∧ Gr w w' := by
  have HP := Lib.hid (Put_any 300 w (by decide))
  rw [put300] at HP
  go_enter Tryz.func6, Tryz.ntmps6
  go_wp2_with (first
    | (go_at_call 34; go_must (refine HP.out.mono ?_); rintro e w2 ⟨ad2, cp2, rfl, o2, g2⟩
       have hs := run_string (P := Tryz.prog) Tryz.underlying31 Tryz.underlying5 Tryz.underlying9 (len := 2) (cap := cp2) (l := [172, 2]) rfl o2.bytes)
    | fail)
  go_ret
  exact ⟨rfl, g2⟩
end Go.Proofs.YtpaogoehgkoaeaaGreatDoor
