/- Layer 1 (region): a piece of a region, walked: the other cases. -/
import Derived.Test.YtfnimpgphagnfaaRegionPiece
namespace Go.Proofs.Ytfnimpgphagnfaa
set_option linter.unusedVariables false
set_option linter.unusedSimpArgs false
open Go.RowKit
set_option maxRecDepth 100000 in
set_option maxHeartbeats 4000000 in
theorem piece_e5 (w : World) (S : Nat → Prop) (g : Nat) (p : PoolF) (ads adt : Option Addr) (cs ct : Nat) (A : Nat → Option Addr) (C bd : Nat → Nat) (i : Nat) (hx : PX w S g p ads cs adt ct A C bd) (hl : landF p (i : Int) = some i) (hi : i < 256) (hs1 : 64 ≤ p.size) (hs2 : p.size ≤ 65536) (hfm : (landAt p i).fill ≤ 268435456) (o l : Nat) (hb0 : 1 ≤ l) (hb1 : o ≤ (landAt p i).fill) (hb : l ≤ (landAt p i).fill - o) (hk2 : o % p.size + l > p.size) :
    Calls Try.prog 36 #[.pointer (some ⟨g, 0, none⟩), .agg #[.int .i64 (i : Int), .int .i64 ((landAt p i).gen : Int), .int .i64 (o : Int), .int .i64 (l : Int)]] w fun e w' => e = .returned (.tuple #[.slice none 0 0, .int .i64 1]) ∧ Gr w w' := by
  have HLA := Lib.hid (fun w' (k : Gr w w') => land_any w' S g p (i : Int) ⟨ads, cs, adt, ct, A, C, bd, hx.gr k⟩)
  rw [hl] at HLA
  have hx1 := hx.gr (Gr.alloc w (.cells #[.int .i64 (i : Int), .int .i64 ((landAt p i).gen : Int), .int .i64 (o : Int), .int .i64 (l : Int)] 33))
  obtain ⟨c0, c1, _⟩ := hx1.head
  obtain ⟨_, l1, l2, l3⟩ := hx1.lcell hi
  obtain ⟨h0, h1, h2, h3, _⟩ := Blk.four (Blk.new w 33 #[.int .i64 (i : Int), .int .i64 ((landAt p i).gen : Int), .int .i64 (o : Int), .int .i64 (l : Int)])
  have k1 : decide ((l : Int) < 1) = false := decide_eq_false (by omega)
  have k2 : decide ((o : Int) < 0) = false := decide_eq_false (by omega)
  have k3 : decide (((landAt p i).fill : Int) < (o : Int)) = false := decide_eq_false (by omega)
  have k4 : decide ((landAt p i).fill < o) = false := decide_eq_false (by omega)
  obtain ⟨q, hq⟩ : ∃ q, q = (landAt p i).fill - o := ⟨_, rfl⟩
  have hqi : ((landAt p i).fill : Int) - (o : Int) = (q : Int) := by omega
  have k5 : decide ((q : Int) < (l : Int)) = false := decide_eq_false (by omega)
  have k6 : decide (q < l) = false := decide_eq_false (by omega)
  obtain ⟨k, hk⟩ : ∃ k, k = o % p.size := ⟨_, rfl⟩
  have hkt : (o : Int).tmod (p.size : Int) = (k : Int) := by rw [hk]; rfl
  have hkl : k < p.size := by rw [hk]; exact Nat.mod_lt _ (by omega)
  rw [← hk] at hk2
  have hz : ((p.size : Int) == 0) = false := beq_eq_false_iff_ne.2 (by omega)
  clear hk
  clear hq
  clear hx1
  clear hx hl
  go_enter Try.func36, Try.ntmps36
  go_wp2_with (first
    | (go_at_call 34; refine (HLA.out _ (Gr.alloc _ _)).mono ?_; rintro e w1 ⟨rfl, rfl⟩)
    | fail)
  go_quiet (fail)
  have gV : Gr (w.alloc (.cells #[.int .i64 (i : Int), .int .i64 ((landAt p i).gen : Int), .int .i64 (o : Int), .int .i64 (l : Int)] 33)) ((w.alloc (.cells #[.int .i64 (i : Int), .int .i64 ((landAt p i).gen : Int), .int .i64 (o : Int), .int .i64 (l : Int)] 33)).drewN nq) := Gr.drewN _ nq
  have c0a := gV.cell c0
  have c1a := gV.cell c1
  have l1a := gV.cell l1
  have l2a := gV.cell l2
  have l3a := gV.cell l3
  have h1a := gV.cell h1
  have h2a := gV.cell h2
  have h3a := gV.cell h3

  have GW : Gr w ((w.alloc (.cells #[.int .i64 (i : Int), .int .i64 ((landAt p i).gen : Int), .int .i64 (o : Int), .int .i64 (l : Int)] 33)).drewN nq) := (Gr.alloc w _).trans gV
  clear gV c0 c1 l1 l2 l3 h0 h1 h2 h3
  generalize (w.alloc (.cells #[.int .i64 (i : Int), .int .i64 ((landAt p i).gen : Int), .int .i64 (o : Int), .int .i64 (l : Int)] 33)).drewN nq = V at *
  go_wp2
  clear c1a l1a l2a
  go_quiet (fail)
  go_wp2
  go_quiet (fail)
  go_wp2
  go_quiet (fail)
  go_wp2
  go_ret2
  exact ⟨rfl, ((GW.trans (Gr.drewN _ _)).trans (Gr.drewN _ _)).trans (Gr.drewN _ _)⟩

set_option maxRecDepth 100000 in
set_option maxHeartbeats 4000000 in
theorem piece_ok (w : World) (S : Nat → Prop) (g : Nat) (p : PoolF) (ads adt : Option Addr) (cs ct : Nat) (A : Nat → Option Addr) (C bd : Nat → Nat) (i : Nat) (hx : PX w S g p ads cs adt ct A C bd) (hl : landF p (i : Int) = some i) (hi : i < 256) (hs1 : 64 ≤ p.size) (hs2 : p.size ≤ 65536) (hfm : (landAt p i).fill ≤ 268435456) (o l : Nat) (hb0 : 1 ≤ l) (hb1 : o ≤ (landAt p i).fill) (hb : l ≤ (landAt p i).fill - o) (hk2 : ¬ o % p.size + l > p.size) (s : Nat) (hdl : o / p.size < (landAt p i).slabs.length) (hs : (landAt p i).slabs[o / p.size]? = some s) (hsb : s < p.bytes.length) (hnl : p.bytes.length ≤ 4096) (hln : (landAt p i).slabs.length ≤ 4096) :
    Calls Try.prog 36 #[.pointer (some ⟨g, 0, none⟩), .agg #[.int .i64 (i : Int), .int .i64 ((landAt p i).gen : Int), .int .i64 (o : Int), .int .i64 (l : Int)]] w fun e w' => e = .returned (.tuple #[.slice (some ⟨bd s, o % p.size, none⟩) l (p.size - o % p.size), .int .i64 0]) ∧ Gr w w' := by
  have HLA := Lib.hid (fun w' (k : Gr w w') => land_any w' S g p (i : Int) ⟨ads, cs, adt, ct, A, C, bd, hx.gr k⟩)
  rw [hl] at HLA
  have hx1 := hx.gr (Gr.alloc w (.cells #[.int .i64 (i : Int), .int .i64 ((landAt p i).gen : Int), .int .i64 (o : Int), .int .i64 (l : Int)] 33))
  obtain ⟨c0, c1, _⟩ := hx1.head
  obtain ⟨_, l1, l2, l3⟩ := hx1.lcell hi
  obtain ⟨h0, h1, h2, h3, _⟩ := Blk.four (Blk.new w 33 #[.int .i64 (i : Int), .int .i64 ((landAt p i).gen : Int), .int .i64 (o : Int), .int .i64 (l : Int)])
  have k1 : decide ((l : Int) < 1) = false := decide_eq_false (by omega)
  have k2 : decide ((o : Int) < 0) = false := decide_eq_false (by omega)
  have k3 : decide (((landAt p i).fill : Int) < (o : Int)) = false := decide_eq_false (by omega)
  have k4 : decide ((landAt p i).fill < o) = false := decide_eq_false (by omega)
  obtain ⟨q, hq⟩ : ∃ q, q = (landAt p i).fill - o := ⟨_, rfl⟩
  have hqi : ((landAt p i).fill : Int) - (o : Int) = (q : Int) := by omega
  have k5 : decide ((q : Int) < (l : Int)) = false := decide_eq_false (by omega)
  have k6 : decide (q < l) = false := decide_eq_false (by omega)
  obtain ⟨k, hk⟩ : ∃ k, k = o % p.size := ⟨_, rfl⟩
  have hkt : (o : Int).tmod (p.size : Int) = (k : Int) := by rw [hk]; rfl
  have hkl : k < p.size := by rw [hk]; exact Nat.mod_lt _ (by omega)
  obtain ⟨d, hd⟩ : ∃ d, d = o / p.size := ⟨_, rfl⟩
  have hdt : (o : Int).tdiv (p.size : Int) = (d : Int) := by rw [hd]; rfl
  rw [← hk] at hk2 ⊢
  rw [← hd] at hdl hs
  have hz : ((p.size : Int) == 0) = false := beq_eq_false_iff_ne.2 (by omega)
  obtain ⟨ba, hba, _, za⟩ := (hx1.land i hi).at (iv_get _ d s hs)
  obtain ⟨br, hbr, _, zr⟩ := hx1.row.at (slabV_get (bd := bd) (size := p.size) hsb)
  rw [hba] at l2
  rw [hbr] at c1
  have hk3 : k + l ≤ p.size := by omega
  clear hk hd hs hk2
  clear hq
  clear hx1
  clear hx hl
  go_enter Try.func36, Try.ntmps36
  go_wp2_with (first
    | (go_at_call 34; refine (HLA.out _ (Gr.alloc _ _)).mono ?_; rintro e w1 ⟨rfl, rfl⟩)
    | fail)
  go_quiet (fail)
  have gV : Gr (w.alloc (.cells #[.int .i64 (i : Int), .int .i64 ((landAt p i).gen : Int), .int .i64 (o : Int), .int .i64 (l : Int)] 33)) ((w.alloc (.cells #[.int .i64 (i : Int), .int .i64 ((landAt p i).gen : Int), .int .i64 (o : Int), .int .i64 (l : Int)] 33)).drewN nq) := Gr.drewN _ nq
  have c0a := gV.cell c0
  have c1a := gV.cell c1
  have l1a := gV.cell l1
  have l2a := gV.cell l2
  have l3a := gV.cell l3
  have h1a := gV.cell h1
  have h2a := gV.cell h2
  have h3a := gV.cell h3

  have zaa := gV.cell za
  have zra := gV.cell zr
  have GW : Gr w ((w.alloc (.cells #[.int .i64 (i : Int), .int .i64 ((landAt p i).gen : Int), .int .i64 (o : Int), .int .i64 (l : Int)] 33)).drewN nq) := (Gr.alloc w _).trans gV
  clear gV za zr c0 c1 l1 l2 l3 h0 h1 h2 h3
  generalize (w.alloc (.cells #[.int .i64 (i : Int), .int .i64 ((landAt p i).gen : Int), .int .i64 (o : Int), .int .i64 (l : Int)] 33)).drewN nq = V at *
  go_wp2
  clear l1a
  go_quiet (fail)
  go_wp2
  go_quiet (fail)
  go_wp2
  go_quiet (fail)
  go_wp2
  go_quiet (fail)
  go_wp2
  go_ret2
  refine ⟨?_, (((GW.trans (Gr.drewN _ _)).trans (Gr.drewN _ _)).trans (Gr.drewN _ _)).trans (Gr.drewN _ _)⟩
  show Ending.returned (.tuple #[.slice (some ⟨bd s, k, none⟩) (k + l - k) (p.size - k), .int .i64 0]) = _
  rw [Nat.add_sub_cancel_left]

def pieceV (bd : Nat → Nat) (p : PoolF) (h : Hd) : Value := match pieceF p h with
  | ((s, k), 0) => .tuple #[.slice (some ⟨bd s, k, none⟩) h.len.toNat (p.size - k), .int .i64 0]
  | (_, e) => .tuple #[.slice none 0 0, .int .i64 (e : Int)]
set_option maxRecDepth 100000 in
set_option maxHeartbeats 4000000 in
theorem piece_n (w : World) (S : Nat → Prop) (g : Nat) (p : PoolF) (r gn of ln : Int) (h : PoolAt w S g p) (hl : landF p r = none) :
    Calls Try.prog 36 #[.pointer (some ⟨g, 0, none⟩), .agg #[.int .i64 r, .int .i64 gn, .int .i64 of, .int .i64 ln]] w fun e w' => e = .returned (.tuple #[.slice none 0 0, .int .i64 3]) ∧ Gr w w' := by
  have HLA := Lib.hid (fun w' (k : Gr w w') => land_any w' S g p r (h.gr k))
  rw [hl] at HLA
  clear h hl
  go_enter Try.func36, Try.ntmps36
  go_wp2_with (first
    | (go_at_call 34; refine (HLA.out _ (Gr.alloc _ _)).mono ?_; rintro e w1 ⟨rfl, rfl⟩)
    | fail)
  go_quiet (fail)
  go_wp2
  go_ret2
  exact ⟨rfl, (Gr.alloc _ _).trans (Gr.drewN _ _)⟩
set_option maxRecDepth 100000 in
set_option maxHeartbeats 4000000 in
theorem piece_g (w : World) (S : Nat → Prop) (g : Nat) (p : PoolF) (i : Nat) (gn of ln : Int) (h : PoolAt w S g p) (hl : landF p (i : Int) = some i) (hi : i < 256) (hg : ((landAt p i).gen : Int) ≠ gn) :
    Calls Try.prog 36 #[.pointer (some ⟨g, 0, none⟩), .agg #[.int .i64 (i : Int), .int .i64 gn, .int .i64 of, .int .i64 ln]] w fun e w' => e = .returned (.tuple #[.slice none 0 0, .int .i64 3]) ∧ Gr w w' := by
  have HLA := Lib.hid (fun w' (k : Gr w w') => land_any w' S g p (i : Int) (h.gr k))
  rw [hl] at HLA
  obtain ⟨ads, cs, adt, ct, A, C, bd, hx⟩ := h
  have hx1 := hx.gr (Gr.alloc w (.cells #[.int .i64 (i : Int), .int .i64 gn, .int .i64 of, .int .i64 ln] 33))
  obtain ⟨_, l1, _, _⟩ := hx1.lcell hi
  have hz : (((landAt p i).gen : Int) != gn) = true := by simpa using hg
  clear hx hx1 hl hg
  go_enter Try.func36, Try.ntmps36
  go_wp2_with (first
    | (go_at_call 34; refine (HLA.out _ (Gr.alloc _ _)).mono ?_; rintro e w1 ⟨rfl, rfl⟩)
    | fail)
  go_quiet (fail)
  go_wp2
  go_ret2
  exact ⟨rfl, (Gr.alloc _ _).trans (Gr.drewN _ _)⟩
theorem pieceV_err {bd : Nat → Nat} {p : PoolF} {h : Hd} {x : Nat × Nat} {e : Nat} (hp : pieceF p h = (x, e + 1)) : pieceV bd p h = .tuple #[.slice none 0 0, .int .i64 ((e + 1 : Nat) : Int)] := by unfold pieceV; rw [hp]; rfl
theorem pieceV_ok {bd : Nat → Nat} {p : PoolF} {h : Hd} {s k : Nat} (hp : pieceF p h = ((s, k), 0)) : pieceV bd p h = .tuple #[.slice (some ⟨bd s, k, none⟩) h.len.toNat (p.size - k), .int .i64 0] := by unfold pieceV; rw [hp]; rfl
theorem piece_any (w : World) (S : Nat → Prop) (g : Nat) (p : PoolF) (ads adt : Option Addr) (cs ct : Nat) (A : Nat → Option Addr) (C bd : Nat → Nat) (hd : Hd) (hx : PX w S g p ads cs adt ct A C bd) (hp : PoolOk p) :
    Calls Try.prog 36 #[.pointer (some ⟨g, 0, none⟩), hdv hd] w fun e w' => e = .returned (pieceV bd p hd) ∧ Gr w w' := by
  obtain ⟨r, gn, of, ln⟩ := hd
  have hpa : PoolAt w S g p := ⟨ads, cs, adt, ct, A, C, bd, hx⟩
  have hs1 := hp.s1
  have hs2 := hp.s2
  show Calls Try.prog 36 #[.pointer (some ⟨g, 0, none⟩), .agg #[.int .i64 r, .int .i64 gn, .int .i64 of, .int .i64 ln]] w _
  cases hl : landF p r with
  | none =>
    have he : pieceF p ⟨r, gn, of, ln⟩ = ((0, 0), 2 + 1) := by unfold pieceF; rw [hl]
    rw [pieceV_err he]
    exact piece_n w S g p r gn of ln hpa hl
  | some i =>
    obtain ⟨rfl, hi, hth⟩ := landF_some hl
    by_cases hgn : ((landAt p i).gen : Int) = gn
    · subst hgn
      have hlk := hp.ld i hi
      have hfm : (landAt p i).fill ≤ 268435456 := Nat.le_trans hlk.fill_le (hlk.cap hp)
      have hfl := hlk.fill_le
      have h0 : pieceF p ⟨(i : Int), ((landAt p i).gen : Int), of, ln⟩ = if ln < 1 ∨ of < 0 ∨ of > ((landAt p i).fill : Int) ∨ ln > ((landAt p i).fill : Int) - of then ((0, 0), 0 + 1)
          else if of.toNat % p.size + ln.toNat > p.size then ((0, 0), 0 + 1) else (((landAt p i).slabs.getD (of.toNat / p.size) 0, of.toNat % p.size), 0) := by
        unfold pieceF; rw [hl]; simp only; rw [if_neg (by simp)]
      by_cases b1 : ln < 1
      · rw [if_pos (.inl b1)] at h0
        rw [pieceV_err h0]
        exact piece_e1 w S g p ads adt cs ct A C bd i hx hl hi hs1 hs2 hfm of ln b1
      · by_cases b2 : of < 0
        · rw [if_pos (.inr (.inl b2))] at h0
          rw [pieceV_err h0]
          exact piece_e2 w S g p ads adt cs ct A C bd i hx hl hi hs1 hs2 hfm of ln b1 b2
        · obtain ⟨o, rfl⟩ : ∃ o : Nat, of = (o : Int) := ⟨of.toNat, by omega⟩
          obtain ⟨l, rfl⟩ : ∃ l : Nat, ln = (l : Int) := ⟨ln.toNat, by omega⟩
          by_cases b3 : o > (landAt p i).fill
          · rw [if_pos (.inr (.inr (.inl (by omega))))] at h0
            rw [pieceV_err h0]
            exact piece_e3 w S g p ads adt cs ct A C bd i hx hl hi hs1 hs2 hfm o l (by omega) b3
          · by_cases b4 : l > (landAt p i).fill - o
            · rw [if_pos (.inr (.inr (.inr (by omega))))] at h0
              rw [pieceV_err h0]
              exact piece_e4 w S g p ads adt cs ct A C bd i hx hl hi hs1 hs2 hfm o l (by omega) (by omega) b4
            · rw [if_neg (by omega), Int.toNat_natCast, Int.toNat_natCast] at h0
              by_cases b5 : o % p.size + l > p.size
              · rw [if_pos b5] at h0
                rw [pieceV_err h0]
                exact piece_e5 w S g p ads adt cs ct A C bd i hx hl hi hs1 hs2 hfm o l (by omega) (by omega) (by omega) b5
              · rw [if_neg b5] at h0
                have hdl : o / p.size < (landAt p i).slabs.length := by
                  rw [Nat.div_lt_iff_lt_mul (by omega)]; omega
                have hs : (landAt p i).slabs[o / p.size]? = some ((landAt p i).slabs.getD (o / p.size) 0) := by
                  rw [List.getD_eq_getElem?_getD, List.getElem?_eq_getElem hdl]; rfl
                rw [pieceV_ok h0]
                exact piece_ok w S g p ads adt cs ct A C bd i hx hl hi hs1 hs2 hfm o l (by omega) (by omega) (by omega) b5 _ hdl hs (hlk.lt _ (List.mem_of_getElem? hs)) hp.n2 (Nat.le_trans hlk.len hp.n2)
    · have he : pieceF p ⟨(i : Int), gn, of, ln⟩ = ((0, 0), 2 + 1) := by unfold pieceF; rw [hl]; simp only; rw [if_pos hgn]
      rw [pieceV_err he]
      exact piece_g w S g p i gn of ln hpa hl hi hgn
end Go.Proofs.Ytfnimpgphagnfaa
