/- Layer 1 (region): Alloc walked, of what is in order. -/
import Derived.Test.YtfnimpgphagnfaaRegionGrow
import Derived.Test.YtfnimpgphagnfaaRegionBits
namespace Go.Proofs.Ytfnimpgphagnfaa
set_option linter.unusedVariables false
set_option linter.unusedSimpArgs false
open Go.RowKit
theorem Blk.set4 {w : World} {g : Nat} {t : TypeId} {a b c d : Value} (h : Blk w g t [a, b, c, d]) (a' b' c' d' : Value) :
    Blk ((((w.setCell ⟨g, 0, none⟩ a').setCell ⟨g, 1, none⟩ b').setCell ⟨g, 2, none⟩ c').setCell ⟨g, 3, none⟩ d') g t [a', b', c', d'] := (((h.set_ 0 a').set_ 1 b').set_ 2 c').set_ 3 d'
theorem grown_set4 (w : World) (g : Nat) (a b c d : Value) : w.grownBy ((((w.setCell ⟨g, 0, none⟩ a).setCell ⟨g, 1, none⟩ b).setCell ⟨g, 2, none⟩ c).setCell ⟨g, 3, none⟩ d) (some g) :=
  grown_trans (grown_trans (grown_trans (grown_set _ _ _ _) (grown_set _ _ _ _)) (grown_set _ _ _ _)) (grown_set _ _ _ _)
set_option maxRecDepth 100000 in
set_option maxHeartbeats 4000000 in
theorem Alloc_good (w : World) (S : Nat → Prop) (g : Nat) (p : PoolF) (i : Nat) (n a : Int) (h : PoolAt w S g p) (hp : PoolOk p) (hl : landF p (i : Int) = some i) (h1 : ¬ n < 1) (h2 : ¬ n > (p.size : Int)) (h3 : ¬ a < 1) (h4 : ¬ a > 64) (e5 : bits .and .i64 a (a - 1) = 0) (hk : alignOk a = true) :
    Calls Try.prog 13 #[.pointer (some ⟨g, 0, none⟩), .int .i64 (i : Int), .int .i64 n, .int .i64 a] w fun e w' => e = .returned (.tuple #[hdv (allocF p (i : Int) n a).1, .int .i64 ((allocF p (i : Int) n a).2.1 : Int)]) ∧ ∃ S', Moved S g (allocF p (i : Int) n a).2.2 w w' S' := by
  have HP := Lib.hid h
  have HLA := Lib.hid (fun w' (k : Gr w w') => land_any w' S g p (i : Int) (h.gr k))
  have HOK := Lib.hid hp
  rw [hl] at HLA
  obtain ⟨_, hi, hth⟩ := landF_some hl
  obtain ⟨ads, cs, adt, ct, A, C, bd, hx⟩ := h
  have hlk := hp.ld i hi
  have hsz1 := hp.s1
  have hsz2 := hp.s2
  have hcap := hlk.cap hp
  have hfl := hlk.fill_le
  have hlen := Nat.le_trans hlk.len hp.n2
  have hfil := hlk.fill
  have hx1 := hx.gr (Gr.alloc w (.cells #[.int .i64 0, .int .i64 0, .int .i64 0, .int .i64 0] 33))
  obtain ⟨c0, _, _⟩ := hx1.head
  obtain ⟨_, l1, l2, l3⟩ := hx1.lcell hi
  have HX := Lib.hid hx
  obtain ⟨nn, rfl⟩ : ∃ nn : Nat, n = (nn : Int) := ⟨n.toNat, by omega⟩
  obtain ⟨m, hm⟩ : ∃ m, m = (landAt p i).slabs.length * p.size := ⟨_, rfl⟩
  have hmi : ((landAt p i).slabs.length : Int) * (p.size : Int) = (m : Int) := by rw [hm]; simp
  have hw : IntKind.i64.wrap (m : Int) = (m : Int) := by rw [IntKind.wrap_i64]; omega
  obtain ⟨t, ht⟩ : ∃ t, t = p.size - (m - (landAt p i).fill) := ⟨_, rfl⟩
  have hmf : m ≤ (landAt p i).fill + p.size := by
    rcases hfil with ⟨q1, q2⟩ | ⟨q1, q2, q3⟩
    · rw [hm, q1]; simp
    · have hpos : 0 < (landAt p i).slabs.length := by
        cases hsl : (landAt p i).slabs with
        | nil => exact absurd hsl q1
        | cons _ _ => simp
      rw [hm]
      obtain ⟨k, hk⟩ : ∃ k, (landAt p i).slabs.length = k + 1 := ⟨(landAt p i).slabs.length - 1, by omega⟩
      rw [hk] at q2 ⊢
      rw [Nat.add_mul]
      simp only [Nat.add_sub_cancel] at q2
      omega
  have hti : (p.size : Int) - ((m : Int) - ((landAt p i).fill : Int)) = (t : Int) := by rw [ht]; rw [← hm] at hfl; omega
  have htl : t ≤ 65536 := by omega
  obtain ⟨u, hu⟩ : ∃ u, u = upTo t a.toNat := ⟨_, rfl⟩
  have hui : bits .andNot .i64 ((t : Int) + a - 1) (a - 1) = (u : Int) := by rw [hu]; exact align_up hk (by omega)
  have hub := upTo_bounds (x := t) (a := a.toNat) (by omega)
  rw [← hu] at hub
  have hul : u ≤ 65600 := by omega
  rw [← hm] at hfl hcap
  have HIN := Lib.hid (show inF p i = t by unfold inF; rw [ht, hm])
  have HU := Lib.hid (show upTo (inF p i) a.toNat = u by rw [HIN.out, hu])
  have HM := Lib.hid hm
  have hnb : ¬ ((nn : Int) < 1 ∨ (nn : Int) > (p.size : Int) ∨ alignOk a = false) := by rw [hk]; simp; omega
  have HE := Lib.hid (show allocF p (i : Int) (nn : Int) a = if (landAt p i).slabs = [] ∨ p.size < u + nn then (match idleF p with
      | none => (noHd, 5, p)
      | some s => (⟨(i : Int), ((landAt p i).gen : Int), (m : Int), (nn : Int)⟩, 0, fillAt (growAt p i s) i (m + nn)))
    else (⟨(i : Int), ((landAt p i).gen : Int), ((((landAt p i).slabs.length - 1) * p.size + u : Nat) : Int), (nn : Int)⟩, 0, fillAt p i (((landAt p i).slabs.length - 1) * p.size + u + nn)) by
    unfold allocF; rw [hl]; simp only; rw [if_neg hnb, HU.out, Int.toNat_natCast, ← hm] <;> rfl)
  have HFIL := Lib.hid hfil
  have HLK := Lib.hid hlk
  clear hm ht hu hub hnb hfil hlk hx hx1 hp hl hk hmf
  by_cases hgr : (landAt p i).slabs = [] ∨ p.size < u + nn
  · rw [if_pos hgr] at HE
    have hgr2 : (landAt p i).slabs.length = 0 ∨ p.size < u + nn := by
      rcases hgr with h5 | h5
      · exact .inl (by rw [h5]; rfl)
      · exact .inr h5
    clear hgr
    have HGR := Lib.hid (fun w' h' => grow_any w' S g p i hi h' HOK.out)
    cases hid : idleF p with
    | none =>
      rw [hid] at HGR HE
      clear hid
      rcases hgr2 with h6 | h6
      · go_enter Try.func13, Try.ntmps13
        go_wp2_with (first
          | (go_at_call 34; refine (HLA.out _ (Gr.alloc _ _)).mono ?_; rintro e w1 ⟨rfl, rfl⟩)
          | fail)
        go_quiet (fail)
        have gV : Gr (w.alloc (.cells #[.int .i64 0, .int .i64 0, .int .i64 0, .int .i64 0] 33)) ((w.alloc (.cells #[.int .i64 0, .int .i64 0, .int .i64 0, .int .i64 0] 33)).drewN nq) := Gr.drewN _ nq
        have c0a := gV.cell c0
        have l1a := gV.cell l1
        have l2a := gV.cell l2
        have l3a := gV.cell l3
        have bVa := (Blk.new w 33 #[.int .i64 0, .int .i64 0, .int .i64 0, .int .i64 0]).gr gV
        have gWa : Gr w ((w.alloc (.cells #[.int .i64 0, .int .i64 0, .int .i64 0, .int .i64 0] 33)).drewN nq) := (Gr.alloc w _).trans gV
        clear gV c0 l1 l2 l3
        generalize (w.alloc (.cells #[.int .i64 0, .int .i64 0, .int .i64 0, .int .i64 0] 33)).drewN nq = V at *
        go_wp2
        go_quiet (fail)
        have gV : Gr V (V.drewN nq) := Gr.drewN V nq
        have c0 := gV.cell c0a
        have l1 := gV.cell l1a
        have l2 := gV.cell l2a
        have l3 := gV.cell l3a
        have bV := bVa.gr gV
        have gW := gWa.trans gV
        clear gV c0a l1a l2a l3a bVa gWa
        generalize V.drewN nq = W at *
        clear hmi hw
        obtain ⟨d0, d1, d2, d3, f0, f1, f2, f3⟩ := Blk.four bV
        go_wp2_with (first
          | (go_at_call 35; refine (HGR.out _ (HP.out.gr gW)).mono ?_; rintro e w1 ⟨rfl, rfl⟩)
          | fail)
        obtain ⟨e0, e1, e2, e3, _⟩ := Blk.four (bV.set4 (.int .i64 0) (.int .i64 0) (.int .i64 0) (.int .i64 0))
        refine bodyPost_ret (v := .tuple #[.agg #[.int .i64 0, .int .i64 0, .int .i64 0, .int .i64 0], .int .i64 5]) (by simp [results, Try.results13, go_sem, e0, e1, e2, e3]) rfl ?_
        rw [HE.out]
        exact ⟨rfl, S, (Moved.refl HP.out).gr (Gr.of_far gW (grown_set4 _ _ _ _ _ _) (Nat.le_refl _))⟩
      · by_cases h7 : (landAt p i).slabs.length = 0
        · clear h6
          go_enter Try.func13, Try.ntmps13
          go_wp2_with (first
            | (go_at_call 34; refine (HLA.out _ (Gr.alloc _ _)).mono ?_; rintro e w1 ⟨rfl, rfl⟩)
            | fail)
          go_quiet (fail)
          have gV : Gr (w.alloc (.cells #[.int .i64 0, .int .i64 0, .int .i64 0, .int .i64 0] 33)) ((w.alloc (.cells #[.int .i64 0, .int .i64 0, .int .i64 0, .int .i64 0] 33)).drewN nq) := Gr.drewN _ nq
          have c0a := gV.cell c0
          have l1a := gV.cell l1
          have l2a := gV.cell l2
          have l3a := gV.cell l3
          have bVa := (Blk.new w 33 #[.int .i64 0, .int .i64 0, .int .i64 0, .int .i64 0]).gr gV
          have gWa : Gr w ((w.alloc (.cells #[.int .i64 0, .int .i64 0, .int .i64 0, .int .i64 0] 33)).drewN nq) := (Gr.alloc w _).trans gV
          clear gV c0 l1 l2 l3
          generalize (w.alloc (.cells #[.int .i64 0, .int .i64 0, .int .i64 0, .int .i64 0] 33)).drewN nq = V at *
          go_wp2
          go_quiet (fail)
          have gV : Gr V (V.drewN nq) := Gr.drewN V nq
          have c0 := gV.cell c0a
          have l1 := gV.cell l1a
          have l2 := gV.cell l2a
          have l3 := gV.cell l3a
          have bV := bVa.gr gV
          have gW := gWa.trans gV
          clear gV c0a l1a l2a l3a bVa gWa
          generalize V.drewN nq = W at *
          clear hmi hw
          obtain ⟨d0, d1, d2, d3, f0, f1, f2, f3⟩ := Blk.four bV
          go_wp2_with (first
            | (go_at_call 35; refine (HGR.out _ (HP.out.gr gW)).mono ?_; rintro e w1 ⟨rfl, rfl⟩)
            | fail)
          obtain ⟨e0, e1, e2, e3, _⟩ := Blk.four (bV.set4 (.int .i64 0) (.int .i64 0) (.int .i64 0) (.int .i64 0))
          refine bodyPost_ret (v := .tuple #[.agg #[.int .i64 0, .int .i64 0, .int .i64 0, .int .i64 0], .int .i64 5]) (by simp [results, Try.results13, go_sem, e0, e1, e2, e3]) rfl ?_
          rw [HE.out]
          exact ⟨rfl, S, (Moved.refl HP.out).gr (Gr.of_far gW (grown_set4 _ _ _ _ _ _) (Nat.le_refl _))⟩
        · go_enter Try.func13, Try.ntmps13
          go_wp2_with (first
            | (go_at_call 34; refine (HLA.out _ (Gr.alloc _ _)).mono ?_; rintro e w1 ⟨rfl, rfl⟩)
            | fail)
          go_quiet (fail)
          have gV : Gr (w.alloc (.cells #[.int .i64 0, .int .i64 0, .int .i64 0, .int .i64 0] 33)) ((w.alloc (.cells #[.int .i64 0, .int .i64 0, .int .i64 0, .int .i64 0] 33)).drewN nq) := Gr.drewN _ nq
          have c0a := gV.cell c0
          have l1a := gV.cell l1
          have l2a := gV.cell l2
          have l3a := gV.cell l3
          have bVa := (Blk.new w 33 #[.int .i64 0, .int .i64 0, .int .i64 0, .int .i64 0]).gr gV
          have gWa : Gr w ((w.alloc (.cells #[.int .i64 0, .int .i64 0, .int .i64 0, .int .i64 0] 33)).drewN nq) := (Gr.alloc w _).trans gV
          clear gV c0 l1 l2 l3
          generalize (w.alloc (.cells #[.int .i64 0, .int .i64 0, .int .i64 0, .int .i64 0] 33)).drewN nq = V at *
          go_wp2
          go_quiet (fail)
          have gV : Gr V (V.drewN nq) := Gr.drewN V nq
          have c0 := gV.cell c0a
          have l1 := gV.cell l1a
          have l2 := gV.cell l2a
          have l3 := gV.cell l3a
          have bV := bVa.gr gV
          have gW := gWa.trans gV
          clear gV c0a l1a l2a l3a bVa gWa
          generalize V.drewN nq = W at *
          clear hmi hw
          obtain ⟨d0, d1, d2, d3, f0, f1, f2, f3⟩ := Blk.four bV
          go_wp2_with (first
            | (go_at_call 35; refine (HGR.out _ (HP.out.gr gW)).mono ?_; rintro e w1 ⟨rfl, rfl⟩)
            | fail)
          obtain ⟨e0, e1, e2, e3, _⟩ := Blk.four (bV.set4 (.int .i64 0) (.int .i64 0) (.int .i64 0) (.int .i64 0))
          refine bodyPost_ret (v := .tuple #[.agg #[.int .i64 0, .int .i64 0, .int .i64 0, .int .i64 0], .int .i64 5]) (by simp [results, Try.results13, go_sem, e0, e1, e2, e3]) rfl ?_
          rw [HE.out]
          exact ⟨rfl, S, (Moved.refl HP.out).gr (Gr.of_far gW (grown_set4 _ _ _ _ _ _) (Nat.le_refl _))⟩
    | some s =>
      rw [hid] at HGR HE
      obtain ⟨hst, _, _⟩ := idleF_some hid
      clear hid
      have hA : landAt (growAt p i s) i = ⟨(landAt p i).there, (landAt p i).gen, (landAt p i).slabs ++ [s], m⟩ := (landAt_set { p with bytes := p.bytes.set s (List.replicate p.size 0), taken := p.taken.set s true } i i _ (by show i < p.lands.length; rw [HOK.out.ln]; exact hi)).trans (by rw [if_pos rfl, HM.out])
      have hln2 : (growAt p i s).lands.length = 256 := by show (p.lands.set i _).length = 256; rw [List.length_set]; exact HOK.out.ln
      have HA := Lib.hid hA
      have HLN := Lib.hid hln2
      clear hA hln2
      obtain ⟨of, hof⟩ : ∃ of, of = m := ⟨_, rfl⟩
      rw [← hof] at HE
      rcases hgr2 with h6 | h6
      · go_enter Try.func13, Try.ntmps13
        go_wp2_with (first
          | (go_at_call 34; refine (HLA.out _ (Gr.alloc _ _)).mono ?_; rintro e w1 ⟨rfl, rfl⟩)
          | fail)
        go_quiet (fail)
        have gV : Gr (w.alloc (.cells #[.int .i64 0, .int .i64 0, .int .i64 0, .int .i64 0] 33)) ((w.alloc (.cells #[.int .i64 0, .int .i64 0, .int .i64 0, .int .i64 0] 33)).drewN nq) := Gr.drewN _ nq
        have c0a := gV.cell c0
        have l1a := gV.cell l1
        have l2a := gV.cell l2
        have l3a := gV.cell l3
        have bVa := (Blk.new w 33 #[.int .i64 0, .int .i64 0, .int .i64 0, .int .i64 0]).gr gV
        have gWa : Gr w ((w.alloc (.cells #[.int .i64 0, .int .i64 0, .int .i64 0, .int .i64 0] 33)).drewN nq) := (Gr.alloc w _).trans gV
        clear gV c0 l1 l2 l3
        generalize (w.alloc (.cells #[.int .i64 0, .int .i64 0, .int .i64 0, .int .i64 0] 33)).drewN nq = V at *
        go_wp2
        go_quiet (fail)
        have gV : Gr V (V.drewN nq) := Gr.drewN V nq
        have c0 := gV.cell c0a
        have l1 := gV.cell l1a
        have l2 := gV.cell l2a
        have l3 := gV.cell l3a
        have bV := bVa.gr gV
        have gW := gWa.trans gV
        clear gV c0a l1a l2a l3a bVa gWa
        generalize V.drewN nq = W at *
        clear hmi hw
        obtain ⟨d0, d1, d2, d3, f0, f1, f2, f3⟩ := Blk.four bV
        go_wp2_with (first
          | (go_at_call 35; refine (HGR.out _ (HP.out.gr gW)).mono ?_; rintro e w2 ⟨rfl, S2, hmv⟩)
          | fail)
        have hmvA := hmv.after (gW.chg (S := S))
        have hghS : ¬ S w.heap.size := fun e => Nat.lt_irrefl _ (HP.out.lt _ e)
        have hgh2 : ¬ S2 w.heap.size := fun e => by
          rcases hmv.sub _ e with h8 | h8
          · exact hghS h8
          · have := bV.lt; omega
        have b2 := hmv.chg.blk bV hghS
        obtain ⟨ads2, cs2, adt2, ct2, A2, C2, bd2, hx2⟩ := hmv.pool
        have z2 := hx2.lcell hi
        rw [HA.out] at z2
        obtain ⟨_, z1, z2, z3⟩ := z2
        have z0 : w2.cell? ⟨g, 0, none⟩ = some (.int .i64 (p.size : Int)) := hx2.head.1
        obtain ⟨L2, hL2⟩ : ∃ L2, L2 = ((landAt p i).slabs ++ [s]).length := ⟨_, rfl⟩
        have hL3 : L2 = (landAt p i).slabs.length + 1 := by rw [hL2]; simp
        have hL4 : L2 ≤ 4097 := by omega
        have hL5 : 1 ≤ L2 := by omega
        have hqi : ((L2 : Int) - 1) * (p.size : Int) = (of : Int) := by
          rw [hL3, hof, HM.out]; simp
        have hqw : IntKind.i64.wrap (of : Int) = (of : Int) := by rw [IntKind.wrap_i64]; omega
        have hol : of ≤ 268435456 := by omega
        simp only at z1 z2 z3
        rw [← hL2] at z2
        have HX2 := Lib.hid hx2
        have HMV := Lib.hid hmvA
        have hgg : w.heap.size ≠ g := fun e => hghS (e ▸ HX.out.sg)
        clear hx2 hmv hmvA hL2 hL3 hof bV gW d0 d1 d2 d3 f0 f1 f2 f3
        go_quiet (fail)
        have gV : Gr w2 (w2.drewN nq) := Gr.drewN w2 nq
        have y0 := gV.cell z0
        have y1 := gV.cell z1
        have y2 := gV.cell z2
        have y3 := gV.cell z3
        have b3 := b2.gr gV
        have HX3 := Lib.hid (HX2.out.gr gV)
        have HMV3 := Lib.hid (HMV.out.gr gV)
        have fg := HX3.out.blk.frozen (3 + i * 4 + 3)
        clear gV z0 z1 z2 z3 b2 hqi hqw
        generalize w2.drewN nq = W3 at *
        obtain ⟨d0, d1, d2, d3, f0, f1, f2, f3⟩ := Blk.four b3
        go_wp2
        have b5 : Blk (W3.setCell ⟨g, 3 + i * 4 + 3, none⟩ (.int .i64 ((of : Int) + (nn : Int)))) w.heap.size 33 _ := b3.far (p := ⟨g, 3 + i * 4 + 3, none⟩) hgg (.int .i64 ((of : Int) + (nn : Int)))
        obtain ⟨e0, e1, e2, e3, _⟩ := Blk.four (b5.set4 (.int .i64 (i : Int)) (.int .i64 ((landAt p i).gen : Int)) (.int .i64 (of : Int)) (.int .i64 (nn : Int)))
        refine bodyPost_ret (v := .tuple #[.agg #[.int .i64 (i : Int), .int .i64 ((landAt p i).gen : Int), .int .i64 (of : Int), .int .i64 (nn : Int)], .int .i64 0]) (by simp [results, Try.results13, go_sem, e0, e1, e2, e3]) rfl ?_
        rw [HE.out]
        exact ⟨rfl, S2, Moved.finish HMV3.out HX3.out HLN.out hi (of + nn) hgh2 (Nat.le_refl _) (grown_set4 _ _ _ _ _ _)⟩
      · by_cases h7 : (landAt p i).slabs.length = 0
        · clear h6
          go_enter Try.func13, Try.ntmps13
          go_wp2_with (first
            | (go_at_call 34; refine (HLA.out _ (Gr.alloc _ _)).mono ?_; rintro e w1 ⟨rfl, rfl⟩)
            | fail)
          go_quiet (fail)
          have gV : Gr (w.alloc (.cells #[.int .i64 0, .int .i64 0, .int .i64 0, .int .i64 0] 33)) ((w.alloc (.cells #[.int .i64 0, .int .i64 0, .int .i64 0, .int .i64 0] 33)).drewN nq) := Gr.drewN _ nq
          have c0a := gV.cell c0
          have l1a := gV.cell l1
          have l2a := gV.cell l2
          have l3a := gV.cell l3
          have bVa := (Blk.new w 33 #[.int .i64 0, .int .i64 0, .int .i64 0, .int .i64 0]).gr gV
          have gWa : Gr w ((w.alloc (.cells #[.int .i64 0, .int .i64 0, .int .i64 0, .int .i64 0] 33)).drewN nq) := (Gr.alloc w _).trans gV
          clear gV c0 l1 l2 l3
          generalize (w.alloc (.cells #[.int .i64 0, .int .i64 0, .int .i64 0, .int .i64 0] 33)).drewN nq = V at *
          go_wp2
          go_quiet (fail)
          have gV : Gr V (V.drewN nq) := Gr.drewN V nq
          have c0 := gV.cell c0a
          have l1 := gV.cell l1a
          have l2 := gV.cell l2a
          have l3 := gV.cell l3a
          have bV := bVa.gr gV
          have gW := gWa.trans gV
          clear gV c0a l1a l2a l3a bVa gWa
          generalize V.drewN nq = W at *
          clear hmi hw
          obtain ⟨d0, d1, d2, d3, f0, f1, f2, f3⟩ := Blk.four bV
          go_wp2_with (first
            | (go_at_call 35; refine (HGR.out _ (HP.out.gr gW)).mono ?_; rintro e w2 ⟨rfl, S2, hmv⟩)
            | fail)
          have hmvA := hmv.after (gW.chg (S := S))
          have hghS : ¬ S w.heap.size := fun e => Nat.lt_irrefl _ (HP.out.lt _ e)
          have hgh2 : ¬ S2 w.heap.size := fun e => by
            rcases hmv.sub _ e with h8 | h8
            · exact hghS h8
            · have := bV.lt; omega
          have b2 := hmv.chg.blk bV hghS
          obtain ⟨ads2, cs2, adt2, ct2, A2, C2, bd2, hx2⟩ := hmv.pool
          have z2 := hx2.lcell hi
          rw [HA.out] at z2
          obtain ⟨_, z1, z2, z3⟩ := z2
          have z0 : w2.cell? ⟨g, 0, none⟩ = some (.int .i64 (p.size : Int)) := hx2.head.1
          obtain ⟨L2, hL2⟩ : ∃ L2, L2 = ((landAt p i).slabs ++ [s]).length := ⟨_, rfl⟩
          have hL3 : L2 = (landAt p i).slabs.length + 1 := by rw [hL2]; simp
          have hL4 : L2 ≤ 4097 := by omega
          have hL5 : 1 ≤ L2 := by omega
          have hqi : ((L2 : Int) - 1) * (p.size : Int) = (of : Int) := by
            rw [hL3, hof, HM.out]; simp
          have hqw : IntKind.i64.wrap (of : Int) = (of : Int) := by rw [IntKind.wrap_i64]; omega
          have hol : of ≤ 268435456 := by omega
          simp only at z1 z2 z3
          rw [← hL2] at z2
          have HX2 := Lib.hid hx2
          have HMV := Lib.hid hmvA
          have hgg : w.heap.size ≠ g := fun e => hghS (e ▸ HX.out.sg)
          clear hx2 hmv hmvA hL2 hL3 hof bV gW d0 d1 d2 d3 f0 f1 f2 f3
          go_quiet (fail)
          have gV : Gr w2 (w2.drewN nq) := Gr.drewN w2 nq
          have y0 := gV.cell z0
          have y1 := gV.cell z1
          have y2 := gV.cell z2
          have y3 := gV.cell z3
          have b3 := b2.gr gV
          have HX3 := Lib.hid (HX2.out.gr gV)
          have HMV3 := Lib.hid (HMV.out.gr gV)
          have fg := HX3.out.blk.frozen (3 + i * 4 + 3)
          clear gV z0 z1 z2 z3 b2 hqi hqw
          generalize w2.drewN nq = W3 at *
          obtain ⟨d0, d1, d2, d3, f0, f1, f2, f3⟩ := Blk.four b3
          go_wp2
          have b5 : Blk (W3.setCell ⟨g, 3 + i * 4 + 3, none⟩ (.int .i64 ((of : Int) + (nn : Int)))) w.heap.size 33 _ := b3.far (p := ⟨g, 3 + i * 4 + 3, none⟩) hgg (.int .i64 ((of : Int) + (nn : Int)))
          obtain ⟨e0, e1, e2, e3, _⟩ := Blk.four (b5.set4 (.int .i64 (i : Int)) (.int .i64 ((landAt p i).gen : Int)) (.int .i64 (of : Int)) (.int .i64 (nn : Int)))
          refine bodyPost_ret (v := .tuple #[.agg #[.int .i64 (i : Int), .int .i64 ((landAt p i).gen : Int), .int .i64 (of : Int), .int .i64 (nn : Int)], .int .i64 0]) (by simp [results, Try.results13, go_sem, e0, e1, e2, e3]) rfl ?_
          rw [HE.out]
          exact ⟨rfl, S2, Moved.finish HMV3.out HX3.out HLN.out hi (of + nn) hgh2 (Nat.le_refl _) (grown_set4 _ _ _ _ _ _)⟩
        · go_enter Try.func13, Try.ntmps13
          go_wp2_with (first
            | (go_at_call 34; refine (HLA.out _ (Gr.alloc _ _)).mono ?_; rintro e w1 ⟨rfl, rfl⟩)
            | fail)
          go_quiet (fail)
          have gV : Gr (w.alloc (.cells #[.int .i64 0, .int .i64 0, .int .i64 0, .int .i64 0] 33)) ((w.alloc (.cells #[.int .i64 0, .int .i64 0, .int .i64 0, .int .i64 0] 33)).drewN nq) := Gr.drewN _ nq
          have c0a := gV.cell c0
          have l1a := gV.cell l1
          have l2a := gV.cell l2
          have l3a := gV.cell l3
          have bVa := (Blk.new w 33 #[.int .i64 0, .int .i64 0, .int .i64 0, .int .i64 0]).gr gV
          have gWa : Gr w ((w.alloc (.cells #[.int .i64 0, .int .i64 0, .int .i64 0, .int .i64 0] 33)).drewN nq) := (Gr.alloc w _).trans gV
          clear gV c0 l1 l2 l3
          generalize (w.alloc (.cells #[.int .i64 0, .int .i64 0, .int .i64 0, .int .i64 0] 33)).drewN nq = V at *
          go_wp2
          go_quiet (fail)
          have gV : Gr V (V.drewN nq) := Gr.drewN V nq
          have c0 := gV.cell c0a
          have l1 := gV.cell l1a
          have l2 := gV.cell l2a
          have l3 := gV.cell l3a
          have bV := bVa.gr gV
          have gW := gWa.trans gV
          clear gV c0a l1a l2a l3a bVa gWa
          generalize V.drewN nq = W at *
          clear hmi hw
          obtain ⟨d0, d1, d2, d3, f0, f1, f2, f3⟩ := Blk.four bV
          go_wp2_with (first
            | (go_at_call 35; refine (HGR.out _ (HP.out.gr gW)).mono ?_; rintro e w2 ⟨rfl, S2, hmv⟩)
            | fail)
          have hmvA := hmv.after (gW.chg (S := S))
          have hghS : ¬ S w.heap.size := fun e => Nat.lt_irrefl _ (HP.out.lt _ e)
          have hgh2 : ¬ S2 w.heap.size := fun e => by
            rcases hmv.sub _ e with h8 | h8
            · exact hghS h8
            · have := bV.lt; omega
          have b2 := hmv.chg.blk bV hghS
          obtain ⟨ads2, cs2, adt2, ct2, A2, C2, bd2, hx2⟩ := hmv.pool
          have z2 := hx2.lcell hi
          rw [HA.out] at z2
          obtain ⟨_, z1, z2, z3⟩ := z2
          have z0 : w2.cell? ⟨g, 0, none⟩ = some (.int .i64 (p.size : Int)) := hx2.head.1
          obtain ⟨L2, hL2⟩ : ∃ L2, L2 = ((landAt p i).slabs ++ [s]).length := ⟨_, rfl⟩
          have hL3 : L2 = (landAt p i).slabs.length + 1 := by rw [hL2]; simp
          have hL4 : L2 ≤ 4097 := by omega
          have hL5 : 1 ≤ L2 := by omega
          have hqi : ((L2 : Int) - 1) * (p.size : Int) = (of : Int) := by
            rw [hL3, hof, HM.out]; simp
          have hqw : IntKind.i64.wrap (of : Int) = (of : Int) := by rw [IntKind.wrap_i64]; omega
          have hol : of ≤ 268435456 := by omega
          simp only at z1 z2 z3
          rw [← hL2] at z2
          have HX2 := Lib.hid hx2
          have HMV := Lib.hid hmvA
          have hgg : w.heap.size ≠ g := fun e => hghS (e ▸ HX.out.sg)
          clear hx2 hmv hmvA hL2 hL3 hof bV gW d0 d1 d2 d3 f0 f1 f2 f3
          go_quiet (fail)
          have gV : Gr w2 (w2.drewN nq) := Gr.drewN w2 nq
          have y0 := gV.cell z0
          have y1 := gV.cell z1
          have y2 := gV.cell z2
          have y3 := gV.cell z3
          have b3 := b2.gr gV
          have HX3 := Lib.hid (HX2.out.gr gV)
          have HMV3 := Lib.hid (HMV.out.gr gV)
          have fg := HX3.out.blk.frozen (3 + i * 4 + 3)
          clear gV z0 z1 z2 z3 b2 hqi hqw
          generalize w2.drewN nq = W3 at *
          obtain ⟨d0, d1, d2, d3, f0, f1, f2, f3⟩ := Blk.four b3
          go_wp2
          have b5 : Blk (W3.setCell ⟨g, 3 + i * 4 + 3, none⟩ (.int .i64 ((of : Int) + (nn : Int)))) w.heap.size 33 _ := b3.far (p := ⟨g, 3 + i * 4 + 3, none⟩) hgg (.int .i64 ((of : Int) + (nn : Int)))
          obtain ⟨e0, e1, e2, e3, _⟩ := Blk.four (b5.set4 (.int .i64 (i : Int)) (.int .i64 ((landAt p i).gen : Int)) (.int .i64 (of : Int)) (.int .i64 (nn : Int)))
          refine bodyPost_ret (v := .tuple #[.agg #[.int .i64 (i : Int), .int .i64 ((landAt p i).gen : Int), .int .i64 (of : Int), .int .i64 (nn : Int)], .int .i64 0]) (by simp [results, Try.results13, go_sem, e0, e1, e2, e3]) rfl ?_
          rw [HE.out]
          exact ⟨rfl, S2, Moved.finish HMV3.out HX3.out HLN.out hi (of + nn) hgh2 (Nat.le_refl _) (grown_set4 _ _ _ _ _ _)⟩
  · rw [if_neg hgr] at HE
    have hpos : 0 < (landAt p i).slabs.length := by
      cases hsl : (landAt p i).slabs with
      | nil => exact absurd (.inl hsl) hgr
      | cons _ _ => simp
    have hfit : u + nn ≤ p.size := by
      have : ¬ p.size < u + nn := fun e => hgr (.inr e)
      omega
    clear hgr
    have hX := HX.out
    obtain ⟨of, hof⟩ : ∃ of, of = ((landAt p i).slabs.length - 1) * p.size + u := ⟨_, rfl⟩
    rw [← hof] at HE
    obtain ⟨q, hq⟩ : ∃ q, q = ((landAt p i).slabs.length - 1) * p.size := ⟨_, rfl⟩
    rw [← hq] at hof
    have hql : q ≤ 268435456 := by
      rw [hq]
      refine Nat.le_trans (Nat.mul_le_mul_right _ (Nat.sub_le _ 1)) ?_
      rw [← HM.out]; exact hcap
    have hqi : (((landAt p i).slabs.length : Int) - 1) * (p.size : Int) = (q : Int) := by
      rw [hq]
      obtain ⟨k, hk⟩ : ∃ k, (landAt p i).slabs.length = k + 1 := ⟨(landAt p i).slabs.length - 1, by omega⟩
      rw [hk]; simp
    have hol : of ≤ 268600000 := by omega
    have hqs : (q : Int) + (u : Int) = (of : Int) := by omega
    have hqw : IntKind.i64.wrap (q : Int) = (q : Int) := by rw [IntKind.wrap_i64]; omega
    have hb0 : (((landAt p i).slabs.length : Int) == 0) = false := beq_eq_false_iff_ne.2 (by omega)
    have HQ := Lib.hid (And.intro hqi (And.intro hqw hqs))
    have HLN := Lib.hid HOK.out.ln
    clear hqi hqw hqs hof hq
    go_enter Try.func13, Try.ntmps13
    go_wp2_with (first
      | (go_at_call 34; refine (HLA.out _ (Gr.alloc _ _)).mono ?_; rintro e w1 ⟨rfl, rfl⟩)
      | fail)
    go_quiet (fail)
    have gV : Gr (w.alloc (.cells #[.int .i64 0, .int .i64 0, .int .i64 0, .int .i64 0] 33)) ((w.alloc (.cells #[.int .i64 0, .int .i64 0, .int .i64 0, .int .i64 0] 33)).drewN nq) := Gr.drewN _ nq
    have c0a := gV.cell c0
    have l1a := gV.cell l1
    have l2a := gV.cell l2
    have l3a := gV.cell l3
    have bVa := (Blk.new w 33 #[.int .i64 0, .int .i64 0, .int .i64 0, .int .i64 0]).gr gV
    have gWa : Gr w ((w.alloc (.cells #[.int .i64 0, .int .i64 0, .int .i64 0, .int .i64 0] 33)).drewN nq) := (Gr.alloc w _).trans gV
    clear gV c0 l1 l2 l3
    generalize (w.alloc (.cells #[.int .i64 0, .int .i64 0, .int .i64 0, .int .i64 0] 33)).drewN nq = V at *
    go_wp2
    go_quiet (fail)
    have gV : Gr V (V.drewN nq) := Gr.drewN V nq
    have c0 := gV.cell c0a
    have l1 := gV.cell l1a
    have l2 := gV.cell l2a
    have l3 := gV.cell l3a
    have bV := bVa.gr gV
    have gW := gWa.trans gV
    clear gV c0a l1a l2a l3a bVa gWa
    generalize V.drewN nq = W at *
    clear hmi hw
    obtain ⟨d0, d1, d2, d3, f0, f1, f2, f3⟩ := Blk.four bV
    have hghS : ¬ S w.heap.size := fun e => Nat.lt_irrefl _ (HP.out.lt _ e)
    have HX2 := Lib.hid (HX.out.gr gW)
    have HMV := Lib.hid (show Moved S g p w W S from (Moved.refl HP.out).gr gW)
    have hgg : w.heap.size ≠ g := fun e => hghS (e ▸ HX.out.sg)
    clear gW d0 d1 d2 d3 f0 f1 f2 f3 hX
    go_wp2
    obtain ⟨hqi, hqw, hqs⟩ := HQ.out
    go_quiet (fail)
    have gV : Gr W (W.drewN nq) := Gr.drewN W nq
    have y0 := gV.cell c0
    have y1 := gV.cell l1
    have y2 := gV.cell l2
    have y3 := gV.cell l3
    have b3 := bV.gr gV
    have HX3 := Lib.hid (HX2.out.gr gV)
    have HMV3 := Lib.hid (HMV.out.gr gV)
    have fg := HX3.out.blk.frozen (3 + i * 4 + 3)
    clear gV c0 l1 l2 l3 bV hqi hqw hqs
    generalize W.drewN nq = W3 at *
    obtain ⟨d0, d1, d2, d3, f0, f1, f2, f3⟩ := Blk.four b3
    go_wp2
    have b5 : Blk (W3.setCell ⟨g, 3 + i * 4 + 3, none⟩ (.int .i64 ((of : Int) + (nn : Int)))) w.heap.size 33 _ := b3.far (p := ⟨g, 3 + i * 4 + 3, none⟩) hgg (.int .i64 ((of : Int) + (nn : Int)))
    obtain ⟨e0, e1, e2, e3, _⟩ := Blk.four (b5.set4 (.int .i64 (i : Int)) (.int .i64 ((landAt p i).gen : Int)) (.int .i64 (of : Int)) (.int .i64 (nn : Int)))
    refine bodyPost_ret (v := .tuple #[.agg #[.int .i64 (i : Int), .int .i64 ((landAt p i).gen : Int), .int .i64 (of : Int), .int .i64 (nn : Int)], .int .i64 0]) (by simp [results, Try.results13, go_sem, e0, e1, e2, e3]) rfl ?_
    rw [HE.out]
    exact ⟨rfl, S, Moved.finish HMV3.out HX3.out HLN.out hi (of + nn) hghS (Nat.le_refl _) (grown_set4 _ _ _ _ _ _)⟩
end Go.Proofs.Ytfnimpgphagnfaa
