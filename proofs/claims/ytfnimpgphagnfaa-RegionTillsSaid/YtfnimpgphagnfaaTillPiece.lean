/- Layer 1 (region): the reference's aligned, Slabs, place, Load, Store walked. -/
import Derived.Test.YtfnimpgphagnfaaTillFns
import Derived.Test.YtfnimpgphagnfaaAnyT
import Derived.Test.YtfnimpgphagnfaaRegionHands
import Derived.Outline
namespace Go.Proofs.Ytfnimpgphagnfaa
set_option linter.unusedVariables false
set_option linter.unusedSimpArgs false
open Go.RowKit
set_option maxRecDepth 100000 in
theorem aligned_any (a : Int) (w : World) : Calls Try.prog 40 #[.int .i64 a] w fun e w' => e = .returned (.bool (alignOk a)) ∧ w = w' := by
  by_cases h0 : a = 1
  · subst h0
    go_enter Try.func40, Try.ntmps40
    go_wp2
    go_ret
    exact ⟨rfl, rfl⟩
  by_cases h1 : a = 2
  · subst h1
    go_enter Try.func40, Try.ntmps40
    go_wp2
    go_ret
    exact ⟨rfl, rfl⟩
  by_cases h2 : a = 4
  · subst h2
    go_enter Try.func40, Try.ntmps40
    go_wp2
    go_ret
    exact ⟨rfl, rfl⟩
  by_cases h3 : a = 8
  · subst h3
    go_enter Try.func40, Try.ntmps40
    go_wp2
    go_ret
    exact ⟨rfl, rfl⟩
  by_cases h4 : a = 16
  · subst h4
    go_enter Try.func40, Try.ntmps40
    go_wp2
    go_ret
    exact ⟨rfl, rfl⟩
  by_cases h5 : a = 32
  · subst h5
    go_enter Try.func40, Try.ntmps40
    go_wp2
    go_ret
    exact ⟨rfl, rfl⟩
  by_cases h6 : a = 64
  · subst h6
    go_enter Try.func40, Try.ntmps40
    go_wp2
    go_ret
    exact ⟨rfl, rfl⟩
  have e : alignOk a = (a == 1 || a == 2 || a == 4 || a == 8 || a == 16 || a == 32 || a == 64) := rfl
  rw [e]
  go_enter Try.func40, Try.ntmps40
  go_wp2
  go_ret
  exact ⟨rfl, rfl⟩
set_option maxRecDepth 100000 in
theorem rSlabs_any (w : World) (S : Nat → Prop) (g : Nat) (p : PoolF) (r : Int) (h : RPool w S g p) :
    Calls Try.prog 32 #[.pointer (some ⟨g, 0, none⟩), .int .i64 r] w fun e w' => ∃ ad cap, e = .returned (.tuple #[.slice ad (slabsF p r).1.length cap, .int .i64 ((slabsF p r).2 : Int)]) ∧ Row w ad (iv (slabsF p r).1) ∧ w = w' := by
  have HT := Lib.hid (there_any w S g p r h)
  cases hl : landF p r with
  | none =>
    rw [hl] at HT
    have he : slabsF p r = ([], 7) := by unfold slabsF; rw [hl]
    rw [he]
    clear h he hl
    go_enter Try.func32, Try.ntmps32
    go_wp2_with (first
      | (go_at_call 39; refine HT.out.mono ?_; rintro e w1 ⟨rfl, rfl⟩)
      | fail)
    go_ret2
    exact ⟨none, 0, rfl, Row.nil _ _, rfl⟩
  | some i =>
    rw [hl] at HT
    obtain ⟨rfl, hi, _⟩ := landF_some hl
    have he : slabsF p (i : Int) = ((landAt p i).slabs, 0) := by unfold slabsF; rw [hl]
    rw [he]
    obtain ⟨O, ads, cs, adt, ct, A, C, hx⟩ := h
    obtain ⟨_, _, l2, _⟩ := hx.lcell hi
    have HO := Lib.hid (hx.land i hi).row
    clear hx he hl
    go_enter Try.func32, Try.ntmps32
    go_wp2_with (first
      | (go_at_call 39; refine HT.out.mono ?_; rintro e w1 ⟨rfl, rfl⟩)
      | fail)
    go_ret2
    exact ⟨A i, C i, rfl, HO.out, rfl⟩
/-- a block that was made since -/
def NewB (N : Nat) (t : TypeId) (cs : List Value) : Value → World → Prop := fun v w => ∃ b, v = .pointer (some ⟨b, 0, none⟩) ∧ N ≤ b ∧ Blk w b t cs
theorem NewB.stable (N : Nat) (t : TypeId) (cs : List Value) : Stable Gr (NewB N t cs) := fun _ _ _ ⟨b, e, h1, h2⟩ k => ⟨b, e, h1, h2.gr k⟩
theorem quiet_same {P : Program} {f : FuncId} {args : Array Value} {w : World} {n : Nat} {v : Value} (h : Calls P f args (w.drewN n) fun e w' => e = .returned v ∧ w.drewN n = w') : Calls P f args (w.drewN n) fun e w'' => e = .returned v ∧ ∃ m, w'' = w.drewN m :=
  h.mono fun _ _ ⟨he, hm⟩ => ⟨he, n, hm.symm⟩
/-- where a piece lies, as the reference looks at it -/
theorem piece_ref {o n z : Nat} (hn : 1 ≤ n) (hz : 0 < z) : (o / z = (o + n - 1) / z) ↔ o % z + n ≤ z := by
  have h1 := Nat.div_add_mod o z
  have h2 := Nat.mod_lt o hz
  constructor
  · intro h
    have h3 := Nat.div_add_mod (o + n - 1) z
    have h4 := Nat.mod_lt (o + n - 1) hz
    rw [← h] at h3
    omega
  · intro h
    have h5 : o + n - 1 = z * (o / z) + (o % z + n - 1) := by omega
    rw [h5, Nat.mul_add_div hz, Nat.div_eq_of_lt (by omega : o % z + n - 1 < z), Nat.add_zero]
set_option maxRecDepth 100000 in
set_option maxHeartbeats 4000000 in
theorem place_any (w : World) (S : Nat → Prop) (g : Nat) (p : PoolF) (x : Hd) (h : RPool w S g p) (hp : PoolOk p) :
    Calls Try.prog 41 #[.pointer (some ⟨g, 0, none⟩), hdv x] w fun e w' => e = .returned (.tuple #[.int .i64 ((pieceF p x).1.1 : Int), .int .i64 ((pieceF p x).1.2 : Int), .int .i64 ((pieceF p x).2 : Int)]) ∧ Gr w w' := by
  obtain ⟨xr, xg, xo, xl⟩ := x
  have HT := Lib.hid (fun w' (k : Gr w w') => there_any w' S g p xr (h.gr k))
  have GB := Lib.hid (Gr.alloc w (.cells #[.int .i64 xr, .int .i64 xg, .int .i64 xo, .int .i64 xl] 61))
  unfold hdv
  simp only
  cases hl : landF p xr with
  | none =>
    rw [hl] at HT
    have he : pieceF p ⟨xr, xg, xo, xl⟩ = ((0, 0), 3) := by unfold pieceF; simp only; rw [hl]
    rw [he]
    clear h he hl hp
    obtain ⟨b0, b1, b2, b3, _⟩ := Blk.four (Blk.new w 61 #[.int .i64 xr, .int .i64 xg, .int .i64 xo, .int .i64 xl])
    go_enter Try.func41, Try.ntmps41
    go_wp2
    go_quiet ((go_at_call 39; exact quiet_same (HT.out _ (GB.out.trans (Gr.drewN _ _)))))
    go_wp2
    refine bodyPost_ret (v := .tuple #[.int .i64 0, .int .i64 0, .int .i64 3]) (by simp [results, Try.results41, go_sem]) rfl ⟨rfl, ?_⟩
    exact GB.out.trans (Gr.drewN _ _)
  | some i =>
    rw [hl] at HT
    obtain ⟨rfl, hi, hth⟩ := landF_some hl
    have HB := Lib.hid (Blk.new w 61 #[.int .i64 (i : Int), .int .i64 xg, .int .i64 xo, .int .i64 xl])
    obtain ⟨b0, b1, b2, b3, _⟩ := Blk.four HB.out
    obtain ⟨O, ads, cs, adt, ct, A, C, hx⟩ := h
    obtain ⟨_, l1, _, _⟩ := (hx.gr GB.out).lcell hi
    have HX := Lib.hid hx
    by_cases hg : ((landAt p i).gen : Int) = xg
    · subst hg
      have hlk := hp.ld i hi
      have hfl := hlk.fill_le
      have hcap := hlk.cap hp
      have hs1 := hp.s1
      have hs2 := hp.s2
      have hpe : pieceF p ⟨(i : Int), ((landAt p i).gen : Int), xo, xl⟩ = if xl < 1 ∨ xo < 0 ∨ xo > ((landAt p i).fill : Int) ∨ xl > ((landAt p i).fill : Int) - xo then ((0, 0), 1) else if xo.toNat % p.size + xl.toNat > p.size then ((0, 0), 1) else (((landAt p i).slabs.getD (xo.toNat / p.size) 0, xo.toNat % p.size), 0) := by
        unfold pieceF
        simp only
        rw [hl]
        simp only
        rw [if_neg (fun e => e rfl)]
      have HPE := Lib.hid hpe
      clear hpe hl hth hx
      go_enter Try.func41, Try.ntmps41
      go_wp2
      go_quiet ((go_at_call 39; exact quiet_same (HT.out _ (GB.out.trans (Gr.drewN _ _)))))
      go_wp2
      have G0 := GB.out.trans (Gr.drewN (w.alloc (.cells #[.int .i64 (i : Int), .int .i64 ((landAt p i).gen : Int), .int .i64 xo, .int .i64 xl] 61)) nq)
      have X1 := HX.out.gr G0
      have B1 := HB.out.gr (Gr.drewN _ nq)
      have G1 := Lib.hid G0
      have XN := Lib.hid X1
      have BN := Lib.hid B1
      clear b0 b1 b2 b3 l1 X1 B1 G0
      generalize hW : (w.alloc (.cells #[.int .i64 (i : Int), .int .i64 ((landAt p i).gen : Int), .int .i64 xo, .int .i64 xl] 61)).drewN nq = W1 at *
      clear hW
      obtain ⟨N, hN⟩ : ∃ N, N = W1.heap.size := ⟨_, rfl⟩
      have hNw : w.heap.size ≤ N := by rw [hN]; exact G1.out.size
      have HN := Lib.hid hN
      clear hN
      refine region_tail_gr 8 _ [Is ?r0, Is ?r1, Is (.int .i64 (i : Int)), Is ?r3, Is ?r4, Is (.pointer (some ⟨g, 3 + i * 4, none⟩)), Is (.agg #[.bool (landAt p i).there, .int .i64 ((landAt p i).gen : Int), .slice (A i) (landAt p i).slabs.length (C i), .int .i64 ((landAt p i).fill : Int)]), NewB N 71 [.bool false, .int .i64 0, .slice none 0 0, .int .i64 0]] (by kernel_rfl) (by kernel_rfl) (by kernel_rfl) (by kernel_rfl) rfl rfl ⟨Is.stable _, Is.stable _, Is.stable _, Is.stable _, Is.stable _, Is.stable _, Is.stable _, NewB.stable _ _ _, trivial⟩ ⟨?s0, ?s1, ?s2, ?s3, ?s4, ?s5, ?s6, ?s7, trivial⟩ ?fin
      case' s0 | s1 | s2 | s3 | s4 | s5 | s6 | s7 =>
        intro ρ wr hρ hg hK
        simp [readsOf, slotsOf, Op.operands, Call.operands, tmpOf, List.filterMap_cons, List.filterMap_nil, KnownAll, knownOf, srcOf, depsOf, dstOf, Region.binds, nth, Is] at hK
        obtain ⟨hc, hf, hgl⟩ := hρ
        try simp only [wantedBy, dstOf, boolOf, nth, List.getD_cons_zero, List.getD_cons_succ, List.getElem?_cons_zero, List.getElem?_cons_succ, Option.bind_some, if_true, hK, BEq.rfl]
        try go_simp
        first | exact rfl | (rw [if_pos (by omega)]; exact is_here rfl) | (rw [dif_pos (by omega)]; exact is_here rfl) | exact congrArg (Value.int _) (IntWalk.i64_in _ ⟨by omega, by omega⟩) | skip
      case s2 =>
        obtain ⟨z0, _⟩ := Blk.four (BN.out.gr hg)
        go_simp
        exact rfl
      case s6 =>
        obtain ⟨z0, z1, z2, z3⟩ := (XN.out.gr hg).lcell hi
        go_simp
        exact rfl
      case s7 =>
        exact ⟨Gr.alloc _ _, _, rfl, by rw [HN.out]; exact hg.size, Blk.new _ _ _⟩
      case fin =>
        intro w1 val hg hH
        simp only [Holds, Is, Nat.zero_add, Nat.reduceAdd] at hH
        obtain ⟨h0, h1, h2, h3, h4, h5, h6, h7, _⟩ := hH
        simp only [List.take_succ_cons, List.take_zero, List.drop_succ_cons, List.drop_zero, putAll, h0, h1, h2, h3, h4, h5, h6, Nat.zero_add, Nat.reduceAdd]
        obtain ⟨b, e7, hb7, hB7⟩ := h7
        simp only [e7]
        obtain ⟨q0, q1, q2, q3, q4, q5, q6, q7⟩ := Blk.four hB7
        have hne : w.heap.size ≠ b := by have := BN.out.lt; have := HN.out; omega
        have X2 := XN.out.gr hg
        have B2 := BN.out.gr hg
        have hsb : ∀ j, S j → j ≠ b := fun j hj e => by have := XN.out.lt j hj; have := HN.out; omega
        have k2 := grown_set4b w1 b 0 (.bool (landAt p i).there) (.int .i64 ((landAt p i).gen : Int)) (.slice (A i) (landAt p i).slabs.length (C i)) (.int .i64 ((landAt p i).fill : Int))
        have hB8 := (((hB7.set_ 0 (.bool (landAt p i).there)).set_ 1 (.int .i64 ((landAt p i).gen : Int))).set_ 2 (.slice (A i) (landAt p i).slabs.length (C i))).set_ 3 (.int .i64 ((landAt p i).fill : Int))
        have X3 := X2.same (fun j hj => k2.block j (X2.lt j hj) (fun e => hsb j hj (Option.some.inj e))) k2.size
        have B3 := B2.grown k2 (fun e => hne (Option.some.inj e))
        have G3 := Gr.of_far (G1.out.trans hg) k2 (by omega)
        simp only [Nat.zero_add] at hB8 X3 B3 G3 k2
        go_simp
        go_wp2
        obtain ⟨c0, c1, c2, c3, _⟩ := Blk.four hB8
        obtain ⟨b0, b1, b2, b3, _⟩ := Blk.four B3
        obtain ⟨s0, _, _⟩ := X3.head
        have HL := Lib.hid (X3.land i hi).row
        generalize (((w1.setCell ⟨b, 0, none⟩ (.bool (landAt p i).there)).setCell ⟨b, 1, none⟩ (.int .i64 ((landAt p i).gen : Int))).setCell ⟨b, 2, none⟩ (.slice (A i) (landAt p i).slabs.length (C i))).setCell ⟨b, 3, none⟩ (.int .i64 ((landAt p i).fill : Int)) = W4 at *
        have G4 := Lib.hid G3
        have HFI := Lib.hid hlk.fill
        clear c0 c1 hB7 hB8 B2 B3 X2 X3 G3 k2 hsb q0 q1 q2 q3 q4 q5 q6 q7 hg G1 XN BN HN hNw HX HB GB HT hlk hp
        obtain ⟨F, hF⟩ : ∃ F, F = (landAt p i).fill := ⟨_, rfl⟩
        rw [← hF] at c3 hfl HFI HPE ⊢
        generalize p.size = z at *
        have HFL := Lib.hid hfl
        have hF9 : F ≤ 268435456 := Nat.le_trans hfl hcap
        clear hfl hcap hF
        by_cases k1 : xl < 1
        · have HE := Lib.hid (HPE.out.trans (if_pos (.inl k1)))
          have d1 : decide (xl < 1) = true := decide_eq_true k1
          go_quiet (fail)
          go_wp2
          refine bodyPost_ret (v := .tuple #[.int .i64 0, .int .i64 0, .int .i64 1]) (by simp [results, Try.results41, go_sem]) rfl ⟨by rw [HE.out]; rfl, ?_⟩
          exact G4.out.trans (Gr.drewN _ _)
        · have d1 : decide (xl < 1) = false := decide_eq_false k1
          by_cases k2 : xo < 0
          · have HE := Lib.hid (HPE.out.trans (if_pos (.inr (.inl k2))))
            have d2 : decide (xo < 0) = true := decide_eq_true k2
            go_quiet (fail)
            go_wp2
            refine bodyPost_ret (v := .tuple #[.int .i64 0, .int .i64 0, .int .i64 1]) (by simp [results, Try.results41, go_sem]) rfl ⟨by rw [HE.out]; rfl, ?_⟩
            exact G4.out.trans (Gr.drewN _ _)
          · have d2 : decide (xo < 0) = false := decide_eq_false k2
            by_cases k3 : xo > (F : Int)
            · have HE := Lib.hid (HPE.out.trans (if_pos (.inr (.inr (.inl k3)))))
              have d3 : decide ((F : Int) < xo) = true := decide_eq_true k3
              go_quiet (fail)
              go_wp2
              refine bodyPost_ret (v := .tuple #[.int .i64 0, .int .i64 0, .int .i64 1]) (by simp [results, Try.results41, go_sem]) rfl ⟨by rw [HE.out]; rfl, ?_⟩
              exact G4.out.trans (Gr.drewN _ _)
            · have d3 : decide ((F : Int) < xo) = false := decide_eq_false k3
              have hw : IntKind.i64.wrap ((F : Int) - xo) = (F : Int) - xo := by rw [IntKind.wrap_i64]; omega
              by_cases k4 : xl > (F : Int) - xo
              · have HE := Lib.hid (HPE.out.trans (if_pos (.inr (.inr (.inr k4)))))
                have d4 : decide ((F : Int) - xo < xl) = true := decide_eq_true k4
                go_quiet (fail)
                go_wp2
                refine bodyPost_ret (v := .tuple #[.int .i64 0, .int .i64 0, .int .i64 1]) (by simp [results, Try.results41, go_sem]) rfl ⟨by rw [HE.out]; rfl, ?_⟩
                exact G4.out.trans (Gr.drewN _ _)
              · have d4 : decide ((F : Int) - xo < xl) = false := decide_eq_false k4
                have HPE := Lib.hid (HPE.out.trans (if_neg (by omega)))
                obtain ⟨o, rfl⟩ := Int.eq_ofNat_of_zero_le (by omega : 0 ≤ xo)
                obtain ⟨n, rfl⟩ := Int.eq_ofNat_of_zero_le (by omega : 0 ≤ xl)
                have HREF := Lib.hid (piece_ref (o := o) (n := n) (z := z) (by omega) (by omega))
                have hlen : o / z < (landAt p i).slabs.length := by
                  rw [Nat.div_lt_iff_lt_mul (by omega)]
                  have := HFL.out
                  omega
                have hmod : o % z < z := Nat.mod_lt _ (by omega)
                have hdo : o / z ≤ o := Nat.div_le_self _ _
                have hdt : (o + n - 1) / z ≤ o + n - 1 := Nat.div_le_self _ _
                obtain ⟨q1, hq1⟩ : ∃ q, q = o / z := ⟨_, rfl⟩
                obtain ⟨m1, hm1⟩ : ∃ q, q = o % z := ⟨_, rfl⟩
                obtain ⟨t1, ht1⟩ : ∃ q, q = o + n := ⟨_, rfl⟩
                obtain ⟨t2, ht2⟩ : ∃ q, q = o + n - 1 := ⟨_, rfl⟩
                obtain ⟨q2, hq2⟩ : ∃ q, q = t2 / z := ⟨_, rfl⟩
                have e1 : (o : Int).tdiv (z : Int) = (q1 : Int) := by rw [hq1]; rfl
                have e5 : (o : Int).tmod (z : Int) = (m1 : Int) := by rw [hm1]; rfl
                have e2 : (o : Int) + (n : Int) = (t1 : Int) := by omega
                have e3 : (t1 : Int) - 1 = (t2 : Int) := by omega
                have e4 : (t2 : Int).tdiv (z : Int) = (q2 : Int) := by rw [hq2]; rfl
                have ht19 : t1 ≤ 268435456 := by omega
                have ht29 : t2 ≤ 268435456 := by omega
                have hq19 : q1 ≤ 268435456 := by omega
                have hq29 : q2 ≤ 268435456 := by rw [hq2, ht2]; omega
                have hm19 : m1 ≤ 65536 := by omega
                have hz0 : ((z : Int) == 0) = false := by rw [beq_eq_false_iff_ne]; omega
                rw [← hq1] at hlen
                simp only [Int.toNat_natCast] at HPE
                rw [← ht2, ← hq2, ← hq1, ← hm1] at HREF
                rw [← hq1, ← hm1] at HPE
                clear hq1 hm1 ht1 ht2 hq2 hmod hdo hdt
                by_cases hq : q1 = q2
                · have hqb : ((q1 : Int) != (q2 : Int)) = false := by simp [hq]
                  have HE := Lib.hid (HPE.out.trans (if_neg (by have := HREF.out.1 hq; omega)))
                  obtain ⟨s, hs⟩ : ∃ s, (landAt p i).slabs[q1]? = some s := ⟨_, List.getElem?_eq_getElem hlen⟩
                  have hgd : (landAt p i).slabs.getD q1 0 = s := by rw [List.getD_eq_getElem?_getD, hs]; rfl
                  obtain ⟨ba, offa, hA, hc⟩ := HL.out q1 _ (iv_get _ _ _ hs)
                  rw [hgd] at HE
                  rw [hA] at c2
                  clear hs hgd HREF HPE hq
                  go_quiet (fail)
                  go_wp2
                  go_quiet (fail)
                  go_wp2
                  refine bodyPost_ret (v := .tuple #[.int .i64 (s : Int), .int .i64 (m1 : Int), .int .i64 0]) (by simp [results, Try.results41, go_sem]) rfl ⟨by rw [HE.out]; rfl, ?_⟩
                  exact G4.out.trans ((Gr.drewN _ _).trans (Gr.drewN _ _))
                · have hqb : ((q1 : Int) != (q2 : Int)) = true := by rw [bne_iff_ne]; omega
                  have HE := Lib.hid (HPE.out.trans (if_pos (by have : ¬ m1 + n ≤ z := fun e => hq (HREF.out.2 e); omega)))
                  clear HREF HPE hq
                  go_quiet (fail)
                  go_wp2
                  refine bodyPost_ret (v := .tuple #[.int .i64 0, .int .i64 0, .int .i64 1]) (by simp [results, Try.results41, go_sem]) rfl ⟨by rw [HE.out]; rfl, ?_⟩
                  exact G4.out.trans (Gr.drewN _ _)
    · have hbx : (((landAt p i).gen : Int) != xg) = true := by rw [bne_iff_ne]; exact hg
      have he : pieceF p ⟨(i : Int), xg, xo, xl⟩ = ((0, 0), 3) := by unfold pieceF; simp only; rw [hl]; simp only; rw [if_pos hg]
      rw [he]
      clear he hl hp hth hx
      go_enter Try.func41, Try.ntmps41
      go_wp2
      go_quiet ((go_at_call 39; exact quiet_same (HT.out _ (GB.out.trans (Gr.drewN _ _)))))
      go_wp2
      refine bodyPost_ret (v := .tuple #[.int .i64 0, .int .i64 0, .int .i64 3]) (by simp [results, Try.results41, go_sem]) rfl ⟨rfl, ?_⟩
      exact GB.out.trans (Gr.drewN _ _)
end Go.Proofs.Ytfnimpgphagnfaa
