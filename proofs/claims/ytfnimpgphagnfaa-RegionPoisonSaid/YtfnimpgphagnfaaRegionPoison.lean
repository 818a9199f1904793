/- Layer 1 (region): RegionPoison answers true. -/
import Derived.Test.YtfnimpgphagnfaaRegionZero
import Derived.Test.YtfnimpgphagnfaaRegionHands
namespace Go.Proofs.Ytfnimpgphagnfaa
set_option linter.unusedVariables false
set_option linter.unusedSimpArgs false
open Go.RowKit
/-- two regions are there, a and b -/
structure PI (p : PoolF) (sz a b G : Nat) : Prop where
  sz : p.size = sz
  bl : p.bytes.length = 12
  ha : a < 256
  hb : b < 256
  ne : a ≠ b
  ta : (landAt p a).there = true
  tb : (landAt p b).there = true
  only : ∀ j, j < 256 → (landAt p j).there = true → j = a ∨ j = b
  zero : ZeroOk p
  gen : ∀ j, j < 256 → (landAt p j).gen ≤ G
/-- none is there -/
structure PN (p : PoolF) (sz G : Nat) : Prop where
  sz : p.size = sz
  bl : p.bytes.length = 12
  none_ : ∀ j, j < 256 → (landAt p j).there = false
  zero : ZeroOk p
  gen : ∀ j, j < 256 → (landAt p j).gen ≤ G
section
variable {p p' : PoolF} {sz a b G r : Nat}
theorem PN.start (sz : Nat) : PN (newF sz 12) sz 0 := ⟨rfl, List.length_replicate, fun j _ => by rw [landAt_new]; rfl, ZeroOk.new _ _, fun j _ => by rw [landAt_new]; exact Nat.le_refl _⟩
theorem PN.make2 (hp : PoolOk p) (h : PN p sz G) : ∃ p1 p2, makeR p = (0, 0, p1) ∧ makeR p1 = (1, 0, p2) ∧ PI p2 sz 0 1 (G + 1) ∧ ∀ j, j < 256 → (landAt p1 j).gen ≤ G + 1 := by
  have hm := makeF_is (p := p) (i := 0) (by omega) (h.none_ 0 (by omega)) (fun j hj => by omega)
  have h1 : makeR p = (0, 0, makeAt p 0) := by unfold makeR; rw [hm]
  obtain ⟨_, _, _, e1, e2, _, e4, e5, _⟩ := make_pcs hp h1
  have hp1 : PoolOk (makeAt p 0) := by have := make_ok2 hp; rw [h1] at this; exact this
  have hm1 := makeF_is (p := makeAt p 0) (i := 1) (by omega) (by rw [e5 1 (by omega)]; exact h.none_ 1 (by omega)) (fun j hj => by
    have : j = 0 := by omega
    subst this; rw [e4])
  have h2 : makeR (makeAt p 0) = (1, 0, makeAt (makeAt p 0) 1) := by unfold makeR; rw [hm1]
  obtain ⟨_, _, _, f1, f2, _, f4, f5, _⟩ := make_pcs hp1 h2
  refine ⟨_, _, h1, h2, ⟨by rw [f1, e1]; exact h.sz, by rw [f2, e2]; exact h.bl, by omega, by omega, by omega, by rw [f5 0 (by omega), e4], by rw [f4], fun j hj hth => ?_, make_zero hp1 (make_zero hp h.zero h1) h2, fun j hj => ?_⟩, fun j hj => ?_⟩
  · by_cases j1 : j = 1
    · exact .inr j1
    · rw [f5 j j1] at hth
      by_cases j0 : j = 0
      · exact .inl j0
      · rw [e5 j j0, h.none_ j hj] at hth; cases hth
  · by_cases j1 : j = 1
    · subst j1; rw [f4, e5 1 (by omega)]; have := h.gen 1 hj; show (landAt p 1).gen + 1 ≤ G + 1; omega
    · rw [f5 j j1]
      by_cases j0 : j = 0
      · subst j0; rw [e4]; have := h.gen 0 hj; show (landAt p 0).gen + 1 ≤ G + 1; omega
      · rw [e5 j j0]; have := h.gen j hj; omega
  · by_cases j0 : j = 0
    · subst j0; rw [e4]; have := h.gen 0 hj; show (landAt p 0).gen + 1 ≤ G + 1; omega
    · rw [e5 j j0]; have := h.gen j hj; omega
theorem PI.grew (h : PI p sz a b G) (hs : p'.size = p.size) (hbl : p'.bytes.length = p.bytes.length) (hz : ZeroOk p') (hg : ∀ j, j < 256 → Grew p p' j) : PI p' sz a b G :=
  ⟨by rw [hs]; exact h.sz, by rw [hbl]; exact h.bl, h.ha, h.hb, h.ne, by rw [(hg a h.ha).there]; exact h.ta, by rw [(hg b h.hb).there]; exact h.tb, fun j hj hth => h.only j hj (by rw [← (hg j hj).there]; exact hth), hz, fun j hj => by rw [(hg j hj).gen]; exact h.gen j hj⟩
/-- Alloc, and a whole store -/
theorem PI.alloc (hp : PoolOk p) (h : PI p sz a b G) (hr : r = a ∨ r = b) {n : Nat} (h1 : 1 ≤ n) (h2 : n ≤ sz) :
    (∃ y p', allocF p (r : Int) (n : Int) 1 = (y, 0, p') ∧ PI p' sz a b G ∧ loadF p' y = (List.replicate n 0, 0) ∧ ∀ B : List UInt8, B.length = n → ∃ p'', storeF p' y 0 B = (0, p'') ∧ PI p'' sz a b G) ∨ allocF p (r : Int) (n : Int) 1 = (noHd, 5, p) := by
  have hr2 : r < 256 ∧ (landAt p r).there = true := by
    rcases hr with e | e
    · rw [e]; exact ⟨h.ha, h.ta⟩
    · rw [e]; exact ⟨h.hb, h.tb⟩
  rcases alloc_cases (n := (n : Int)) (a := 1) (landF_of hr2.1 hr2.2) (by omega) (by rw [h.sz]; omega) (by decide) with ⟨y, p', he⟩ | ⟨he, _⟩
  · left
    have hp' : PoolOk p' := by have := alloc_ok hp (r : Int) (n : Int) 1; rw [he] at this; exact this
    obtain ⟨i, o, _, hpc, _, _, hs, hbl, hg, _⟩ := alloc_pcs hp he
    obtain ⟨hz, hld⟩ := alloc_zero hp h.zero he
    rw [Int.toNat_natCast] at hpc hld
    have hI := h.grew hs hbl hz hg
    refine ⟨y, p', he, hI, hld, fun B hB => ?_⟩
    obtain ⟨p'', s1, s2, s3, s4, s5, _⟩ := store_pcs hp' hpc 0 B (by omega)
    have hl : ∀ j, landAt p'' j = landAt p' j := fun j => by unfold landAt; rw [s5]
    exact ⟨p'', s1, hI.grew s2 s3 (store_zero hp' hz hpc 0 B (by omega) s1) (fun j _ => ⟨by rw [hl], by rw [hl], ⟨[], by rw [hl, List.append_nil]⟩, by rw [hl]; exact Nat.le_refl _⟩)⟩
  · exact .inr he
/-- the first is freed: what it had is poison -/
theorem PI.freeA (hp : PoolOk p) (h : PI p sz a b G) : ∃ p', freeF p (a : Int) = (0, p') ∧ slabsF p (a : Int) = ((landAt p a).slabs, 0) ∧ (∀ s ∈ (landAt p a).slabs, rawF p' (s : Int) = (List.replicate sz 0xDD, 0)) ∧ (landAt p a).slabs.length ≤ 12 ∧ ∃ p'', freeF p' (b : Int) = (0, p'') ∧ PN p'' sz G := by
  obtain ⟨p', h1, h2, h3, h4, h5, h6, h7, h8, h9⟩ := free_pcs hp h.ha h.ta
  have hp' : PoolOk p' := by have := free_ok hp (a : Int); rw [h1] at this; exact this
  have hz := free_zero hp h.zero h.ha h.ta h1
  have htb : (landAt p' b).there = true := by rw [h5 b (fun e => h.ne e.symm)]; exact h.tb
  obtain ⟨p'', g1, g2, g3, g4, g5, g6, g7, g8, g9⟩ := free_pcs hp' h.hb htb
  have hlt := (hp.ld a h.ha).lt
  refine ⟨p', h1, by unfold slabsF; rw [landF_of h.ha h.ta], fun s hs => ?_, by have := (hp.ld a h.ha).len; rw [h.bl] at this; exact this, p'', g1, ⟨by rw [g2, h2]; exact h.sz, by rw [g3, h3]; exact h.bl, fun j hj => ?_, free_zero hp' hz h.hb htb g1, fun j hj => ?_⟩⟩
  · unfold rawF
    have := hlt s hs
    rw [if_neg (by rw [h3]; omega), Int.toNat_natCast, h6 s hs, h.sz]
  · by_cases e : j = b
    · rw [e, g4]
    · rw [g5 j e]
      by_cases e2 : j = a
      · rw [e2, h4]
      · rw [h5 j e2]
        cases hth : (landAt p j).there with
        | false => rfl
        | true => rcases h.only j hj hth with h0 | h0
                  · exact absurd h0 e2
                  · exact absurd h0 e
  · by_cases e : j = b
    · rw [e, g4]; show (landAt p' b).gen ≤ G; rw [h5 b (fun e => h.ne e.symm)]; exact h.gen b h.hb
    · rw [g5 j e]
      by_cases e2 : j = a
      · rw [e2, h4]; exact h.gen a h.ha
      · rw [h5 j e2]; exact h.gen j hj
theorem PN.count (hp : PoolOk p) (h : PN p sz G) : countF p = 12 := by
  unfold countF
  have htl : p.taken.length = 12 := by rw [hp.tk, h.bl]
  rw [← htl]
  have : p.taken.filter (!·) = p.taken := List.filter_eq_self.2 (fun x hx => by
    obtain ⟨s, hs, e⟩ := List.getElem_of_mem hx
    have hsb : s < p.bytes.length := by rw [← hp.tk]; exact hs
    cases x with
    | false => rfl
    | true =>
      exfalso
      have hg : p.taken.getD s false = true := by rw [List.getD_eq_getElem?_getD, List.getElem?_eq_getElem hs, e]; rfl
      obtain ⟨i, hi, hm⟩ := (hp.has s hsb).1 hg
      rw [(hp.ld i hi).away (h.none_ i hi)] at hm
      cases hm)
  rw [this]
end
set_option maxRecDepth 100000 in
set_option maxHeartbeats 4000000 in
theorem RegionPoison_any (ad : Option Addr) (cap : Nat) (l : List Int) (z : Int) (w : World) (hr : Row w ad (l.map (Value.int .i64))) (hl : l.length ≤ 9223372036854775807) :
    Calls Try.prog 8 #[.slice ad l.length cap, .int .i64 z] w fun e w' => e = .returned (.bool true) ∧ Gr w w' := by
  have HR := Lib.hid hr
  clear hr
  obtain ⟨q0, e1, hq⟩ := u64_mod z 20 (by decide) (by decide)
  have e1 : IntKind.i64.wrap ((IntKind.u64.wrap z).tmod 20) = (q0 : Int) := e1
  obtain ⟨sz, hsz⟩ : ∃ sz, sz = 64 + 8 * q0 := ⟨_, rfl⟩
  have e2 : (64 : Int) + 8 * (q0 : Int) = (sz : Int) := by omega
  have hs1 : 64 ≤ sz := by omega
  have hs2 : sz ≤ 216 := by omega
  have hs3 : sz % 8 = 0 := by omega
  have hs4 : sz * 12 ≤ 4194304 := by omega
  have HN := Lib.hid (fun w' (k : Gr w w') => New_pl k sz 12 hs1 (by omega) hs3 (by decide) (by decide) hs4)
  clear hsz hs3 hs4
  go_enter Try.func8, Try.ntmps8
  go_wp2_with (first
    | (go_at_call 10; go_must (refine (fertile_any _).mono ?_); rintro e w1 ⟨rfl, g1⟩)
    | (go_at_call 11; go_must (refine (HN.out _ g1).mono ?_); rintro e w2 ⟨g, S1, rfl, k1, hg, P1, b1⟩)
    | fail)
  have HP1 := Lib.hid P1
  clear P1 b1 k1 hg g1 HN e1 e2
  go_loopw [7] (fun v wr => ∃ (i : Nat) (S : Nat → Prop) (p : PoolF), i ≤ 4 ∧ v = .int .i64 (i : Int) ∧ Pl w wr S g p ∧ PN p sz i) (fun v _ => 4 - (intOf v).toNat)
  case atStart => exact ⟨0, S1, _, by omega, rfl, HP1.out, PN.start sz⟩
  case round =>
    clear HP1
    obtain ⟨i, S, p, hi, rfl, hP, hI⟩ := hrel
    by_cases hib : i < 4
    · obtain ⟨p1, p2, f1, f2, hI2, hgen⟩ := hI.make2 hP.ok
      have HM1 := Lib.hid (Make_pl hP (fun j hj => Nat.le_trans (hI.gen j hj) (by omega)) f1)
      have HM2 := Lib.hid (fun w' (h : Pl w w' S g p1) => Make_pl h (fun j hj => Nat.le_trans (hgen j hj) (by omega)) f2)
      have HI2 := Lib.hid hI2
      have T0 : RowKit.Hid True := trivial
      clear hP hI f1 f2 hI2 hgen
      go_wp2_with (first
        | (go_at_call 12; clear T0; go_must (refine HM1.out.mono ?_); rintro e w3 ⟨rfl, m3, P3⟩; have T1 : RowKit.Hid True := trivial)
        | (go_at_call 12; clear T1; go_must (refine (HM2.out _ P3).mono ?_); rintro e w4 ⟨rfl, m4, P4⟩)
        | fail)
      have HP4 := Lib.hid P4
      clear m3 P3 m4 P4
      go_loopw [12] (fun v wr => ∃ (j : Nat) (S : Nat → Prop) (p : PoolF), j ≤ l.length ∧ j ≤ 30 ∧ v = .int .i64 (j : Int) ∧ Pl w wr S g p ∧ PI p sz 0 1 (i + 1)) (fun v _ => l.length - (intOf v).toNat)
      case atStart => exact ⟨0, S, p2, Nat.zero_le _, by omega, rfl, HP4.out, HI2.out⟩
      case round =>
        clear HP4 HI2 HM1 HM2
        obtain ⟨j, S, p, hj, hj3, rfl, hP, hI⟩ := hrel
        by_cases hjl : j < l.length
        · by_cases hj2 : j < 30
          · obtain ⟨bl, off, rfl, zx⟩ := (HR.out.gr hP.gr) j (.int .i64 l[j]) (by simp [hjl])
            generalize l[j] = x at *
            obtain ⟨n0, e4, hn0⟩ := u64_mod x sz (by omega) (by omega)
            have e4 : IntKind.i64.wrap ((IntKind.u64.wrap x).tmod (sz : Int)) = (n0 : Int) := e4
            have e3 : IntKind.u64.wrap (sz : Int) = (sz : Int) := by rw [IntKind.wrap_u64]; omega
            have hz0 : ((sz : Int) == 0) = false := beq_eq_false_iff_ne.2 (by omega)
            obtain ⟨n, hn⟩ : ∃ n, n = n0 + 1 := ⟨_, rfl⟩
            have e5 : (1 : Int) + (n0 : Int) = (n : Int) := by omega
            have hn1 : 1 ≤ n := by omega
            have hn2 : n ≤ sz := by omega
            obtain ⟨t, ht⟩ : ∃ t, t = (j + i) % 2 := ⟨_, rfl⟩
            have hti : ((j : Int) + (i : Int)).tmod 2 = (t : Int) := by rw [ht]; exact (Int.ofNat_tmod (j + i) 2).symm
            have ht2 : t < 2 := by omega
            clear hn hn0 ht
            by_cases ht0 : t = 0
            · rcases hI.alloc hP.ok (r := 1) (.inr rfl) hn1 hn2 with ⟨y, p1, he, hI1, hld, hst⟩ | he
              · have he : allocF p 1 (n : Int) 1 = (y, 0, p1) := he
                have HPl := Lib.hid hP
                have HAl := Lib.hid (Alloc_pl hP he)
                have HI1 := Lib.hid hI1
                have HSt := Lib.hid hst
                have HLd := Lib.hid (fun w' S' (h : Pl w w' S' g p1) => Load_pl h hld)
                rw [List.length_replicate] at HLd
                obtain ⟨yr, yg, yo, yl⟩ := y
                clear hP hI he hI1 hld hst
                go_wp2_with (first
                  | (go_at_call 13; go_must (refine HAl.out.mono ?_); rintro e w5 ⟨rfl, S5, m5, P5⟩
                     have oh := Out.new P5 (.cells #[.int .i64 yr, .int .i64 yg, .int .i64 yo, .int .i64 yl] 33)
                     have P6 := P5.more (Gr.alloc w5 (.cells #[.int .i64 yr, .int .i64 yg, .int .i64 yo, .int .i64 yl] 33))
                     have bh := Blk.new w5 33 #[.int .i64 yr, .int .i64 yg, .int .i64 yo, .int .i64 yl]
                     have hgw : w.heap.size ≤ w5.heap.size := P5.gr.size)
                  | (go_at_call 16; go_must (refine (HLd.out _ _ P6).mono ?_); rintro e w7 ⟨ad7, c7, rfl, o7, k7⟩)
                  | fail)
                have P7 := P6.more k7
                have bh7 := bh.gr k7
                have oh7 := oh.more k7
                have ob := o7.bytes
                have hgh : w.heap.size ≤ w5.heap.size := hgw
                have hno : ∀ x, ad7 = some x → ¬ S5 x.block ∧ w.heap.size ≤ x.block ∧ x.block ≠ w5.heap.size := fun x hx => by
                  have h1 := (o7.lt x hx).1
                  have h2 : (w5.alloc (.cells #[.int .i64 yr, .int .i64 yg, .int .i64 yo, .int .i64 yl] 33)).heap.size = w5.heap.size + 1 := size_alloc1 _ _
                  refine ⟨fun e => by have := P6.pool.lt _ e; omega, by omega, by omega⟩
                have HO7 := Lib.hid (o7.base (Nat.zero_le _))
                have HNO := Lib.hid hno
                clear hno o7
                generalize w5.heap.size = gh at *
                have HP7 := Lib.hid P7; have HBH := Lib.hid bh7; have HOH := Lib.hid oh7; have HOB := Lib.hid ob
                clear P7 bh7 oh7 ob P6 bh oh k7 m5 P5
                refine region_any_gr _ [Is (.int .i64 0), Is (.bool false), Is (.bool false), Is (.int .i64 0), Is (.bool false), Is (.bool false), Is (.bool false), Is (.slice ad7 n c7), Is (.string (str (List.replicate n 0))), Is (.int .i64 (n : Int)), ReadsB (List.replicate n 0), Is (.string (str (List.replicate n 0))), Is (.bool false), Is (.bool false)] (by kernel_rfl) (by kernel_rfl) (by kernel_rfl) rfl rfl ⟨Is.stable _, Is.stable _, Is.stable _, Is.stable _, Is.stable _, Is.stable _, Is.stable _, Is.stable _, Is.stable _, Is.stable _, ReadsB.stable _, Is.stable _, Is.stable _, Is.stable _, trivial⟩ ⟨?s0, ?s1, ?s2, ?s3, ?s4, ?s5, ?s6, ?s7, ?s8, ?s9, ?s10, ?s11, ?s12, ?s13, trivial⟩ ?fin
                case' s0 | s1 | s2 | s3 | s4 | s5 | s6 | s7 | s8 | s9 | s10 | s11 | s12 | s13 =>
                  intro ρ wr hρ hg hK
                  simp [readsOf, slotsOf, Op.operands, Call.operands, tmpOf, List.filterMap_cons, List.filterMap_nil, KnownAll, knownOf, srcOf, depsOf, dstOf, Region.binds, nth, Is] at hK
                  obtain ⟨hc, hf, hgl⟩ := hρ
                  try simp only [wantedBy, dstOf, boolOf, nth, List.getD_cons_zero, List.getD_cons_succ, List.getElem?_cons_zero, List.getElem?_cons_succ, Option.bind_some, if_true, hK, BEq.rfl]
                  try go_simp
                  first | exact rfl | (rw [if_pos (by omega)]; exact is_here rfl) | (rw [dif_pos (by omega)]; exact is_here rfl) | exact congrArg (Value.int _) (IntWalk.i64_in _ ⟨by omega, by omega⟩) | skip
                case s8 =>
                  rw [run_string Try.underlying23 Try.underlying5 Try.underlying9 (by simp) (HOB.out.gr hg)]
                  exact is_here rfl
                case s10 =>
                  obtain ⟨w9, r1, r2, r3⟩ := make_slab wr n (by omega) .i64 .i64
                  rw [r1]
                  refine ⟨r2, some ⟨wr.heap.size, 0, none⟩, n, by rw [List.length_replicate], fun m hm => ⟨_, 0, rfl, ?_⟩⟩
                  rw [Nat.zero_add]
                  exact r3.cell (bv_get _ m hm)
                case s11 => exact any_str Try.underlying23 Try.underlying5 Try.underlying9 hK.1
                case fin =>
                  intro w1 val hg hH
                  simp only [Holds, Is, Nat.zero_add, Nat.reduceAdd] at hH
                  obtain ⟨h0, h1, h2, h3, h4, h5, h6, h7, h8, h9, ⟨ad10, cap10, h10, hb10⟩, h11, h12, h13, _⟩ := hH
                  simp only [List.take_succ_cons, List.take_zero, List.drop_succ_cons, List.drop_zero, putAll, h0, h1, h2, h3, h4, h5, h6, h7, h8, h9, h10, h11, h12, h13, Nat.zero_add, Nat.reduceAdd]
                  have P8 := HP7.out.more hg
                  have O8 := HO7.out.gr hg
                  have B8 := HBH.out.gr hg
                  have H8 := HOH.out.more hg
                  have HP8 := Lib.hid P8; have HO8 := Lib.hid O8; have HB8 := Lib.hid B8; have HH8 := Lib.hid H8
                  clear P8 O8 B8 H8 h10 hb10 hg
                  go_simp
                  go_wp2
                  go_loopw [19] (fun v wr => ∃ (k : Nat) (B : List UInt8), k ≤ n ∧ B.length = n ∧ v = .int .i64 (k : Int) ∧ Pl w wr S5 g p1 ∧ Owns wr 0 5 1 ad7 c7 n (bv B) ∧ Blk wr gh 33 [.int .i64 yr, .int .i64 yg, .int .i64 yo, .int .i64 yl] ∧ Out S5 wr gh) (fun v _ => n - (intOf v).toNat)
                  case atStart => exact ⟨0, List.replicate n 0, Nat.zero_le _, by simp, rfl, HP8.out, HO8.out, HB8.out, HH8.out⟩
                  case round =>
                    clear HP8 HO8 HB8 HH8
                    obtain ⟨k, B, hk, hB, rfl, hP, hO, hBk, hOu⟩ := hrel
                    by_cases hkn : k < n
                    · obtain ⟨ga, rfl, _, zc⟩ := hO.at (bv_get B k (by omega))
                      have hfz := hO.unfrozen rfl (show k < n * 1 by omega)
                      obtain ⟨n1, n2, n3⟩ := HNO.out _ rfl
                      simp only at n1 n2 n3
                      have kk := grown_set wr ga k (.int .u8 119)
                      have HPn := Lib.hid (hP.grown n1 n2 kk)
                      have HOn := Lib.hid (hO.store rfl hkn (.int .u8 119))
                      have HBn := Lib.hid (hBk.grown kk (fun e => n3 (Option.some.inj e).symm))
                      have HUn := Lib.hid (hOu.grown kk.size)
                      clear hP hO hBk hOu kk
                      go_wp2
                      go_roundw
                      case rel => exact ⟨k + 1, B.set k 119, hkn, by simpa using hB, by go_num, HPn.out, by rw [← bv_set]; exact HOn.out, HBn.out, HUn.out⟩
                      case measure => simp [intOf]; omega
                    · obtain rfl : k = n := by omega
                      obtain ⟨p3, s1, s2⟩ := HSt.out B hB
                      have HS3 := Lib.hid (Store_pl (cap := c7) hP hO.bytes hB (by omega) s1)
                      have HI3 := Lib.hid s2
                      obtain ⟨q0', q1', q2', q3', _⟩ := Blk.four hBk
                      clear hP hO hBk hOu s1 s2
                      go_wp2_with (first
                        | (go_at_call 14; go_must (refine HS3.out.mono ?_); rintro e w9 ⟨rfl, m9, P9⟩)
                        | fail)
                      go_roundw
                      case rel => exact ⟨j + 1, S5, p3, hjl, hj2, by go_num, P9, HI3.out⟩
                      case measure => simp [intOf]; omega
              · have he : allocF p 1 (n : Int) 1 = (noHd, 5, p) := he
                have HPl := Lib.hid hP
                have HI0 := Lib.hid hI
                have HAl := Lib.hid (Alloc_pl hP he)
                clear hP hI he
                go_wp2_with (first
                  | (go_at_call 13; go_must (refine HAl.out.mono ?_); rintro e w5 ⟨rfl, S5, m5, P5⟩)
                  | fail)
                have hI := HI0.out
                have hP := P5.more (Gr.alloc w5 (.cells #[.int .i64 noHd.region, .int .i64 noHd.gen, .int .i64 noHd.off, .int .i64 noHd.len] 33))
                obtain ⟨S, hS⟩ : ∃ S, S = S5 := ⟨_, rfl⟩
                rw [← hS] at hP
                clear hS P5 m5
                generalize w5.alloc (.cells #[.int .i64 noHd.region, .int .i64 noHd.gen, .int .i64 noHd.off, .int .i64 noHd.len] 33) = wr2 at *
                obtain ⟨p', a1, a2, a3, a4, p'', a5, a6⟩ := hI.freeA hP.ok
                have a1 : freeF p 0 = (0, p') := a1
                have a2 : slabsF p 0 = ((landAt p 0).slabs, 0) := a2
                have a5 : freeF p' 1 = (0, p'') := a5
                have HSl := Lib.hid (Slabs_pl hP a2)
                have HFA := Lib.hid (fun w' (h : Pl w w' S g p) => Free_pl h a1)
                have HFB := Lib.hid (fun w' (h : Pl w w' S g p') => Free_pl h a5)
                have HRw := Lib.hid (fun w' s (h : Pl w w' S g p') (hs : s ∈ (landAt p 0).slabs) => Raw_pl h (a3 s hs))
                have HPN := Lib.hid a6
                have HPl := Lib.hid hP
                generalize (landAt p 0).slabs = SL at *
                clear hP hI a1 a2 a3 a5 a6
                go_wp2_with (first
                  | (go_at_call 18; go_must (refine HSl.out.mono ?_); rintro e w5 ⟨adS, cS, rfl, oS, k5⟩)
                  | (go_at_call 17; go_must (refine (HFA.out _ (HPl.out.more k5)).mono ?_); rintro e w6 ⟨rfl, m6, P6⟩)
                  | fail)
                have oS6 := m6.chg.owns oS (fun x hx e => by have h1 := (oS.lt x hx).1; have h2 := HPl.out.pool.lt _ e; omega)
                have HO := Lib.hid oS6
                have HP6 := Lib.hid P6
                clear oS oS6 k5 m6 P6
                go_loopw [21] (fun v wr => ∃ m : Nat, m ≤ SL.length ∧ v = .int .i64 (m : Int) ∧ Gr w6 wr) (fun v _ => SL.length - (intOf v).toNat)
                case atStart => exact ⟨0, Nat.zero_le _, rfl, Gr.refl _⟩
                case round =>
                  obtain ⟨m, hm, rfl, hG⟩ := hrel
                  by_cases hml : m < SL.length
                  · obtain ⟨s, hs⟩ : ∃ s, SL[m]? = some s := ⟨_, List.getElem?_eq_getElem hml⟩
                    obtain ⟨ba, rfl, _, za⟩ := (HO.out.gr hG).at (iv_get SL m s hs)
                    have HRs := Lib.hid (HRw.out _ s (HP6.out.more hG) (List.mem_of_getElem? hs))
                    rw [List.length_replicate] at HRs
                    clear hs
                    go_wp2_with (first
                      | (go_at_call 19; go_must (refine HRs.out.mono ?_); rintro e w7 ⟨ad7, c7, rfl, o7, k7⟩)
                      | fail)
                    have HO7 := Lib.hid o7
                    clear o7
                    go_loopw [24] (fun v wr => ∃ k : Nat, k ≤ sz ∧ v = .int .i64 (k : Int) ∧ wr = w7) (fun v _ => sz - (intOf v).toNat)
                    case atStart => exact ⟨0, Nat.zero_le _, rfl, by first | rfl | trivial⟩
                    case round =>
                      obtain ⟨k, hk, rfl, rfl⟩ := hrel
                      by_cases hkl : k < sz
                      · obtain ⟨bb, rfl, _, zb⟩ := HO7.out.at ((bv_get (List.replicate sz (0xDD : UInt8)) k (by rw [List.length_replicate]; exact hkl)).trans (by rw [List.getElem_replicate]))
                        have zb : wr.cell? ⟨bb, k, none⟩ = some (.int .u8 221) := zb
                        go_wp2
                        go_roundw
                        case rel => exact ⟨k + 1, hkl, by go_num, by first | rfl | trivial⟩
                        case measure => simp [intOf]; omega
                      · obtain rfl : k = sz := by omega
                        go_wp2
                        go_roundw
                        case rel => exact ⟨m + 1, hml, by go_num, hG.trans k7⟩
                        case measure => simp [intOf]; omega
                  · obtain rfl : m = SL.length := by omega
                    have HP7 := Lib.hid (HP6.out.more hG)
                    clear hG
                    go_wp2_with (first
                      | (go_at_call 17; go_must (refine (HFB.out _ HP7.out).mono ?_); rintro e w8 ⟨rfl, m8, P8⟩)
                      | fail)
                    go_roundw
                    case rel => exact ⟨i + 1, S, p'', hib, by go_num, P8, HPN.out⟩
                    case measure => simp [intOf]; omega
            · have ht1 : t = 1 := by omega
              subst ht1
              clear ht0
              rcases hI.alloc hP.ok (r := 0) (.inl rfl) hn1 hn2 with ⟨y, p1, he, hI1, hld, hst⟩ | he
              · have he : allocF p 0 (n : Int) 1 = (y, 0, p1) := he
                have HPl := Lib.hid hP
                have HAl := Lib.hid (Alloc_pl hP he)
                have HI1 := Lib.hid hI1
                have HSt := Lib.hid hst
                have HLd := Lib.hid (fun w' S' (h : Pl w w' S' g p1) => Load_pl h hld)
                rw [List.length_replicate] at HLd
                obtain ⟨yr, yg, yo, yl⟩ := y
                clear hP hI he hI1 hld hst
                go_wp2_with (first
                  | (go_at_call 13; go_must (refine HAl.out.mono ?_); rintro e w5 ⟨rfl, S5, m5, P5⟩
                     have oh := Out.new P5 (.cells #[.int .i64 yr, .int .i64 yg, .int .i64 yo, .int .i64 yl] 33)
                     have P6 := P5.more (Gr.alloc w5 (.cells #[.int .i64 yr, .int .i64 yg, .int .i64 yo, .int .i64 yl] 33))
                     have bh := Blk.new w5 33 #[.int .i64 yr, .int .i64 yg, .int .i64 yo, .int .i64 yl]
                     have hgw : w.heap.size ≤ w5.heap.size := P5.gr.size)
                  | (go_at_call 16; go_must (refine (HLd.out _ _ P6).mono ?_); rintro e w7 ⟨ad7, c7, rfl, o7, k7⟩)
                  | fail)
                have P7 := P6.more k7
                have bh7 := bh.gr k7
                have oh7 := oh.more k7
                have ob := o7.bytes
                have hgh : w.heap.size ≤ w5.heap.size := hgw
                have hno : ∀ x, ad7 = some x → ¬ S5 x.block ∧ w.heap.size ≤ x.block ∧ x.block ≠ w5.heap.size := fun x hx => by
                  have h1 := (o7.lt x hx).1
                  have h2 : (w5.alloc (.cells #[.int .i64 yr, .int .i64 yg, .int .i64 yo, .int .i64 yl] 33)).heap.size = w5.heap.size + 1 := size_alloc1 _ _
                  refine ⟨fun e => by have := P6.pool.lt _ e; omega, by omega, by omega⟩
                have HO7 := Lib.hid (o7.base (Nat.zero_le _))
                have HNO := Lib.hid hno
                clear hno o7
                generalize w5.heap.size = gh at *
                have HP7 := Lib.hid P7; have HBH := Lib.hid bh7; have HOH := Lib.hid oh7; have HOB := Lib.hid ob
                clear P7 bh7 oh7 ob P6 bh oh k7 m5 P5
                refine region_any_gr _ [Is (.int .i64 0), Is (.bool false), Is (.bool false), Is (.int .i64 0), Is (.bool false), Is (.bool false), Is (.bool false), Is (.slice ad7 n c7), Is (.string (str (List.replicate n 0))), Is (.int .i64 (n : Int)), ReadsB (List.replicate n 0), Is (.string (str (List.replicate n 0))), Is (.bool false), Is (.bool false)] (by kernel_rfl) (by kernel_rfl) (by kernel_rfl) rfl rfl ⟨Is.stable _, Is.stable _, Is.stable _, Is.stable _, Is.stable _, Is.stable _, Is.stable _, Is.stable _, Is.stable _, Is.stable _, ReadsB.stable _, Is.stable _, Is.stable _, Is.stable _, trivial⟩ ⟨?s0x1, ?s1x1, ?s2x1, ?s3x1, ?s4x1, ?s5x1, ?s6x1, ?s7x1, ?s8x1, ?s9x1, ?s10x1, ?s11x1, ?s12x1, ?s13x1, trivial⟩ ?finx1
                case' s0x1 | s1x1 | s2x1 | s3x1 | s4x1 | s5x1 | s6x1 | s7x1 | s8x1 | s9x1 | s10x1 | s11x1 | s12x1 | s13x1 =>
                  intro ρ wr hρ hg hK
                  simp [readsOf, slotsOf, Op.operands, Call.operands, tmpOf, List.filterMap_cons, List.filterMap_nil, KnownAll, knownOf, srcOf, depsOf, dstOf, Region.binds, nth, Is] at hK
                  obtain ⟨hc, hf, hgl⟩ := hρ
                  try simp only [wantedBy, dstOf, boolOf, nth, List.getD_cons_zero, List.getD_cons_succ, List.getElem?_cons_zero, List.getElem?_cons_succ, Option.bind_some, if_true, hK, BEq.rfl]
                  try go_simp
                  first | exact rfl | (rw [if_pos (by omega)]; exact is_here rfl) | (rw [dif_pos (by omega)]; exact is_here rfl) | exact congrArg (Value.int _) (IntWalk.i64_in _ ⟨by omega, by omega⟩) | skip
                case s8x1 =>
                  rw [run_string Try.underlying23 Try.underlying5 Try.underlying9 (by simp) (HOB.out.gr hg)]
                  exact is_here rfl
                case s10x1 =>
                  obtain ⟨w9, r1, r2, r3⟩ := make_slab wr n (by omega) .i64 .i64
                  rw [r1]
                  refine ⟨r2, some ⟨wr.heap.size, 0, none⟩, n, by rw [List.length_replicate], fun m hm => ⟨_, 0, rfl, ?_⟩⟩
                  rw [Nat.zero_add]
                  exact r3.cell (bv_get _ m hm)
                case s11x1 => exact any_str Try.underlying23 Try.underlying5 Try.underlying9 hK.1
                case finx1 =>
                  intro w1 val hg hH
                  simp only [Holds, Is, Nat.zero_add, Nat.reduceAdd] at hH
                  obtain ⟨h0, h1, h2, h3, h4, h5, h6, h7, h8, h9, ⟨ad10, cap10, h10, hb10⟩, h11, h12, h13, _⟩ := hH
                  simp only [List.take_succ_cons, List.take_zero, List.drop_succ_cons, List.drop_zero, putAll, h0, h1, h2, h3, h4, h5, h6, h7, h8, h9, h10, h11, h12, h13, Nat.zero_add, Nat.reduceAdd]
                  have P8 := HP7.out.more hg
                  have O8 := HO7.out.gr hg
                  have B8 := HBH.out.gr hg
                  have H8 := HOH.out.more hg
                  have HP8 := Lib.hid P8; have HO8 := Lib.hid O8; have HB8 := Lib.hid B8; have HH8 := Lib.hid H8
                  clear P8 O8 B8 H8 h10 hb10 hg
                  go_simp
                  go_wp2
                  go_loopw [19] (fun v wr => ∃ (k : Nat) (B : List UInt8), k ≤ n ∧ B.length = n ∧ v = .int .i64 (k : Int) ∧ Pl w wr S5 g p1 ∧ Owns wr 0 5 1 ad7 c7 n (bv B) ∧ Blk wr gh 33 [.int .i64 yr, .int .i64 yg, .int .i64 yo, .int .i64 yl] ∧ Out S5 wr gh) (fun v _ => n - (intOf v).toNat)
                  case atStart => exact ⟨0, List.replicate n 0, Nat.zero_le _, by simp, rfl, HP8.out, HO8.out, HB8.out, HH8.out⟩
                  case round =>
                    clear HP8 HO8 HB8 HH8
                    obtain ⟨k, B, hk, hB, rfl, hP, hO, hBk, hOu⟩ := hrel
                    by_cases hkn : k < n
                    · obtain ⟨ga, rfl, _, zc⟩ := hO.at (bv_get B k (by omega))
                      have hfz := hO.unfrozen rfl (show k < n * 1 by omega)
                      obtain ⟨n1, n2, n3⟩ := HNO.out _ rfl
                      simp only at n1 n2 n3
                      have kk := grown_set wr ga k (.int .u8 119)
                      have HPn := Lib.hid (hP.grown n1 n2 kk)
                      have HOn := Lib.hid (hO.store rfl hkn (.int .u8 119))
                      have HBn := Lib.hid (hBk.grown kk (fun e => n3 (Option.some.inj e).symm))
                      have HUn := Lib.hid (hOu.grown kk.size)
                      clear hP hO hBk hOu kk
                      go_wp2
                      go_roundw
                      case rel => exact ⟨k + 1, B.set k 119, hkn, by simpa using hB, by go_num, HPn.out, by rw [← bv_set]; exact HOn.out, HBn.out, HUn.out⟩
                      case measure => simp [intOf]; omega
                    · obtain rfl : k = n := by omega
                      obtain ⟨p3, s1, s2⟩ := HSt.out B hB
                      have HS3 := Lib.hid (Store_pl (cap := c7) hP hO.bytes hB (by omega) s1)
                      have HI3 := Lib.hid s2
                      obtain ⟨q0', q1', q2', q3', _⟩ := Blk.four hBk
                      clear hP hO hBk hOu s1 s2
                      go_wp2_with (first
                        | (go_at_call 14; go_must (refine HS3.out.mono ?_); rintro e w9 ⟨rfl, m9, P9⟩)
                        | fail)
                      go_roundw
                      case rel => exact ⟨j + 1, S5, p3, hjl, hj2, by go_num, P9, HI3.out⟩
                      case measure => simp [intOf]; omega
              · have he : allocF p 0 (n : Int) 1 = (noHd, 5, p) := he
                have HPl := Lib.hid hP
                have HI0 := Lib.hid hI
                have HAl := Lib.hid (Alloc_pl hP he)
                clear hP hI he
                go_wp2_with (first
                  | (go_at_call 13; go_must (refine HAl.out.mono ?_); rintro e w5 ⟨rfl, S5, m5, P5⟩)
                  | fail)
                have hI := HI0.out
                have hP := P5.more (Gr.alloc w5 (.cells #[.int .i64 noHd.region, .int .i64 noHd.gen, .int .i64 noHd.off, .int .i64 noHd.len] 33))
                obtain ⟨S, hS⟩ : ∃ S, S = S5 := ⟨_, rfl⟩
                rw [← hS] at hP
                clear hS P5 m5
                generalize w5.alloc (.cells #[.int .i64 noHd.region, .int .i64 noHd.gen, .int .i64 noHd.off, .int .i64 noHd.len] 33) = wr2 at *
                obtain ⟨p', a1, a2, a3, a4, p'', a5, a6⟩ := hI.freeA hP.ok
                have a1 : freeF p 0 = (0, p') := a1
                have a2 : slabsF p 0 = ((landAt p 0).slabs, 0) := a2
                have a5 : freeF p' 1 = (0, p'') := a5
                have HSl := Lib.hid (Slabs_pl hP a2)
                have HFA := Lib.hid (fun w' (h : Pl w w' S g p) => Free_pl h a1)
                have HFB := Lib.hid (fun w' (h : Pl w w' S g p') => Free_pl h a5)
                have HRw := Lib.hid (fun w' s (h : Pl w w' S g p') (hs : s ∈ (landAt p 0).slabs) => Raw_pl h (a3 s hs))
                have HPN := Lib.hid a6
                have HPl := Lib.hid hP
                generalize (landAt p 0).slabs = SL at *
                clear hP hI a1 a2 a3 a5 a6
                go_wp2_with (first
                  | (go_at_call 18; go_must (refine HSl.out.mono ?_); rintro e w5 ⟨adS, cS, rfl, oS, k5⟩)
                  | (go_at_call 17; go_must (refine (HFA.out _ (HPl.out.more k5)).mono ?_); rintro e w6 ⟨rfl, m6, P6⟩)
                  | fail)
                have oS6 := m6.chg.owns oS (fun x hx e => by have h1 := (oS.lt x hx).1; have h2 := HPl.out.pool.lt _ e; omega)
                have HO := Lib.hid oS6
                have HP6 := Lib.hid P6
                clear oS oS6 k5 m6 P6
                go_loopw [21] (fun v wr => ∃ m : Nat, m ≤ SL.length ∧ v = .int .i64 (m : Int) ∧ Gr w6 wr) (fun v _ => SL.length - (intOf v).toNat)
                case atStart => exact ⟨0, Nat.zero_le _, rfl, Gr.refl _⟩
                case round =>
                  obtain ⟨m, hm, rfl, hG⟩ := hrel
                  by_cases hml : m < SL.length
                  · obtain ⟨s, hs⟩ : ∃ s, SL[m]? = some s := ⟨_, List.getElem?_eq_getElem hml⟩
                    obtain ⟨ba, rfl, _, za⟩ := (HO.out.gr hG).at (iv_get SL m s hs)
                    have HRs := Lib.hid (HRw.out _ s (HP6.out.more hG) (List.mem_of_getElem? hs))
                    rw [List.length_replicate] at HRs
                    clear hs
                    go_wp2_with (first
                      | (go_at_call 19; go_must (refine HRs.out.mono ?_); rintro e w7 ⟨ad7, c7, rfl, o7, k7⟩)
                      | fail)
                    have HO7 := Lib.hid o7
                    clear o7
                    go_loopw [24] (fun v wr => ∃ k : Nat, k ≤ sz ∧ v = .int .i64 (k : Int) ∧ wr = w7) (fun v _ => sz - (intOf v).toNat)
                    case atStart => exact ⟨0, Nat.zero_le _, rfl, by first | rfl | trivial⟩
                    case round =>
                      obtain ⟨k, hk, rfl, rfl⟩ := hrel
                      by_cases hkl : k < sz
                      · obtain ⟨bb, rfl, _, zb⟩ := HO7.out.at ((bv_get (List.replicate sz (0xDD : UInt8)) k (by rw [List.length_replicate]; exact hkl)).trans (by rw [List.getElem_replicate]))
                        have zb : wr.cell? ⟨bb, k, none⟩ = some (.int .u8 221) := zb
                        go_wp2
                        go_roundw
                        case rel => exact ⟨k + 1, hkl, by go_num, by first | rfl | trivial⟩
                        case measure => simp [intOf]; omega
                      · obtain rfl : k = sz := by omega
                        go_wp2
                        go_roundw
                        case rel => exact ⟨m + 1, hml, by go_num, hG.trans k7⟩
                        case measure => simp [intOf]; omega
                  · obtain rfl : m = SL.length := by omega
                    have HP7 := Lib.hid (HP6.out.more hG)
                    clear hG
                    go_wp2_with (first
                      | (go_at_call 17; go_must (refine (HFB.out _ HP7.out).mono ?_); rintro e w8 ⟨rfl, m8, P8⟩)
                      | fail)
                    go_roundw
                    case rel => exact ⟨i + 1, S, p'', hib, by go_num, P8, HPN.out⟩
                    case measure => simp [intOf]; omega
          · obtain ⟨p', a1, a2, a3, a4, p'', a5, a6⟩ := hI.freeA hP.ok
            have a1 : freeF p 0 = (0, p') := a1
            have a2 : slabsF p 0 = ((landAt p 0).slabs, 0) := a2
            have a5 : freeF p' 1 = (0, p'') := a5
            have HSl := Lib.hid (Slabs_pl hP a2)
            have HFA := Lib.hid (fun w' (h : Pl w w' S g p) => Free_pl h a1)
            have HFB := Lib.hid (fun w' (h : Pl w w' S g p') => Free_pl h a5)
            have HRw := Lib.hid (fun w' s (h : Pl w w' S g p') (hs : s ∈ (landAt p 0).slabs) => Raw_pl h (a3 s hs))
            have HPN := Lib.hid a6
            have HPl := Lib.hid hP
            generalize (landAt p 0).slabs = SL at *
            clear hP hI a1 a2 a3 a5 a6
            go_wp2_with (first
              | (go_at_call 18; go_must (refine HSl.out.mono ?_); rintro e w5 ⟨adS, cS, rfl, oS, k5⟩)
              | (go_at_call 17; go_must (refine (HFA.out _ (HPl.out.more k5)).mono ?_); rintro e w6 ⟨rfl, m6, P6⟩)
              | fail)
            have oS6 := m6.chg.owns oS (fun x hx e => by have h1 := (oS.lt x hx).1; have h2 := HPl.out.pool.lt _ e; omega)
            have HO := Lib.hid oS6
            have HP6 := Lib.hid P6
            clear oS oS6 k5 m6 P6
            go_loopw [21] (fun v wr => ∃ m : Nat, m ≤ SL.length ∧ v = .int .i64 (m : Int) ∧ Gr w6 wr) (fun v _ => SL.length - (intOf v).toNat)
            case atStart => exact ⟨0, Nat.zero_le _, rfl, Gr.refl _⟩
            case round =>
              obtain ⟨m, hm, rfl, hG⟩ := hrel
              by_cases hml : m < SL.length
              · obtain ⟨s, hs⟩ : ∃ s, SL[m]? = some s := ⟨_, List.getElem?_eq_getElem hml⟩
                obtain ⟨ba, rfl, _, za⟩ := (HO.out.gr hG).at (iv_get SL m s hs)
                have HRs := Lib.hid (HRw.out _ s (HP6.out.more hG) (List.mem_of_getElem? hs))
                rw [List.length_replicate] at HRs
                clear hs
                go_wp2_with (first
                  | (go_at_call 19; go_must (refine HRs.out.mono ?_); rintro e w7 ⟨ad7, c7, rfl, o7, k7⟩)
                  | fail)
                have HO7 := Lib.hid o7
                clear o7
                go_loopw [24] (fun v wr => ∃ k : Nat, k ≤ sz ∧ v = .int .i64 (k : Int) ∧ wr = w7) (fun v _ => sz - (intOf v).toNat)
                case atStart => exact ⟨0, Nat.zero_le _, rfl, by first | rfl | trivial⟩
                case round =>
                  obtain ⟨k, hk, rfl, rfl⟩ := hrel
                  by_cases hkl : k < sz
                  · obtain ⟨bb, rfl, _, zb⟩ := HO7.out.at ((bv_get (List.replicate sz (0xDD : UInt8)) k (by rw [List.length_replicate]; exact hkl)).trans (by rw [List.getElem_replicate]))
                    have zb : wr.cell? ⟨bb, k, none⟩ = some (.int .u8 221) := zb
                    go_wp2
                    go_roundw
                    case rel => exact ⟨k + 1, hkl, by go_num, by first | rfl | trivial⟩
                    case measure => simp [intOf]; omega
                  · obtain rfl : k = sz := by omega
                    go_wp2
                    go_roundw
                    case rel => exact ⟨m + 1, hml, by go_num, hG.trans k7⟩
                    case measure => simp [intOf]; omega
              · obtain rfl : m = SL.length := by omega
                have HP7 := Lib.hid (HP6.out.more hG)
                clear hG
                go_wp2_with (first
                  | (go_at_call 17; go_must (refine (HFB.out _ HP7.out).mono ?_); rintro e w8 ⟨rfl, m8, P8⟩)
                  | fail)
                go_roundw
                case rel => exact ⟨i + 1, S, p'', hib, by go_num, P8, HPN.out⟩
                case measure => simp [intOf]; omega
        · obtain ⟨p', a1, a2, a3, a4, p'', a5, a6⟩ := hI.freeA hP.ok
          have a1 : freeF p 0 = (0, p') := a1
          have a2 : slabsF p 0 = ((landAt p 0).slabs, 0) := a2
          have a5 : freeF p' 1 = (0, p'') := a5
          have HSl := Lib.hid (Slabs_pl hP a2)
          have HFA := Lib.hid (fun w' (h : Pl w w' S g p) => Free_pl h a1)
          have HFB := Lib.hid (fun w' (h : Pl w w' S g p') => Free_pl h a5)
          have HRw := Lib.hid (fun w' s (h : Pl w w' S g p') (hs : s ∈ (landAt p 0).slabs) => Raw_pl h (a3 s hs))
          have HPN := Lib.hid a6
          have HPl := Lib.hid hP
          generalize (landAt p 0).slabs = SL at *
          clear hP hI a1 a2 a3 a5 a6
          go_wp2_with (first
            | (go_at_call 18; go_must (refine HSl.out.mono ?_); rintro e w5 ⟨adS, cS, rfl, oS, k5⟩)
            | (go_at_call 17; go_must (refine (HFA.out _ (HPl.out.more k5)).mono ?_); rintro e w6 ⟨rfl, m6, P6⟩)
            | fail)
          have oS6 := m6.chg.owns oS (fun x hx e => by have h1 := (oS.lt x hx).1; have h2 := HPl.out.pool.lt _ e; omega)
          have HO := Lib.hid oS6
          have HP6 := Lib.hid P6
          clear oS oS6 k5 m6 P6
          go_loopw [21] (fun v wr => ∃ m : Nat, m ≤ SL.length ∧ v = .int .i64 (m : Int) ∧ Gr w6 wr) (fun v _ => SL.length - (intOf v).toNat)
          case atStart => exact ⟨0, Nat.zero_le _, rfl, Gr.refl _⟩
          case round =>
            obtain ⟨m, hm, rfl, hG⟩ := hrel
            by_cases hml : m < SL.length
            · obtain ⟨s, hs⟩ : ∃ s, SL[m]? = some s := ⟨_, List.getElem?_eq_getElem hml⟩
              obtain ⟨ba, rfl, _, za⟩ := (HO.out.gr hG).at (iv_get SL m s hs)
              have HRs := Lib.hid (HRw.out _ s (HP6.out.more hG) (List.mem_of_getElem? hs))
              rw [List.length_replicate] at HRs
              clear hs
              go_wp2_with (first
                | (go_at_call 19; go_must (refine HRs.out.mono ?_); rintro e w7 ⟨ad7, c7, rfl, o7, k7⟩)
                | fail)
              have HO7 := Lib.hid o7
              clear o7
              go_loopw [24] (fun v wr => ∃ k : Nat, k ≤ sz ∧ v = .int .i64 (k : Int) ∧ wr = w7) (fun v _ => sz - (intOf v).toNat)
              case atStart => exact ⟨0, Nat.zero_le _, rfl, by first | rfl | trivial⟩
              case round =>
                obtain ⟨k, hk, rfl, rfl⟩ := hrel
                by_cases hkl : k < sz
                · obtain ⟨bb, rfl, _, zb⟩ := HO7.out.at ((bv_get (List.replicate sz (0xDD : UInt8)) k (by rw [List.length_replicate]; exact hkl)).trans (by rw [List.getElem_replicate]))
                  have zb : wr.cell? ⟨bb, k, none⟩ = some (.int .u8 221) := zb
                  go_wp2
                  go_roundw
                  case rel => exact ⟨k + 1, hkl, by go_num, by first | rfl | trivial⟩
                  case measure => simp [intOf]; omega
                · obtain rfl : k = sz := by omega
                  go_wp2
                  go_roundw
                  case rel => exact ⟨m + 1, hml, by go_num, hG.trans k7⟩
                  case measure => simp [intOf]; omega
            · obtain rfl : m = SL.length := by omega
              have HP7 := Lib.hid (HP6.out.more hG)
              clear hG
              go_wp2_with (first
                | (go_at_call 17; go_must (refine (HFB.out _ HP7.out).mono ?_); rintro e w8 ⟨rfl, m8, P8⟩)
                | fail)
              go_roundw
              case rel => exact ⟨i + 1, S, p'', hib, by go_num, P8, HPN.out⟩
              case measure => simp [intOf]; omega
    · obtain rfl : i = 4 := by omega
      have hc := hI.count hP.ok
      have HC := Lib.hid (Idle_pl hP)
      rw [hc] at HC
      have HG := Lib.hid hP.gr
      clear hP hI hc
      go_wp2_with (first
        | (go_at_call 20; go_must (refine HC.out.mono ?_); rintro e w3 ⟨rfl, rfl⟩)
        | fail)
      go_ret
      exact ⟨rfl, HG.out⟩
end Go.Proofs.Ytfnimpgphagnfaa
