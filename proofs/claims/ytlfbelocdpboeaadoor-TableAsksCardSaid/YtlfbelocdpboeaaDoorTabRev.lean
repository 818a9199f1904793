/- Layer 14 (table): slices.Reverse at cells, Ahead walked. -/
import Derived.Test.YtlfbelocdpboeaaDoorTabFrom
import Derived.BigRegion
import Derived.Deep.LoopGhost
namespace Go.Proofs.YtlfbelocdpboeaaDoor
set_option linter.unusedVariables false
set_option linter.unusedSimpArgs false
open Go.RowKit Tab
/-- a store into an owned row of elements of many cells -/
theorem Owns.storeS {w : World} {base : Nat} {e : TypeId} {size : Nat} {ad : Option Addr} {cap n : Nat} {xs : List Value} (h : Owns w base e size ad cap n xs) {g i : Nat} (had : ad = some ⟨g, 0, .none⟩) (hi : i < n * size) (u : Value) :
    Owns (w.setCell ⟨g, i, .none⟩ u) base e size ad cap n (xs.set i u) := by
  obtain ⟨h1, h2, h3, ⟨e1, _⟩ | ⟨g', cur, fr, e1, e2, hg, hfr, hs, ht⟩⟩ := h
  · rw [e1] at had; cases had
  · rw [e1] at had
    cases had
    have hcur : n * size ≤ cap * size := Nat.mul_le_mul_right _ h2
    rw [setCell_eq_setRow w g i cur e fr u hg]
    refine ⟨by simp [h1], h2, h3, .inr ⟨g, _, fr, e1, e2, setRow_heap w g cur _ e fr hg, by simpa using hfr, by simpa using hs, ?_⟩⟩
    rw [Array.toList_setIfInBounds, ← ht]
    apply List.ext_getElem?
    intro j
    simp only [List.getElem?_take, List.getElem?_set, List.length_take]
    by_cases h1 : j < n * size
    · by_cases h2 : i = j
      · subst h2
        have h4 : i < min (n * size) cur.toList.length := by rw [Nat.lt_min]; exact ⟨h1, by simp; omega⟩
        have h5 : i < cur.toList.length := by simp; omega
        simp only [h1, h4, h5, if_true]
      · simp only [h1, h2, if_true, if_false]
    · have h2 : ¬ i = j := by omega
      simp only [h1, h2, if_false]
theorem cv_set {D : List Ci} {i : Nat} (hi : i < D.length) (c : Ci) : ((((cv D).set (i * 4) (.string (str c.key))).set (i * 4 + 1) (.int .i64 c.seq)).set (i * 4 + 2) (.int .i64 c.kind)).set (i * 4 + 3) (.string (str c.val)) = cv (D.set i c) := by
  have hl := cv_length D
  apply List.ext_getElem?
  intro j
  by_cases hj : j < D.length * 4
  · have hq0 : j / 4 < (D.set i c).length := by rw [List.length_set]; omega
    have e1 : (cv (D.set i c))[j]? = (c4 (D.set i c)[j / 4])[j % 4]? := by
      have := cv_get (D.set i c) (j / 4) hq0 (j % 4) (by omega)
      rwa [show j / 4 * 4 + j % 4 = j by omega] at this
    have e2 : (cv D)[j]? = (c4 D[j / 4])[j % 4]? := by
      have := cv_get D (j / 4) (by omega) (j % 4) (by omega)
      rwa [show j / 4 * 4 + j % 4 = j by omega] at this
    rw [e1, List.getElem_set]
    simp only [List.getElem?_set, List.length_set, hl, e2]
    by_cases hq : j / 4 = i
    · subst hq
      have : j % 4 = 0 ∨ j % 4 = 1 ∨ j % 4 = 2 ∨ j % 4 = 3 := by omega
      rcases this with h | h | h | h
      · rw [if_neg (by omega), if_neg (by omega), if_neg (by omega), if_pos (by omega), if_pos (by omega), if_pos rfl, h]; rfl
      · rw [if_neg (by omega), if_neg (by omega), if_pos (by omega), if_pos (by omega), if_pos rfl, h]; rfl
      · rw [if_neg (by omega), if_pos (by omega), if_pos (by omega), if_pos rfl, h]; rfl
      · rw [if_pos (by omega), if_pos (by omega), if_pos rfl, h]; rfl
    · rw [if_neg (by omega), if_neg (by omega), if_neg (by omega), if_neg (by omega), if_neg (fun e => hq e.symm)]
  · rw [List.getElem?_eq_none (by simp only [List.length_set]; omega), List.getElem?_eq_none (by rw [cv_length, List.length_set]; omega)]
/-- a whole cell stored into an owned row -/
theorem Owns.cell4 {w : World} {base : Nat} {ad : Option Addr} {cap : Nat} {D : List Ci} (h : Owns w base 44 4 ad cap D.length (cv D)) {g i : Nat} (had : ad = some ⟨g, 0, .none⟩) (hi : i < D.length) (c : Ci) :
    Owns ((((w.setCell ⟨g, i * 4, none⟩ (.string (str c.key))).setCell ⟨g, i * 4 + 1, none⟩ (.int .i64 c.seq)).setCell ⟨g, i * 4 + 2, none⟩ (.int .i64 c.kind)).setCell ⟨g, i * 4 + 3, none⟩ (.string (str c.val))) base 44 4 ad cap (D.set i c).length (cv (D.set i c)) := by
  have := (((h.storeS had (i := i * 4) (by omega) (.string (str c.key))).storeS had (i := i * 4 + 1) (by omega) (.int .i64 c.seq)).storeS had (i := i * 4 + 2) (by omega) (.int .i64 c.kind)).storeS had (i := i * 4 + 3) (by omega) (.string (str c.val))
  rw [cv_set hi] at this
  rwa [List.length_set]
theorem grown4 (w : World) (g o : Nat) (a b c d : Value) : w.grownBy ((((w.setCell ⟨g, o, none⟩ a).setCell ⟨g, o + 1, none⟩ b).setCell ⟨g, o + 2, none⟩ c).setCell ⟨g, o + 3, none⟩ d) (some g) :=
  grown_trans (grown_trans (grown_trans (grown_set w g o a) (grown_set _ g (o + 1) b)) (grown_set _ g (o + 2) c)) (grown_set _ g (o + 3) d)
theorem Owns.ci {w : World} {base : Nat} {cap : Nat} {D : List Ci} {g : Nat} (h : Owns w base 44 4 (some ⟨g, 0, none⟩) cap D.length (cv D)) {i : Nat} (hi : i < D.length) :
    (w.cell? ⟨g, i * 4, none⟩ = some (.string (str D[i].key)) ∧ w.cell? ⟨g, i * 4 + 1, none⟩ = some (.int .i64 D[i].seq) ∧ w.cell? ⟨g, i * 4 + 2, none⟩ = some (.int .i64 D[i].kind) ∧ w.cell? ⟨g, i * 4 + 3, none⟩ = some (.string (str D[i].val))) ∧
    (w.frozen? ⟨g, i * 4, none⟩ = false ∧ w.frozen? ⟨g, i * 4 + 1, none⟩ = false ∧ w.frozen? ⟨g, i * 4 + 2, none⟩ = false ∧ w.frozen? ⟨g, i * 4 + 3, none⟩ = false) := by
  obtain ⟨b, off, e, c0, c1, c2, c3⟩ := h.row.ci i hi
  cases e
  rw [Nat.zero_add] at c0 c1 c2 c3
  exact ⟨⟨c0, c1, c2, c3⟩, h.unfrozen rfl (by omega), h.unfrozen rfl (by omega), h.unfrozen rfl (by omega), h.unfrozen rfl (by omega)⟩
/-- so many turned at both ends -/
def mixF (C : List Ci) (k : Nat) : List Ci := (List.range C.length).map fun t => if t < k ∨ C.length ≤ t + k then C.getD (C.length - 1 - t) zeroC else C.getD t zeroC
theorem mix_len (C : List Ci) (k : Nat) : (mixF C k).length = C.length := by simp [mixF]
theorem mix_get {C : List Ci} {k t : Nat} (h : t < (mixF C k).length) : (mixF C k)[t] = if t < k ∨ C.length ≤ t + k then C.getD (C.length - 1 - t) zeroC else C.getD t zeroC := by simp [mixF]
theorem mix_zero (C : List Ci) : mixF C 0 = C := by
  apply List.ext_getElem (mix_len C 0)
  intro t h1 h2
  rw [mix_get, if_neg (by omega), getD_get _ h2]
theorem mix_end {C : List Ci} {k : Nat} (h : C.length ≤ 2 * k + 1) : mixF C k = C.reverse := by
  apply List.ext_getElem (by rw [mix_len, List.length_reverse])
  intro t h1 h2
  rw [List.length_reverse] at h2
  rw [mix_get, List.getElem_reverse]
  split
  · rw [getD_get _ (by omega)]
  · rw [getD_get _ h2]
    congr 1
    omega
theorem mix_step {C : List Ci} {k j : Nat} (hj : j + k + 1 = C.length) (hk : k < j) (h1 : k < (mixF C k).length) (h2 : j < (mixF C k).length) : ((mixF C k).set k (mixF C k)[j]).set j (mixF C k)[k] = mixF C (k + 1) := by
  apply List.ext_getElem (by simp [mix_len])
  intro t h3 h4
  rw [mix_len] at h4
  rw [List.getElem_set, List.getElem_set]
  simp only [mix_get]
  split
  · rename_i e
    subst e
    rw [if_neg (by omega), if_pos (by omega)]
    congr 1; omega
  · split
    · rename_i e
      subst e
      rw [if_neg (by omega), if_pos (by omega)]
      congr 1; omega
    · by_cases hh : t < k ∨ C.length ≤ t + k
      · rw [if_pos hh, if_pos (by omega)]
      · rw [if_neg hh, if_neg (by omega)]
set_option maxRecDepth 1000000 in
set_option maxHeartbeats 4000000 in
theorem reverseC_any (base b cap n : Nat) (C : List Ci) (w : World) (hn : n = C.length) (ho : Owns w base 44 4 (some ⟨b, 0, none⟩) cap C.length (cv C)) (hl : C.length ≤ 500000000) :
    Calls Tryd.prog 43 #[.slice (some ⟨b, 0, none⟩) n cap] w fun e w' => e = .returned (.tuple #[]) ∧ Owns w' base 44 4 (some ⟨b, 0, none⟩) cap C.length (cv C.reverse) ∧ w.grownBy w' (some b) := by
  have HO := Lib.hid ho
  subst hn
  clear ho
  go_enter Tryd.func43, Tryd.ntmps43
  go_wp2
  go_loopg [2, 3] C.length (fun m s2 s3 wr => ∃ (i : Nat) (jz : Int), s2 = .int .i64 (i : Int) ∧ s3 = .int .i64 jz ∧ jz = (C.length : Int) - 1 - (i : Int) ∧ i ≤ C.length ∧ C.length - i ≤ m ∧ Owns wr base 44 4 (some ⟨b, 0, none⟩) cap (mixF C i).length (cv (mixF C i)) ∧ w.grownBy wr (some b))
  case atStart => exact ⟨0, _, rfl, rfl, by omega, Nat.zero_le _, by omega, by rw [mix_zero]; exact HO.out, (Gr.refl _).far⟩
  case round =>
    obtain ⟨i, jz, rfl, rfl, hjz, hi, hm, hO, hG⟩ := hrel
    by_cases hlt : (i : Int) < jz
    · obtain ⟨j, rfl⟩ : ∃ j : Nat, jz = (j : Int) := ⟨jz.toNat, by omega⟩
      have hj : j + i + 1 = C.length := by omega
      have hij : i < j := by omega
      have h1 : i < (mixF C i).length := by rw [mix_len]; omega
      have h2 : j < (mixF C i).length := by rw [mix_len]; omega
      obtain ⟨⟨a0, a1, a2, a3⟩, f0, f1, f2, f3⟩ := hO.ci h1
      obtain ⟨⟨b0, b1, b2, b3⟩, g0, g1, g2, g3⟩ := hO.ci h2
      have HS := Lib.hid (mix_step hj hij h1 h2)
      have HW := Lib.hid (fun x y => ((hO.cell4 rfl h1 x).cell4 rfl (i := j) (by rw [List.length_set]; exact h2) y))
      have HG := Lib.hid hG
      have hji : ((j : Int) + 1) ≤ 500000000 := by omega
      generalize (mixF C i)[i] = x at *
      generalize (mixF C i)[j] = y at *
      clear hO hG HO hjz h1 h2
      go_wp2_with fail
      go_region
      go_wp2
      go_roundg (C.length - (i + 1))
      case measure => omega
      case rel =>
        have hW := HW.out y x
        simp only [HS.out] at hW
        exact ⟨i + 1, (j : Int) - 1, by go_num, rfl, by omega, by omega, Nat.le_refl _, hW.gr (Gr.drew _), grown_trans HG.out (grown_trans (grown_trans (grown4 _ _ _ _ _ _ _) (grown4 _ _ _ _ _ _ _)) (Gr.drew _).far)⟩
    · have he := mix_end (C := C) (k := i) (by omega)
      have HO2 := Lib.hid hO
      have HG := Lib.hid hG
      rw [he] at HO2
      clear hO hG hjz he
      go_wp2
      go_end0
      have := HO2.out
      rw [List.length_reverse] at this
      exact ⟨rfl, this, HG.out⟩
theorem reverseC_nil (ad : Option Addr) (cap : Nat) (w : World) : Calls Tryd.prog 43 #[.slice ad 0 cap] w fun e w' => e = .returned (.tuple #[]) ∧ w = w' := by
  go_enter Tryd.func43, Tryd.ntmps43
  go_wp2
  go_loopg [2, 3] 0 (fun _ s2 s3 wr => s2 = .int .i64 0 ∧ s3 = .int .i64 (-1) ∧ w = wr)
  case atStart => exact ⟨rfl, rfl, rfl⟩
  case round =>
    obtain ⟨rfl, rfl, rfl⟩ := hrel
    go_wp2
    go_end0
    exact ⟨rfl, rfl⟩
theorem reverseC_all (base : Nat) (ad : Option Addr) (cap : Nat) (C : List Ci) (w : World) (ho : Owns w base 44 4 ad cap C.length (cv C)) (hl : C.length ≤ 500000000) :
    Calls Tryd.prog 43 #[.slice ad C.length cap] w fun e w' => e = .returned (.tuple #[]) ∧ Owns w' base 44 4 ad cap C.length (cv C.reverse) ∧ w.grownBy w' (ad.map (·.block)) := by
  by_cases h0 : C.length = 0
  · obtain rfl := List.eq_nil_of_length_eq_zero h0
    exact (reverseC_nil ad cap w).mono fun e w' ⟨h1, h2⟩ => by subst h2; exact ⟨h1, ho, (Gr.refl _).far⟩
  · obtain ⟨b, e, _⟩ := ho.at (i := 0) (cv_get C 0 (by omega) 0 (by decide))
    subst e
    exact reverseC_any base b cap C.length C w rfl ho hl
set_option maxRecDepth 100000 in
theorem tAhead_nil (w : World) (v : Vr) (most : Int) : Calls Tryd.prog 21 #[.pointer none, ver v.key v.seq v.kind, .int .i64 most] w fun e w' => e = .returned (.tuple #[.slice none 0 0, .int .i64 1]) ∧ Gr w w' := by
  unfold ver
  go_enter Tryd.func21, Tryd.ntmps21
  go_wp2
  go_ret2
  exact ⟨rfl, Gr.alloc _ _⟩
set_option maxRecDepth 100000 in
theorem tAhead_neg (w : World) (g : Nat) (v : Vr) (most : Int) (hm : most < 0) : Calls Tryd.prog 21 #[.pointer (some ⟨g, 0, none⟩), ver v.key v.seq v.kind, .int .i64 most] w fun e w' => e = .returned (.tuple #[.slice none 0 0, .int .i64 1]) ∧ Gr w w' := by
  unfold ver
  go_enter Tryd.func21, Tryd.ntmps21
  go_wp2
  go_ret2
  exact ⟨rfl, Gr.alloc _ _⟩
/-- so many that come ahead, the nearest first -/
def aheadF (C : List Ci) (v : Vr) (most : Int) : List Ci := ((C.take (rankI v C)).drop (rankI v C - min most.toNat (rankI v C))).reverse
set_option maxRecDepth 100000 in
set_option maxHeartbeats 1000000 in
theorem tAhead_any (w : World) (g : Nat) (C : List Ci) (f : List UInt8) (v : Vr) (most : Int) (h : TabAt w g C f) (hC : C ≠ []) (hl : C.length ≤ 500000000) (hm : MonoV v C) (h0 : 0 ≤ most) (hmo : most ≤ 9223372036854775807) :
    Calls Tryd.prog 21 #[.pointer (some ⟨g, 0, none⟩), ver v.key v.seq v.kind, .int .i64 most] w (RetCs w (aheadF C v most)) := by
  have HRk := Lib.hid (fun w' h' => rank_any w' g C f v h' hl hm)
  have HT := Lib.hid h
  obtain ⟨adc, cc, adf, cf, ht, ht1, ht2, ht3, _⟩ := h
  have t0 := ht.cell (i := 0) rfl
  obtain ⟨bt, ot, rfl, -⟩ := ht3.ci 0 (by cases C with | nil => exact absurd rfl hC | cons => simp)
  have hr := rankI_le v C
  unfold aheadF
  obtain ⟨r, hre⟩ : ∃ r, r = rankI v C := ⟨_, rfl⟩
  simp only [← hre] at HRk ⊢
  rw [← hre] at hr
  clear hre
  obtain ⟨k, hk⟩ : ∃ k, k = r - min most.toNat r := ⟨_, rfl⟩
  rw [← hk]
  have hkr : k ≤ r := by omega
  have hkI : (r : Int) - min most (r : Int) = (k : Int) := by omega
  obtain ⟨L, hL⟩ : ∃ L, L = (C.take r).drop k := ⟨_, rfl⟩
  rw [← hL]
  have hLl : r - k = L.length := by rw [hL, List.length_drop, List.length_take]; omega
  have HRow2 := Lib.hid (show Row w (some ⟨bt, ot + k * 4, none⟩) (cv L) by
    rw [hL, cv_drop, cv_take]
    refine Row.drop_ ?_ _
    intro i u hi; rw [List.getElem?_take] at hi; split at hi <;> first | exact ht3 i u hi | cases hi)
  have hdm : decide (most < 0) = false := decide_eq_false (by omega)
  have hcm : C.length ≤ 9223372036854775807 := by omega
  have hccm : cc ≤ 9223372036854775807 := by unfold maxLen at ht2; omega
  have HAD := Lib.hid (show ∃ a, (if cc = k then some ⟨bt, ot, none⟩ else some ⟨bt, ot + k * 4, none⟩) = some a ∧ Row w (some a) (cv L) from by
    by_cases hc : cc = k
    · rw [if_pos hc]
      refine ⟨_, rfl, ?_⟩
      have : L = [] := List.eq_nil_of_length_eq_zero (by omega)
      rw [this]; intro i u hi; cases hi
    · rw [if_neg hc]; exact ⟨_, rfl, HRow2.out⟩)
  have hrc : r ≤ cc := by omega
  have hLm : L.length ≤ 500000000 := by omega
  clear ht ht3 hm HRow2 hC hL ht1
  have HK := Lib.hid hkI
  have HLl := Lib.hid hLl
  clear hkI hk hLl
  unfold ver at *
  go_enter Tryd.func21, Tryd.ntmps21
  go_wp2
  have gW : Gr w (w.alloc (.cells #[.string (str v.key), .int .i64 v.seq, .int .i64 v.kind] 39)) := Gr.alloc _ _
  have bV := Blk.new w 39 #[.string (str v.key), .int .i64 v.seq, .int .i64 v.kind]
  obtain ⟨y0, y1, y2⟩ : _ ∧ _ ∧ _ := ⟨bV.cell (i := 0) rfl, bV.cell (i := 1) rfl, bV.cell (i := 2) rfl⟩
  have HGW := Lib.hid gW
  have t1 := gW.cell t0
  clear bV gW t0
  generalize w.heap.size = gv at *
  generalize w.alloc (.cells #[.string (str v.key), .int .i64 v.seq, .int .i64 v.kind] 39) = W at *
  refine region_any_gr _ [Is (.pointer (some ⟨g, 0, none⟩)), Is (.pointer (some ⟨g, 0, none⟩)), Is (.pointer (some ⟨g, 0, none⟩)), Is (.slice (some ⟨bt, ot, none⟩) C.length cc), Is (.pointer (some ⟨g, 0, none⟩)), Is (.agg #[.string (str v.key), .int .i64 v.seq, .int .i64 v.kind]), Is (.int .i64 (r : Int)), Is (.slice (some ⟨bt, ot, none⟩) r cc), Is (.slice (some ⟨bt, ot, none⟩) r cc)] (by kernel_rfl) (by kernel_rfl) (by kernel_rfl) rfl rfl ⟨Is.stable _, Is.stable _, Is.stable _, Is.stable _, Is.stable _, Is.stable _, Is.stable _, Is.stable _, Is.stable _, trivial⟩ ⟨?s0, ?s1, ?s2, ?s3, ?s4, ?s5, ?s6, ?s7, ?s8, trivial⟩ ?fin
  case' s0 | s1 | s2 | s3 | s4 | s5 | s6 | s7 | s8 =>
    intro ρ wr hρ hg hK
    simp [readsOf, slotsOf, Op.operands, Call.operands, tmpOf, List.filterMap_cons, List.filterMap_nil, KnownAll, knownOf, srcOf, depsOf, dstOf, Region.binds, nth, Is] at hK
    obtain ⟨hc, hf, hgl⟩ := hρ
    try simp only [wantedBy, dstOf, boolOf, nth, List.getD_cons_zero, List.getD_cons_succ, List.getElem?_cons_zero, List.getElem?_cons_succ, Option.bind_some, if_true, hK, BEq.rfl]
    try go_simp
    first | exact rfl | (rw [if_pos (by omega)]; exact is_here rfl) | (rw [dif_pos (by omega)]; exact is_here rfl) | exact congrArg (Value.int _) (IntWalk.i64_in _ ⟨by omega, by omega⟩) | skip
  case s3 => have z0 := hg.cell t1; go_simp; exact rfl
  case s5 => have z0 := hg.cell y0; have z1 := hg.cell y1; have z2 := hg.cell y2; go_simp; exact rfl
  case s6 => exact any_gr (HRk.out wr (HT.out.gr (HGW.out.trans hg)))
  case fin =>
    intro w1 val hg hH
    simp only [Holds, Is, Nat.zero_add, Nat.reduceAdd] at hH
    obtain ⟨h0, h1, h2, h3, h4, h5, h6, h7, h8, _⟩ := hH
    simp only [List.take_succ_cons, List.take_zero, List.drop_succ_cons, List.drop_zero, putAll, h0, h1, h2, h3, h4, h5, h6, h7, h8, Nat.zero_add, Nat.reduceAdd]
    have HG3 := Lib.hid (HGW.out.trans hg)
    obtain ⟨a, ha, hra⟩ := HAD.out
    have HCl := Lib.hid (fun cap => cloneC_any a L.length cap L _ rfl hLm (hra.gr HG3.out))
    clear hra
    have hkI := HK.out
    have hLl := HLl.out
    go_simp
    go_wp2_with (first
      | (go_at_call 39; go_must (refine (HCl.out _).mono ?_); rintro e w4 ⟨ad4, cp4, rfl, o4, g4⟩)
      | (go_at_call 43; go_must (refine (reverseC_all _ ad4 cp4 L w4 o4 hLm).mono ?_); rintro e w5 ⟨rfl, o5, k5⟩)
      | fail)
    go_ret2
    rw [show L.length = L.reverse.length from List.length_reverse.symm] at o5
    refine ⟨ad4, cp4, by rw [List.length_reverse]; rfl, o5.base HG3.out.size, (HG3.out.trans g4).grown k5 fun x hx => ?_⟩
    cases ad4 with
    | none => cases hx
    | some p => cases hx; exact Nat.le_trans HG3.out.size (o4.lt _ rfl).1
end Go.Proofs.YtlfbelocdpboeaaDoor
