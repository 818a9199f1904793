/- Layer 14 (table): TableSpoils answers true. -/
import Derived.Test.YtlfbelocdpboeaaDoorTabTold
import Derived.Test.YtlfbelocdpboeaaDoorTabRise
namespace Go.Proofs.YtlfbelocdpboeaaDoor
set_option linter.unusedVariables false
set_option linter.unusedSimpArgs false
open Go.RowKit Tab
theorem u64_mod_at (x : Int) (n : Nat) (h : n ≤ 1000000000) : ∃ c : Nat, IntKind.i64.wrap ((IntKind.u64.wrap x).tmod ((n : Int) + 1)) = (c : Int) ∧ c ≤ n := by
  obtain ⟨c, h1, h2⟩ := u64_mod x (n + 1) (by omega) (by omega)
  exact ⟨c, h1, by omega⟩
theorem Owns.blank (w : World) (B : Nat) (e : TypeId) (hB : B ≤ w.heap.size) : Owns (w.alloc (.cells #[] e)) B e 1 (some ⟨w.heap.size, 0, none⟩) 0 0 [] :=
  Owns.made w B #[] e (0, 0) 1 0 0 [] hB (Nat.zero_le _) (Nat.le_refl _) rfl (by simp) rfl
theorem made_gr (N : Nat) (e : TypeId) (size m : Nat) (xs : List Value) : Stable Gr (Made N e size m xs) := by
  rintro v w1 w2 ⟨ad, cap, rfl, ho⟩ h
  exact ⟨ad, cap, rfl, ho.gr h⟩
theorem chkT_any (l : List Ci) {size bits size' bits' : Int} (h : 1 ≤ size ∧ size ≤ 4096 ∧ 1 ≤ bits ∧ bits ≤ 64) (h' : 1 ≤ size' ∧ size' ≤ 4096 ∧ 1 ≤ bits' ∧ bits' ≤ 64) : chkT l size bits = chkT l size' bits' := by
  have h1 : ¬ (size < 1 ∨ 4096 < size ∨ bits < 1 ∨ 64 < bits) := by omega
  have h2 : ¬ (size' < 1 ∨ 4096 < size' ∨ bits' < 1 ∨ 64 < bits') := by omega
  unfold chkT
  rw [if_neg h1, if_neg h2]
theorem chkT_two {l : List Ci} {size bits : Int} (h : chkT l size bits ≠ 0) : buildT l size bits = ([], chkT l size bits) := by unfold buildT; rw [if_neg h]
/-- bytes of one's own, and an error's number -/
def MadeT (B : Nat) (n : Nat) (b : List UInt8) (e : Nat) : Value → World → Prop := fun v w => ∃ ad cap, v = .tuple #[.slice ad n cap, .int .i64 (e : Int)] ∧ Owns w B 5 1 ad cap n (bv b)
theorem MadeT.stable (B n : Nat) (b : List UInt8) (e : Nat) : Stable Gr (MadeT B n b e) := fun _ _ _ ⟨ad, cap, h, o⟩ k => ⟨ad, cap, h, o.gr k⟩
/-- the law's rising and Build, in any world behind -/
theorem rise_build {ad : Option Addr} {cap : Nat} {l : List Ci} {w : World} (hr : Row w ad (cv l)) (hl : l.length ≤ 9223372036854775807) (hvl : ∀ c ∈ l, c.val.length ≤ 9223372036854775807) : ∀ w', Gr w w' → Calls Tryd.prog 9 #[.slice ad l.length cap] w' (RetC w' (riseC l)) :=
  fun w' k => trising_any ad cap l w' (hr.gr k) hl hvl
theorem tBuild_at (R : List Ci) (size bits : Int) (n e : Nat) (b : List UInt8) (hb : buildT R size bits = (b, e)) (hn : b.length = n) (hR : R.length ≤ 60) (ad : Option Addr) (cap B : Nat) (w : World) (ho : Owns w B 44 4 ad cap R.length (cv R)) :
    Calls Tryd.prog 8 #[.slice ad R.length cap, .int .i64 size, .int .i64 bits] w fun x w' => ∃ ad' cap', x = .returned (.tuple #[.slice ad' n cap', .int .i64 (e : Int)]) ∧ Owns w' w.heap.size 5 1 ad' cap' n (bv b) ∧ Gr w w' := by
  have h := tBuild_any ad cap R size bits w (by omega) ho.2.1 ho.row
  rw [hb] at h
  subst hn
  exact h
set_option maxRecDepth 100000 in
set_option maxHeartbeats 4000000 in
theorem TableSpoils_bad (ad : Option Addr) (cap : Nat) (l : List Ci) (size at_ : Int) (y : UInt8) (w : World) (hr : Row w ad (cv l)) (hl : l.length ≤ 9223372036854775807) (hvl : ∀ c ∈ l, c.val.length ≤ 9223372036854775807)
    (q : Nat) (hq : IntKind.i64.wrap ((IntKind.u64.wrap size).tmod 4096) = (q : Int)) (hq2 : (q : Int) < 4096) (hc : chkT (riseC l) (1 + (q : Int)) 8 ≠ 0) :
    Calls Tryd.prog 3 #[.agg #[.slice ad l.length cap, .int .i64 size, .int .i64 at_, .int .u8 (y.toNat : Int)]] w fun e w' => e = .returned (.bool true) ∧ Gr w w' := by
  have HRi := Lib.hid (rise_build (cap := cap) hr hl hvl)
  have HBd := Lib.hid (tBuild_at (riseC l) (1 + (q : Int)) 8 0 _ [] (chkT_two hc) rfl (riseC_len l))
  have hRl := riseC_len l
  obtain ⟨e, he⟩ : ∃ e, e = chkT (riseC l) (1 + (q : Int)) 8 := ⟨_, rfl⟩
  rw [← he] at HBd hc
  have heb : ((e : Int) != 0) = true := by rw [bne_iff_ne]; omega
  clear he hc hr hvl
  generalize riseC l = R at *
  go_enter Tryd.func3, Tryd.ntmps3
  go_wp2_with (first
    | (go_at_call 7; go_must (refine (tabled_any _).mono ?_); rintro e1 w1 ⟨rfl, g1⟩
       have b1 := (Blk.new w 24 #[.slice ad l.length cap, .int .i64 size, .int .i64 at_, .int .u8 (y.toNat : Int)]).gr g1
       have HG1 := Lib.hid ((Gr.alloc w (.cells #[.slice ad l.length cap, .int .i64 size, .int .i64 at_, .int .u8 (y.toNat : Int)] 24)).trans g1)
       obtain ⟨c0, c1, c2, c3⟩ : _ ∧ _ ∧ _ ∧ _ := ⟨b1.cell (i := 0) rfl, b1.cell (i := 1) rfl, b1.cell (i := 2) rfl, b1.cell (i := 3) rfl⟩
       clear b1 g1)
    | fail)
  generalize w.heap.size = gp at *
  refine region_any_gr _ [Is (.pointer (some ⟨gp, 0, none⟩)), Is (.slice ad l.length cap), Made w1.heap.size 44 4 R.length (cv R), Is (.pointer (some ⟨gp, 1, none⟩)), Is (.int .i64 size), Is (.int .u64 (IntKind.u64.wrap size)), Is (.int .u64 ((IntKind.u64.wrap size).tmod 4096)), Is (.int .i64 (q : Int)), Is (.int .i64 (1 + (q : Int))), MadeT w1.heap.size 0 [] e, MadeT w1.heap.size 0 [] e, Made w1.heap.size 5 1 0 (bv []), Is (.int .i64 (e : Int)), Made w1.heap.size 5 1 0 (bv []), Is (.int .i64 (e : Int))] (by kernel_rfl) (by kernel_rfl) (by kernel_rfl) rfl rfl ⟨Is.stable _, Is.stable _, made_gr _ _ _ _ _, Is.stable _, Is.stable _, Is.stable _, Is.stable _, Is.stable _, Is.stable _, MadeT.stable _ _ _ _, MadeT.stable _ _ _ _, made_gr _ _ _ _ _, Is.stable _, made_gr _ _ _ _ _, Is.stable _, trivial⟩ ⟨?s0, ?s1, ?s2, ?s3, ?s4, ?s5, ?s6, ?s7, ?s8, ?s9, ?s10, ?s11, ?s12, ?s13, ?s14, trivial⟩ ?fin
  case' s0 | s1 | s2 | s3 | s4 | s5 | s6 | s7 | s8 | s9 | s10 | s11 | s12 | s13 | s14 =>
    intro ρ wr hρ hg hK
    simp [readsOf, slotsOf, Op.operands, Call.operands, tmpOf, List.filterMap_cons, List.filterMap_nil, KnownAll, knownOf, srcOf, depsOf, dstOf, Region.binds, nth, Is] at hK
    obtain ⟨hc, hf, hgl⟩ := hρ
    try simp only [wantedBy, dstOf, boolOf, nth, List.getD_cons_zero, List.getD_cons_succ, List.getElem?_cons_zero, List.getElem?_cons_succ, Option.bind_some, if_true, hK, BEq.rfl]
    try go_simp
    first | exact rfl | (rw [if_pos (by omega)]; exact is_here rfl) | (rw [dif_pos (by omega)]; exact is_here rfl) | exact congrArg (Value.int _) (IntWalk.i64_in _ ⟨by omega, by omega⟩) | skip
  case s1 => have z := hg.cell c0; go_simp; exact rfl
  case s4 => have z := hg.cell c1; go_simp; exact rfl
  case s2 =>
    refine (HRi.out _ (HG1.out.trans hg)).mono ?_
    rintro e2 w' ⟨ad', cap', rfl, o, g⟩
    exact ⟨_, rfl, g, ad', cap', rfl, o.base hg.size⟩
  case s9 =>
    obtain ⟨⟨ad', cap', e1, o⟩, _⟩ := hK
    rw [e1]
    refine (HBd.out ad' cap' _ wr o).mono ?_
    rintro e2 w' ⟨ad2, c2, rfl, o2, g2⟩
    exact ⟨_, rfl, g2, ad2, c2, rfl, o2.base hg.size⟩
  case s11 =>
    obtain ⟨ad', cap', e1, o⟩ := hK
    rw [e1]
    exact ⟨Gr.refl _, ad', cap', rfl, o⟩
  case s12 =>
    obtain ⟨ad', cap', e1, o⟩ := hK
    rw [e1]
    exact is_here rfl
  case fin =>
    intro w1 val hg hH
    simp only [Holds, Is, Nat.zero_add, Nat.reduceAdd] at hH
    obtain ⟨h0, h1, h2, h3, h4, h5, h6, h7, h8, h9, h10, h11, h12, h13, h14, _⟩ := hH
    simp only [List.take_succ_cons, List.take_zero, List.drop_succ_cons, List.drop_zero, putAll, h0, h1, h3, h4, h5, h6, h7, h8, h12, h14, Nat.zero_add, Nat.reduceAdd]
    obtain ⟨q2, p2, e2, _⟩ := h2
    obtain ⟨q9, p9, e9, _⟩ := h9
    obtain ⟨q10, p10, e10, _⟩ := h10
    obtain ⟨q11, p11, e11, _⟩ := h11
    obtain ⟨q13, p13, e13, o13⟩ := h13
    have HG2 := Lib.hid (HG1.out.trans hg)
    simp only [e2, e9, e10, e11, e13]
    clear o13 hg
    go_simp
    go_wp2
    go_ret
    exact ⟨rfl, HG2.out⟩
theorem Open_none {b : List UInt8} (h : openF b = none) (n : Nat) (hn : b.length = n) (ad : Option Addr) (cap : Nat) (w : World) (hc : n ≤ cap) (hm : cap ≤ maxLen) (hl : n ≤ 500000000) (hb : Bytes w ad b) :
    Calls Tryd.prog 10 #[.slice ad n cap] w fun e w' => e = .returned (.tuple #[.pointer none, .int .i64 2]) ∧ Gr w w' := by
  subst hn
  refine (Open_any ad cap b w hc hm hl hb).mono fun e w' ⟨p, e1, e2, e3, _⟩ => ?_
  rw [h] at e1
  rw [e3 h] at e1
  exact ⟨e1, e2⟩
set_option maxRecDepth 100000 in
set_option maxHeartbeats 8000000 in
theorem TableSpoils_ok (ad : Option Addr) (cap : Nat) (l : List Ci) (size at_ : Int) (y : UInt8) (w : World) (hr : Row w ad (cv l)) (hl : l.length ≤ 9223372036854775807) (hvl : ∀ c ∈ l, c.val.length ≤ 9223372036854775807)
    (q : Nat) (hq : IntKind.i64.wrap ((IntKind.u64.wrap size).tmod 4096) = (q : Int)) (hq2 : (q : Int) < 4096) (hc : chkT (riseC l) (1 + (q : Int)) 8 = 0) :
    Calls Tryd.prog 3 #[.agg #[.slice ad l.length cap, .int .i64 size, .int .i64 at_, .int .u8 (y.toNat : Int)]] w fun e w' => e = .returned (.bool true) ∧ Gr w w' := by
  have HRi := Lib.hid (rise_build (cap := cap) hr hl hvl)
  have hRl := riseC_len l
  obtain ⟨hgood, hne, hf5, hkn⟩ := good_of hc
  have hbt : buildT (riseC l) (1 + (q : Int)) 8 = (layF (runsF (1 + (q : Int)) (riseC l)) (buildF (keysF (riseC l)) 8).1, 0) := by unfold buildT; rw [if_pos hc]
  have hop := (open_build hc).1
  rw [hbt] at hop
  have hlp := lay_parts (runsF (1 + (q : Int)) (riseC l)) (buildF (keysF (riseC l)) 8).1
  have hll := hgood.lay hf5
  have hmore := open_more (runsF (1 + (q : Int)) (riseC l)) (buildF (keysF (riseC l)) 8).1
  have hless := open_less (runsF (1 + (q : Int)) (riseC l)) (buildF (keysF (riseC l)) 8).1
  have hsp := fun k hk hk2 => hgood.spoil hf5 (k := k) hk hk2 (y := y)
  clear hgood hne hkn
  generalize layF (runsF (1 + (q : Int)) (riseC l)) (buildF (keysF (riseC l)) 8).1 = b at *
  obtain ⟨n, hn⟩ : ∃ n, n = b.length := ⟨_, rfl⟩
  obtain ⟨m, hm⟩ : ∃ m, m = b.length - 1 := ⟨_, rfl⟩
  obtain ⟨u, hu⟩ : ∃ u, u = b.length - 24 := ⟨_, rfl⟩
  obtain ⟨k, hk, hku⟩ := u64_mod at_ u (by omega) (by omega)
  have HBd := Lib.hid (tBuild_at (riseC l) (1 + (q : Int)) 8 n 0 b hbt hn.symm hRl)
  have HO1 := Lib.hid (fun ad cap w' => Open_none hless m (by rw [List.length_take]; omega) ad cap w')
  rw [← hm] at HO1
  have HO2 := Lib.hid (fun ad cap w' => Open_none hmore (n + 1) (by rw [List.length_append, hn]; rfl) ad cap w')
  have hkb : k < b.length := by omega
  have HO3 := Lib.hid (fun (hy : y ≠ 0) ad cap w' => Open_none (hsp k hkb (by omega) hy) n (by rw [List.length_set, hn]) ad cap w')
  have HO4 := Lib.hid (show ∀ ad cap w', n ≤ cap → cap ≤ maxLen → Bytes w' ad b → Calls Tryd.prog 10 #[.slice ad n cap] w' fun e w2 => ∃ p, e = .returned (.tuple #[.pointer p, .int .i64 0]) ∧ Gr w' w2 from fun ad cap w' h1 h2 h3 => by
    rw [hn] at h1 ⊢
    refine (Open_any ad cap b w' h1 h2 (by omega) h3).mono fun e w2 ⟨p, e1, e2, _⟩ => ?_
    rw [hop] at e1
    exact ⟨p, e1, e2⟩)
  have HSet := Lib.hid (show y = 0 → b.set k (b[k] ^^^ y) = b from fun h => by rw [h, UInt8.xor_zero]; exact List.set_getElem_self hkb)
  obtain ⟨x, hx⟩ : ∃ x, x = b[k] := ⟨_, rfl⟩
  simp only [← hx] at HO3 HSet
  have HX := Lib.hid (show ∀ (B : Nat) (a : Option Addr) (c : Nat) (w' : World), Owns w' B 5 1 a c n (bv b) → ∃ g, a = some ⟨g, 0, none⟩ ∧ B ≤ g ∧ w'.cell? ⟨g, k, none⟩ = some (.int .u8 (x.toNat : Int)) ∧ w'.frozen? ⟨g, k, none⟩ = false from fun B a c w' ho => by
    have hg := bv_get b k hkb
    rw [← hx] at hg
    obtain ⟨g, e1, e2, e3⟩ := ho.at hg
    exact ⟨g, e1, e2, e3, ho.unfrozen e1 (by omega)⟩)
  have HTk := Lib.hid (show ∀ (a : Option Addr) (w' : World), Bytes w' a b → Bytes w' a (b.take m) from fun a w' h => h.take m)
  have HN := Lib.hid hn
  have hn1 : (n : Int) - 1 = (m : Int) := by omega
  have hn24 : (n : Int) - 24 = (u : Int) := by omega
  have hmn : m ≤ n := by omega
  have hnl : n ≤ 23000000 := by omega
  have hkn : k < n := by omega
  have hu0 : (u : Int) ≠ 0 := by omega
  have hul : (u : Int) ≤ 23000000 := by omega
  clear hc hr hvl hsp hless hmore hop hlp hll hbt hx hf5 hm hu hn hkb hRl
  generalize riseC l = R at *
  go_enter Tryd.func3, Tryd.ntmps3
  go_wp2_with (first
    | (go_at_call 7; go_must (refine (tabled_any _).mono ?_); rintro e1 V1 ⟨rfl, g1⟩
       have b1 := (Blk.new w 24 #[.slice ad l.length cap, .int .i64 size, .int .i64 at_, .int .u8 (y.toNat : Int)]).gr g1
       have HG1 := Lib.hid ((Gr.alloc w (.cells #[.slice ad l.length cap, .int .i64 size, .int .i64 at_, .int .u8 (y.toNat : Int)] 24)).trans g1)
       obtain ⟨c0, c1, c2, c3⟩ : _ ∧ _ ∧ _ ∧ _ := ⟨b1.cell (i := 0) rfl, b1.cell (i := 1) rfl, b1.cell (i := 2) rfl, b1.cell (i := 3) rfl⟩
       have HB1 := Lib.hid b1
       clear b1 g1)
    | fail)
  have HGP := Lib.hid (show w.heap.size < V1.heap.size from HB1.out.lt)
  obtain ⟨gp, hgp⟩ : ∃ gp, gp = w.heap.size := ⟨_, rfl⟩
  rw [← hgp] at c0 c1 c2 c3 HGP
  simp only [← hgp]
  have HGW := Lib.hid hgp
  clear hgp
  refine region_any_gr _ [Is (.pointer (some ⟨gp, 0, none⟩)), Is (.slice ad l.length cap), Made V1.heap.size 44 4 R.length (cv R), Is (.pointer (some ⟨gp, 1, none⟩)), Is (.int .i64 size), Is (.int .u64 (IntKind.u64.wrap size)), Is (.int .u64 ((IntKind.u64.wrap size).tmod 4096)), Is (.int .i64 (q : Int)), Is (.int .i64 (1 + (q : Int))), MadeT V1.heap.size n b 0, MadeT V1.heap.size n b 0, Made V1.heap.size 5 1 n (bv b), Is (.int .i64 0), Made V1.heap.size 5 1 n (bv b), Is (.int .i64 0)] (by kernel_rfl) (by kernel_rfl) (by kernel_rfl) rfl rfl ⟨Is.stable _, Is.stable _, made_gr _ _ _ _ _, Is.stable _, Is.stable _, Is.stable _, Is.stable _, Is.stable _, Is.stable _, MadeT.stable _ _ _ _, MadeT.stable _ _ _ _, made_gr _ _ _ _ _, Is.stable _, made_gr _ _ _ _ _, Is.stable _, trivial⟩ ⟨?s0x1, ?s1x1, ?s2x1, ?s3x1, ?s4x1, ?s5x1, ?s6x1, ?s7x1, ?s8x1, ?s9x1, ?s10x1, ?s11x1, ?s12x1, ?s13x1, ?s14x1, trivial⟩ ?finx1
  case' s0x1 | s1x1 | s2x1 | s3x1 | s4x1 | s5x1 | s6x1 | s7x1 | s8x1 | s9x1 | s10x1 | s11x1 | s12x1 | s13x1 | s14x1 =>
    intro ρ wr hρ hg hK
    simp [readsOf, slotsOf, Op.operands, Call.operands, tmpOf, List.filterMap_cons, List.filterMap_nil, KnownAll, knownOf, srcOf, depsOf, dstOf, Region.binds, nth, Is] at hK
    obtain ⟨hc, hf, hgl⟩ := hρ
    try simp only [wantedBy, dstOf, boolOf, nth, List.getD_cons_zero, List.getD_cons_succ, List.getElem?_cons_zero, List.getElem?_cons_succ, Option.bind_some, if_true, hK, BEq.rfl]
    try go_simp
    first | exact rfl | (rw [if_pos (by omega)]; exact is_here rfl) | (rw [dif_pos (by omega)]; exact is_here rfl) | exact congrArg (Value.int _) (IntWalk.i64_in _ ⟨by omega, by omega⟩) | skip
  case s1x1 => have z := hg.cell c0; go_simp; exact rfl
  case s4x1 => have z := hg.cell c1; go_simp; exact rfl
  case s2x1 =>
    refine (HRi.out _ (HG1.out.trans hg)).mono ?_
    rintro e2 w' ⟨ad', cap', rfl, o, g⟩
    exact ⟨_, rfl, g, ad', cap', rfl, o.base hg.size⟩
  case s9x1 =>
    obtain ⟨⟨ad', cap', e1, o⟩, _⟩ := hK
    rw [e1]
    refine (HBd.out ad' cap' _ wr o).mono ?_
    rintro e2 w' ⟨ad2, c2, rfl, o2, g2⟩
    exact ⟨_, rfl, g2, ad2, c2, rfl, o2.base hg.size⟩
  case s11x1 =>
    obtain ⟨ad', cap', e1, o⟩ := hK
    rw [e1]
    exact ⟨Gr.refl _, ad', cap', rfl, o⟩
  case s12x1 =>
    obtain ⟨ad', cap', e1, o⟩ := hK
    rw [e1]
    exact is_here rfl
  case finx1 =>
    intro w1 val hg hH
    simp only [Holds, Is, Nat.zero_add, Nat.reduceAdd] at hH
    obtain ⟨h0, h1, h2, h3, h4, h5, h6, h7, h8, h9, h10, h11, h12, h13, h14, _⟩ := hH
    simp only [List.take_succ_cons, List.take_zero, List.drop_succ_cons, List.drop_zero, putAll, h0, h1, h3, h4, h5, h6, h7, h8, h12, h14, Nat.zero_add, Nat.reduceAdd]
    obtain ⟨q2, p2, e2, _⟩ := h2
    obtain ⟨q9, p9, e9, _⟩ := h9
    obtain ⟨q10, p10, e10, _⟩ := h10
    obtain ⟨q11, p11, e11, _⟩ := h11
    obtain ⟨adb, cb, e13, o13⟩ := h13
    have HG2 := Lib.hid (HG1.out.trans hg)
    have HGg := Lib.hid hg
    replace c2 := hg.cell c2
    replace c3 := hg.cell c3
    simp only [e2, e9, e10, e11, e13]
    obtain ⟨gb, hgb, hgB, z0, f0⟩ := HX.out _ _ _ _ o13
    subst hgb
    have HOw := Lib.hid o13
    have hcb := o13.2.1
    have hcm := o13.2.2.1
    have HW1 := Lib.hid (show V1.heap.size ≤ gb from hgB)
    clear o13 hg c0 c1 z0 f0 hgB HRi HBd HG1 HB1
    have T1 : RowKit.Hid True := trivial
    have T2 : RowKit.Hid True := trivial
    have T3 : RowKit.Hid True := trivial
    go_simp
    go_wp2_with (first
      | (go_at_call 10; clear T1; go_must (refine (HO1.out _ _ w1 (Nat.le_trans hmn hcb) hcm (by omega) (HTk.out _ _ HOw.out.bytes)).mono ?_); rintro e3 w3 ⟨rfl, g3⟩
         have o3 := HOw.out.gr g3)
      | (at_builtin; clear T2; refine wp_append elemB rfl _ _ rfl rfl (Owns.blank w3 w3.heap.size 5 (Nat.le_refl _)) rfl (Src.bytes (o3.gr (Gr.alloc _ _)).bytes HN.out.symm Tryd.underlying26) (by unfold maxLen; omega) (by omega) (by simp) ?_; intro ad7 c7 w7 o7 k7 f7; have G7 := (Gr.alloc w3 (.cells #[] 5)).of_far k7 (Nat.le_refl _); rw [List.nil_append, Nat.zero_add] at o7; have o8 := o3.gr G7; clear o3)
      | (at_builtin; go_must (refine wp_append elemB rfl _ _ rfl rfl (o7.gr (Gr.alloc _ _)) rfl (Src.one _ _ (0 : UInt8) rfl Tryd.underlying26) (by unfold maxLen; omega) (by omega) (Nat.le_trans G7.size (Gr.alloc _ _).size) ?_); intro ad8 c8 w8 o9 k8 f8; have G8 := G7.app o7 (Nat.le_refl _) k8; rw [← bv_append] at o9; have h9c := o9.2.1; have h9m := o9.2.2.1)
      | (go_at_call 10; clear T3; go_must (refine (HO2.out _ _ w8 h9c h9m (by omega) o9.bytes).mono ?_); rintro e4 w4 ⟨rfl, g4⟩
         have HG4 := Lib.hid (((HG2.out.trans g3).trans G8).trans g4)
         have o4 := ((HOw.out.gr g3).gr G8).gr g4
         have d2 := (((g3.trans G8).trans g4)).cell c2
         have d3 := (((g3.trans G8).trans g4)).cell c3
         obtain ⟨gb2, hgb2, _, z0, f0⟩ := HX.out _ _ _ _ o4
         obtain rfl : gb = gb2 := by cases hgb2; rfl
         have HO4' := Lib.hid o4
         clear o4 o7 o8 o9 G7 G8 g3 g4 c2 c3 k7 f7 k8 f8)
      | fail)
    clear HO1 HO2 HTk
    go_region
    rw [b8_xor]
    obtain ⟨z, hz⟩ : ∃ z, z = x ^^^ y := ⟨_, rfl⟩
    rw [← hz] at HO3 HSet ⊢
    have O5 := (HO4'.out.store rfl hkn (.int .u8 (z.toNat : Int))).gr (Gr.drew _)
    rw [bv_set] at O5
    have HG5 := Lib.hid ((HG4.out.setCell (p := ⟨gb, k, none⟩) (by rw [← HGW.out]; exact Nat.le_trans (Nat.le_of_lt HGP.out) HW1.out) (.int .u8 (z.toNat : Int))).trans (Gr.drew _))
    have d5 : ((w4.setCell ⟨gb, k, none⟩ (.int .u8 (z.toNat : Int))).drew).cell? ⟨gp, 3, none⟩ = some (.int .u8 (y.toNat : Int)) := (Gr.drew _).cell ((World.cell?_setCell_other w4 _ _ _ (show (⟨gb, k, none⟩ : Addr) ≠ ⟨gp, 3, none⟩ from fun e => by have h1 := HGP.out; have h2 := HW1.out; have h3 := congrArg Addr.block e; simp only at h3; omega)).trans d3)
    generalize (w4.setCell ⟨gb, k, none⟩ (.int .u8 (z.toNat : Int))).drew = W5 at *
    by_cases hy : y = 0
    · have hyb : ((y.toNat : Int) == 0) = true := by rw [hy]; rfl
      rw [HSet.out hy] at O5
      clear HO3 HSet
      go_wp2_with (first
        | (go_at_call 10; go_must (refine (HO4.out _ _ W5 hcb hcm O5.bytes).mono ?_); rintro e6 w6 ⟨p6, rfl, g6⟩
           have d6 := g6.cell d5)
        | fail)
      go_ret
      exact ⟨rfl, HG5.out.trans g6⟩
    · have hyb : ((y.toNat : Int) == 0) = false := by
        rw [beq_eq_false_iff_ne]
        intro h
        exact hy (UInt8.toNat_inj.1 (by have : y.toNat = 0 := by omega
                                        rw [this]; rfl))
      have HO3' := Lib.hid (HO3.out hy)
      clear HO3 HSet HO4
      go_wp2_with (first
        | (go_at_call 10; go_must (refine (HO3'.out _ _ W5 hcb hcm (by omega) O5.bytes).mono ?_); rintro e6 w6 ⟨rfl, g6⟩
           have d6 := g6.cell d5)
        | fail)
      go_ret
      exact ⟨rfl, HG5.out.trans g6⟩
theorem TableSpoils_any (ad : Option Addr) (cap : Nat) (l : List Ci) (size at_ : Int) (y : UInt8) (w : World) (hr : Row w ad (cv l)) (hl : l.length ≤ 9223372036854775807) (hvl : ∀ c ∈ l, c.val.length ≤ 9223372036854775807) :
    Calls Tryd.prog 3 #[.agg #[.slice ad l.length cap, .int .i64 size, .int .i64 at_, .int .u8 (y.toNat : Int)]] w fun e w' => e = .returned (.bool true) ∧ Gr w w' := by
  obtain ⟨q, hq, hq2⟩ := u64_mod size 4096 (by decide) (by decide)
  by_cases hc : chkT (riseC l) (1 + (q : Int)) 8 = 0
  · exact TableSpoils_ok ad cap l size at_ y w hr hl hvl q hq (by omega) hc
  · exact TableSpoils_bad ad cap l size at_ y w hr hl hvl q hq (by omega) hc
end Go.Proofs.YtlfbelocdpboeaaDoor
