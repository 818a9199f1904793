/- Layer 1 (region): RegionMany answers true. -/
import Derived.Test.YtfnimpgphagnfaaRegionFert
import Derived.Test.YtfnimpgphagnfaaRegionPcs
namespace Go.Proofs.Ytfnimpgphagnfaa
set_option linter.unusedVariables false
set_option linter.unusedSimpArgs false
open Go.RowKit
theorem u64_mod (x : Int) (m : Nat) (hm : 0 < m) (h : m ≤ 4611686018427387904) : ∃ a : Nat, IntKind.i64.wrap ((IntKind.u64.wrap x).tmod (m : Int)) = (a : Int) ∧ a < m := by
  have h0 : 0 ≤ IntKind.u64.wrap x := by rw [IntKind.wrap_u64]; omega
  have h1 : (IntKind.u64.wrap x).tmod (m : Int) = IntKind.u64.wrap x % (m : Int) := Int.tmod_eq_emod_of_nonneg h0
  have h2 := Int.emod_nonneg (IntKind.u64.wrap x) (show (m : Int) ≠ 0 by omega)
  have h3 := Int.emod_lt_of_pos (IntKind.u64.wrap x) (show (0 : Int) < m by omega)
  obtain ⟨a, ha⟩ := Int.eq_ofNat_of_zero_le h2
  refine ⟨a, ?_, by omega⟩
  rw [h1, ha, IntKind.wrap_i64]
  omega
/-- the first i regions are there -/
def ManyA (p : PoolF) (i : Nat) : Prop := p.size = 64 ∧ ∀ j, j < 256 → landAt p j = if j < i then ⟨true, 1, [], 0⟩ else noLand
/-- all that are not gone are there -/
def ManyB (p : PoolF) (G : Nat → Bool) : Prop := p.size = 64 ∧ ∀ j, j < 256 → landAt p j = if G j = true then ⟨false, 1, [], 0⟩ else ⟨true, 1, [], 0⟩
/-- those that were gone are made again up to k -/
def ManyC (p : PoolF) (G : Nat → Bool) (k : Nat) : Prop := p.size = 64 ∧ (∀ j, j < 256 → (landAt p j).there = (decide (j < k) || !G j)) ∧ (∀ j, j < 256 → k ≤ j → (landAt p j).gen = 1) ∧ ∀ j, j < 256 → (landAt p j).gen ≤ 2
section
variable {p p' : PoolF} {G : Nat → Bool} {i k : Nat}
theorem ManyA.start : ManyA (newF 64 1) 0 := ⟨rfl, fun j _ => by rw [landAt_new, if_neg (by omega)]⟩
theorem ManyA.step (hp : PoolOk p) (h : ManyA p i) (hi : i < 256) : makeR p = (i, 0, makeAt p i) ∧ ManyA (makeAt p i) (i + 1) := by
  have h0 : (landAt p i).there = false := by rw [h.2 i hi, if_neg (by omega)]; rfl
  have hm := makeF_is hi h0 (fun j hj => by rw [h.2 j (by omega), if_pos hj])
  refine ⟨by unfold makeR; rw [hm], h.1, fun j hj => ?_⟩
  have := landAt_set p i j ⟨true, (landAt p i).gen + 1, [], 0⟩ (by rw [hp.ln]; exact hi)
  show landAt { p with lands := p.lands.set i ⟨true, (landAt p i).gen + 1, [], 0⟩ } j = _
  rw [this]
  by_cases e : i = j
  · subst e; rw [if_pos rfl, if_pos (by omega), h.2 i hi, if_neg (by omega)]; rfl
  · rw [if_neg e, h.2 j hj]
    by_cases c : j < i
    · rw [if_pos c, if_pos (by omega)]
    · rw [if_neg c, if_neg (by omega)]
theorem ManyA.gen (h : ManyA p i) : ∀ j, j < 256 → (landAt p j).gen ≤ 1000000000 := fun j hj => by
  rw [h.2 j hj]; split <;> decide
theorem ManyA.full (h : ManyA p 256) : makeR p = (0, 5, p) := by
  unfold makeR
  rw [makeF_isnone (fun j hj => by rw [h.2 j hj, if_pos hj])]
theorem ManyA.b (h : ManyA p 256) : ManyB p (fun _ => false) := ⟨h.1, fun j hj => by rw [h.2 j hj, if_pos hj]; rfl⟩
theorem ManyB.gone (h : ManyB p G) (hk : k < 256) (hg : G k = true) : freeF p (k : Int) = (7, p) := by
  have : landF p (k : Int) = none := by
    unfold landF; rw [if_neg]
    rw [Int.toNat_natCast, h.2 k hk, if_pos hg]; simp
  unfold freeF; rw [this]
theorem ManyB.free (hp : PoolOk p) (h : ManyB p G) (hk : k < 256) (hg : G k = false) : ∃ p', freeF p (k : Int) = (0, p') ∧ ManyB p' (upd G k true) := by
  obtain ⟨p', h1, h2, h3, h4, h5, _⟩ := free_pcs hp hk (by rw [h.2 k hk, if_neg (by rw [hg]; simp)])
  refine ⟨p', h1, by rw [h2]; exact h.1, fun j hj => ?_⟩
  by_cases e : j = k
  · subst e
    rw [upd_same, if_pos rfl, h4, h.2 j hk, if_neg (by rw [hg]; simp)]
  · rw [upd_other _ _ e, h5 j e]; exact h.2 j hj
theorem ManyB.c (h : ManyB p G) : ManyC p G 0 := ⟨h.1, fun j hj => by rw [h.2 j hj]; cases hG : G j <;> simp, fun j hj _ => by rw [h.2 j hj]; split <;> rfl, fun j hj => by rw [h.2 j hj]; split <;> decide⟩
theorem ManyC.skip (h : ManyC p G k) (hg : G k = false) : ManyC p G (k + 1) := by
  refine ⟨h.1, fun j hj => ?_, fun j hj hk => h.2.2.1 j hj (by omega), h.2.2.2⟩
  rw [h.2.1 j hj]
  by_cases e : j = k
  · subst e; rw [hg]; simp
  · have : decide (j < k) = decide (j < k + 1) := by rw [decide_eq_decide]; omega
    rw [this]
theorem ManyC.make (hp : PoolOk p) (h : ManyC p G k) (hk : k < 256) (hg : G k = true) : ∃ p', makeR p = (k, 0, p') ∧ ManyC p' G (k + 1) ∧ landAt p' k = ⟨true, 2, [], 0⟩ := by
  have h0 : (landAt p k).there = false := by rw [h.2.1 k hk, hg]; simp
  have hm := makeF_is hk h0 (fun j hj => by rw [h.2.1 j (by omega)]; simp [hj])
  have hr : makeR p = (k, 0, makeAt p k) := by unfold makeR; rw [hm]
  obtain ⟨_, _, _, h1, _, _, h4, h5, _⟩ := make_pcs hp hr
  have hk2 : landAt (makeAt p k) k = ⟨true, 2, [], 0⟩ := by rw [h4, h.2.2.1 k hk (Nat.le_refl _)]
  refine ⟨_, hr, ⟨by rw [h1]; exact h.1, fun j hj => ?_, fun j hj hkj => ?_, fun j hj => ?_⟩, hk2⟩
  · by_cases e : j = k
    · subst e; rw [hk2]; simp
    · rw [h5 j e, h.2.1 j hj]
      have : decide (j < k) = decide (j < k + 1) := by rw [decide_eq_decide]; omega
      rw [this]
  · rw [h5 j (by omega)]; exact h.2.2.1 j hj (by omega)
  · by_cases e : j = k
    · subst e; rw [hk2]; decide
    · rw [h5 j e]; exact h.2.2.2 j hj
theorem ManyC.grew (h : ManyC p G k) (hs : p'.size = p.size) (hg : ∀ j, j < 256 → Grew p p' j) : ManyC p' G k :=
  ⟨by rw [hs]; exact h.1, fun j hj => by rw [(hg j hj).there]; exact h.2.1 j hj, fun j hj hk => by rw [(hg j hj).gen]; exact h.2.2.1 j hj hk, fun j hj => by rw [(hg j hj).gen]; exact h.2.2.2 j hj⟩
theorem ManyC.gen (h : ManyC p G k) : ∀ j, j < 256 → (landAt p j).gen ≤ 1000000000 := fun j hj => Nat.le_trans (h.2.2.2 j hj) (by decide)
theorem ManyC.full (h : ManyC p G 256) : makeR p = (0, 5, p) := by
  unfold makeR
  rw [makeF_isnone (fun j hj => by rw [h.2.1 j hj]; simp [hj])]
/-- what an Alloc in the region answers -/
theorem ManyC.alloc (hp : PoolOk p) (h : ManyC p G (k + 1)) (hk : k < 256) (h2 : landAt p k = ⟨true, 2, [], 0⟩) : ∃ x e p', allocF p (k : Int) 1 1 = (x, e, p') ∧ ((e = 0 ∧ x.gen = 2) ∨ e = 5) ∧ ManyC p' G (k + 1) := by
  have hl : landF p (k : Int) = some k := landF_of hk (by rw [h2])
  rcases alloc_cases (n := 1) (a := 1) hl (by decide) (by rw [h.1]; decide) (by decide) with ⟨y, p', he⟩ | ⟨he, _⟩
  · obtain ⟨i, o, hli, hpc, _, _, hs, _, hg, _⟩ := alloc_pcs hp he
    rw [hl] at hli
    cases hli
    refine ⟨y, 0, p', he, .inl ⟨rfl, ?_⟩, h.grew hs hg⟩
    rw [hpc.gen, (hg k hk).gen, h2]; rfl
  · exact ⟨noHd, 5, p, he, .inr rfl, h⟩
end
def goneV (G : Nat → Bool) (n : Nat) : List Value := (List.range n).map fun j => .bool (G j)
theorem goneV_get (G : Nat → Bool) {n k : Nat} (h : k < n) : (goneV G n)[k]? = some (.bool (G k)) := by simp [goneV, h]
theorem goneV_set (G : Nat → Bool) {n k : Nat} (h : k < n) (b : Bool) : (goneV G n).set k (.bool b) = goneV (upd G k b) n := by
  apply List.ext_getElem?
  intro m
  rw [List.getElem?_set]
  by_cases e : k = m
  · subst e; rw [if_pos rfl, goneV_get _ h, upd_same, if_pos (by simp [goneV, h])]
  · rw [if_neg e]
    by_cases hm : m < n
    · rw [goneV_get _ hm, goneV_get _ hm, upd_other _ _ (fun x => e x.symm)]
    · simp [goneV, hm]
theorem goneV_none (n : Nat) : List.replicate n (Value.bool false) = goneV (fun _ => false) n := by
  apply List.ext_getElem?
  intro m
  by_cases hm : m < n
  · rw [goneV_get _ hm, List.getElem?_replicate, if_pos hm]
  · simp [goneV, hm]
theorem Pl.more' {w0 w : World} {S : Nat → Prop} {g : Nat} {p : PoolF} (h : Pl w0 w S g p) {b : Nat} (hO : Out S w b) (hb : w0.heap.size ≤ b) (i : Nat) (v : Value) : Pl w0 (w.setCell ⟨b, i, none⟩ v) S g p :=
  ⟨Gr.of_far h.gr (grown_set w b i v) hb, h.pool.chg (Chg.grown (S := fun j => j = b) (grown_set w b i v) rfl) (fun j hj e => hO.no (e ▸ hj)), h.ok, h.base⟩
theorem Out.set {S : Nat → Prop} {w : World} {b : Nat} (h : Out S w b) (q : Addr) (v : Value) : Out S (w.setCell q v) b := ⟨h.no, by simpa using h.lt⟩
set_option maxRecDepth 100000 in
set_option maxHeartbeats 4000000 in
theorem RegionMany_any (ad : Option Addr) (cap : Nat) (l : List Int) (w : World) (hr : Row w ad (l.map (Value.int .i64))) (hl : l.length ≤ 9223372036854775807) :
    Calls Try.prog 5 #[.slice ad l.length cap] w fun e w' => e = .returned (.bool true) ∧ Gr w w' := by
  have HR := Lib.hid hr
  clear hr
  go_enter Try.func5, Try.ntmps5
  go_wp2_with (first
    | (go_at_call 10; go_must (refine (fertile_any _).mono ?_); rintro e w1 ⟨rfl, g1⟩)
    | (go_at_call 11; go_must (refine (New_pl g1 64 1 (by decide) (by decide) (by decide) (by decide) (by decide) (by decide)).mono ?_); rintro e w2 ⟨g, S1, rfl, k1, hg, P1, b1⟩)
    | fail)
  have HP1 := Lib.hid P1
  clear P1 b1 k1 hg g1
  go_loopw [5] (fun v wr => ∃ (i : Nat) (S : Nat → Prop) (p : PoolF), i ≤ 256 ∧ v = .int .i64 (i : Int) ∧ Pl w wr S g p ∧ ManyA p i) (fun v _ => 256 - (intOf v).toNat)
  case atStart => exact ⟨0, S1, _, by omega, rfl, HP1.out, ManyA.start⟩
  case round =>
    obtain ⟨i, S, p, hi, rfl, hP, hA⟩ := hrel
    by_cases hib : i < 256
    · obtain ⟨h1, h2⟩ := hA.step hP.ok hib
      have HC := Lib.hid (Make_pl hP hA.gen h1)
      have HA := Lib.hid h2
      clear hP hA h1 h2
      go_wp2_with (first
        | (go_at_call 12; go_must (refine HC.out.mono ?_); rintro e w3 ⟨rfl, m3, P3⟩)
        | fail)
      go_roundw
      case rel => exact ⟨i + 1, S, _, hib, by go_num, P3, HA.out⟩
      case measure => simp [intOf]; omega
    · obtain rfl : i = 256 := by omega
      have HC := Lib.hid (Make_pl hP hA.gen hA.full)
      have HB := Lib.hid hA.b
      clear hP hA
      go_wp2_with (first
        | (go_at_call 12; go_must (refine HC.out.mono ?_); rintro e w3 ⟨rfl, m3, P3⟩)
        | (at_make; go_must (refine wp_make elemBool rfl rfl _ _ rfl 256 256 rfl rfl rfl rfl (Nat.le_refl _) (by decide) (by decide) ?_); intro w4 o4 g4 z4)
        | fail)
      rw [goneV_none] at o4
      obtain ⟨gb, hgb⟩ : ∃ gb, gb = w3.heap.size := ⟨_, rfl⟩
      have hO := Out.new P3 (.cells #[] 4)
      rw [← hgb] at o4 hO ⊢
      have HO4 := Lib.hid (show Out S w4 gb from ⟨hO.no, (o4.lt _ rfl).2⟩)
      have HP4 := Lib.hid (P3.more g4)
      have HW4 := Lib.hid o4
      have hgw : w.heap.size ≤ gb := by rw [hgb]; exact P3.gr.size
      clear hO P3 o4 g4 z4 m3 hgb
      go_loopw [11, 12] (fun u v wr => ∃ (c i : Nat) (S : Nat → Prop) (p : PoolF) (G : Nat → Bool), c ≤ i ∧ i ≤ l.length ∧ i ≤ 300 ∧ u = .int .i64 (c : Int) ∧ v = .int .i64 (i : Int) ∧ Pl w wr S g p ∧ ManyB p G ∧ Out S wr gb ∧ Owns wr gb 4 1 (some ⟨gb, 0, none⟩) 256 256 (goneV G 256)) (fun _ v _ => l.length - (intOf v).toNat)
      case atStart => exact ⟨0, 0, S, p, _, Nat.le_refl _, Nat.zero_le _, by omega, rfl, rfl, HP4.out, HB.out, HO4.out, HW4.out⟩
      case round =>
        clear HB HP4 HO4 HW4 HC HP1
        obtain ⟨c, i, S, p, G, hc, hi, hi3, rfl, rfl, hP, hB, hO, hW⟩ := hrel
        by_cases hib : i < l.length
        · by_cases hi2 : i < 300
          · obtain ⟨bl, off, rfl, z⟩ := (HR.out.gr hP.gr) i (.int .i64 l[i]) (by simp [hib])
            obtain ⟨k, e1, hk⟩ := u64_mod l[i] 256 (by decide) (by decide)
            have e1 : IntKind.i64.wrap ((IntKind.u64.wrap l[i]).tmod 256) = (k : Int) := e1
            obtain ⟨gb', hgb', _, zg⟩ := hW.at (goneV_get G (show k < 256 from hk))
            cases hgb'
            have hfz := hW.unfrozen rfl (show k < 256 * 1 by omega)
            have HPl := Lib.hid hP
            have HOu := Lib.hid hO
            have HOw := Lib.hid hW
            generalize l[i] = x at *
            cases hG : G k with
            | true =>
              have HF := Lib.hid (fun w' (h : Pl w w' S g p) => Free_pl h (hB.gone hk hG))
              have HB := Lib.hid hB
              have HGk := Lib.hid hG
              rw [hG] at zg
              clear hP hB hO hW
              have HD := Lib.hid (fun w' : World => (⟨fun h => h.gr (Gr.drew w'), fun h => h.more (Gr.drew w'), fun _ => trivial⟩ : Keeping (fun w' => Owns w' gb 4 1 (some ⟨gb, 0, none⟩) 256 256 (goneV G 256)) (fun w' => Pl w w' S g p) (fun _ => True) w' w'.drew))
              have HP0 := Lib.hid (HPl.out.more (Gr.drew _))
              go_wp2
              refine region_phase (Le := Keeping (fun w' => Owns w' gb 4 1 (some ⟨gb, 0, none⟩) 256 256 (goneV G 256)) (fun w' => Pl w w' S g p) (fun _ => True)) (fun w' => Pl w w' S g p) 2 (fun _ => ⟨fun x => x, fun x => x, fun x => x⟩) (fun _ _ _ h k => ⟨fun x => k.1 (h.1 x), fun x => k.2.1 (h.2.1 x), fun x => k.2.2 (h.2.2 x)⟩) HD.out HP0.out _ [Is ?r0, Is ?r1, (fun v w' => v = .int .i64 7 ∧ Pl w w' S g p), Is (.bool false), Is ?r4, Is ?r5, Is (.pointer (some ⟨gb, k, none⟩)), Is (.bool (G k)), Is (.bool false)] (by kernel_rfl) (by kernel_rfl) (by kernel_rfl) rfl rfl ⟨Is.stable _, Is.stable _, (fun _ _ _ h k => ⟨h.1, k.2.1 h.2⟩), Is.stable _, Is.stable _, Is.stable _, Is.stable _, Is.stable _, Is.stable _, trivial⟩ ⟨?s0, ?s1, ?s2, ?s3, ?s4, ?s5, ?s6, ?s7, ?s8, trivial⟩ ?fin
              case' s0 | s1 | s2 | s3 | s4 | s5 | s6 | s7 | s8 =>
                intro ρ wr hρ hg hK
                simp [readsOf, slotsOf, Op.operands, Call.operands, tmpOf, List.filterMap_cons, List.filterMap_nil, KnownAll, knownOf, srcOf, depsOf, dstOf, Region.binds, nth, Is] at hK
                obtain ⟨hc, hf, hgl⟩ := hρ
                try simp only [wantedBy, dstOf, boolOf, nth, List.getD_cons_zero, List.getD_cons_succ, List.getElem?_cons_zero, List.getElem?_cons_succ, Option.bind_some, if_true, hK, BEq.rfl]
                try go_simp
                first | exact rfl | (rw [if_pos (by omega)]; exact is_here rfl) | (rw [dif_pos (by omega)]; exact is_here rfl) | exact congrArg (Value.int _) (IntWalk.i64_in _ ⟨by omega, by omega⟩) | skip
              case s2 =>
                refine (HF.out _ (hg.2 (by kernel_rfl))).mono ?_
                rintro e w7 ⟨rfl, m7, P7⟩
                exact ⟨_, rfl, ⟨⟨fun h => m7.chg.owns h (fun x hx => by cases hx; exact HOu.out.no), fun _ => P7, fun _ => trivial⟩, fun h => by cases h⟩, rfl, P7⟩
              case s6 =>
                rw [if_pos (by omega)]
                exact ⟨⟨⟨fun x => x, fun x => x, fun x => x⟩, fun _ h => h⟩, rfl⟩
              case s7 =>
                obtain ⟨gb', hgb', _, zh⟩ := (hg.1.1 HOw.out).at (goneV_get G (show k < 256 from hk))
                cases hgb'
                rw [HGk.out] at zh
                go_simp
                exact rfl
              case fin =>
                intro w1 val hg hH
                simp only [Holds, Is, Nat.zero_add, Nat.reduceAdd] at hH
                obtain ⟨h0, h1, h2, h3, h4, h5, h6, h7, h8, _⟩ := hH
                simp only [List.take_succ_cons, List.take_zero, List.drop_succ_cons, List.drop_zero, putAll, h0, h1, h3, h4, h5, h6, h7, h8, Nat.zero_add, Nat.reduceAdd]
                have hW1 := hg.1 HOw.out
                have P9 := h2.2
                have hO1 : Out S w1 gb := ⟨HOu.out.no, (hW1.lt _ rfl).2⟩
                obtain ⟨gb', hgb', _, zh⟩ := hW1.at (goneV_get G (show k < 256 from hk))
                cases hgb'
                rw [HGk.out] at zh
                have hfz := hW1.unfrozen rfl (show k < 256 * 1 by omega)
                have HW1 := Lib.hid hW1
                have HP9 := Lib.hid P9
                have HO1 := Lib.hid hO1
                clear h2 hW1 P9 hO1 hg
                go_simp
                go_wp2
                go_roundw
                case rel => exact ⟨c, i + 1, S, p, G, by omega, hib, hi2, rfl, by go_num, HP9.out, HB.out, HO1.out, HW1.out⟩
                case measure => simp [intOf]; omega
            | false =>
              obtain ⟨p', hf, hB2⟩ := hB.free hP.ok hk hG
              have HF := Lib.hid (fun w' (h : Pl w w' S g p) => Free_pl h hf)
              have HB := Lib.hid hB2
              have HGk := Lib.hid hG
              rw [hG] at zg
              clear hP hB hO hW hf hB2
              have HD := Lib.hid (fun w' : World => (⟨fun h => h.gr (Gr.drew w'), fun h => h.more (Gr.drew w'), fun _ => trivial⟩ : Keeping (fun w' => Owns w' gb 4 1 (some ⟨gb, 0, none⟩) 256 256 (goneV G 256)) (fun w' => Pl w w' S g p') (fun _ => True) w' w'.drew))
              have HP0 := Lib.hid (HPl.out.more (Gr.drew _))
              go_wp2
              refine region_phase (Le := Keeping (fun w' => Owns w' gb 4 1 (some ⟨gb, 0, none⟩) 256 256 (goneV G 256)) (fun w' => Pl w w' S g p') (fun _ => True)) (fun w' => Pl w w' S g p) 2 (fun _ => ⟨fun x => x, fun x => x, fun x => x⟩) (fun _ _ _ h k => ⟨fun x => k.1 (h.1 x), fun x => k.2.1 (h.2.1 x), fun x => k.2.2 (h.2.2 x)⟩) HD.out HP0.out _ [Is ?r0x1, Is ?r1x1, (fun v w' => v = .int .i64 0 ∧ Pl w w' S g p'), Is (.bool true), Is ?r4x1, Is ?r5x1, Is (.pointer (some ⟨gb, k, none⟩)), Is (.bool (G k)), Is (.bool false)] (by kernel_rfl) (by kernel_rfl) (by kernel_rfl) rfl rfl ⟨Is.stable _, Is.stable _, (fun _ _ _ h k => ⟨h.1, k.2.1 h.2⟩), Is.stable _, Is.stable _, Is.stable _, Is.stable _, Is.stable _, Is.stable _, trivial⟩ ⟨?s0x1, ?s1x1, ?s2x1, ?s3x1, ?s4x1, ?s5x1, ?s6x1, ?s7x1, ?s8x1, trivial⟩ ?finx1
              case' s0x1 | s1x1 | s2x1 | s3x1 | s4x1 | s5x1 | s6x1 | s7x1 | s8x1 =>
                intro ρ wr hρ hg hK
                simp [readsOf, slotsOf, Op.operands, Call.operands, tmpOf, List.filterMap_cons, List.filterMap_nil, KnownAll, knownOf, srcOf, depsOf, dstOf, Region.binds, nth, Is] at hK
                obtain ⟨hc, hf, hgl⟩ := hρ
                try simp only [wantedBy, dstOf, boolOf, nth, List.getD_cons_zero, List.getD_cons_succ, List.getElem?_cons_zero, List.getElem?_cons_succ, Option.bind_some, if_true, hK, BEq.rfl]
                try go_simp
                first | exact rfl | (rw [if_pos (by omega)]; exact is_here rfl) | (rw [dif_pos (by omega)]; exact is_here rfl) | exact congrArg (Value.int _) (IntWalk.i64_in _ ⟨by omega, by omega⟩) | skip
              case s2x1 =>
                refine (HF.out _ (hg.2 (by kernel_rfl))).mono ?_
                rintro e w7 ⟨rfl, m7, P7⟩
                exact ⟨_, rfl, ⟨⟨fun h => m7.chg.owns h (fun x hx => by cases hx; exact HOu.out.no), fun _ => P7, fun _ => trivial⟩, fun h => by cases h⟩, rfl, P7⟩
              case s6x1 =>
                rw [if_pos (by omega)]
                exact ⟨⟨⟨fun x => x, fun x => x, fun x => x⟩, fun _ h => h⟩, rfl⟩
              case s7x1 =>
                obtain ⟨gb', hgb', _, zh⟩ := (hg.1.1 HOw.out).at (goneV_get G (show k < 256 from hk))
                cases hgb'
                rw [HGk.out] at zh
                go_simp
                exact rfl
              case finx1 =>
                intro w1 val hg hH
                simp only [Holds, Is, Nat.zero_add, Nat.reduceAdd] at hH
                obtain ⟨h0, h1, h2, h3, h4, h5, h6, h7, h8, _⟩ := hH
                simp only [List.take_succ_cons, List.take_zero, List.drop_succ_cons, List.drop_zero, putAll, h0, h1, h3, h4, h5, h6, h7, h8, Nat.zero_add, Nat.reduceAdd]
                have hW1 := hg.1 HOw.out
                have P9 := h2.2
                have hO1 : Out S w1 gb := ⟨HOu.out.no, (hW1.lt _ rfl).2⟩
                obtain ⟨gb', hgb', _, zh⟩ := hW1.at (goneV_get G (show k < 256 from hk))
                cases hgb'
                rw [HGk.out] at zh
                have hfz := hW1.unfrozen rfl (show k < 256 * 1 by omega)
                have HW1 := Lib.hid hW1
                have HP9 := Lib.hid P9
                have HO1 := Lib.hid hO1
                clear h2 hW1 P9 hO1 hg
                go_simp
                go_wp2
                go_roundw
                case rel =>
                  refine ⟨c + 1, i + 1, S, p', upd G k true, by omega, hib, hi2, by go_num, by go_num, HP9.out.more' HO1.out hgw _ _, HB.out, HO1.out.set _ _, ?_⟩
                  rw [← goneV_set G (show k < 256 from hk)]
                  exact HW1.out.store rfl hk (.bool true)
                case measure => simp [intOf]; omega
          · have HB := Lib.hid hB.c
            have HPl := Lib.hid hP
            have HOu := Lib.hid hO
            have HOw := Lib.hid hW
            clear hP hB hO hW
            go_wp2
            go_loopw [14] (fun v wr => ∃ (k : Nat) (S : Nat → Prop) (p : PoolF), k ≤ 256 ∧ v = .int .i64 (k : Int) ∧ Pl w wr S g p ∧ ManyC p G k ∧ Out S wr gb ∧ Owns wr gb 4 1 (some ⟨gb, 0, none⟩) 256 256 (goneV G 256)) (fun v _ => 256 - (intOf v).toNat)
            case atStart => exact ⟨0, S, p, Nat.zero_le _, rfl, HPl.out, HB.out, HOu.out, HOw.out⟩
            case round =>
              clear HPl HB HOu HOw
              obtain ⟨k, S, p, hk, rfl, hP, hC, hO, hW⟩ := hrel
              by_cases hkb : k < 256
              · obtain ⟨gb', hgb', _, zg⟩ := hW.at (goneV_get G hkb)
                cases hgb'
                cases hG : G k with
                | false =>
                  rw [hG] at zg
                  have HC := Lib.hid (hC.skip hG)
                  have HPl := Lib.hid hP
                  have HOu := Lib.hid hO
                  have HOw := Lib.hid hW
                  clear hP hC hO hW hG
                  go_wp2
                  go_roundw
                  case rel => exact ⟨k + 1, S, p, hkb, by go_num, HPl.out, HC.out, HOu.out, HOw.out⟩
                  case measure => simp [intOf]; omega
                | true =>
                  rw [hG] at zg
                  obtain ⟨p', hm, hC2, hl2⟩ := hC.make hP.ok hkb hG
                  have HMk := Lib.hid (Make_pl hP hC.gen hm)
                  have hok2 : PoolOk p' := by have := make_ok2 hP.ok; rw [hm] at this; exact this
                  obtain ⟨x, e, p'', ha, hcase, hC3⟩ := hC2.alloc hok2 hkb hl2
                  have HAl := Lib.hid (fun w' (h : Pl w w' S g p') => Alloc_pl h ha)
                  have HC := Lib.hid hC3
                  have HOu := Lib.hid hO
                  have HOw := Lib.hid hW
                  obtain ⟨r, gn, of, ln⟩ := x
                  clear hP hC hO hW hG hm hC2 hl2 hok2 ha hC3
                  rcases hcase with ⟨rfl, hgn⟩ | rfl
                  · simp only at hgn
                    subst hgn
                    go_wp2_with (first
                      | (go_at_call 12; go_must (refine HMk.out.mono ?_); rintro e w5 ⟨rfl, m5, P5⟩)
                      | (go_at_call 13; go_must (refine (HAl.out _ P5).mono ?_); rintro e w6 ⟨rfl, S6, m6, P6⟩)
                      | fail)
                    go_roundw
                    case rel =>
                      have hO6 := (HOu.out.moved m5).moved m6
                      have hW6 := m6.chg.owns (m5.chg.owns HOw.out (fun x hx => by cases hx; exact HOu.out.no)) (fun x hx => by cases hx; exact (HOu.out.moved m5).no)
                      exact ⟨k + 1, S6, p'', hkb, by go_num, P6.more (Gr.alloc _ _), HC.out, hO6.more (Gr.alloc _ _), hW6.gr (Gr.alloc _ _)⟩
                    case measure => simp [intOf]; omega
                  · go_wp2_with (first
                      | (go_at_call 12; go_must (refine HMk.out.mono ?_); rintro e w5 ⟨rfl, m5, P5⟩)
                      | (go_at_call 13; go_must (refine (HAl.out _ P5).mono ?_); rintro e w6 ⟨rfl, S6, m6, P6⟩)
                      | fail)
                    go_roundw
                    case rel =>
                      have hO6 := (HOu.out.moved m5).moved m6
                      have hW6 := m6.chg.owns (m5.chg.owns HOw.out (fun x hx => by cases hx; exact HOu.out.no)) (fun x hx => by cases hx; exact (HOu.out.moved m5).no)
                      exact ⟨k + 1, S6, p'', hkb, by go_num, P6.more (Gr.alloc _ _), HC.out, hO6.more (Gr.alloc _ _), hW6.gr (Gr.alloc _ _)⟩
                    case measure => simp [intOf]; omega
              · obtain rfl : k = 256 := by omega
                have HMk := Lib.hid (Make_pl hP hC.gen hC.full)
                clear hP hC hO hW
                go_wp2_with (first
                  | (go_at_call 12; go_must (refine HMk.out.mono ?_); rintro e w5 ⟨rfl, m5, P5⟩)
                  | fail)
                go_ret
                exact ⟨rfl, P5.gr⟩
        · have HB := Lib.hid hB.c
          have HPl := Lib.hid hP
          have HOu := Lib.hid hO
          have HOw := Lib.hid hW
          clear hP hB hO hW
          go_wp2
          go_loopw [14] (fun v wr => ∃ (k : Nat) (S : Nat → Prop) (p : PoolF), k ≤ 256 ∧ v = .int .i64 (k : Int) ∧ Pl w wr S g p ∧ ManyC p G k ∧ Out S wr gb ∧ Owns wr gb 4 1 (some ⟨gb, 0, none⟩) 256 256 (goneV G 256)) (fun v _ => 256 - (intOf v).toNat)
          case atStart => exact ⟨0, S, p, Nat.zero_le _, rfl, HPl.out, HB.out, HOu.out, HOw.out⟩
          case round =>
            clear HPl HB HOu HOw
            obtain ⟨k, S, p, hk, rfl, hP, hC, hO, hW⟩ := hrel
            by_cases hkb : k < 256
            · obtain ⟨gb', hgb', _, zg⟩ := hW.at (goneV_get G hkb)
              cases hgb'
              cases hG : G k with
              | false =>
                rw [hG] at zg
                have HC := Lib.hid (hC.skip hG)
                have HPl := Lib.hid hP
                have HOu := Lib.hid hO
                have HOw := Lib.hid hW
                clear hP hC hO hW hG
                go_wp2
                go_roundw
                case rel => exact ⟨k + 1, S, p, hkb, by go_num, HPl.out, HC.out, HOu.out, HOw.out⟩
                case measure => simp [intOf]; omega
              | true =>
                rw [hG] at zg
                obtain ⟨p', hm, hC2, hl2⟩ := hC.make hP.ok hkb hG
                have HMk := Lib.hid (Make_pl hP hC.gen hm)
                have hok2 : PoolOk p' := by have := make_ok2 hP.ok; rw [hm] at this; exact this
                obtain ⟨x, e, p'', ha, hcase, hC3⟩ := hC2.alloc hok2 hkb hl2
                have HAl := Lib.hid (fun w' (h : Pl w w' S g p') => Alloc_pl h ha)
                have HC := Lib.hid hC3
                have HOu := Lib.hid hO
                have HOw := Lib.hid hW
                obtain ⟨r, gn, of, ln⟩ := x
                clear hP hC hO hW hG hm hC2 hl2 hok2 ha hC3
                rcases hcase with ⟨rfl, hgn⟩ | rfl
                · simp only at hgn
                  subst hgn
                  go_wp2_with (first
                    | (go_at_call 12; go_must (refine HMk.out.mono ?_); rintro e w5 ⟨rfl, m5, P5⟩)
                    | (go_at_call 13; go_must (refine (HAl.out _ P5).mono ?_); rintro e w6 ⟨rfl, S6, m6, P6⟩)
                    | fail)
                  go_roundw
                  case rel =>
                    have hO6 := (HOu.out.moved m5).moved m6
                    have hW6 := m6.chg.owns (m5.chg.owns HOw.out (fun x hx => by cases hx; exact HOu.out.no)) (fun x hx => by cases hx; exact (HOu.out.moved m5).no)
                    exact ⟨k + 1, S6, p'', hkb, by go_num, P6.more (Gr.alloc _ _), HC.out, hO6.more (Gr.alloc _ _), hW6.gr (Gr.alloc _ _)⟩
                  case measure => simp [intOf]; omega
                · go_wp2_with (first
                    | (go_at_call 12; go_must (refine HMk.out.mono ?_); rintro e w5 ⟨rfl, m5, P5⟩)
                    | (go_at_call 13; go_must (refine (HAl.out _ P5).mono ?_); rintro e w6 ⟨rfl, S6, m6, P6⟩)
                    | fail)
                  go_roundw
                  case rel =>
                    have hO6 := (HOu.out.moved m5).moved m6
                    have hW6 := m6.chg.owns (m5.chg.owns HOw.out (fun x hx => by cases hx; exact HOu.out.no)) (fun x hx => by cases hx; exact (HOu.out.moved m5).no)
                    exact ⟨k + 1, S6, p'', hkb, by go_num, P6.more (Gr.alloc _ _), HC.out, hO6.more (Gr.alloc _ _), hW6.gr (Gr.alloc _ _)⟩
                  case measure => simp [intOf]; omega
            · obtain rfl : k = 256 := by omega
              have HMk := Lib.hid (Make_pl hP hC.gen hC.full)
              clear hP hC hO hW
              go_wp2_with (first
                | (go_at_call 12; go_must (refine HMk.out.mono ?_); rintro e w5 ⟨rfl, m5, P5⟩)
                | fail)
              go_ret
              exact ⟨rfl, P5.gr⟩
end Go.Proofs.Ytfnimpgphagnfaa
