/- Layer 1 (region): Alloc walked. -/
import Derived.Test.YtfnimpgphagnfaaRegionAllocG
namespace Go.Proofs.Ytfnimpgphagnfaa
set_option linter.unusedVariables false
set_option linter.unusedSimpArgs false
open Go.RowKit
set_option maxRecDepth 100000 in
set_option maxHeartbeats 4000000 in
theorem Alloc_any (w : World) (S : Nat → Prop) (g : Nat) (p : PoolF) (r n a : Int) (h : PoolAt w S g p) (hp : PoolOk p) :
    Calls Try.prog 13 #[.pointer (some ⟨g, 0, none⟩), .int .i64 r, .int .i64 n, .int .i64 a] w fun e w' => e = .returned (.tuple #[hdv (allocF p r n a).1, .int .i64 ((allocF p r n a).2.1 : Int)]) ∧ ∃ S', Moved S g (allocF p r n a).2.2 w w' S' := by
  have HP := Lib.hid h
  have HLA := Lib.hid (fun w' (k : Gr w w') => land_any w' S g p r (h.gr k))
  have HOK := Lib.hid hp
  cases hl : landF p r with
  | none =>
    rw [hl] at HLA
    have HE := Lib.hid (show allocF p r n a = (noHd, 7, p) by unfold allocF; rw [hl])
    clear h hp hl
    go_enter Try.func13, Try.ntmps13
    go_wp2_with (first
      | (go_at_call 34; refine (HLA.out _ (Gr.alloc _ _)).mono ?_; rintro e w1 ⟨rfl, rfl⟩)
      | fail)
    obtain ⟨d0, d1, d2, d3, _⟩ := Blk.four (Blk.new w 33 #[.int .i64 0, .int .i64 0, .int .i64 0, .int .i64 0])
    refine bodyPost_ret (v := .tuple #[.agg #[.int .i64 0, .int .i64 0, .int .i64 0, .int .i64 0], .int .i64 7]) (by simp [results, Try.results13, go_sem, d0, d1, d2, d3]) rfl ?_
    rw [HE.out]
    exact ⟨rfl, S, (Moved.refl HP.out).gr (Gr.alloc _ _)⟩
  | some i =>
    rw [hl] at HLA
    obtain ⟨rfl, hi, hth⟩ := landF_some hl
    obtain ⟨ads, cs, adt, ct, A, C, bd, hx⟩ := h
    have hlk := hp.ld i hi
    have hsz1 := hp.s1
    have hsz2 := hp.s2
    have hcap := hlk.cap hp
    have hfl := hlk.fill_le
    have hlen := Nat.le_trans hlk.len hp.n2
    have hfil := hlk.fill
    have hx1 := hx.gr (Gr.alloc w (.cells #[.int .i64 0, .int .i64 0, .int .i64 0, .int .i64 0] 33))
    obtain ⟨c0, _, _⟩ := hx1.head
    obtain ⟨_, l1, l2, l3⟩ := hx1.lcell hi
    have HX := Lib.hid hx
    by_cases h1 : n < 1
    · have hbad : n < 1 ∨ n > (p.size : Int) ∨ alignOk a = false := .inl h1
      have HE := Lib.hid (show allocF p (i : Int) n a = (noHd, 1, p) by unfold allocF; rw [hl]; simp only; rw [if_pos hbad])
      clear hp hl hx hx1 hlk hfil hbad
      go_enter Try.func13, Try.ntmps13
      go_wp2_with (first
        | (go_at_call 34; refine (HLA.out _ (Gr.alloc _ _)).mono ?_; rintro e w1 ⟨rfl, rfl⟩)
        | fail)
      obtain ⟨d0, d1, d2, d3, _⟩ := Blk.four (Blk.new w 33 #[.int .i64 0, .int .i64 0, .int .i64 0, .int .i64 0])
      refine bodyPost_ret (v := .tuple #[.agg #[.int .i64 0, .int .i64 0, .int .i64 0, .int .i64 0], .int .i64 1]) (by simp [results, Try.results13, go_sem, d0, d1, d2, d3]) rfl ?_
      rw [HE.out]
      exact ⟨rfl, S, (Moved.refl HP.out).gr (Gr.alloc _ _)⟩
    · by_cases h2 : n > (p.size : Int)
      · have hbad : n < 1 ∨ n > (p.size : Int) ∨ alignOk a = false := .inr (.inl h2)
        have HE := Lib.hid (show allocF p (i : Int) n a = (noHd, 1, p) by unfold allocF; rw [hl]; simp only; rw [if_pos hbad])
        clear hp hl hx hx1 hlk hfil hbad
        go_enter Try.func13, Try.ntmps13
        go_wp2_with (first
          | (go_at_call 34; refine (HLA.out _ (Gr.alloc _ _)).mono ?_; rintro e w1 ⟨rfl, rfl⟩)
          | fail)
        obtain ⟨d0, d1, d2, d3, _⟩ := Blk.four (Blk.new w 33 #[.int .i64 0, .int .i64 0, .int .i64 0, .int .i64 0])
        refine bodyPost_ret (v := .tuple #[.agg #[.int .i64 0, .int .i64 0, .int .i64 0, .int .i64 0], .int .i64 1]) (by simp [results, Try.results13, go_sem, d0, d1, d2, d3]) rfl ?_
        rw [HE.out]
        exact ⟨rfl, S, (Moved.refl HP.out).gr (Gr.alloc _ _)⟩
      · by_cases h3 : a < 1
        · have hbad : n < 1 ∨ n > (p.size : Int) ∨ alignOk a = false := .inr (.inr (by cases hk : alignOk a with | false => rfl | true => have := alignOk_range hk; omega))
          have HE := Lib.hid (show allocF p (i : Int) n a = (noHd, 1, p) by unfold allocF; rw [hl]; simp only; rw [if_pos hbad])
          clear hp hl hx hx1 hlk hfil hbad
          go_enter Try.func13, Try.ntmps13
          go_wp2_with (first
            | (go_at_call 34; refine (HLA.out _ (Gr.alloc _ _)).mono ?_; rintro e w1 ⟨rfl, rfl⟩)
            | fail)
          obtain ⟨d0, d1, d2, d3, _⟩ := Blk.four (Blk.new w 33 #[.int .i64 0, .int .i64 0, .int .i64 0, .int .i64 0])
          refine bodyPost_ret (v := .tuple #[.agg #[.int .i64 0, .int .i64 0, .int .i64 0, .int .i64 0], .int .i64 1]) (by simp [results, Try.results13, go_sem, d0, d1, d2, d3]) rfl ?_
          rw [HE.out]
          exact ⟨rfl, S, (Moved.refl HP.out).gr (Gr.alloc _ _)⟩
        · by_cases h4 : a > 64
          · have hbad : n < 1 ∨ n > (p.size : Int) ∨ alignOk a = false := .inr (.inr (by cases hk : alignOk a with | false => rfl | true => have := alignOk_range hk; omega))
            have HE := Lib.hid (show allocF p (i : Int) n a = (noHd, 1, p) by unfold allocF; rw [hl]; simp only; rw [if_pos hbad])
            clear hp hl hx hx1 hlk hfil hbad
            go_enter Try.func13, Try.ntmps13
            go_wp2_with (first
              | (go_at_call 34; refine (HLA.out _ (Gr.alloc _ _)).mono ?_; rintro e w1 ⟨rfl, rfl⟩)
              | fail)
            obtain ⟨d0, d1, d2, d3, _⟩ := Blk.four (Blk.new w 33 #[.int .i64 0, .int .i64 0, .int .i64 0, .int .i64 0])
            refine bodyPost_ret (v := .tuple #[.agg #[.int .i64 0, .int .i64 0, .int .i64 0, .int .i64 0], .int .i64 1]) (by simp [results, Try.results13, go_sem, d0, d1, d2, d3]) rfl ?_
            rw [HE.out]
            exact ⟨rfl, S, (Moved.refl HP.out).gr (Gr.alloc _ _)⟩
          · rcases align_check (a := a) (by omega) (by omega) with ⟨e5, hk⟩ | ⟨e5, hk⟩
            · exact Alloc_good w S g p i n a HP.out hp hl h1 h2 h3 h4 e5 hk
            · have hbad : n < 1 ∨ n > (p.size : Int) ∨ alignOk a = false := .inr (.inr hk)
              obtain ⟨xx, hxx⟩ : ∃ xx, bits .and .i64 a (a - 1) = xx := ⟨_, rfl⟩
              rw [hxx] at e5
              have e6 : (xx != 0) = true := by simpa using e5
              clear e5
              clear hk
              have HE := Lib.hid (show allocF p (i : Int) n a = (noHd, 1, p) by unfold allocF; rw [hl]; simp only; rw [if_pos hbad])
              clear hp hl hx hx1 hlk hfil hbad
              go_enter Try.func13, Try.ntmps13
              go_wp2_with (first
                | (go_at_call 34; refine (HLA.out _ (Gr.alloc _ _)).mono ?_; rintro e w1 ⟨rfl, rfl⟩)
                | fail)
              obtain ⟨d0, d1, d2, d3, _⟩ := Blk.four (Blk.new w 33 #[.int .i64 0, .int .i64 0, .int .i64 0, .int .i64 0])
              refine bodyPost_ret (v := .tuple #[.agg #[.int .i64 0, .int .i64 0, .int .i64 0, .int .i64 0], .int .i64 1]) (by simp [results, Try.results13, go_sem, d0, d1, d2, d3]) rfl ?_
              rw [HE.out]
              exact ⟨rfl, S, (Moved.refl HP.out).gr (Gr.alloc _ _)⟩
end Go.Proofs.Ytfnimpgphagnfaa
