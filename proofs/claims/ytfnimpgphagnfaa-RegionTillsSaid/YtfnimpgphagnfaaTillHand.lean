/- Layer 1 (region): RegionTills' handle walked. -/
import Derived.Test.YtfnimpgphagnfaaTillLaw
import Derived.Test.YtfnimpgphagnfaaOpenH
import Derived.Deep.DeepCutAuto
namespace Go.Proofs.Ytfnimpgphagnfaa
set_option linter.unusedVariables false
set_option linter.unusedSimpArgs false
open Go.RowKit
set_option maxRecDepth 100000 in
set_option maxHeartbeats 4000000 in
theorem handle_any (w : World) (base : Nat) (ad : Option Addr) (cap : Nat) (D : List Hd) (t : Tl) (ho : Owns w base 33 4 ad cap D.length (hv D)) (hD : D.length ≤ 80) :
    Calls Try.prog 28 #[.slice ad D.length cap, .agg #[.int .i64 t.call, .int .i64 t.a, .int .i64 t.b, .int .i64 t.c, .int .i64 t.at_, .string (str t.data)]] w fun e w' => ∃ x, e = .returned (hdv x) ∧ Gr w w' := by
  obtain ⟨tk, ta, tb, tc, tt, td⟩ := t
  simp only
  obtain ⟨A1, hA1⟩ : ∃ A1, A1 = Obj.cells #[.int .i64 tk, .int .i64 ta, .int .i64 tb, .int .i64 tc, .int .i64 tt, .string (str td)] 52 := ⟨_, rfl⟩
  have HF := Lib.hid (fun (a b c d : Int) => show Blk (((w.alloc A1).alloc (.cells #[.int .i64 a, .int .i64 b, .int .i64 c, .int .i64 d] 33)).alloc (.cells #[.int .i64 a, .int .i64 b, .int .i64 c, .int .i64 d] 33)) (w.heap.size + 1) 33 [.int .i64 a, .int .i64 b, .int .i64 c, .int .i64 d] from by
    have := (Blk.new (w.alloc A1) 33 #[.int .i64 a, .int .i64 b, .int .i64 c, .int .i64 d]).alloc (.cells #[.int .i64 a, .int .i64 b, .int .i64 c, .int .i64 d] 33)
    rw [show (w.alloc A1).heap.size = w.heap.size + 1 by simp] at this
    exact this)
  have HG := Lib.hid (fun (a b c d : Int) => show Gr w (((w.alloc A1).alloc (.cells #[.int .i64 a, .int .i64 b, .int .i64 c, .int .i64 d] 33)).alloc (.cells #[.int .i64 a, .int .i64 b, .int .i64 c, .int .i64 d] 33)) from ((Gr.alloc _ _).trans (Gr.alloc _ _)).trans (Gr.alloc _ _))
  cases D with
  | nil =>
    go_enter Try.func28, Try.ntmps28
    go_wp2
    obtain ⟨d0, d1, d2, d3, _⟩ := Blk.four (HF.out ta tb tc tt)
    have hg := HG.out ta tb tc tt
    rw [hA1] at d0 d1 d2 d3 hg
    refine bodyPost_ret (v := .agg #[.int .i64 (ta), .int .i64 (tb), .int .i64 (tc), .int .i64 (tt)]) (by simp [results, Try.results28, go_sem, d0, d1, d2, d3]) rfl ⟨⟨ta, tb, tc, tt⟩, rfl, hg⟩
  | cons y0 D0 =>
    obtain ⟨j, e1, hj⟩ := u64_mod ta (y0 :: D0).length (by simp) (by omega)
    obtain ⟨b, e2, z0, z1, z2, z3⟩ := (ho.gr (((Gr.alloc w A1).trans (Gr.alloc _ (.cells #[.int .i64 0, .int .i64 0, .int .i64 0, .int .i64 0] 33))).trans (Gr.alloc _ (.cells #[.int .i64 ta, .int .i64 tb, .int .i64 tc, .int .i64 tt] 33)))).hand hj
    subst e2
    generalize (y0 :: D0)[j] = y at *
    obtain ⟨yr, yg, yo, yl⟩ := y
    simp only at z0 z1 z2 z3
    have e3 : IntKind.u64.wrap ((y0 :: D0).length : Int) = ((y0 :: D0).length : Int) := by rw [IntKind.wrap_u64]; omega
    have hn1 : 1 ≤ (y0 :: D0).length := by simp
    generalize (y0 :: D0).length = n at *
    rw [hA1] at z0 z1 z2 z3
    have e1 : IntKind.i64.wrap ((IntKind.u64.wrap ta).tmod (n : Int)) = (j : Int) := e1
    clear ho
    by_cases h1 : tb = 1
    · subst h1
      go_enter Try.func28, Try.ntmps28
      go_wp2
      obtain ⟨d0, d1, d2, d3, _⟩ := Blk.four (HF.out tc yg yo yl)
      have hg := HG.out tc yg yo yl
      rw [hA1] at d0 d1 d2 d3 hg
      refine bodyPost_ret (v := .agg #[.int .i64 (tc), .int .i64 (yg), .int .i64 (yo), .int .i64 (yl)]) (by simp [results, Try.results28, go_sem, d0, d1, d2, d3]) rfl ⟨⟨tc, yg, yo, yl⟩, rfl, hg⟩
    by_cases h2 : tb = 2
    · subst h2
      go_enter Try.func28, Try.ntmps28
      go_wp2
      obtain ⟨d0, d1, d2, d3, _⟩ := Blk.four (HF.out yr tc yo yl)
      have hg := HG.out yr tc yo yl
      rw [hA1] at d0 d1 d2 d3 hg
      refine bodyPost_ret (v := .agg #[.int .i64 (yr), .int .i64 (tc), .int .i64 (yo), .int .i64 (yl)]) (by simp [results, Try.results28, go_sem, d0, d1, d2, d3]) rfl ⟨⟨yr, tc, yo, yl⟩, rfl, hg⟩
    by_cases h3 : tb = 3
    · subst h3
      go_enter Try.func28, Try.ntmps28
      go_wp2
      obtain ⟨d0, d1, d2, d3, _⟩ := Blk.four (HF.out yr yg tc yl)
      have hg := HG.out yr yg tc yl
      rw [hA1] at d0 d1 d2 d3 hg
      refine bodyPost_ret (v := .agg #[.int .i64 (yr), .int .i64 (yg), .int .i64 (tc), .int .i64 (yl)]) (by simp [results, Try.results28, go_sem, d0, d1, d2, d3]) rfl ⟨⟨yr, yg, tc, yl⟩, rfl, hg⟩
    by_cases h4 : tb = 4
    · subst h4
      go_enter Try.func28, Try.ntmps28
      go_wp2
      obtain ⟨d0, d1, d2, d3, _⟩ := Blk.four (HF.out yr yg yo tc)
      have hg := HG.out yr yg yo tc
      rw [hA1] at d0 d1 d2 d3 hg
      refine bodyPost_ret (v := .agg #[.int .i64 (yr), .int .i64 (yg), .int .i64 (yo), .int .i64 (tc)]) (by simp [results, Try.results28, go_sem, d0, d1, d2, d3]) rfl ⟨⟨yr, yg, yo, tc⟩, rfl, hg⟩
    go_enter Try.func28, Try.ntmps28
    go_wp2
    obtain ⟨d0, d1, d2, d3, _⟩ := Blk.four (HF.out yr yg yo yl)
    have hg := HG.out yr yg yo yl
    rw [hA1] at d0 d1 d2 d3 hg
    refine bodyPost_ret (v := .agg #[.int .i64 (yr), .int .i64 (yg), .int .i64 (yo), .int .i64 (yl)]) (by simp [results, Try.results28, go_sem, d0, d1, d2, d3]) rfl ⟨⟨yr, yg, yo, yl⟩, rfl, hg⟩
end Go.Proofs.Ytfnimpgphagnfaa
