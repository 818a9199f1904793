/- Layer 12 (epoch): New walked. -/
import Derived.Test.YtpaogoehgkoaeaaGreatDoorQEpAdv
namespace Go.Proofs.YtpaogoehgkoaeaaGreatDoor
set_option linter.unusedVariables false
set_option linter.unusedSimpArgs false
open Go.RowKit Go.Maps
set_option maxRecDepth 100000 in
set_option maxHeartbeats 2000000 in
theorem ENew_any {w : World} {S : Nat → Prop} {g r : Nat} {p p' : PoolF} (hp : PoolAt w S g p) (ok : PoolOk p) (hgen : ∀ i, i < 256 → (landAt p i).gen ≤ 1000000000) (he : makeR p = (r, 0, p')) :
    Calls Tryz.prog 17 #[.pointer (some ⟨g, 0, none⟩)] w fun e w' => ∃ ge, e = .returned (.tuple #[.pointer (some ⟨ge, 0, none⟩), .int .i64 0]) ∧
      ∃ bl bp b n, Ep w' g ge bl bp 1 [⟨1, b, r, n, 0, 0⟩] ∧ PoolAt w' S g p' ∧ (∀ j, epB ge bl bp [⟨1, b, r, n, 0, 0⟩] j → w.heap.size ≤ j) ∧ Chg S w w' := by
  have g3 := ((Gr.alloc w (.map #[] 0)).trans (Gr.alloc (w.alloc (.map #[] 0)) (.map #[] 0))).trans (Gr.alloc ((w.alloc (.map #[] 0)).alloc (.map #[] 0)) (.cells #[.pointer (some ⟨g, 0, none⟩), .int .i64 0, .map (some w.heap.size), .map (some (w.heap.size + 1)), .int .i64 0, .bool false] 128))
  have hz : ((w.alloc (.map #[] 0)).alloc (.map #[] 0)).heap.size = w.heap.size + 2 := by simp
  have hE : Ep (((w.alloc (.map #[] 0)).alloc (.map #[] 0)).alloc (.cells #[.pointer (some ⟨g, 0, none⟩), .int .i64 0, .map (some w.heap.size), .map (some (w.heap.size + 1)), .int .i64 0, .bool false] 128)) g (w.heap.size + 2) w.heap.size (w.heap.size + 1) 0 [] := by
    refine ⟨?_, ?_, ?_, fun e he => by simp at he, ⟨by omega, fun e he => by simp at he⟩, List.Pairwise.nil, fun e he => by simp at he⟩
    · have := Blk.new ((w.alloc (.map #[] 0)).alloc (.map #[] 0)) 128 #[.pointer (some ⟨g, 0, none⟩), .int .i64 0, .map (some w.heap.size), .map (some (w.heap.size + 1)), .int .i64 0, .bool false]
      rw [hz] at this
      exact this
    · exact ownsMap_gr (World.ownsMap_made w Tryz.prog 3 Rp) ((Gr.alloc _ _).trans (Gr.alloc _ _))
    · have := World.ownsMap_made (w.alloc (.map #[] 0)) Tryz.prog 3 (plainElem (H := Unit) Tryz.prog 3)
      rw [show (w.alloc (.map #[] 0)).heap.size = w.heap.size + 1 by simp] at this
      exact ownsMap_gr this (Gr.alloc _ _)
  have HA := Lib.hid (Advance_any hE (hp.gr g3) ok hgen he (fun j hj hs => by
    have h1 := hp.lt j hs
    rcases hj with rfl | rfl | rfl | ⟨e, he, _⟩
    · omega
    · omega
    · omega
    · simp at he) (by simp) (by omega))
  have HG := Lib.hid g3
  clear hp hgen he hE g3 hz
  have hmm := @run_makeMap Tryz.prog
  go_enter Tryz.func17, Tryz.ntmps17
  go_wp2_with (first
    | (go_at_call 20; go_must (refine HA.out.mono ?_); rintro e w5 ⟨rfl, b, n, hE, hP, hb, hn, hc⟩)
    | fail)
  go_ret2
  have hs := HG.out.size
  have hz : (((w.alloc (.map #[] 0)).alloc (.map #[] 0)).alloc (.cells #[.pointer (some ⟨g, 0, none⟩), .int .i64 0, .map (some w.heap.size), .map (some (w.heap.size + 1)), .int .i64 0, .bool false] 128)).heap.size = w.heap.size + 3 := by simp
  refine ⟨w.heap.size + 2, rfl, w.heap.size, w.heap.size + 1, b, n, hE, hP, fun j hj => ?_, (HG.out.chg (S := S)).trans hc (fun j hj => ?_)⟩
  · rcases hj with rfl | rfl | rfl | ⟨e, he, hj⟩
    · omega
    · omega
    · omega
    · rw [List.mem_singleton.1 he] at hj
      rcases hj with rfl | rfl
      · omega
      · omega
  · rcases hj with hj | hj | hj
    · exact .inl hj
    · exact .inr (by omega)
    · exact .inr (by omega)
end Go.Proofs.YtpaogoehgkoaeaaGreatDoor
