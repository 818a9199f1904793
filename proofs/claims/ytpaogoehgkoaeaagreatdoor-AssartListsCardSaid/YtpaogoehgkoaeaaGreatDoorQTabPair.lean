/- Layer 14 (table): pair walked. -/
import Derived.Test.YtpaogoehgkoaeaaGreatDoorQTabFns
namespace Go.Proofs.YtpaogoehgkoaeaaGreatDoor
set_option linter.unusedVariables false
set_option linter.unusedSimpArgs false
open Go.RowKit Tab
set_option maxRecDepth 100000 in
theorem pair_any (c : Ci) (w : World) : Calls Tryz.prog 93 #[.agg #[.string (str c.key), .int .i64 c.seq, .int .i64 c.kind, .string (str c.val)]] w fun e w' => e = .returned (.agg #[.string (str (pairC c).1), .string (str c.val)]) ∧ Gr w w' := by
  obtain ⟨k, s, d, v⟩ := c
  simp only
  have HS := Lib.hid (fun w => Sortable_any k s d w)
  have HP := Lib.hid (show (pairC ⟨k, s, d, v⟩).1 = (sortG k s d).1 from rfl)
  unfold ver at HS
  generalize (sortG k s d).1 = K at *
  generalize (sortG k s d).2 = eK at *
  have HB := Lib.hid (Blk.new w 56 #[.string (str k), .int .i64 s, .int .i64 d, .string (str v)])
  have HB2 := Lib.hid (Blk.new (w.alloc (.cells #[.string (str k), .int .i64 s, .int .i64 d, .string (str v)] 56)) 105 #[.string ⟨#[]⟩, .string ⟨#[]⟩])
  have h0 := (HB.out.alloc (.cells #[.string ⟨#[]⟩, .string ⟨#[]⟩] 105))
  obtain ⟨a0, a1, a2, a3, _⟩ : _ ∧ _ ∧ _ ∧ _ ∧ True := ⟨h0.cell (i := 0) rfl, h0.cell (i := 1) rfl, h0.cell (i := 2) rfl, h0.cell (i := 3) rfl, trivial⟩
  have HB0 := Lib.hid h0
  clear h0
  go_enter Tryz.func93, Tryz.ntmps93
  go_wp2_with (go_at_call 134; refine (HS.out _).mono ?_; rintro e w2 ⟨ad2, c2, rfl, o2, g2⟩
               have hst := run_string (P := Tryz.prog) Tryz.underlying31 Tryz.underlying5 Tryz.underlying9 (cap := c2) (len := K.length) (l := K) rfl o2.bytes
               have b3 := (HB0.out.gr g2).cell (i := 3) rfl
               have q2 := HB2.out.gr g2
               have hz : (w.alloc (.cells #[.string (str k), .int .i64 s, .int .i64 d, .string (str v)] 56)).heap.size = w.heap.size + 1 := by simp
               rw [hz] at q2
               have f0 := q2.frozen 0
               have f1 := q2.frozen 1
               have z0 := q2.cell (i := 0) rfl
               have z1 := q2.cell (i := 1) rfl
               have HQ := Lib.hid ((q2.set_ 0 (.string (str K))).set_ 1 (.string (str v)))
               have HG := Lib.hid (((Gr.alloc _ _).trans (Gr.alloc _ _)).trans g2)
               clear q2 hz)
  obtain ⟨d0, d1⟩ : _ ∧ _ := ⟨HQ.out.cell (i := 0) rfl, HQ.out.cell (i := 1) rfl⟩
  refine bodyPost_ret (v := .agg #[.string (str K), .string (str v)]) (by simp [results, Tryz.results93, go_sem, d0, d1]) rfl ?_
  rw [HP.out]
  refine ⟨rfl, ?_⟩
  have k0 := grown_trans (grown_set w2 (w.heap.size + 1) 0 (.string (str K))) (grown_set _ (w.heap.size + 1) 1 (.string (str v)))
  exact HG.out.of_far k0 (by omega)
end Go.Proofs.YtpaogoehgkoaeaaGreatDoor
