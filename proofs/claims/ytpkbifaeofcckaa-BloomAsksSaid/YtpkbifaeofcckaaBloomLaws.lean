/- Layer 6 (bloom): blooms answers true; BloomHashes answers true. -/
import Derived.Test.YtpkbifaeofcckaaBloomRef
namespace Go.Proofs.Ytpkbifaeofcckaa
set_option linter.unusedVariables false
set_option linter.unusedSimpArgs false
open Go.RowKit Bloom
theorem build_nil : buildF [] 10 = ([0, 0, 0, 0, 0, 0, 0, 0, 6], 0) := by decide +kernel
theorem build_a : ∃ G : List UInt8, buildF [[97]] 10 = (G, 0) ∧ G.length = 9 ∧ mayF G (hashF [97]) = true := ⟨_, rfl, by decide +kernel, by decide +kernel⟩
theorem may_nil : mayF [0, 0, 0, 0, 0, 0, 0, 0, 6] (hashF [97]) = false := by decide +kernel
theorem hash_nil : hashF [] = 3164544308#32 := by decide +kernel
theorem U_seed : U 3164544308#32 = 3164544308 := (U_lit (m := 3164544308) 3164544308 rfl (by decide)).symm
theorem owns_le {w : World} {base : Nat} {e : TypeId} {size : Nat} {ad : Option Addr} {cap n : Nat} {xs : List Value} (h : Owns w base e size ad cap n xs) : n ≤ cap ∧ cap ≤ maxLen := ⟨h.2.1, h.2.2.1⟩
theorem build_nil_any (w : World) : Calls Try.prog 14 #[.slice none 0 0, .int .i64 10] w (RetBE 5 w [0, 0, 0, 0, 0, 0, 0, 0, 6] 0) := by
  have B1 := Build_any none 0 [] 10 w (by decide) (Row.nil _ _) (fun s h => by simp at h) (by decide) (by decide)
  rw [build_nil] at B1
  exact B1
theorem build_a_any (G : List UInt8) (hG : buildF [[97]] 10 = (G, 0)) (w1 : World) : Calls Try.prog 14 #[.slice (some ⟨w1.heap.size, 0, none⟩) 1 1, .int .i64 10] (w1.alloc (.cells #[.string ⟨#[97]⟩] 9)) (RetBE 5 (w1.alloc (.cells #[.string ⟨#[97]⟩] 9)) G 0) := by
  have hrow : Row (w1.alloc (.cells #[.string ⟨#[97]⟩] 9)) (some ⟨w1.heap.size, 0, none⟩) (sv [[97]]) := Row.alloc _ _ _ (0, 0) _ rfl
  have hsh : Short [[97]] := fun s h => by
    rw [List.mem_singleton.1 h]; decide
  have B2 := Build_any (some ⟨w1.heap.size, 0, none⟩) 1 [[97]] 10 (w1.alloc (.cells #[.string ⟨#[97]⟩] 9)) (by decide) hrow hsh (by decide) (by decide)
  rw [hG] at B2
  exact B2
theorem may_nil_any (ad : Option Addr) (cap : Nat) (w : World) (h1 : 9 ≤ cap) (h2 : cap ≤ maxLen) (hb : Bytes w ad [0, 0, 0, 0, 0, 0, 0, 0, 6]) : Calls Try.prog 17 #[.slice ad 9 cap, .string ⟨#[97]⟩] w fun e w' => e = .returned (.bool false) ∧ Gr w w' := by
  have h := May_any [0, 0, 0, 0, 0, 0, 0, 0, 6] [97] ad cap w h1 h2 (by decide) hb (by decide)
  rw [may_nil] at h
  exact h
theorem may_a_any (G : List UInt8) (hGl : G.length = 9) (hGm : mayF G (hashF [97]) = true) (ad : Option Addr) (cap : Nat) (w : World) (h1 : G.length ≤ cap) (h2 : cap ≤ maxLen) (hb : Bytes w ad G) : Calls Try.prog 17 #[.slice ad G.length cap, .string ⟨#[97]⟩] w fun e w' => e = .returned (.bool true) ∧ Gr w w' := by
  have h := May_any G [97] ad cap w h1 h2 (by omega) hb (by decide)
  rw [hGm] at h
  exact h
theorem hash_nil_any (w : World) : Calls Try.prog 11 #[.string ⟨#[]⟩] w fun e w' => e = .returned (.int .u32 3164544308) ∧ Gr w w' := by
  have h := Hash_any [] w (by decide)
  rw [hash_nil, U_seed] at h
  exact h
set_option maxRecDepth 100000 in
set_option maxHeartbeats 1000000 in
theorem blooms_any (w : World) : Calls Try.prog 10 #[] w fun e w' => e = .returned (.bool true) ∧ Gr w w' := by
  obtain ⟨G, hG, hGl, hGm⟩ := build_a
  have HB1 := Lib.hid (build_nil_any w)
  have HB2 := Lib.hid (build_a_any G hG)
  have HM1 := Lib.hid may_nil_any
  have HM2 := Lib.hid (may_a_any G hGl hGm)
  have HH := Lib.hid hash_nil_any
  clear hG hGl hGm
  go_enter Try.func10, Try.ntmps10
  go_wp2_with (first
    | (go_at_call 14; (with_reducible refine HB1.out.mono ?_); rintro e w1 ⟨ad1, cap1, rfl, o1, g1⟩; clear HB1)
    | (go_at_call 14; refine (HB2.out _).mono ?_; rintro e w2 ⟨ad2, cap2, rfl, o2, g2⟩; have g12 := (Gr.alloc _ _).trans g2; have hs := run_string (P := Try.prog) Try.underlying30 Try.underlying5 Try.underlying9 (cap := cap1) (len := 9) rfl (o1.gr g12).bytes)
    | (go_at_call 17; (with_reducible refine (HM1.out _ _ _ (owns_le o1).1 (owns_le o1).2 (o1.gr g12).bytes).mono ?_); rintro e w3 ⟨rfl, g3⟩; clear HM1)
    | (go_at_call 17; (with_reducible refine (HM2.out _ _ _ (owns_le o2).1 (owns_le o2).2 (o2.gr g3).bytes).mono ?_); rintro e w4 ⟨rfl, g4⟩)
    | (go_at_call 11; refine (HH.out _).mono ?_; rintro e w5 ⟨rfl, g5⟩))
  go_ret
  exact ⟨rfl, (((g1.trans g12).trans g3).trans g4).trans g5⟩
set_option maxRecDepth 100000 in
set_option maxHeartbeats 1000000 in
theorem BloomHashes_any (key : List UInt8) (w : World) (hm : key.length ≤ 9223372036854775807) : Calls Try.prog 3 #[.string (str key)] w fun e w' => e = .returned (.bool true) ∧ Gr w w' := by
  have H1 := Lib.hid (fun w => Hash_any key w hm)
  have H2 := Lib.hid (fun w => rHash_any key w hm)
  go_enter Try.func3, Try.ntmps3
  go_wp2_with (first
    | (go_at_call 10; refine (blooms_any _).mono ?_; rintro e w1 ⟨rfl, g1⟩)
    | (go_at_call 11; refine (H1.out _).mono ?_; rintro e w2 ⟨rfl, g2⟩)
    | (go_at_call 12; refine (H2.out _).mono ?_; rintro e w3 ⟨rfl, g3⟩))
  go_ret
  exact ⟨rfl, (g1.trans g2).trans g3⟩
end Go.Proofs.Ytpkbifaeofcckaa
