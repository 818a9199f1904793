/- Layer 6 (bloom): filters are built. -/
import Derived.Test.YtpkbifaeofcckaaBloomEach
namespace Go.Proofs.Ytpkbifaeofcckaa
set_option linter.unusedVariables false
set_option linter.unusedSimpArgs false
open Go.RowKit Bloom
/-- keys, as Go's values -/
def sv (l : List (List UInt8)) : List Value := l.map fun s => .string (str s)
theorem sv_get (l : List (List UInt8)) (i : Nat) (h : i < l.length) : (sv l)[i]? = some (.string (str l[i])) := by simp [sv, h]
/-- no key is longer than any text -/
def Short (l : List (List UInt8)) : Prop := ∀ s ∈ l, s.length ≤ 9223372036854775807
theorem Short.at_ {l : List (List UInt8)} (h : Short l) (i : Nat) (hi : i < l.length) : l[i].length ≤ 9223372036854775807 := h _ (List.getElem_mem hi)
def kF (bits : Nat) : Nat := min (max (bits * 69 / 100) 1) 30
def nF (len bits : Nat) : Nat := (max (len * bits) 64 + 7) / 8
def filterF (keys : List (List UInt8)) (bits : Nat) : List UInt8 := rowF (onF keys (8 * nF keys.length bits) (kF bits)) (nF keys.length bits) ++ [UInt8.ofNat (kF bits)]
def buildF (keys : List (List UInt8)) (bits : Int) : List UInt8 × Nat :=
  if bits < 1 ∨ 64 < bits then ([], 1) else if 100000 < keys.length then ([], 14) else (filterF keys bits.toNat, 0)
theorem zero_row (n : Nat) : List.replicate n (0 : UInt8) = rowF (fun _ => false) n := by
  apply List.ext_getElem
  · simp [rowF_len]
  · intro i h1 h2
    rw [rowF_get, List.getElem_replicate]
    apply UInt8.toNat_inj.1
    rw [byteF_nat]
    have : byteN (fun _ => false) i 8 = byteN (fun _ => false) i 0 := byteN_cut (Nat.zero_le _) (fun _ _ _ => rfl)
    rw [this]; rfl
set_option maxRecDepth 100000 in
set_option maxHeartbeats 1000000 in
theorem Build_any (ad : Option Addr) (cap : Nat) (keys : List (List UInt8)) (bits : Int) (w : World) (hm : keys.length ≤ 9223372036854775807) (hr : Row w ad (sv keys)) (hsh : Short keys) (h1 : -9223372036854775808 ≤ bits) (h2 : bits ≤ 9223372036854775807) :
    Calls Try.prog 14 #[.slice ad keys.length cap, .int .i64 bits] w (RetBE 5 w (buildF keys bits).1 (buildF keys bits).2) := by
  by_cases hb : bits < 1 ∨ 64 < bits
  · have H := Lib.hid (show buildF keys bits = ([], 1) by unfold buildF; rw [if_pos hb])
    rcases hb with hb | hb
    all_goals
      go_enter Try.func14, Try.ntmps14
      go_wp2
      go_ret2
      refine ⟨none, 0, ?_, ?_, Gr.refl _⟩
      · rw [H.out]; rfl
      · rw [H.out]; exact Owns.empty _ _ _ _
  · obtain ⟨b, rfl⟩ := Int.eq_ofNat_of_zero_le (show 0 ≤ bits by omega)
    have hb1 : 1 ≤ b := by omega
    have hb2 : b ≤ 64 := by omega
    clear h1 h2
    by_cases hk : 100000 < keys.length
    · have H := Lib.hid (show buildF keys b = ([], 14) by unfold buildF; rw [if_neg hb, if_pos hk])
      clear hb
      go_enter Try.func14, Try.ntmps14
      go_wp2
      go_ret2
      refine ⟨none, 0, ?_, ?_, Gr.refl _⟩
      · rw [H.out]; rfl
      · rw [H.out]; exact Owns.empty _ _ _ _
    · have H := Lib.hid (show buildF keys b = (filterF keys b, 0) by unfold buildF; rw [if_neg hb, if_neg hk]; rfl)
      clear hb
      have hlen : keys.length ≤ 100000 := by omega
      have hprod : keys.length * b ≤ 100000 * 64 := Nat.mul_le_mul hlen hb2
      have hp0 : 0 ≤ (keys.length : Int) * (b : Int) := by have := Int.natCast_nonneg (keys.length * b); rw [Int.natCast_mul] at this; exact this
      have hp1 : (keys.length : Int) * (b : Int) ≤ 6400000 := by have h3 : ((keys.length * b : Nat) : Int) ≤ 6400000 := (by omega); rw [Int.natCast_mul] at h3; exact h3
      have hN : ((nF keys.length b : Nat) : Int) = (max ((keys.length : Int) * (b : Int)) 64 + 7) / 8 := by
        unfold nF
        have h3 : ((keys.length * b : Nat) : Int) = (keys.length : Int) * (b : Int) := Int.natCast_mul _ _
        omega
      have hn8 : 8 ≤ nF keys.length b := by unfold nF; omega
      have hn9 : nF keys.length b ≤ 800001 := by unfold nF; omega
      have hK : ((kF b : Nat) : Int) = min (max ((b : Int) * 69 / 100) 1) 30 := by unfold kF; omega
      have hk1 : 1 ≤ kF b := by unfold kF; omega
      have hk2 : kF b ≤ 30 := by unfold kF; omega
      have HF := Lib.hid (show filterF keys b = rowF (onF keys (8 * nF keys.length b) (kF b)) (nF keys.length b) ++ [UInt8.ofNat (kF b)] from rfl)
      generalize nF keys.length b = n at *
      generalize kF b = k at *
      have HN := Lib.hid hN; have HK := Lib.hid hK; clear hN hK
      have hm1 : n + 1 ≤ maxLen := by unfold maxLen; omega
      have hm2 : 1 * (n + 1) ≤ 281474976710656 := by omega
      go_enter Try.func14, Try.ntmps14
      go_wp2_with (at_make; go_must (refine wp_make elemB rfl rfl _ _ rfl n (n + 1) rfl rfl (by have := HN.out; omega) (by have := HN.out; omega) (Nat.le_succ n) hm1 hm2 ?_); intro w1 o1 g1 z1)
      rw [← HN.out, ← HK.out]
      have hbase := g1.size
      have o2 : Owns (w1.alloc (.cells #[.slice (some ⟨w.heap.size, 0, none⟩) n (n + 1)] 30)) w.heap.size 5 1 (some ⟨w.heap.size, 0, none⟩) (n + 1) n (bv (rowF (onF (keys.take 0) (8 * n) k) n)) := by
        have h3 := o1.gr (Gr.alloc w1 (.cells #[.slice (some ⟨w.heap.size, 0, none⟩) n (n + 1)] 30))
        rw [bv_replicate, zero_row] at h3
        exact h3
      have c2 : (w1.alloc (.cells #[.slice (some ⟨w.heap.size, 0, none⟩) n (n + 1)] 30)).cell? ⟨w.heap.size + 1, 0, none⟩ = some (.slice (some ⟨w.heap.size, 0, none⟩) n (n + 1)) := by
        have := (Blk.new w1 30 #[.slice (some ⟨w.heap.size, 0, none⟩) n (n + 1)]).cell (i := 0) rfl
        rw [z1] at this
        exact this
      have G2 := g1.trans (Gr.alloc w1 (.cells #[.slice (some ⟨w.heap.size, 0, none⟩) n (n + 1)] 30))
      clear o1 g1 z1 hbase
      have hne : w.heap.size + 1 ≠ w.heap.size := by omega
      have hn0 : 0 < n := by omega
      have hn5 : n ≤ 500000000 := by omega
      have hk5 : k ≤ 255 := by omega
      go_loopw [10, 40] (fun _ i wr => ∃ j : Nat, j ≤ keys.length ∧ i = .int .i64 (j : Int) ∧ Owns wr w.heap.size 5 1 (some ⟨w.heap.size, 0, none⟩) (n + 1) n (bv (rowF (onF (keys.take j) (8 * n) k) n)) ∧ wr.cell? ⟨w.heap.size + 1, 0, none⟩ = some (.slice (some ⟨w.heap.size, 0, none⟩) n (n + 1)) ∧ Gr w wr) (fun _ i _ => keys.length - (intOf i).toNat)
      case atStart => exact ⟨0, Nat.zero_le _, rfl, o2, c2, G2⟩
      case round =>
        obtain ⟨j, hj, rfl, ho, hc, hg⟩ := hrel
        by_cases hlt : j < keys.length
        · obtain ⟨bb, off, rfl, hcell⟩ := (hr.gr hg) j _ (sv_get keys j hlt)
          have HE := Lib.hid (fun w' hs ho => eachB_any keys[j] (w.heap.size + 1) w.heap.size n (n + 1) w.heap.size k (onF (keys.take j) (8 * n) k) w' (hsh.at_ j hlt) hs hne ho hn0 hn5 hk5)
          go_wp2_with (go_at_call 21; refine (HE.out _ hc ho).mono ?_; rintro e w3 ⟨rfl, ho3, hg3⟩)
          go_roundw
          case rel =>
            refine ⟨j + 1, by omega, by go_num, ?_, hg3.cell hc (fun e => hne (by injection e)), hg.of_far hg3 (Nat.le_refl _)⟩
            have : (fun p => onF (keys.take j) (8 * n) k p || probesF (hashF keys[j]) (8 * n) k p) = onF (keys.take (j + 1)) (8 * n) k := by
              funext p
              rw [onF_take keys j hlt]
            rw [← this]; exact ho3
          case measure => simp [intOf]; omega
        · obtain rfl : j = keys.length := by omega
          rw [List.take_length] at ho
          have HX := Lib.hid (show (k : Int) % 256 = ((UInt8.ofNat k).toNat : Int) by rw [UInt8.toNat_ofNat']; omega)
          have HX2 := Lib.hid (show (k : Int) = ((UInt8.ofNat k).toNat : Int) by rw [UInt8.toNat_ofNat']; omega)
          have hbs : w.heap.size ≤ (wr.alloc (.cells #[.int .u8 (k : Int)] 5)).heap.size := by have := hg.size; simp; omega
          have hm3 : (n + 1) * 1 ≤ 140737488355328 := by omega
          go_wp2_with (at_builtin; go_must (refine wp_append elemB rfl _ _ rfl rfl (ho.gr (Gr.alloc _ _)) rfl (Src.one _ _ (UInt8.ofNat k) HX2.out Try.underlying30) hm1 hm3 hbs ?_); intro ad2 cap2 w4 o4 k4 f4)
          go_ret2
          have hlf : (filterF keys b).length = n + 1 := by rw [HF.out]; simp [rowF_len]
          refine ⟨ad2, cap2, ?_, ?_, hg.app ho (Nat.le_refl _) k4⟩
          · rw [H.out]; simp only [hlf]; rfl
          · rw [H.out]; simp only [hlf]; rw [HF.out, bv_append]; exact o4
end Go.Proofs.Ytpkbifaeofcckaa
