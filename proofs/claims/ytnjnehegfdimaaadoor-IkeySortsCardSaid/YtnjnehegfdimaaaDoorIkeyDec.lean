/- Layer 5 (ikey): Decode and DocDecode. -/
import Derived.Test.YtnjnehegfdimaaaDoorIkeyKeyed
import Derived.Test.YtnjnehegfdimaaaDoorBlk
namespace Go.Proofs.YtnjnehegfdimaaaDoor
set_option linter.unusedVariables false
set_option linter.unusedSimpArgs false
open Go.RowKit Ikey Varint
open Go.Op (bytesLess)
/-- what is told of a key and a trailer -/
def ofF (k : List UInt8) (n : Nat) : Option (List UInt8 × Nat × Nat) := if okV k ((n / 256 : Nat) : Int) ((n % 256 : Nat) : Int) then some (k, n / 256, n % 256) else none
def outV : Option (List UInt8 × Nat × Nat) → Value
  | some (k, s, d) => .tuple #[ver k s d, .int .i64 0]
  | none => .tuple #[ver [] 0 0, .int .i64 2]
def decF (b : List UInt8) : Option (List UInt8 × Nat × Nat) := if b.length < 8 then none else ofF (b.take (b.length - 8)) (le (b.drop (b.length - 8)))
set_option maxRecDepth 100000 in
set_option maxHeartbeats 1000000 in
theorem of_any (k : List UInt8) (n : Nat) (w : World) (hn : n < 18446744073709551616) :
    Calls Tryd.prog 22 #[.string (str k), .int .u64 n] w fun e w' => e = .returned (outV (ofF k n)) ∧ Gr w w' := by
  have HC := Lib.hid (fun w => Check_any k ((n / 256 : Nat) : Int) ((n % 256 : Nat) : Int) w)
  have e1 : ((n / 256 : Nat) : Int) = (n : Int) / 256 := by omega
  have e2 : ((n % 256 : Nat) : Int) = (n : Int) % 256 := by omega
  cases h : okV k ((n / 256 : Nat) : Int) ((n % 256 : Nat) : Int) with
  | true =>
    have HF := Lib.hid (show ofF k n = some (k, n / 256, n % 256) by unfold ofF; rw [h]; rfl)
    rw [chk_yes h] at HC
    unfold ver at HC
    rw [e1, e2] at HC
    clear h e1 e2
    go_enter Tryd.func22, Tryd.ntmps22
    go_wp2_with (go_at_call 17; refine (HC.out _).mono ?_; rintro e w1 ⟨rfl, g1⟩; obtain ⟨c0, c1, c2, f0, f1, f2⟩ := (Blk.of2a g1).three; obtain ⟨k0, k1, k2, _⟩ := (Blk.of2b g1).three)
    refine bodyPost_ret (v := outV (some (k, n / 256, n % 256))) (by simp [results, Tryd.results22, go_sem, outV, ver, c0, c1, c2]) rfl ⟨by rw [HF.out], ?_⟩
    exact ((((Gr.alloc _ _).trans (Gr.alloc _ _)).trans g1).setCell (Nat.le_refl _) _).setCell (Nat.le_refl _) _ |>.setCell (Nat.le_refl _) _
  | false =>
    have HF := Lib.hid (show ofF k n = none by unfold ofF; rw [h]; rfl)
    rw [chk_no h] at HC
    unfold ver at HC
    rw [e1, e2] at HC
    clear h e1 e2
    go_enter Tryd.func22, Tryd.ntmps22
    go_wp2_with (go_at_call 17; refine (HC.out _).mono ?_; rintro e w1 ⟨rfl, g1⟩; obtain ⟨c0, c1, c2, f0, f1, f2⟩ := (Blk.of2a g1).three; obtain ⟨k0, k1, k2, _⟩ := (Blk.of2b g1).three)
    refine bodyPost_ret (v := outV none) (by simp [results, Tryd.results22, go_sem, outV, ver, c0, c1, c2]; rfl) rfl ⟨by rw [HF.out], ?_⟩
    exact ((((Gr.alloc _ _).trans (Gr.alloc _ _)).trans g1).setCell (Nat.le_refl _) _).setCell (Nat.le_refl _) _ |>.setCell (Nat.le_refl _) _
def verO : Option (List UInt8 × Nat × Nat) → List UInt8 × Nat × Nat
  | some x => x
  | none => ([], 0, 0)
def errO : Option (List UInt8 × Nat × Nat) → Nat
  | some _ => 0
  | none => 2
theorem outV_eq (o : Option (List UInt8 × Nat × Nat)) : outV o = .tuple #[.agg #[.string (str (verO o).1), .int .i64 (verO o).2.1, .int .i64 (verO o).2.2], .int .i64 (errO o)] := by
  cases o <;> rfl
set_option maxRecDepth 100000 in
set_option maxHeartbeats 1000000 in
theorem Decode_any (ad : Option Addr) (cap : Nat) (l : List UInt8) (w : World) (hlc : l.length ≤ cap) (hm : l.length ≤ maxLen) (hb : Bytes w ad l) :
    Calls Tryd.prog 15 #[.slice ad l.length cap] w fun e w' => e = .returned (outV (decF l)) ∧ Gr w w' := by
  unfold maxLen at hm
  by_cases h8 : l.length < 8
  · have HD := Lib.hid (show decF l = none by unfold decF; rw [if_pos h8])
    go_enter Tryd.func15, Tryd.ntmps15
    go_wp2
    refine bodyPost_ret (v := outV none) (by simp [results, Tryd.results15, go_sem, outV, ver]; rfl) rfl ⟨by rw [HD.out], ?_⟩
    exact Gr.alloc _ _
  · obtain ⟨at_, hat⟩ : ∃ at_, l.length = at_ + 8 := ⟨l.length - 8, by omega⟩
    have hd8 : (l.drop at_).length = 8 := by simp; omega
    have HD := Lib.hid (show decF l = ofF (l.take at_) (le (l.drop at_)) by unfold decF; rw [if_neg h8, hat]; rfl)
    obtain ⟨b, off, rfl, hz⟩ := hb 0 (by omega)
    clear hz
    have hb2 := hb.gr (Gr.alloc w (.cells #[.string ⟨#[]⟩, .int .i64 0, .int .i64 0] 23))
    have hbd := hb2.drop at_
    have hle := le_lt (l.drop at_)
    rw [hd8] at hle
    have HO := Lib.hid (of_any (l.take at_) (le (l.drop at_)) (w.alloc (.cells #[.string ⟨#[]⟩, .int .i64 0, .int .i64 0] 23)) (by omega))
    have htl : (l.take at_).length = at_ := by simp; omega
    have hs := run_string (P := Tryd.prog) Tryd.underlying25 Tryd.underlying5 Tryd.underlying9 (cap := cap) htl (hb2.take at_)
    clear htl hle
    have hcap : at_ + 8 ≤ cap := by omega
    have hne : ¬ cap = at_ := by omega
    have hmm : at_ + 8 ≤ 9223372036854775807 := by omega
    have HAT := Lib.hid hat
    rw [hat]
    clear hat h8 hm hlc
    generalize l.drop at_ = m at *
    have H8 := Lib.hid hd8; clear hd8
    go_enter Tryd.func15, Tryd.ntmps15
    go_wp2
    go_loop [5, 6, 7, 18] (fun v _ _ i => ∃ j : Nat, j ≤ 8 ∧ i = .int .i64 j ∧ v = .int .u64 (le (m.take j))) (fun _ _ _ i => 8 - (intOf i).toNat)
    case atStart => exact ⟨0, by omega, rfl, rfl⟩
    case round =>
      obtain ⟨j, hj, rfl, rfl⟩ := hrel
      by_cases hlt : j < 8
      · have hjl : j < m.length := by rw [H8.out]; exact hlt
        obtain ⟨_, _, e0, hc⟩ := hbd j hjl
        cases e0
        have hx := byte_hi m[j]
        have h1 := le_take m j (by omega) (by omega)
        have HO2 := Lib.hid (u64_shl_or (le (m.take j)) m[j].toNat (8 * j) h1.1 (by have := le_fits j m[j].toNat (by omega) m[j].toNat_lt; exact this) h1.2)
        have HT := Lib.hid (le_take_succ m j hjl)
        have h2 := h1.2
        clear h1
        go_wp2
        go_round
        case rel => exact ⟨j + 1, by omega, by go_num, by rw [HO2.out, HT.out]⟩
        case measure => simp [intOf]; omega
      · obtain rfl : j = 8 := by omega
        have HT := Lib.hid (show m.take 8 = m from List.take_of_length_le (by rw [H8.out]; exact Nat.le_refl _))
        rw [HT.out]
        rw [outV_eq] at HO
        go_wp2_with (go_at_call 22; refine HO.out.mono ?_; rintro e w1 ⟨rfl, g1⟩; obtain ⟨c0, c1, c2, f0, f1, f2⟩ := (Blk.of1 g1).three)
        refine bodyPost_ret (v := outV (ofF (l.take at_) (le m))) (by rw [outV_eq]; simp [results, Tryd.results15, go_sem, c0, c1, c2]) rfl ⟨by rw [HD.out, outV_eq], ?_⟩
        exact (((Gr.alloc _ _).trans g1).setCell (Nat.le_refl _) _).setCell (Nat.le_refl _) _ |>.setCell (Nat.le_refl _) _
end Go.Proofs.YtnjnehegfdimaaaDoor
