/- Layer 5 (ikey): Encode and Decode, of the program and of the reference. -/
import Derived.Test.YtnjnehegfdimaaaDoorIkeyFns
namespace Go.Proofs.YtnjnehegfdimaaaDoor
set_option linter.unusedVariables false
set_option linter.unusedSimpArgs false
open Go.RowKit Ikey Varint
open Go.Op (bytesLess)
theorem or_comm64 (a b : Nat) (ha : a < 18446744073709551616) (hb : b < 18446744073709551616) : bits .or .u64 (a : Int) (b : Int) = bits .or .u64 (b : Int) (a : Int) := by
  rw [u64_or_nat _ _ ha hb, u64_or_nat _ _ hb ha, Nat.or_comm]
/-- the number and the kind in one -/
def trailF (s d : Nat) : Nat := d + s * 256
theorem trail_bits (s d : Nat) (hs : s < 72057594037927936) (hd : d < 256) : bits .or .u64 ((s : Int) * 256) (d : Int) = (trailF s d : Int) := by
  have e : ((s : Int) * 256) = ((s * 256 : Nat) : Int) := by omega
  rw [e, or_comm64 _ _ (by omega) (by omega)]
  exact u64_join d s 8 (by omega) (by omega) (by omega)
theorem trailF_lt {s d : Nat} (hs : s < 72057594037927936) (hd : d < 256) : trailF s d < 18446744073709551616 := by unfold trailF; omega
set_option maxRecDepth 100000 in
theorem trailer_any (k : List UInt8) (s d : Nat) (w : World) (hs : s < 72057594037927936) (hd : d < 256) :
    Calls Tryd.prog 19 #[ver k s d] w fun e w' => e = .returned (.int .u64 (trailF s d)) ∧ Gr w w' := by
  have H := Lib.hid (trail_bits s d hs hd)
  unfold ver
  go_enter Tryd.func19, Tryd.ntmps19
  go_wp2
  go_ret
  exact ⟨ret_int H.out, Gr.alloc _ _⟩
/-- a version's bytes -/
def encF (k : List UInt8) (s d : Nat) : List UInt8 := k ++ bytesN 8 (trailF s d)
/-- what hands back bytes, and an error's number -/
def RetBI (e : TypeId) (w : World) (l : List UInt8) (n : Int) : Ending → World → Prop := fun x w' =>
  ∃ ad cap, x = .returned (.tuple #[.slice ad l.length cap, .int .i64 n]) ∧ Owns w' w.heap.size e 1 ad cap l.length (bv l) ∧ Gr w w'
set_option maxRecDepth 100000 in
set_option maxHeartbeats 1000000 in
theorem Encode_no (k : List UInt8) (s d : Int) (w : World) (h : okV k s d = false) :
    Calls Tryd.prog 14 #[ver k s d] w (RetBI 5 w [] 1) := by
  have HC := Lib.hid (fun w => Check_any k s d w)
  rw [chk_no h] at HC
  unfold ver at HC ⊢
  go_enter Tryd.func14, Tryd.ntmps14
  go_wp2_with (go_at_call 17; refine (HC.out _).mono ?_; rintro e w1 ⟨rfl, g1⟩; obtain ⟨c0, c1, c2⟩ := g1.box3)
  go_ret2
  exact ⟨none, 0, rfl, Owns.empty _ _ _ _, (Gr.alloc _ _).trans g1⟩
theorem enc_len (k : List UInt8) (s d : Nat) : (encF k s d).length = k.length + 8 := by simp [encF, bytesN_len]
set_option maxRecDepth 100000 in
set_option maxHeartbeats 1000000 in
theorem Encode_yes (k : List UInt8) (s d : Nat) (w : World) (h : okV k s d = true) :
    Calls Tryd.prog 14 #[ver k s d] w (RetBI 5 w (encF k s d) 0) := by
  obtain ⟨_, hk, _, hs, hd⟩ := okV_of h
  have hs' : s < 72057594037927936 := by omega
  have hd' : d < 256 := by omega
  have hkm : k.length ≤ maxLen := by unfold maxLen; omega
  have HC := Lib.hid (fun w => Check_any k s d w)
  rw [chk_yes h] at HC
  have HT := Lib.hid (fun w => trailer_any k s d w hs' hd')
  unfold ver at HC HT ⊢
  have hN := trailF_lt hs' hd'
  have HE := Lib.hid (show encF k s d = k ++ bytesN 8 (trailF s d) from rfl)
  have HL := Lib.hid (enc_len k s d)
  generalize trailF s d = N at *
  go_enter Tryd.func14, Tryd.ntmps14
  go_wp2_with (first
    | (go_at_call 17; refine (HC.out _).mono ?_; rintro e w1 ⟨rfl, g1⟩; obtain ⟨c0, c1, c2⟩ := g1.box3; obtain ⟨cap, w2, hrun, ho, hg, hsz⟩ := bytes_str Tryd.underlying9 Tryd.underlying25 Tryd.underlying5 w1 k hkm; have d0 := hg.cell c0; have d1 := hg.cell c1; have d2 := hg.cell c2; clear hsz)
    | (go_at_call 19; refine (HT.out _).mono ?_; rintro e w3 ⟨rfl, g3⟩))
  clear hrun
  have G2 : Gr w w2 := ((Gr.alloc _ _).trans g1).trans hg
  have hsz := ((Gr.alloc w _).trans g1).size
  have ho3 := (ho.gr g3).base hsz
  go_loopw [5, 7] (fun v i wr => ∃ (j : Nat) (ad : Option Addr) (cap' : Nat), j ≤ 8 ∧ i = .int .i64 (j : Int) ∧ v = .slice ad (k.length + j) cap' ∧ Owns wr w.heap.size 5 1 ad cap' (k.length + j) (bv (k ++ bytesN j N)) ∧ Gr w wr) (fun _ i _ => 8 - (intOf i).toNat)
  case atStart => exact ⟨0, _, cap, by omega, rfl, rfl, by rw [show bytesN 0 N = [] from rfl, List.append_nil]; exact ho3, G2.trans g3⟩
  case round =>
    obtain ⟨j, ad, cap', hj, rfl, rfl, ho, hg⟩ := hrel
    by_cases hlt : j < 8
    · have HX := Lib.hid (show ((N : Int) / 2 ^ (8 * j)) % 256 = ((UInt8.ofNat (N / 256 ^ j)).toNat : Int) by
        have : (N : Int) / 2 ^ (8 * j) = ((N / 256 ^ j : Nat) : Int) := by rw [pow256]; simp
        rw [this, UInt8.toNat_ofNat']; omega)
      have hs2 := hg.size
      go_wp2_with (at_builtin; refine wp_append elemB rfl _ _ rfl rfl (ho.gr (Gr.alloc _ _)) rfl (Src.one _ _ (UInt8.ofNat (N / 256 ^ j)) HX.out Tryd.underlying25) (by unfold maxLen; omega) (by omega) (by simp; omega) ?_; intro ad2 cap2 w4 o4 k4 f4)
      go_roundw
      case rel =>
        refine ⟨j + 1, ad2, cap2, by omega, by go_num, by simp [Nat.add_assoc], ?_, hg.app ho (Nat.le_refl _) k4⟩
        rw [bytesN_snoc, ← List.append_assoc, bv_append]
        exact o4
      case measure => simp [intOf]; omega
    · obtain rfl : j = 8 := by omega
      go_wp2
      go_ret2
      refine ⟨ad, cap', by rw [HL.out]; rfl, ?_, hg⟩
      rw [HL.out, HE.out]
      exact ho
end Go.Proofs.YtnjnehegfdimaaaDoor
