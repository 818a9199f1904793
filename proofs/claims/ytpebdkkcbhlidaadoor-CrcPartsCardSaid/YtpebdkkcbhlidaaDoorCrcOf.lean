/- Layer 4 (crc): a matrix of what becomes of each bit tells what becomes of a register. -/
import Derived.Test.YtpebdkkcbhlidaaDoorCrcTz
import Derived.Test.YtpebdkkcbhlidaaDoorAnyT
namespace Go.Proofs.YtpebdkkcbhlidaaDoor
set_option linter.unusedVariables false
set_option linter.unusedSimpArgs false
open Go.RowKit Crc
/-- the cells of a matrix: what becomes of each bit by k steps -/
def mat (k : Nat) : List Value := (List.range 32).map fun i => .int .u32 (U (iterF k (1#32 <<< i)))
theorem mat_at (k i : Nat) (h : i < 32) : (mat k)[i]? = some (.int .u32 (U (iterF k (1#32 <<< i)))) := by
  unfold mat
  rw [List.getElem?_map, List.getElem?_range h]
  rfl
theorem Tab.gr {w w' : World} (h : Tab w) (k : Gr w w') : Tab w' := fun j hj => k.cell (h j hj)
theorem U_toNat (x : BitVec 32) : (U x).toNat = x.toNat := by unfold U; simp
theorem U_pred {r : BitVec 32} (h : r ≠ 0#32) : U r - 1 = U (r - 1#32) := by
  have h1 : 1 ≤ U r := by
    have h0 := U_lo r
    have : U r ≠ 0 := fun e => h (U_inj (by rw [e, U_zero]))
    omega
  have h2 := U_hi r
  have h3 : (U r - 1) % 4294967296 = U (r - 1#32) := U_subc r 1 1 rfl (by decide)
  rw [← h3]
  omega
theorem tz_gr (r : BitVec 32) (w : World) (h : r ≠ 0#32) (hT : Tab w) :
    Calls Tryd.prog 12 #[.int .u32 (U r)] w fun e w' => e = .returned (.int .i64 ((Go.Lib.ctz 32 r.toNat : Nat) : Int)) ∧ Gr w w' :=
  (tz_any r w h hT).mono fun _ _ ⟨h1, h2⟩ => ⟨h1, h2 ▸ Gr.refl _⟩
set_option maxRecDepth 100000 in
set_option maxHeartbeats 1000000 in
theorem of_any (g k : Nat) (r : BitVec 32) (w : World) (hT : Tab w) (hb : Blk w g 31 (mat k)) :
    Calls Tryd.prog 10 #[.pointer (some ⟨g, 0, none⟩), .int .u32 (U r)] w fun e w' => e = .returned (.int .u32 (U (iterF k r))) ∧ Gr w w' := by
  have HT := Lib.hid hT
  have HB := Lib.hid hb
  clear hT hb
  have h0 := U_lo r
  have h1 := U_hi r
  go_enter Tryd.func10, Tryd.ntmps10
  go_wp2
  go_loopw [1, 5] (fun rv ov wr => ∃ x o : BitVec 32, rv = .int .u32 (U x) ∧ ov = .int .u32 (U o) ∧ o ^^^ iterF k x = iterF k r ∧ Gr w wr) (fun rv _ _ => (intOf rv).toNat)
  case atStart => exact ⟨r, 0#32, rfl, by rw [U_zero], by rw [BitVec.zero_xor], Gr.refl _⟩
  case round =>
    clear h0 h1
    obtain ⟨x, o, rfl, rfl, hxo, hg⟩ := hrel
    have HX := Lib.hid hxo
    clear hxo
    have hx0 := U_lo x
    have hx1 := U_hi x
    have ho0 := U_lo o
    have ho1 := U_hi o
    by_cases hx : x = 0#32
    · have hz : (U x != 0) = false := by rw [hx, U_zero]; rfl
      have HF := Lib.hid (show U o = U (iterF k r) by rw [← HX.out, hx, iterF_zero, BitVec.xor_zero])
      clear hx
      go_wp2
      go_ret
      exact ⟨by rw [HF.out]; rfl, hg⟩
    · have hz : (U x != 0) = true := by rw [bne, U_ne hx]; rfl
      have hctz := ctz_lt x hx
      have HC := Lib.hid (fun w h => tz_gr x w hx h)
      have HL := Lib.hid (iterF_low k x hx)
      have HP := Lib.hid (U_pred hx)
      have HLT := Lib.hid (low_less x hx)
      have hi0 : (0 : Int) ≤ ((Go.Lib.ctz 32 x.toNat : Nat) : Int) := by omega
      have hi1 : ((Go.Lib.ctz 32 x.toNat : Nat) : Int) < 32 := by omega
      generalize Go.Lib.ctz 32 x.toNat = i at *
      have HM := Lib.hid (mat_at k i hctz)
      generalize hcc : iterF k (1#32 <<< i) = c at *
      have hc0 := U_lo c
      have hc1 := U_hi c
      clear hcc hx
      generalize wr = W2 at *
      have hG2 := hg
      clear hg
      go_wp2
      refine region_any_gr _ [Is ?r0, Is ?r1, Is ?r2, Is (.int .i64 (i : Int)), Is (.pointer (some ⟨g, 0, none⟩)), Is (.pointer (some ⟨g, i, none⟩)), Is (.int .u32 (U c)), Is (.int .u32 (bits .xor .u32 (U o) (U c))), Is ?r8] (by kernel_rfl) (by kernel_rfl) (by kernel_rfl) rfl rfl ⟨Is.stable _, Is.stable _, Is.stable _, Is.stable _, Is.stable _, Is.stable _, Is.stable _, Is.stable _, Is.stable _, trivial⟩ ⟨?s0, ?s1, ?s2, ?s3, ?s4, ?s5, ?s6, ?s7, ?s8, trivial⟩ ?fin
      case' s0 | s1 | s2 | s3 | s4 | s5 | s6 | s7 | s8 =>
        intro ρ wr hρ hg hK
        simp [readsOf, slotsOf, Op.operands, Call.operands, tmpOf, List.filterMap_cons, List.filterMap_nil, KnownAll, knownOf, srcOf, depsOf, dstOf, Region.binds, nth, Is] at hK
        obtain ⟨hc, hf, hgl⟩ := hρ
        try simp only [wantedBy, dstOf, boolOf, nth, List.getD_cons_zero, List.getD_cons_succ, List.getElem?_cons_zero, List.getElem?_cons_succ, Option.bind_some, if_true, hK, BEq.rfl]
        try go_simp
        first | exact rfl | (rw [if_pos (by omega)]; exact is_here rfl) | (rw [dif_pos (by omega)]; exact is_here rfl) | exact congrArg (Value.int _) (IntWalk.i64_in _ ⟨by omega, by omega⟩) | skip
      case s3 => exact any_gr (HC.out _ (HT.out.gr (hG2.trans hg)))
      case s6 =>
        have hcl := (HB.out.gr (hG2.trans hg)).cell HM.out
        go_simp
        exact rfl
      case fin =>
        intro w1 val hg hH
        simp only [Holds, Is, Nat.zero_add, Nat.reduceAdd] at hH
        obtain ⟨h0, h1, h2, h3, h4, h5, h6, h7, h8, _⟩ := hH
        simp only [List.take_succ_cons, List.take_zero, List.drop_succ_cons, List.drop_zero, putAll, h0, h1, h2, h3, h4, h5, h6, h7, h8, Nat.zero_add, Nat.reduceAdd]
        go_simp
        have hU := HP.out
        go_wp2
        clear hU
        go_roundw
        case rel => exact ⟨x &&& (x - 1#32), o ^^^ c, by rw [← U_and, Int.emod_eq_of_lt (U_lo _) (U_hi _)], by rw [U_xor], by rw [BitVec.xor_assoc, BitVec.xor_comm c, ← HL.out, HX.out], hG2.trans hg⟩
        case measure =>
          rw [Int.emod_eq_of_lt (U_lo _) (U_hi _), U_and]
          show (U _).toNat < (U _).toNat
          rw [U_toNat, U_toNat]
          exact HLT.out
end Go.Proofs.YtpebdkkcbhlidaaDoor
