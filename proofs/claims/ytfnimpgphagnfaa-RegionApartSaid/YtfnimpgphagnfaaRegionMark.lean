/- Layer 1 (region): what RegionApart stores in its pieces. -/
import Derived.Test.YtfnimpgphagnfaaRegionHands
namespace Go.Proofs.Ytfnimpgphagnfaa
set_option linter.unusedVariables false
set_option linter.unusedSimpArgs false
open Go.RowKit
def markB (i r : Nat) (l : List UInt8) (k : Nat) : UInt8 := UInt8.ofNat (i * 7 + k + r * 31) ^^^ (if l = [] then 0 else l.getD ((i + k) % l.length) 0)
def markF (i r : Nat) (l : List UInt8) (n : Nat) : List UInt8 := (List.range n).map (markB i r l)
theorem markF_len (i r : Nat) (l : List UInt8) (n : Nat) : (markF i r l n).length = n := by simp [markF]
/-- the first k of n -/
def markL (i r : Nat) (l : List UInt8) (n k : Nat) : List UInt8 := markF i r l k ++ List.replicate (n - k) 0
theorem markL_len {i r : Nat} {l : List UInt8} {n k : Nat} (h : k ≤ n) : (markL i r l n k).length = n := by simp [markL, markF_len]; omega
theorem markL_zero (i r : Nat) (l : List UInt8) (n : Nat) : markL i r l n 0 = List.replicate n 0 := rfl
theorem markL_all (i r : Nat) (l : List UInt8) (n : Nat) : markL i r l n n = markF i r l n := by simp [markL]
theorem markL_step {i r : Nat} {l : List UInt8} {n k : Nat} (h : k < n) {y : UInt8} (hy : y = markB i r l k) : (markL i r l n k).set k y = markL i r l n (k + 1) := by
  subst hy
  unfold markL
  rw [show n - k = (n - (k + 1)) + 1 by omega, List.replicate_succ]
  rw [List.set_append_right _ _ (by rw [markF_len]; exact Nat.le_refl _), markF_len, Nat.sub_self, List.set_cons_zero]
  unfold markF
  rw [List.range_succ, List.map_append, List.append_assoc]
  rfl
set_option maxRecDepth 100000 in
set_option maxHeartbeats 2000000 in
theorem mark_any (i r n : Nat) (ad : Option Addr) (cap : Nat) (l : List UInt8) (w : World) (hi : i ≤ 100) (hr : r ≤ 100) (hn : n ≤ 1000) (hl : l.length ≤ 4611686018427387904) (hb : Bytes w ad l) :
    Calls Try.prog 15 #[.int .i64 (i : Int), .int .i64 (r : Int), .slice ad l.length cap, .int .i64 (n : Int)] w (RetB 5 w (markF i r l n)) := by
  have HB := Lib.hid hb
  clear hb
  go_enter Try.func15, Try.ntmps15
  go_wp2_with (at_make; refine wp_make elemB rfl rfl _ _ rfl n n rfl rfl rfl rfl (Nat.le_refl _) (by unfold maxLen; omega) (by omega) ?_; intro w1 o1 g1 s1)
  go_loopw [10] (fun v wr => ∃ k : Nat, k ≤ n ∧ v = .int .i64 (k : Int) ∧ Owns wr w.heap.size 5 1 (some ⟨w.heap.size, 0, none⟩) n n (bv (markL i r l n k)) ∧ Gr w wr) (fun v _ => n - (intOf v).toNat)
  case atStart => exact ⟨0, Nat.zero_le _, rfl, by rw [markL_zero, ← bv_replicate]; exact o1, g1⟩
  case round =>
    obtain ⟨k, hk, rfl, ho, hg⟩ := hrel
    by_cases hkn : k < n
    · have hf := ho.unfrozen (i := k) rfl (by omega)
      obtain ⟨y, hy⟩ : ∃ y, y = UInt8.ofNat (i * 7 + k + r * 31) := ⟨_, rfl⟩
      have e1 : ((i : Int) * 7 + (k : Int) + (r : Int) * 31) % 256 = (y.toNat : Int) := by
        rw [hy, UInt8.toNat_ofNat']; omega
      obtain ⟨_, e0, _, c0⟩ := ho.at (bv_get (markL i r l n k) k (by rw [markL_len hk]; exact hkn))
      cases e0
      have ho2 := ho.store rfl hkn (.int .u8 (y.toNat : Int))
      rw [bv_set] at ho2
      have hg2 := hg.setCell (p := ⟨w.heap.size, k, none⟩) (Nat.le_refl _) (.int .u8 (y.toNat : Int))
      by_cases hl0 : l.length = 0
      · have hm := markL_step (i := i) (r := r) (l := l) hkn (y := y) (by
          have : l = [] := List.eq_nil_of_length_eq_zero hl0
          unfold markB; rw [if_pos this, hy]; simp)
        rw [hm] at ho2
        have HO := Lib.hid ho2; have HG := Lib.hid hg2
        clear hm ho2 hg2 hy ho hg
        go_wp2
        go_roundw
        case rel => exact ⟨k + 1, hkn, by go_num, HO.out, HG.out⟩
        case measure => simp [intOf]; omega
      · obtain ⟨q, hq⟩ : ∃ q, q = (i + k) % l.length := ⟨_, rfl⟩
        have hql : q < l.length := by rw [hq]; exact Nat.mod_lt _ (by omega)
        have e2 : ((i : Int) + (k : Int)).tmod (l.length : Int) = (q : Int) := by rw [hq]; rfl
        have e4 : IntKind.i64.wrap ((i : Int) + (k : Int)) = (i : Int) + (k : Int) := by rw [IntKind.wrap_i64]; omega
        have e5 : IntKind.i64.wrap (q : Int) = (q : Int) := by rw [IntKind.wrap_i64]; omega
        have e6 : ((l.length : Int) == 0) = false := by rw [beq_eq_false_iff_ne]; omega
        have e7 : (l.length : Int) ≠ 0 := by omega
        have e8 : ¬ l = [] := fun e => hl0 (by rw [e]; rfl)
        have e9 : ¬ (l.length : Int) = 0 := e7
        obtain ⟨p1, q1, rfl, c1⟩ := (HB.out.gr hg2) q hql
        obtain ⟨_, e0', _, c2⟩ := ho2.at (bv_get _ k (by rw [List.length_set, markL_len hk]; exact hkn))
        cases e0'
        rw [List.getElem_set_self] at c2
        have hf2 := ho2.unfrozen (i := k) rfl (by omega)
        have hm := markL_step (i := i) (r := r) (l := l) hkn (y := y ^^^ l[q]) (by
          have : l ≠ [] := fun e => hl0 (by rw [e]; rfl)
          unfold markB; rw [if_neg this, hy, ← hq, List.getD_eq_getElem?_getD, List.getElem?_eq_getElem hql]; rfl)
        have ho3 := ho2.store rfl hkn (.int .u8 ((y ^^^ l[q]).toNat : Int))
        rw [bv_set, List.set_set, hm] at ho3
        have hg3 := hg2.setCell (p := ⟨w.heap.size, k, none⟩) (Nat.le_refl _) (.int .u8 ((y ^^^ l[q]).toNat : Int))
        have HO := Lib.hid ho3; have HG := Lib.hid hg3; have HQ := Lib.hid hq
        clear hm ho2 hg2 hy ho hg ho3 hg3 hq
        go_wp2
        generalize wr.setCell ⟨w.heap.size, k, none⟩ (.int .u8 (y.toNat : Int)) = wr2 at *
        go_still_tail 17, (by kernel_rfl)
        go_wp2
        go_roundw
        case rel => exact ⟨k + 1, hkn, by go_num, by rw [b8_xor]; exact HO.out.gr (Gr.drew _), by rw [b8_xor]; exact HG.out.trans (Gr.drew _)⟩
        case measure => simp [intOf]; omega
    · obtain rfl : k = n := by omega
      rw [markL_all] at ho
      have hlen := markF_len i r l k
      go_wp2
      go_ret
      exact ⟨_, k, by rw [hlen]; rfl, by rw [hlen]; exact ho, hg⟩
end Go.Proofs.Ytfnimpgphagnfaa
