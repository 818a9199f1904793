/- Layer 13 (block): pairs in memory; what the functions of layer 3 compute. -/
import Derived.Test.YtnbinodhdgnjlaaRows
import Derived.Test.YtnbinodhdgnjlaaBlk
import Derived.Test.YtnbinodhdgnjlaaBlockMath
namespace Go.Proofs.Ytnbinodhdgnjlaa
set_option linter.unusedVariables false
set_option linter.unusedSimpArgs false
open Go.RowKit
theorem elemB : Elem Try.prog 26 5 (.int .u8 0) 1 1 := ⟨by kernel_rfl, by kernel_rfl, rfl, by decide⟩
section
open Varint
set_option maxRecDepth 100000 in
set_option maxHeartbeats 1000000 in
theorem Put_any (n : Nat) (w : World) (hn : n < 18446744073709551616) : Calls Try.prog 33 #[.int .u64 n] w (RetB 5 w (putF n)) := by
  go_enter Try.func33, Try.ntmps33
  go_wp2
  go_loopw [0, 3] (fun v b wr => ∃ k acc cur, ∃ ad cap, v = .int .u64 (cur : Nat) ∧ cur < 2 * 128 ^ k ∧ k ≤ 9 ∧ putF n = acc ++ putN k cur ∧ acc.length ≤ 9 - k ∧ b = .slice ad acc.length cap ∧ Owns wr w.heap.size 5 1 ad cap acc.length (bv acc) ∧ Gr w wr) (fun v _ _ => (intOf v).toNat)
  case atStart => exact ⟨9, [], n, none, 0, rfl, by simpa using hn, Nat.le_refl _, rfl, by simp, rfl, Owns.empty _ _ _ _, Gr.refl _⟩
  case round =>
    obtain ⟨k, acc, cur, ad, cap, rfl, hc, hk, hp, hal, rfl, ho, hg⟩ := hrel
    have HP := Lib.hid hp; clear hp
    have hpw : 128 ^ k ≤ 128 ^ 9 := Nat.pow_le_pow_right (by decide) hk
    have hb : cur < 18446744073709551616 := by omega
    have HC := Lib.hid hc; clear hc hpw
    have hs := hg.size
    have hm1 : acc.length + 1 ≤ maxLen := by unfold maxLen; omega
    have hm2 : (acc.length + 1) * 1 ≤ 140737488355328 := by omega
    by_cases hlt : cur < 128
    · have HX := Lib.hid (show (cur : Int) = ((UInt8.ofNat cur).toNat : Int) by rw [UInt8.toNat_ofNat']; omega)
      go_wp2_with (at_builtin; refine wp_append elemB rfl _ _ rfl rfl (ho.gr (Gr.alloc _ _)) rfl (Src.one _ _ (UInt8.ofNat cur) HX.out Try.underlying26) hm1 hm2 (by simp; omega) ?_; intro ad2 cap2 w2 o2 k2 f2)
      go_ret
      have e : putF n = acc ++ [UInt8.ofNat cur] := by rw [HP.out, putN_small hlt]
      refine ⟨ad2, cap2, by rw [e]; simp, ?_, hg.app ho (Nat.le_refl _) k2⟩
      rw [e, bv_append]
      simpa using o2
    · have HX := Lib.hid (b8_more cur)
      go_wp2_with (at_builtin; refine wp_append elemB rfl _ _ rfl rfl (ho.gr (Gr.alloc _ _)) rfl (Src.one _ _ (UInt8.ofNat (cur % 128 + 128)) HX.out Try.underlying26) hm1 hm2 (by simp; omega) ?_; intro ad2 cap2 w2 o2 k2 f2)
      obtain ⟨k', rfl⟩ : ∃ k', k = k' + 1 := ⟨k - 1, by
        have := HC.out
        cases k with
        | zero => simp at this; omega
        | succ k => rfl⟩
      have hc : cur < 2 * 128 ^ (k' + 1) := HC.out
      rw [Nat.pow_succ] at hc
      go_roundw
      case rel =>
        refine ⟨k', acc ++ [UInt8.ofNat (cur % 128 + 128)], cur / 128, ad2, cap2, by go_num, by omega, by omega, by rw [HP.out, putN_big hlt]; simp, by simp; omega, by simp, ?_, hg.app ho (Nat.le_refl _) k2⟩
        rw [bv_append]
        simpa using o2
      case measure => simp [intOf]; omega
set_option maxRecDepth 100000 in
set_option maxHeartbeats 1000000 in
theorem Get_any (ad : Option Addr) (len cap : Nat) (l : List UInt8) (w : World) (hl : l.length = len) (hm : len ≤ maxLen) (hb : Bytes w ad l) :
    Calls Try.prog 54 #[.slice ad len cap] w fun e w' => e = .returned (.tuple #[.int .u64 (getF l).1, .int .i64 (getF l).2.1, .int .i64 (getF l).2.2]) ∧ w = w' := by
  subst hl
  unfold maxLen at hm
  go_enter Try.func54, Try.ntmps54
  go_wp2
  go_loop [5, 6, 7, 10] (fun v _ _ i => ∃ (k : Nat) (m : Int), k ≤ l.length ∧ k ≤ 10 ∧ i = .int .i64 k ∧ v = .int .u64 m ∧ (k ≤ 9 → m = val (l.take k)) ∧ getF l = getAt l (10 - k) k) (fun _ _ _ i => l.length - (intOf i).toNat)
  case atStart => exact ⟨0, 0, Nat.zero_le _, by omega, rfl, rfl, fun _ => by simp [val], rfl⟩
  case round =>
    obtain ⟨k, m, hk, hk10, rfl, rfl, hv, hg⟩ := hrel
    have HG := Lib.hid hg; clear hg
    have HV := Lib.hid hv; clear hv
    by_cases hlt : k < l.length
    · obtain ⟨b, off, rfl, hc⟩ := hb k hlt
      have hx := byte_hi l[k]
      by_cases h10 : k = 10
      · subst h10
        have HR := Lib.hid (show getF l = (0, 0, 2) by rw [HG.out]; simp only [Nat.sub_self, getAt, short]; rw [if_neg (by omega)])
        go_wp2
        go_ret3
        exact ⟨ret3_of HR.out rfl rfl rfl, rfl⟩
      · obtain ⟨f, hf⟩ : ∃ f, 10 - k = f + 1 := ⟨9 - k, by omega⟩
        have HF := Lib.hid hf; clear hf
        have b10 : ((k : Int) == 10) = false := by rw [beq_eq_false_iff_ne]; omega
        obtain ⟨t1, t2⟩ := take_u64 l k (by omega) (by omega)
        have HM := Lib.hid (HV.out (by omega))
        by_cases hxs : l[k].toNat < 128
        · have HE := Lib.hid (show getF l = endAt l k l[k].toNat by rw [HG.out, HF.out, getAt_end hlt hxs])
          by_cases h9 : k = 9
          · have b9 : ((k : Int) == 9) = true := by rw [beq_iff_eq]; omega
            by_cases hx1 : 1 < l[k].toNat
            · have HR := Lib.hid (HE.out.trans (endAt_bad (.inl ⟨h9, hx1⟩)))
              have bd : decide ((1 : Int) < l[k].toNat) = true := by simp; omega
              clear h9
              go_wp2
              go_ret3
              exact ⟨ret3_of HR.out rfl rfl rfl, rfl⟩
            · have bd : decide ((1 : Int) < l[k].toNat) = false := by simp; omega
              have hk0 : 0 < k := by omega
              by_cases hx0 : l[k].toNat = 0
              · have HR := Lib.hid (HE.out.trans (endAt_bad (.inr ⟨by omega, hx0⟩)))
                have b0 : ((l[k].toNat : Int) == 0) = true := by rw [beq_iff_eq]; omega
                clear h9 hx0
                go_wp2
                go_ret3
                exact ⟨ret3_of HR.out rfl rfl rfl, rfl⟩
              · have HR := Lib.hid (HE.out.trans (endAt_good (by omega)))
                have b0 : ((l[k].toNat : Int) == 0) = false := by rw [beq_eq_false_iff_ne]; omega
                have HO := Lib.hid (u64_shl_or (val (l.take k)) l[k].toNat (7 * k) t2 (fits k _ (by omega) hxs (by omega)) t1)
                have HO2 := Lib.hid (show val (l.take (k + 1)) = val (l.take k) + l[k].toNat * 2 ^ (7 * k) by rw [val_take_succ l k hlt, Nat.mod_eq_of_lt hxs, pow128])
                clear h9 hx0
                go_wp2
                go_ret3
                exact ⟨ret3_of HR.out (by rw [HM.out, HO.out, HO2.out]) (by omega) rfl, rfl⟩
          · have b9 : ((k : Int) == 9) = false := by rw [beq_eq_false_iff_ne]; omega
            by_cases hk0 : 0 < k
            · by_cases hx0 : l[k].toNat = 0
              · have HR := Lib.hid (HE.out.trans (endAt_bad (.inr ⟨hk0, hx0⟩)))
                have b0 : ((l[k].toNat : Int) == 0) = true := by rw [beq_iff_eq]; omega
                clear hx0
                go_wp2
                go_ret3
                exact ⟨ret3_of HR.out rfl rfl rfl, rfl⟩
              · have HR := Lib.hid (HE.out.trans (endAt_good (by omega)))
                have HO := Lib.hid (u64_shl_or (val (l.take k)) l[k].toNat (7 * k) t2 (fits k _ (by omega) hxs (by omega)) t1)
                have HO2 := Lib.hid (show val (l.take (k + 1)) = val (l.take k) + l[k].toNat * 2 ^ (7 * k) by rw [val_take_succ l k hlt, Nat.mod_eq_of_lt hxs, pow128])
                have b0 : ((l[k].toNat : Int) == 0) = false := by rw [beq_eq_false_iff_ne]; omega
                clear hx0
                go_wp2
                go_ret3
                exact ⟨ret3_of HR.out (by rw [HM.out, HO.out, HO2.out]) (by omega) rfl, rfl⟩
            · have HR := Lib.hid (HE.out.trans (endAt_good (by omega)))
              have HO := Lib.hid (u64_shl_or (val (l.take k)) l[k].toNat (7 * k) t2 (fits k _ (by omega) hxs (by omega)) t1)
              have HO2 := Lib.hid (show val (l.take (k + 1)) = val (l.take k) + l[k].toNat * 2 ^ (7 * k) by rw [val_take_succ l k hlt, Nat.mod_eq_of_lt hxs, pow128])
              go_wp2
              go_ret3
              exact ⟨ret3_of HR.out (by rw [HM.out, HO.out, HO2.out]) (by omega) rfl, rfl⟩
        · go_wp2
          go_round
          case rel =>
            refine ⟨k + 1, _, by omega, by omega, by go_num, rfl, ?_, ?_⟩
            · intro h
              rw [HM.out, b8_less, u64_wrap_nat _ (by omega), u64_shl_or _ _ (7 * k) t2 (fits k _ (by omega) (by omega) (by omega)) t1, val_take_succ l k hlt, pow128]
            · rw [HG.out, HF.out, getAt_on hlt hxs]
              have := HF.out
              congr 1
              omega
          case measure => simp [intOf]; omega
    · have hR := Lib.hid (show getF l = short l by rw [HG.out, getAt_none (by omega)])
      by_cases h10 : l.length < 10
      · have HR := Lib.hid (show getF l = (0, 0, 9) by rw [hR.out, short, if_pos h10])
        go_wp2
        go_ret3
        exact ⟨ret3_of HR.out rfl rfl rfl, rfl⟩
      · have HR := Lib.hid (show getF l = (0, 0, 2) by rw [hR.out, short, if_neg h10])
        go_wp2
        go_ret3
        exact ⟨ret3_of HR.out rfl rfl rfl, rfl⟩
set_option maxRecDepth 100000 in
set_option maxHeartbeats 1000000 in
theorem Fixed_any (n : Nat) (s : Int) (w : World) (hn : n < 18446744073709551616) (h1 : -9223372036854775808 ≤ s) (h2 : s ≤ 9223372036854775807) :
    Calls Try.prog 52 #[.int .u64 n, .int .i64 s] w (RetBE 5 w (fixedF n s).1 (fixedF n s).2) := by
  by_cases hs : s < 0 ∨ 8 < s
  · have H := Lib.hid (show fixedF n s = ([], 1) by unfold fixedF; rw [if_pos hs])
    rcases hs with hs | hs
    all_goals
      go_enter Try.func52, Try.ntmps52
      go_wp2
      go_ret2
      refine ⟨none, 0, ?_, ?_, Gr.refl _⟩
      · rw [H.out]; rfl
      · rw [H.out]; exact Owns.empty _ _ _ _
  · obtain ⟨k, rfl⟩ := Int.eq_ofNat_of_zero_le (show 0 ≤ s by omega)
    have hk : k ≤ 8 := by omega
    clear hs h1 h2
    have HP := Lib.hid (show (n : Int) / 2 ^ (8 * k) = ((n / 256 ^ k : Nat) : Int) by rw [pow256]; simp)
    by_cases hb : n / 256 ^ k = 0
    · have H := Lib.hid (show fixedF n k = (bytesN k n, 0) by unfold fixedF; rw [if_neg (by omega), if_neg (by simpa using hb)]; rfl)
      have hq : ((n : Int) / 2 ^ (8 * k) != 0) = false := by rw [HP.out, hb]; rfl
      have HB := Lib.hid hb; clear hb
      by_cases hk8 : k < 8
      all_goals
        go_enter Try.func52, Try.ntmps52
        go_wp2
        go_loopw [0, 6, 25] (fun v b i wr => ∃ (j : Nat) (ad : Option Addr) (cap : Nat), j ≤ k ∧ i = .int .i64 j ∧ v = .int .u64 ((n / 256 ^ j : Nat) : Int) ∧ b = .slice ad j cap ∧ Owns wr w.heap.size 5 1 ad cap j (bv (bytesN j n)) ∧ Gr w wr) (fun _ _ i _ => k - (intOf i).toNat)
        case atStart => exact ⟨0, none, 0, Nat.zero_le _, rfl, by simp, rfl, Owns.empty _ _ _ _, Gr.refl _⟩
        case round =>
          obtain ⟨j, ad, cap, hj, rfl, rfl, rfl, ho, hg⟩ := hrel
          have hs := hg.size
          by_cases hlt : j < k
          · generalize hc : n / 256 ^ j = cur at *
            have hb : cur < 18446744073709551616 := by rw [← hc]; exact Nat.lt_of_le_of_lt (Nat.div_le_self _ _) hn
            have HC := Lib.hid hc; clear hc
            have HX := Lib.hid (show (cur : Int) % 256 = ((UInt8.ofNat cur).toNat : Int) by rw [UInt8.toNat_ofNat']; omega)
            go_wp2_with (at_builtin; refine wp_append elemB rfl _ _ rfl rfl (ho.gr (Gr.alloc _ _)) rfl (Src.one _ _ (UInt8.ofNat cur) HX.out Try.underlying26) (by unfold maxLen; omega) (by omega) (by simp; omega) ?_; intro ad2 cap2 w2 o2 k2 f2)
            go_roundw
            case rel =>
              refine ⟨j + 1, ad2, cap2, by omega, by go_num, ?_, rfl, ?_, hg.app ho (Nat.le_refl _) k2⟩
              · rw [Nat.pow_succ, ← Nat.div_div_eq_div_mul, HC.out]; go_num
              · rw [bytesN_snoc, bv_append, HC.out]; exact o2
            case measure => simp [intOf]; omega
          · obtain rfl : j = k := by omega
            go_wp2
            go_ret2
            refine ⟨ad, cap, ?_, ?_, hg⟩
            · rw [H.out]; simp only [bytesN_len]; rfl
            · rw [H.out]; simp only [bytesN_len]; exact ho
    · have hk8 : k < 8 := by
        rcases Nat.lt_or_ge k 8 with h | h
        · exact h
        · have : k = 8 := by omega
          subst this
          exact absurd (Nat.div_eq_of_lt (by omega)) hb
      have H := Lib.hid (show fixedF n k = ([], 14) by unfold fixedF; rw [if_neg (by omega), if_pos (by simpa using hb)])
      have hq : ((n : Int) / 2 ^ (8 * k) != 0) = true := by rw [HP.out, bne_iff_ne]; omega
      clear hb
      go_enter Try.func52, Try.ntmps52
      go_wp2
      go_ret2
      refine ⟨none, 0, ?_, ?_, Gr.refl _⟩
      · rw [H.out]; rfl
      · rw [H.out]; exact Owns.empty _ _ _ _
/-- numbers in so many bytes -/
theorem Whole_any (ad : Option Addr) (len cap : Nat) (l : List UInt8) (w : World) (hl : l.length = len) (hm : len ≤ maxLen) (hb : Bytes w ad l) :
    Calls Try.prog 53 #[.slice ad len cap] w fun e w' => e = .returned (.tuple #[.int .u64 (wholeF l).1, .int .i64 (wholeF l).2]) ∧ w = w' := by
  subst hl
  unfold maxLen at hm
  by_cases h8 : 8 < l.length
  · have H := Lib.hid (show wholeF l = (0, 1) by unfold wholeF; rw [if_pos h8])
    go_enter Try.func53, Try.ntmps53
    go_wp2
    go_ret2
    exact ⟨by rw [H.out]; rfl, rfl⟩
  · have H := Lib.hid (show wholeF l = (le l, 0) by unfold wholeF; rw [if_neg h8])
    go_enter Try.func53, Try.ntmps53
    go_wp2
    go_loop [4, 5, 6, 12] (fun v _ _ i => ∃ k : Nat, k ≤ l.length ∧ i = .int .i64 k ∧ v = .int .u64 (le (l.take k))) (fun _ _ _ i => l.length - (intOf i).toNat)
    case atStart => exact ⟨0, Nat.zero_le _, rfl, rfl⟩
    case round =>
      obtain ⟨k, hk, rfl, rfl⟩ := hrel
      by_cases hlt : k < l.length
      · obtain ⟨b, off, rfl, hc⟩ := hb k hlt
        have hx := byte_hi l[k]
        have h1 := le_take l k (by omega) (by omega)
        have HO := Lib.hid (u64_shl_or (le (l.take k)) l[k].toNat (8 * k) h1.1 (by have := le_fits k l[k].toNat (by omega) l[k].toNat_lt; exact this) h1.2)
        have HT := Lib.hid (le_take_succ l k hlt)
        have h2 := h1.2
        clear h1
        go_wp2
        go_round
        case rel => exact ⟨k + 1, by omega, by go_num, by rw [HO.out, HT.out]⟩
        case measure => simp [intOf]; omega
      · obtain rfl : k = l.length := by omega
        have HL := Lib.hid (List.take_length (l := l))
        go_wp2
        go_ret2
        exact ⟨by rw [H.out]; simp only [List.take_length]; rfl, rfl⟩
end
theorem src_cell {P : Program} {u e e' : TypeId} (w : World) (v : Value) (hv : v.oneCell' = true) (hu : P.underlying u = some (.slice e')) :
    Src P u (w.alloc (.cells #[v] e)) 1 (.slice (some ⟨w.heap.size, 0, none⟩) 1 1) 1 [v] :=
  ⟨rfl, fun x hx => by rw [List.mem_singleton.1 hx]; exact hv, .inl ⟨_, _, e', rfl, Row.alloc w _ e (0, 0) _ rfl, hu⟩⟩
/-- appends to a slice since a world: its own block alone has changed, or it has a new one -/
def AppTo (w0 : World) (ad0 : Option Addr) (w : World) (ad : Option Addr) : Prop := w0.grownBy w (ad0.map (·.block)) ∧ ∀ a, ad = some a → ad0 = some a ∨ w0.heap.size ≤ a.block
theorem AppTo.refl (w : World) (ad : Option Addr) : AppTo w ad w ad := ⟨(Gr.refl w).far, fun _ h => .inl h⟩
theorem AppTo.gr {w0 w w' : World} {ad0 ad : Option Addr} (h : AppTo w0 ad0 w ad) (g : Gr w w') : AppTo w0 ad0 w' ad := ⟨grown_trans h.1 g.far, h.2⟩
theorem AppTo.step {w0 w w' : World} {ad0 ad ad' : Option Addr} (h : AppTo w0 ad0 w ad) (k : w.grownBy w' (ad.map (·.block))) (f : ∀ a, ad' = some a → ad = some a ∨ w.heap.size ≤ a.block) : AppTo w0 ad0 w' ad' := by
  refine ⟨⟨k.os.trans h.1.os, k.tape.trans h.1.tape, k.output.trans h.1.output, Nat.le_trans h.1.size k.size, fun j hj hne => ?_⟩, fun a ha => ?_⟩
  · refine (k.block j (Nat.lt_of_lt_of_le hj h.1.size) ?_).trans (h.1.block j hj hne)
    intro e
    cases ad with
    | none => cases e
    | some a =>
      cases e
      rcases h.2 a rfl with h2 | h2
      · exact hne (by rw [h2]; rfl)
      · exact absurd hj (Nat.not_lt.2 h2)
  · rcases f a ha with h2 | h2
    · exact h.2 a h2
    · exact .inr (Nat.le_trans h.1.size h2)
theorem AppTo.bytes {w0 w : World} {ad0 ad ads : Option Addr} {s : List UInt8} (h : AppTo w0 ad0 w ad) (hb : Bytes w0 ads s) (hf : 0 < s.length → ∀ a, ads = some a → some a.block ≠ ad0.map (·.block)) : Bytes w ads s := fun i hi => by
  obtain ⟨b, off, e, hc⟩ := hb i hi
  have := h.1.block b (World.block_lt_of_cell? w0 _ hc) (hf (by omega) _ e)
  refine ⟨b, off, e, ?_⟩
  unfold World.cell? at hc ⊢
  simp only at hc ⊢
  rw [this]; exact hc
theorem AppTo.back {w w0 w' : World} {ad0 ad' : Option Addr} (g : Gr w w0) (h : AppTo w0 ad0 w' ad') : AppTo w ad0 w' ad' :=
  ⟨grown_trans g.far h.1, fun a ha => (h.2 a ha).imp id (Nat.le_trans g.size)⟩
/-- what hands back a slice that more was put behind -/
def RetApp (B : Nat) (e : TypeId) (ad0 : Option Addr) (w : World) (l : List UInt8) : Ending → World → Prop := fun x w' =>
  ∃ ad cap, x = .returned (.slice ad l.length cap) ∧ Owns w' B e 1 ad cap l.length (bv l) ∧ AppTo w ad0 w' ad
theorem far_new {w w2 w3 : World} {adb ad2 : Option Addr} {e : TypeId} {cap n : Nat} {xs : List Value} (h : ∀ a, adb = some a → a.block < w.heap.size) (ho : Owns w3 w2.heap.size e 1 ad2 cap n xs) (hs : w.heap.size ≤ w2.heap.size) :
    ∀ a, ad2 = some a → some a.block ≠ adb.map (·.block) := by
  intro a ha e
  cases adb with
  | none => cases e
  | some b =>
    have h1 := h b rfl
    have h2 := (ho.lt a ha).1
    simp only [Option.map_some, Option.some.injEq] at e
    omega
open Bk
/-- pairs, as Go's values: two cells each -/
def pv (l : List Pr) : List Value := l.flatMap fun p => [.string (str p.1), .string (str p.2)]
theorem pv_length (l : List Pr) : (pv l).length = l.length * 2 := by
  induction l with
  | nil => rfl
  | cons p l ih => rw [pv, List.flatMap_cons] at *; simp only [List.length_append, List.length_cons, List.length_nil] at *; omega
theorem pv_append (l m : List Pr) : pv (l ++ m) = pv l ++ pv m := by simp [pv]
theorem pv_get (l : List Pr) : ∀ i (h : i < l.length), (pv l)[2 * i]? = some (.string (str l[i].1)) ∧ (pv l)[2 * i + 1]? = some (.string (str l[i].2)) := by
  induction l with
  | nil => intro i h; simp at h
  | cons p l ih =>
    intro i h
    cases i with
    | zero => simp [pv]
    | succ i =>
      have := ih i (by simp at h; omega)
      simp only [pv, List.flatMap_cons, List.getElem_cons_succ] at this ⊢
      rw [show 2 * (i + 1) = 2 * i + 1 + 1 by omega, show 2 * i + 1 + 1 + 1 = 2 * i + 1 + 1 + 1 from rfl]
      exact this
theorem pv_one (l : List Pr) : ∀ v ∈ pv l, v.oneCell' = true := by
  intro v hv
  simp only [pv, List.mem_flatMap] at hv
  obtain ⟨p, _, h⟩ := hv
  simp only [List.mem_cons, List.not_mem_nil, or_false] at h
  rcases h with rfl | rfl <;> rfl
theorem pv_take (l : List Pr) (n : Nat) : pv (l.take n) = (pv l).take (2 * n) := by
  induction l generalizing n with
  | nil => simp [pv]
  | cons p l ih =>
    cases n with
    | zero => simp [pv]
    | succ n =>
      have := ih n
      rw [List.take_succ_cons, show 2 * (n + 1) = 2 * n + 1 + 1 by omega]
      simp only [pv, List.flatMap_cons, List.cons_append, List.nil_append, List.take_succ_cons] at this ⊢
      rw [this]
theorem elemP : Elem Try.prog 22 31 (.agg #[.string ⟨#[]⟩, .string ⟨#[]⟩]) 2 32 := ⟨by kernel_rfl, by kernel_rfl, rfl, by decide⟩
/-- where a pair of a row lies -/
theorem Row.pair {w : World} {ad : Option Addr} {l : List Pr} (h : Row w ad (pv l)) (i : Nat) (hi : i < l.length) :
    ∃ b off, ad = some ⟨b, off, none⟩ ∧ w.cell? ⟨b, off + i * 2, none⟩ = some (.string (str l[i].1)) ∧ w.cell? ⟨b, off + i * 2 + 1, none⟩ = some (.string (str l[i].2)) := by
  obtain ⟨h1, h2⟩ := pv_get l i hi
  obtain ⟨b, off, e, c1⟩ := h (2 * i) _ h1
  obtain ⟨b', off', e', c2⟩ := h (2 * i + 1) _ h2
  rw [e] at e'
  cases e'
  rw [Nat.mul_comm 2 i] at c1 c2
  exact ⟨b, off, e, c1, c2⟩
end Go.Proofs.Ytnbinodhdgnjlaa
