/- Layer 5 (ikey): the parting of texts, of the program and of the reference. -/
import Derived.Test.YtnjnehegfdimaaaDoorRows
import Derived.Test.YtnjnehegfdimaaaDoorAny
import Derived.Test.YtnjnehegfdimaaaDoorIkeyMath
namespace Go.Proofs.YtnjnehegfdimaaaDoor
set_option linter.unusedVariables false
set_option linter.unusedSimpArgs false
open Go.RowKit Ikey
open Go.Op (bytesLess)
theorem elemB : Elem Tryd.prog 25 5 (.int .u8 0) 1 1 := ⟨by kernel_rfl, by kernel_rfl, rfl, by decide⟩
/-- the row while a text is made the next one: j bytes as they were, the rest noughts -/
def rowJ (a : List UInt8) (n j : Nat) : List UInt8 := a.take j ++ List.replicate (n - j) 0
theorem rowJ_len {a : List UInt8} {n j : Nat} (h : j ≤ n) (hn : n ≤ a.length) : (rowJ a n j).length = n := by simp [rowJ]; omega
theorem rowJ_full (a : List UInt8) (n : Nat) : rowJ a n n = a.take n := by simp [rowJ]
theorem rowJ_at {a : List UInt8} {n j : Nat} (h : j + 1 ≤ n) (hn : n ≤ a.length) : (bv (rowJ a n (j + 1)))[j]? = some (.int .u8 ((a[j]'(by omega)).toNat : Int)) := by
  have hl : j < (rowJ a n (j + 1)).length := by rw [rowJ_len h hn]; omega
  rw [bv_get _ _ hl]
  have h2 : (rowJ a n (j + 1))[j]? = some (a[j]'(by omega)) := by
    unfold rowJ
    rw [List.getElem?_append_left (by simp; omega), List.getElem?_take, if_pos (by omega), List.getElem?_eq_getElem]
  rw [List.getElem?_eq_getElem hl] at h2
  injection h2 with h2
  rw [h2]
theorem rowJ_set {a : List UInt8} {n j : Nat} (h : j + 1 ≤ n) (hn : n ≤ a.length) (y : UInt8) (V : Int) (hV : V = (y.toNat : Int)) :
    (bv (rowJ a n (j + 1))).set j (.int .u8 V) = bv (a.take j ++ y :: List.replicate (n - (j + 1)) 0) := by
  subst hV
  rw [bv_set]
  congr 1
  unfold rowJ
  rw [List.take_succ_eq_append_getElem (by omega), List.append_assoc, List.set_append_right _ _ (by simp; omega)]
  have : j - (a.take j).length = 0 := by simp; omega
  rw [this]
  simp
theorem rowJ_zero {a : List UInt8} {n j : Nat} (h : j + 1 ≤ n) : a.take j ++ (0 : UInt8) :: List.replicate (n - (j + 1)) 0 = rowJ a n j := by
  unfold rowJ
  rw [← List.replicate_succ]
  congr 2
  omega
theorem next_row {a : List UInt8} {n j : Nat} (h : j + 1 ≤ n) (hn : n ≤ a.length) (hN : nextF (a.take n) = (nextF (a.take (j + 1))).map (· ++ List.replicate (n - (j + 1)) 0)) :
    (a[j]'(by omega) = 255 → nextF (a.take n) = (nextF (a.take j)).map (· ++ List.replicate (n - j) 0)) ∧
    (a[j]'(by omega) ≠ 255 → nextF (a.take n) = some (a.take j ++ (a[j]'(by omega) + 1) :: List.replicate (n - (j + 1)) 0)) := by
  rw [List.take_succ_eq_append_getElem (by omega), next_snoc] at hN
  refine ⟨fun hx => ?_, fun hx => ?_⟩
  · rw [hN, if_pos hx, Option.map_map]
    congr 1
    funext s
    simp only [Function.comp, List.append_assoc]
    congr 1
    rw [List.singleton_append, ← List.replicate_succ]
    congr 1
    omega
  · rw [hN, if_neg hx, Option.map_some]
    simp
theorem nat255 {x : UInt8} (h : x ≠ 255) : x.toNat + 1 < 256 := by
  have h1 : x.toNat ≠ 255 := fun k => h (UInt8.toNat_inj.1 k)
  have h2 := x.toNat_lt
  omega
theorem Owns.head {w : World} {base : Nat} {e : TypeId} {ad : Option Addr} {cap n : Nat} {xs : List Value} (h : Owns w base e 1 ad cap n xs) : Owns w base e 1 ad cap 0 [] := by
  obtain ⟨h1, h2, h3, ⟨e1, e2, e3⟩ | ⟨g, cur, fr, e1, e2, hg, hfr, hs, ht⟩⟩ := h
  · exact ⟨rfl, Nat.zero_le _, h3, .inl ⟨e1, rfl, e3⟩⟩
  · exact ⟨rfl, Nat.zero_le _, h3, .inr ⟨g, cur, fr, e1, e2, hg, hfr, hs, by simp⟩⟩
set_option maxRecDepth 100000 in
set_option maxHeartbeats 1000000 in
theorem Part_any (a b : List UInt8) (w : World) (hm : a.length ≤ 140737488351232) :
    Calls Tryd.prog 16 #[.string (str a), .string (str b)] w fun e w' => e = .returned (.string (str (partF a b))) ∧ Gr w w' := by
  go_enter Tryd.func16, Tryd.ntmps16
  go_wp2
  go_loopw [5, 10] (fun v i wr => ∃ (n m : Nat) (ad : Option Addr) (cap : Nat) (xs : List Value), n ≤ a.length ∧ i = .int .i64 (n : Int) ∧ v = .slice ad m cap ∧ Owns wr w.heap.size 5 1 ad cap m xs ∧ Gr w wr ∧ partF a b = partN a b (a.length - n) n) (fun _ i _ => a.length - (intOf i).toNat)
  case atStart => exact ⟨0, 0, none, 0, [], Nat.zero_le _, rfl, rfl, Owns.empty _ _ _ _, Gr.refl _, rfl⟩
  case round =>
    obtain ⟨n, m, ad, cap, xs, hn, rfl, rfl, ho, hg, hP⟩ := hrel
    have HP := Lib.hid hP; clear hP
    by_cases hlt : n < a.length
    · obtain ⟨f, hf⟩ : ∃ f, a.length - n = f + 1 := ⟨a.length - n - 1, by omega⟩
      rw [hf] at HP
      have HF := Lib.hid hf; clear hf
      by_cases hn0 : n = 0
      · subst hn0
        have HQ := Lib.hid (HP.out.trans (partN_none (by simp [nextF])))
        go_wp2
        go_roundw
        case rel => exact ⟨1, m, ad, cap, xs, by omega, rfl, rfl, ho, hg, by rw [HQ.out]; congr 1; have := HF.out; omega⟩
        case measure => simp [intOf]; omega
      · have hb0 : ((n : Int) == 0) = false := by rw [beq_eq_false_iff_ne]; omega
        have oh := ho.head.gr (Gr.drew wr)
        have hm1 : 0 + (a.take n).length ≤ maxLen := by simp; unfold maxLen; omega
        have hm2 : (0 + (a.take n).length) * 1 ≤ 140737488355328 := by simp; omega
        have hbs := hg.size
        have hbs2 : w.heap.size ≤ wr.drew.heap.size := by simp; exact hbs
        have htl : (a.take n).length = n := by simp; omega
        have HT := Lib.hid htl; clear htl
        go_wp2
        go_still_tail 5, (by kernel_rfl)
        go_wp2_with (at_builtin; refine wp_append elemB rfl _ _ rfl rfl oh rfl (src_str (a.take n) Tryd.underlying9) hm1 hm2 hbs2 ?_; intro ad2 cap2 w2 o2 k2 f2)
        simp only [Nat.zero_add, List.nil_append, HT.out] at o2
        obtain ⟨g, rfl, hgb, _⟩ := o2.at (bv_get (a.take n) 0 (by rw [HT.out]; omega))
        have G2 : Gr w w2 := (hg.trans (Gr.drew wr)).grown k2 (fun k hk => by
          cases ad with
          | none => cases hk
          | some x => cases hk; exact (ho.lt x rfl).1)
        obtain ⟨wo, rfl⟩ : ∃ wo : World, wo = w2 := ⟨_, rfl⟩
        have hn1 : n ≤ a.length := hn
        go_loopw [7] (fun i wi => ∃ j : Nat, j ≤ n ∧ i = .int .i64 ((j : Int) - 1) ∧ Owns wi w.heap.size 5 1 (some ⟨g, 0, none⟩) cap2 n (bv (rowJ a n j)) ∧ Gr w wi ∧ nextF (a.take n) = (nextF (a.take j)).map (· ++ List.replicate (n - j) 0)) (fun i _ => (intOf i + 1).toNat)
        case atStart => exact ⟨n, Nat.le_refl _, rfl, by rw [rowJ_full]; exact o2, G2, by simp⟩
        case round =>
          obtain ⟨k, hk, rfl, ho3, hg3, hN⟩ := hrel
          have HN := Lib.hid hN; clear hN
          by_cases hk0 : 0 < k
          · obtain ⟨j, rfl⟩ : ∃ j, k = j + 1 := ⟨k - 1, by omega⟩
            have e1 : ((j + 1 : Nat) : Int) - 1 = (j : Int) := by omega
            simp only [e1]
            clear e1
            obtain ⟨N1, N2⟩ := next_row hk hn1 HN.out
            have HN1 := Lib.hid N1; have HN2 := Lib.hid N2; clear N1 N2
            obtain ⟨_, e0, _, hc⟩ := ho3.at (rowJ_at hk hn1)
            cases e0
            have hf := ho3.unfrozen (i := j) rfl (by omega)
            by_cases hx : a[j] = 255
            · have hx2 : a[j].toNat = 255 := by rw [hx]; rfl
              have ho4 := ho3.store rfl (show j < n by omega) (.int .u8 0)
              rw [rowJ_set hk hn1 0 0 rfl, rowJ_zero hk] at ho4
              have HN3 := Lib.hid (HN1.out hx)
              clear hx
              rw [hx2] at hc
              clear hx2
              go_wp2
              go_roundw
              case rel => exact ⟨j, by omega, rfl, ho4, hg3.setCell hgb _, HN3.out⟩
              case measure => simp [intOf]
            · have hx2 := nat255 hx
              have hbx : ((a[j].toNat : Int) == 255) = false := by rw [beq_eq_false_iff_ne]; omega
              have hv : ((a[j].toNat : Int) + 1) = ((a[j] + 1).toNat : Int) := by rw [succ_nat hx]; omega
              have ho4 := ho3.store rfl (show j < n by omega) (.int .u8 ((a[j].toNat : Int) + 1))
              rw [rowJ_set hk hn1 (a[j] + 1) _ hv] at ho4
              have hlen : (a.take j ++ (a[j] + 1) :: List.replicate (n - (j + 1)) 0).length = n := by simp; omega
              have hN3 := HN2.out hx
              have hs := run_string (P := Tryd.prog) Tryd.underlying25 Tryd.underlying5 Tryd.underlying9 (cap := cap2) (len := n) hlen ho4.bytes
              have HL := Lib.hid hlen
              clear hv hx hlen
              generalize a.take j ++ (a[j] + 1) :: List.replicate (n - (j + 1)) 0 = s at *
              have hg4 := hg3.setCell (p := ⟨g, j, none⟩) hgb (.int .u8 ((a[j].toNat : Int) + 1))
              cases hb : bytesLess s b with
              | true =>
                have HQ := Lib.hid (HP.out.trans (partN_yes hN3 hb)); clear hN3
                go_wp2
                go_ret
                exact ⟨by rw [HQ.out]; rfl, hg4⟩
              | false =>
                have HQ := Lib.hid (HP.out.trans (partN_no hN3 hb)); clear hN3
                go_wp2
                go_roundw
                case rel => exact ⟨n + 1, n, _, cap2, _, by omega, by go_num, rfl, ho4, hg4, by rw [HQ.out]; congr 1; have := HF.out; omega⟩
                case measure => simp [intOf]; omega
          · obtain rfl : k = 0 := by omega
            have HQ := Lib.hid (HP.out.trans (partN_none (by rw [HN.out]; simp [nextF])))
            go_wp2
            go_roundw
            case rel => exact ⟨n + 1, n, _, cap2, _, by omega, by go_num, rfl, ho3, hg3, by rw [HQ.out]; congr 1; have := HF.out; omega⟩
            case measure => simp [intOf]; omega
    · have HQ := Lib.hid (show partF a b = a by
        rw [HP.out]
        obtain rfl : n = a.length := by omega
        rw [Nat.sub_self]; rfl)
      go_wp2
      go_ret
      exact ⟨by rw [HQ.out]; rfl, hg⟩
end Go.Proofs.YtnjnehegfdimaaaDoor
