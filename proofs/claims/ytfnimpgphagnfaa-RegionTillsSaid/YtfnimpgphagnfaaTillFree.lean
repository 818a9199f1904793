/- Layer 1 (region): the reference's Free walked. -/
import Derived.Test.YtfnimpgphagnfaaTillCalls
namespace Go.Proofs.Ytfnimpgphagnfaa
set_option linter.unusedVariables false
set_option linter.unusedSimpArgs false
open Go.RowKit
theorem poison_at (z i : Nat) (h : i < z) : (List.replicate i (0xDD : UInt8) ++ List.replicate (z - i) 0).set i 0xDD = List.replicate (i + 1) 0xDD ++ List.replicate (z - (i + 1)) 0 := by
  rw [List.set_append_right _ _ (by simp), List.length_replicate, Nat.sub_self, List.replicate_succ', List.append_assoc]
  congr 1
  obtain ⟨k, hk⟩ : ∃ k, z - i = k + 1 := ⟨z - i - 1, by omega⟩
  rw [hk, show z - (i + 1) = k by omega, List.replicate_succ, List.set_cons_zero]
  rfl
set_option maxRecDepth 100000 in
set_option maxHeartbeats 4000000 in
theorem rFree_any (w : World) (S : Nat → Prop) (g : Nat) (p : PoolF) (r : Int) (h : RPool w S g p) (hp : PoolOk p) :
    Calls Try.prog 31 #[.pointer (some ⟨g, 0, none⟩), .int .i64 r] w fun e w' => e = .returned (.int .i64 ((freeF p r).1 : Int)) ∧ RMoved S g (freeF p r).2 w w' S := by
  have HT := Lib.hid (there_any w S g p r h)
  have HPO := Lib.hid h
  cases hl : landF p r with
  | none =>
    rw [hl] at HT
    have he : freeF p r = (7, p) := by unfold freeF; rw [hl]
    rw [he]
    clear h hp he hl
    go_enter Try.func31, Try.ntmps31
    go_wp2_with (first
      | (go_at_call 39; refine HT.out.mono ?_; rintro e w1 ⟨rfl, rfl⟩)
      | fail)
    go_ret
    exact ⟨rfl, RMoved.refl HPO.out⟩
  | some i =>
    rw [hl] at HT
    obtain ⟨rfl, hi, _⟩ := landF_some hl
    obtain ⟨O, ads, cs, adt, ct, A, C, hx⟩ := h
    obtain ⟨L, hL⟩ : ∃ L, L = (landAt p i).slabs := ⟨_, rfl⟩
    have he : freeF p (i : Int) = (0, setLand (freeSlabs p L) i ⟨false, (landAt p i).gen, [], 0⟩) := by unfold freeF; rw [hl, hL]; rfl
    have HE := Lib.hid he
    have hlt : ∀ s ∈ L, s < p.bytes.length := by rw [hL]; exact (hp.ld i hi).lt
    have hLl : L.length ≤ 4096 := by rw [hL]; exact Nat.le_trans (hp.ld i hi).len hp.n2
    have hs1 := hp.s1
    have hs2 := hp.s2
    have hn2 := hp.n2
    have htk := hp.tk
    have hln := hp.ln
    obtain ⟨c0, _, _⟩ := hx.head
    have HX := Lib.hid hx
    have HL := Lib.hid hL
    obtain ⟨z, hz⟩ : ∃ z, z = p.size := ⟨_, rfl⟩
    rw [← hz] at hs1 hs2 c0
    have HZ := Lib.hid hz
    have hzm : z ≤ maxLen := by unfold maxLen; omega
    have hz1 : 1 * z ≤ 281474976710656 := by omega
    clear hx hp he hl hL hz
    go_enter Try.func31, Try.ntmps31
    go_wp2_with (first
      | (go_at_call 39; refine HT.out.mono ?_; rintro e w1 ⟨rfl, rfl⟩)
      | (at_make; go_must (refine wp_make elemB rfl rfl _ _ rfl z z rfl rfl rfl rfl (Nat.le_refl _) hzm hz1 ?_); intro w1 o1 g1 z1)
      | fail)
    obtain ⟨gd, hgd⟩ : ∃ gd, gd = w.heap.size := ⟨_, rfl⟩
    rw [← hgd] at o1 ⊢
    have hgw : w.heap.size ≤ gd := by omega
    have HO1 := Lib.hid (show Owns w1 gd 5 1 (some ⟨gd, 0, none⟩) z z (bv (List.replicate 0 0xDD ++ List.replicate (z - 0) 0)) by
      rw [show List.replicate 0 (0xDD : UInt8) ++ List.replicate (z - 0) 0 = List.replicate z 0 by simp, ← bv_replicate]
      exact o1)
    have HG1 := Lib.hid g1
    have HSg := Lib.hid (show ∀ j, S j → j ≠ gd from fun j hj e => by have := HX.out.lt j hj; omega)
    clear o1 g1 z1 hgd hz1 hzm
    go_loopw [6] (fun v wr => ∃ j : Nat, j ≤ z ∧ v = .int .i64 (j : Int) ∧ Owns wr gd 5 1 (some ⟨gd, 0, none⟩) z z (bv (List.replicate j 0xDD ++ List.replicate (z - j) 0)) ∧ Gr w wr) (fun v _ => z - (intOf v).toNat)
    case atStart => exact ⟨0, Nat.zero_le _, rfl, HO1.out, HG1.out⟩
    case round =>
      clear HO1 HG1
      obtain ⟨j, hj, rfl, hO, hG⟩ := hrel
      have c0' := hG.cell c0
      by_cases hjl : j < z
      · obtain ⟨ba, hba, _, hc⟩ := hO.at (bv_get _ j (show j < (List.replicate j (0xDD : UInt8) ++ List.replicate (z - j) 0).length by simp; omega))
        cases hba
        have hfz := hO.unfrozen rfl (show j < z * 1 by omega)
        have HON := Lib.hid (by have := hO.store rfl hjl (.int .u8 221); rw [show (221 : Int) = ((0xDD : UInt8).toNat : Int) from rfl, bv_set, poison_at z j hjl] at this; exact this)
        have HGN := Lib.hid (Gr.of_far hG (grown_set wr gd j (.int .u8 221)) hgw)
        clear hO hG
        go_wp2
        go_roundw
        case rel => exact ⟨j + 1, hjl, by go_num, HON.out, HGN.out⟩
        case measure => simp [intOf]; omega
      · obtain rfl : j = z := by omega
        rw [Nat.sub_self, List.replicate_zero, List.append_nil] at hO
        have HD := Lib.hid hO
        have H0 := Lib.hid (show QX wr S g (freeSlabs p (L.take 0)) O ads cs adt ct A C from HX.out.gr hG)
        have HC0 := Lib.hid (hG.chg (S := S))
        clear hO hG
        go_wp2
        go_loopw [7] (fun v wr => ∃ (k : Nat) (O : List Int), k ≤ L.length ∧ v = .int .i64 (k : Int) ∧ QX wr S g (freeSlabs p (L.take k)) O ads cs adt ct A C ∧ Chg S w wr ∧ Owns wr gd 5 1 (some ⟨gd, 0, none⟩) j j (bv (List.replicate j 0xDD))) (fun v _ => L.length - (intOf v).toNat)
        case atStart => exact ⟨0, O, Nat.zero_le _, rfl, H0.out, HC0.out, HD.out⟩
        case round =>
          clear H0 HC0 HD
          obtain ⟨k, O, hk, rfl, hx, hc, hD⟩ := hrel
          by_cases hkl : k < L.length
          · obtain ⟨s, hs⟩ : ∃ s, L[k]? = some s := ⟨_, List.getElem?_eq_getElem hkl⟩
            have hsb : s < p.bytes.length := hlt s (List.mem_of_getElem? hs)
            have hst : s < p.taken.length := by omega
            obtain ⟨hfb, hft⟩ := freeSlabs_len p (L.take k)
            have htake : L.take (k + 1) = L.take k ++ [s] := by rw [List.take_add_one, hs]; rfl
            have HTK := Lib.hid (show freeSlabs p (L.take (k + 1)) = setTaken (setBytes (freeSlabs p (L.take k)) s (List.replicate p.size 0xDD)) s false by rw [htake, freeSlabs_snoc])
            rw [← HZ.out] at HTK
            have hx := hx.gr (Gr.drew wr)
            have hla : (landAt (freeSlabs p (L.take k)) i).slabs = L := HL.out.symm
            have hlo := hx.land i hi
            obtain ⟨_, _, l2, _⟩ := hx.lcell hi
            rw [hla] at hlo l2
            obtain ⟨ba, hba, _, za⟩ := hlo.at (iv_get L k s hs)
            rw [hba] at l2
            obtain ⟨_, c1, c2⟩ := hx.head
            rw [hfb] at c1
            obtain ⟨bt, hbt, _, zt⟩ := hx.row.at (sv_at (bytes := (freeSlabs p (L.take k)).bytes) (by rw [hfb]; exact hsb))
            rw [hbt] at c1
            have hfz := hx.row.unfrozen hbt (show s < (freeSlabs p (L.take k)).bytes.length * 1 by rw [hfb]; omega)
            have hx1 := hx.put_str hbt (s := s) (by rw [hfb]; exact hsb) (List.replicate j 0xDD)
            have hft1 : (setBytes (freeSlabs p (L.take k)) s (List.replicate j 0xDD)).taken.length = p.taken.length := hft
            obtain ⟨_, _, d2⟩ := hx1.head
            rw [hft1] at d2
            obtain ⟨bo, hbo, _, zo⟩ := hx1.own.at (ov_get O s (by rw [hx1.ok.1, hft1]; exact hst))
            rw [hbo] at d2
            have hfo := hx1.own.unfrozen hbo (show s < (setBytes (freeSlabs p (L.take k)) s (List.replicate j 0xDD)).taken.length * 1 by rw [hft1]; omega)
            have HX2 := Lib.hid (hx1.put_own hbo (s := s) (by rw [hft1]; exact hst) (-1) false (by decide))
            have hk1 := grown_set wr.drew bt s (.string (str (List.replicate j 0xDD)))
            have hk2 := grown_set (wr.drew.setCell ⟨bt, s, none⟩ (.string (str (List.replicate j 0xDD)))) bo s (.int .i64 (-1))
            have HC2 := Lib.hid (Chg.trans (hc.trans (Gr.drew wr).chg (S' := S) (fun j hj => .inl hj)) (Chg.trans (Chg.grown (S := S) hk1 (hx.srow _ hbt)) (Chg.grown (S := S) hk2 (hx.sown _ hbo)) (fun j hj => .inl hj)) (fun j hj => .inl hj))
            have HD2 := Lib.hid (((hD.gr (Gr.drew wr)).grown hk1 (fun x hx' e => HSg.out _ (hx.srow _ hbt) (by cases hx'; exact (Option.some.inj e).symm))).grown hk2 (fun x hx' e => HSg.out _ (hx.sown _ hbo) (by cases hx'; exact (Option.some.inj e).symm)))
            have hcv := run_string (P := Try.prog) Try.underlying23 Try.underlying5 Try.underlying9 (cap := j) (len := j) (l := List.replicate j 0xDD) (by simp) (hD.gr (Gr.drew wr)).bytes
            clear hx hx1 hc hD hlo hla hs htake hfb hft hk1 hk2 hft1 c0
            have l2' : wr.cell? ⟨g, 3 + i * 4 + 2, none⟩ = some (.slice (some ⟨ba, 0, none⟩) L.length (C i)) := l2
            have za' : wr.cell? ⟨ba, k, none⟩ = some (.int .i64 (s : Int)) := za
            have c1' : wr.cell? ⟨g, 1, none⟩ = some (.slice (some ⟨bt, 0, none⟩) p.bytes.length cs) := c1
            clear l2 za
            go_wp2
            go_still_tail 8, (by kernel_rfl)
            change wpList _ _ _ _ _ wr.drew
            clear c1' l2' za' hcv
            generalize wr.drew = W at *
            go_wp2
            go_roundw
            case rel => exact ⟨k + 1, _, hkl, by go_num, by rw [HTK.out]; exact HX2.out, HC2.out, HD2.out⟩
            case measure => simp [intOf]; omega
          · obtain rfl : k = L.length := by omega
            rw [List.take_length] at hx
            have hla : (landAt (freeSlabs p L) i) = landAt p i := rfl
            obtain ⟨l0, l1, l2, l3⟩ := hx.lcell hi
            rw [hla, ← HL.out] at l2
            rw [hla] at l1
            have hx := hx.gr (Gr.drew wr)
            obtain ⟨m0, m1, m2, m3⟩ := hx.lcell hi
            have f0 := hx.blk.frozen (3 + i * 4)
            have f1 := hx.blk.frozen (3 + i * 4 + 1)
            have f2 := hx.blk.frozen (3 + i * 4 + 2)
            have f3 := hx.blk.frozen (3 + i * 4 + 3)
            have HPF := Lib.hid (hx.put4 (show (freeSlabs p L).lands.length = 256 from hln) hi false (landAt p i).gen)
            have HC := Lib.hid (hc.trans (Gr.drew wr).chg (S' := S) (fun j hj => .inl hj))
            have hiI : (i : Int) < 256 := by omega
            clear hx hc hD c0 hla hlt
            go_wp2
            go_still_tail 13, (by kernel_rfl)
            change wpList _ _ _ _ _ wr.drew
            clear l0 l1 l2 l3
            generalize wr.drew = W at *
            go_wp2
            go_ret
            rw [HE.out]
            exact ⟨rfl, HPF.out.after HC.out⟩
end Go.Proofs.Ytfnimpgphagnfaa
