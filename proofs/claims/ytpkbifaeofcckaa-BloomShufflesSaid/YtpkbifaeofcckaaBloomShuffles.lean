/- Layer 6 (bloom): BloomShuffles answers true. -/
import Derived.Test.YtpkbifaeofcckaaBloomLaw3
namespace Go.Proofs.Ytpkbifaeofcckaa
set_option linter.unusedVariables false
set_option linter.unusedSimpArgs false
open Go.RowKit Bloom
theorem elemS : Elem Try.prog 26 9 (.string ⟨#[]⟩) 1 16 := ⟨by kernel_rfl, by kernel_rfl, rfl, by decide⟩
/-- the first so many keys, taken from these places -/
def pickF (keys : List (List UInt8)) (f : Nat → Nat) (i : Nat) : List (List UInt8) := (List.range i).map fun j => keys.getD (f j) []
theorem pickF_len (keys : List (List UInt8)) (f : Nat → Nat) (i : Nat) : (pickF keys f i).length = i := by simp [pickF]
theorem pickF_succ (keys : List (List UInt8)) (f : Nat → Nat) (i : Nat) (h : f i < keys.length) : pickF keys f (i + 1) = pickF keys f i ++ [keys[f i]] := by
  unfold pickF
  rw [List.range_succ, List.map_append, List.map_singleton, List.getD_eq_getElem?_getD, List.getElem?_eq_getElem h, Option.getD_some]
theorem pickF_mem {keys : List (List UInt8)} {f : Nat → Nat} {i : Nat} (h : ∀ j, j < i → f j < keys.length) {s : List UInt8} (hs : s ∈ pickF keys f i) : s ∈ keys := by
  obtain ⟨j, hj, rfl⟩ := List.mem_map.1 hs
  have hl := h j (List.mem_range.1 hj)
  rw [List.getD_eq_getElem?_getD, List.getElem?_eq_getElem hl, Option.getD_some]
  exact List.getElem_mem hl
theorem back_mem {keys : List (List UInt8)} {s : List UInt8} (hs : s ∈ keys) : s ∈ pickF keys (fun j => keys.length - 1 - j) keys.length := by
  obtain ⟨i, hi, rfl⟩ := List.getElem_of_mem hs
  refine List.mem_map.2 ⟨keys.length - 1 - i, List.mem_range.2 (by omega), ?_⟩
  have e : keys.length - 1 - (keys.length - 1 - i) = i := by omega
  show keys.getD (keys.length - 1 - (keys.length - 1 - i)) [] = _
  rw [e, List.getD_eq_getElem?_getD, List.getElem?_eq_getElem hi, Option.getD_some]
theorem onF_sub {K K' : List (List UInt8)} (h : ∀ s, s ∈ K → s ∈ K') {b k p : Nat} (ho : onF K b k p = true) : onF K' b k p = true := by
  unfold onF at ho ⊢
  rw [List.any_eq_true] at ho ⊢
  obtain ⟨s, hs, hp⟩ := ho
  exact ⟨s, h s hs, hp⟩
theorem onF_same {K K' : List (List UInt8)} (h : ∀ s, s ∈ K ↔ s ∈ K') (b k : Nat) : onF K b k = onF K' b k := by
  funext p
  rw [Bool.eq_iff_iff]
  exact ⟨onF_sub fun s => (h s).1, onF_sub fun s => (h s).2⟩
theorem byte_sub {f g : Nat → Bool} (h : ∀ p, f p = true → g p = true) (q : Nat) : bits .andNot .u8 ((byteF f q).toNat : Int) ((byteF g q).toNat : Int) = 0 := by
  rw [u8_andNot_nat _ _ (byteF f q).toNat_lt (byteF g q).toNat_lt]
  have e : (byteF f q).toNat &&& (255 - (byteF g q).toNat) = 0 := by
    apply Nat.eq_of_testBit_eq
    intro r
    have h1 : 255 - (byteF g q).toNat = 2 ^ 8 - ((byteF g q).toNat + 1) := by omega
    rw [Nat.testBit_and, h1, Nat.testBit_two_pow_sub_succ (byteF g q).toNat_lt, byteF_nat, byteF_nat, byteN_bit, byteN_bit, Nat.zero_testBit]
    by_cases h8 : r < 8
    · simp only [h8, decide_true, Bool.true_and]
      cases hf : f (8 * q + r) with
      | false => rfl
      | true => rw [h _ hf]; rfl
    · simp [h8]
  show ((_ : Nat) : Int) = 0
  rw [e]; rfl
/-- a row that lies elsewhere is as it was, behind an append -/
theorem Owns.apart {w w' : World} {base : Nat} {e : TypeId} {ad ad' : Option Addr} {cap n : Nat} {xs : List Value} {o : Obj} (h : Owns w base e 1 ad cap n xs) (g : (w.alloc o).grownBy w' (ad'.map (·.block))) (hd : ∀ a a', ad = some a → ad' = some a' → a.block ≠ a'.block) : Owns w' base e 1 ad cap n xs :=
  (h.gr (Gr.alloc w o)).grown g (fun a ha hb => by
    cases ad' with
    | none => cases hb
    | some a' => exact hd a a' ha rfl (Option.some.inj hb))
set_option maxRecDepth 100000 in
set_option maxHeartbeats 2000000 in
theorem BloomShuffles_any (ad : Option Addr) (cap : Nat) (keys : List (List UInt8)) (bits : Int) (w : World) (h1 : -9223372036854775808 ≤ bits) (h2 : bits ≤ 9223372036854775807) (hl : keys.length ≤ cap) (hc : cap ≤ maxLen) (hr : Row w ad (sv keys)) (hs : Short keys) :
    Calls Try.prog 5 #[.slice ad keys.length cap, .int .i64 bits] w fun e w' => e = .returned (.bool true) ∧ Gr w w' := by
  unfold maxLen at hc
  by_cases hb : (2000 : Int) < keys.length
  · go_enter Try.func5, Try.ntmps5
    go_wp2_with (go_at_call 10; refine (blooms_any _).mono ?_; rintro e w1 ⟨rfl, g1⟩)
    go_ret
    exact ⟨rfl, Gr.trans (by assumption) (by assumption)⟩
  · have hk2 : keys.length ≤ 2000 := by omega
    go_enter Try.func5, Try.ntmps5
    go_wp2_with (go_at_call 10; refine (blooms_any _).mono ?_; rintro e w1 ⟨rfl, g1⟩)
    go_loopw [5, 6, 7] (fun v t i wr => ∃ (j : Nat) (adb adt : Option Addr) (cb ct : Nat), j ≤ keys.length ∧ i = .int .i64 (j : Int) ∧ v = .slice adb j cb ∧ t = .slice adt j ct ∧ Owns wr w.heap.size 9 1 adb cb j (sv (pickF keys (fun j => keys.length - 1 - j) j)) ∧ Owns wr w.heap.size 9 1 adt ct j (sv (pickF keys (fun j => j / 2 * 2) j)) ∧ (∀ a a', adb = some a → adt = some a' → a.block ≠ a'.block) ∧ Gr w wr) (fun _ _ i _ => keys.length - (intOf i).toNat)
    case atStart => exact ⟨0, none, none, 0, 0, Nat.zero_le _, rfl, rfl, rfl, Owns.empty _ _ _ _, Owns.empty _ _ _ _, (fun _ _ h => by cases h), g1⟩
    case round =>
      obtain ⟨j, adb, adt, cb, ct, hj, rfl, rfl, rfl, ob, ot, hd, hg⟩ := hrel
      by_cases hlt : j < keys.length
      · obtain ⟨p, hp⟩ : ∃ p, p = keys.length - 1 - j := ⟨_, rfl⟩
        obtain ⟨q, hq⟩ : ∃ q, q = j / 2 * 2 := ⟨_, rfl⟩
        have hpl : p < keys.length := by omega
        have hql : q < keys.length := by omega
        obtain ⟨b1, o1, rfl, cw1⟩ := hr p _ (sv_get keys p hpl)
        obtain ⟨_, _, e0, cw2⟩ := hr q _ (sv_get keys q hql)
        cases e0
        have cc1 := hg.cell cw1
        have CW2 := Lib.hid cw2
        clear cw1 cw2
        have P1 := Lib.hid (show pickF keys (fun j => keys.length - 1 - j) (j + 1) = pickF keys (fun j => keys.length - 1 - j) j ++ [keys[p]] by rw [pickF_succ keys _ j (by omega)]; congr 2; simp only [hp])
        have P2 := Lib.hid (show pickF keys (fun j => j / 2 * 2) (j + 1) = pickF keys (fun j => j / 2 * 2) j ++ [keys[q]] by rw [pickF_succ keys _ j (by omega)]; congr 2; simp only [hq])
        have hm1 : j + 1 ≤ maxLen := by unfold maxLen; omega
        have hm2 : (j + 1) * 16 ≤ 140737488355328 := by omega
        have e1 : (keys.length : Int) - 1 - (j : Int) = (p : Int) := by omega
        have e2 : (j : Int) / 2 * 2 = (q : Int) := by omega
        have hbs := hg.size
        have hlt_t := Lib.hid ot.lt
        have HD := Lib.hid hd
        clear hp hq hd
        go_wp2_with (first
          | (at_builtin; refine wp_append elemS rfl _ _ rfl rfl (ob.gr (Gr.alloc _ _)) rfl (src_cell _ _ rfl Try.underlying26) hm1 hm2 (by simp; omega) ?_; intro ad2 cap2 w2 o2 k2 f2; have ot2 := ot.apart k2 (fun a a' h h' e => HD.out a' a h' h e.symm); have g2 := hg.app ob (Nat.le_refl _) k2; have cc2 := g2.cell CW2.out; have hbs2 := g2.size; have hf2 := Lib.hid f2; clear ot f2 ob)
          | (at_builtin; go_must (refine wp_append elemS rfl _ _ rfl rfl (ot2.gr (Gr.alloc _ _)) rfl (src_cell _ _ rfl Try.underlying26) hm1 hm2 (by simp; omega) ?_); intro ad3 cap3 w3 o3 k3 f3))
        have hd2 : ∀ a a', ad2 = some a → adt = some a' → a.block ≠ a'.block := fun a a' h h' e => by
          rcases hf2.out a h with h3 | h3
          · exact HD.out a a' h3 h' e
          · have := (hlt_t.out a' h').2
            simp at h3
            omega
        have hd3 : ∀ a a', ad2 = some a → ad3 = some a' → a.block ≠ a'.block := fun a a' h h' e => by
          rcases f3 a' h' with h3 | h3
          · exact hd2 a a' h h3 e
          · have := (o2.lt a h).2
            simp at h3
            omega
        go_roundw
        case rel => exact ⟨j + 1, ad2, ad3, cap2, cap3, by omega, by go_num, rfl, rfl, by rw [P1.out]; simpa [sv] using o2.apart k3 hd2, by rw [P2.out]; simpa [sv] using o3, hd3, g2.app ot2 (Nat.le_refl _) k3⟩
        case measure => simp [intOf]; omega
      · obtain rfl : j = keys.length := by omega
        have hp2 := pickF_len keys (fun j => keys.length - 1 - j) keys.length
        have hp3 := pickF_len keys (fun j => j / 2 * 2) keys.length
        have hB : ∀ s, s ∈ keys ↔ s ∈ pickF keys (fun j => keys.length - 1 - j) keys.length := fun s => ⟨back_mem, pickF_mem (fun j hj => by omega)⟩
        have hT : ∀ s, s ∈ pickF keys (fun j => j / 2 * 2) keys.length → s ∈ keys := fun s => pickF_mem (fun j hj => by omega)
        generalize pickF keys (fun j => keys.length - 1 - j) keys.length = KB at *
        generalize pickF keys (fun j => j / 2 * 2) keys.length = KT at *
        have sB : Short KB := fun s hs' => hs s ((hB s).2 hs')
        have sT : Short KT := fun s hs' => hs s (hT s hs')
        have B1 := Lib.hid (fun w1 (g : Gr wr w1) => Build_any ad cap keys bits w1 (by omega) (hr.gr (hg.trans g)) hs h1 h2)
        have B2 := Lib.hid (fun w1 (g : Gr wr w1) => (hp2 ▸ Build_any adb cb KB bits w1 (by omega) ((ob.gr g).row) sB h1 h2 : Calls Try.prog 14 #[.slice adb keys.length cb, .int .i64 bits] w1 (RetBE 5 w1 (buildF KB bits).1 (buildF KB bits).2)))
        have B3 := Lib.hid (fun w1 (g : Gr wr w1) => (hp3 ▸ Build_any adt ct KT bits w1 (by omega) ((ot.gr g).row) sT h1 h2 : Calls Try.prog 14 #[.slice adt keys.length ct, .int .i64 bits] w1 (RetBE 5 w1 (buildF KT bits).1 (buildF KT bits).2)))
        by_cases hbits : bits < 1 ∨ 64 < bits
        · have e1 : buildF keys bits = ([], 1) := by unfold buildF; rw [if_pos hbits]
          have e2 : buildF KB bits = ([], 1) := by unfold buildF; rw [if_pos hbits]
          have e3 : buildF KT bits = ([], 1) := by unfold buildF; rw [if_pos hbits]
          rw [e1] at B1
          rw [e2] at B2
          rw [e3] at B3
          dsimp only at B1 B2 B3
          clear e1 e2 e3 hbits hB hT hp2 hp3 hd
          go_wp2_with (first
            | (go_at_call 14; (with_reducible refine (B1.out _ (Gr.refl _)).mono ?_); rintro e w2 ⟨ad1, cap1, rfl, o1, g2⟩; clear B1)
            | (go_at_call 14; (with_reducible refine (B2.out _ g2).mono ?_); rintro e w3 ⟨ad2, cap2, rfl, o2, g3⟩; have G3 := g2.trans g3; clear B2)
            | (go_at_call 14; (with_reducible refine (B3.out _ G3).mono ?_); rintro e w4 ⟨ad3, cap3, rfl, o3, g4⟩; have q1 := (o1.gr g3).gr g4; have q2 := o2.gr g4; have t1 := run_string (P := Try.prog) Try.underlying30 Try.underlying5 Try.underlying9 (cap := cap1) (l := []) (len := 0) rfl q1.bytes; have t2 := run_string (P := Try.prog) Try.underlying30 Try.underlying5 Try.underlying9 (cap := cap2) (l := []) (len := 0) rfl q2.bytes))
          go_loop [14] (fun i => i = .int .i64 0) (fun i => 0)
          case atStart => rfl
          case round =>
            subst hrel
            go_wp2
            go_ret
            exact ⟨rfl, (hg.trans G3).trans g4⟩
        · obtain ⟨b, rfl⟩ := Int.eq_ofNat_of_zero_le (show 0 ≤ bits by omega)
          have hb1 : 1 ≤ b := by omega
          have hb2 : b ≤ 64 := by omega
          rw [build_good hb1 hb2 (by omega)] at B1
          rw [build_good hb1 hb2 (by omega)] at B2
          rw [build_good hb1 hb2 (by omega)] at B3
          dsimp only at B1 B2 B3
          have e2 : filterF KB b = filterF keys b := by unfold filterF; rw [hp2, onF_same (fun s => (hB s).symm)]
          have e3 : filterF KT b = rowF (onF KT (8 * nF keys.length b) (kF b)) (nF keys.length b) ++ [UInt8.ofNat (kF b)] := by unfold filterF; rw [hp3]
          have e1 : filterF keys b = rowF (onF keys (8 * nF keys.length b) (kF b)) (nF keys.length b) ++ [UInt8.ofNat (kF b)] := rfl
          rw [e2] at B2
          have hsub : ∀ p, onF KT (8 * nF keys.length b) (kF b) p = true → onF keys (8 * nF keys.length b) (kF b) p = true := fun p => onF_sub hT
          have hN := nF_le (len := keys.length) (b := b) (by omega) hb2
          have hA : ∀ i (h : i < nF keys.length b) (h2 : i < (filterF keys b).length), (filterF keys b)[i]'h2 = byteF (onF keys (8 * nF keys.length b) (kF b)) i := fun i h h2 => by
            have h3 : i < (rowF (onF keys (8 * nF keys.length b) (kF b)) (nF keys.length b)).length := by rw [rowF_len]; exact h
            simp only [e1]
            rw [List.getElem_append_left h3, rowF_get]
          have hC : ∀ i (h : i < nF keys.length b) (h2 : i < (filterF KT b).length), (filterF KT b)[i]'h2 = byteF (onF KT (8 * nF keys.length b) (kF b)) i := fun i h h2 => by
            have h3 : i < (rowF (onF KT (8 * nF keys.length b) (kF b)) (nF keys.length b)).length := by rw [rowF_len]; exact h
            simp only [e3]
            rw [List.getElem_append_left h3, rowF_get]
          have hLA := filter_len keys b
          have hLT := filter_len KT b
          rw [hp3] at hLT
          have hand := byte_sub hsub
          generalize onF KT (8 * nF keys.length b) (kF b) = onT at *
          generalize onF keys (8 * nF keys.length b) (kF b) = onK at *
          generalize filterF keys b = A at *
          generalize filterF KT b = T at *
          generalize nF keys.length b = N at *
          have HA := Lib.hid hA; have HC := Lib.hid hC; have HLA := Lib.hid hLA; have HLT := Lib.hid hLT; have HAND := Lib.hid hand
          have hAT : ((A.length : Int) != (T.length : Int)) = false := by rw [bne_eq_false_iff_eq]; omega
          have hTN : (T.length : Int) - 1 = (N : Int) := by omega
          have hA9 : (8 : Int) < (A.length : Int) := by omega
          have hA9' : 8 < A.length := by omega
          clear e1 e2 e3 hbits hB hT hp2 hp3 hd hA hC hLA hLT hand hsub h1 h2
          go_wp2_with (first
            | (go_at_call 14; (with_reducible refine (B1.out _ (Gr.refl _)).mono ?_); rintro e w2 ⟨ad1, cap1, rfl, o1, g2⟩; clear B1)
            | (go_at_call 14; (with_reducible refine (B2.out _ g2).mono ?_); rintro e w3 ⟨ad2, cap2, rfl, o2, g3⟩; have G3 := g2.trans g3; clear B2)
            | (go_at_call 14; (with_reducible refine (B3.out _ G3).mono ?_); rintro e w4 ⟨ad3, cap3, rfl, o3, g4⟩; have q1 := (o1.gr g3).gr g4; have q2 := o2.gr g4; have t1 := run_string (P := Try.prog) Try.underlying30 Try.underlying5 Try.underlying9 (cap := cap1) rfl q1.bytes; have t2 := run_string (P := Try.prog) Try.underlying30 Try.underlying5 Try.underlying9 (cap := cap2) rfl q2.bytes))
          go_loopw [14] (fun i wi => ∃ j : Nat, j ≤ N ∧ i = .int .i64 (j : Int) ∧ Gr w4 wi) (fun i _ => N - (intOf i).toNat)
          case atStart => exact ⟨0, Nat.zero_le _, rfl, Gr.refl _⟩
          case round =>
            obtain ⟨j, hjN, rfl, hgi⟩ := hrel
            by_cases hlt : j < N
            · have hjA : j < A.length := by have := HLA.out; omega
              have hjT : j < T.length := by have := HLT.out; omega
              obtain ⟨ga, rfl, _, ca⟩ := (q1.gr hgi).at (bv_get A j hjA)
              obtain ⟨gt, rfl, _, ct⟩ := (o3.gr hgi).at (bv_get T j hjT)
              rw [HA.out j hlt hjA] at ca
              rw [HC.out j hlt hjT] at ct
              have hz := HAND.out j
              have hbn : (bits .andNot .u8 ((byteF onT j).toNat : Int) ((byteF onK j).toNat : Int) != 0) = false := by rw [hz]; rfl
              clear hz
              go_wp2
              go_quiet (fail)
              go_wp2
              go_roundw
              case rel => exact ⟨j + 1, by omega, by go_num, hgi.trans (Gr.drewN _ _)⟩
              case measure => simp [intOf]; omega
            · go_wp2
              go_ret
              exact ⟨rfl, ((hg.trans G3).trans g4).trans hgi⟩
end Go.Proofs.Ytpkbifaeofcckaa
