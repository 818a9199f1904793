/- Layer 13 (block): the reference's DocPairs. -/
import Derived.Test.YtnbinodhdgnjlaaBlockDoc
import Derived.Test.YtnbinodhdgnjlaaBlockBack
namespace Go.Proofs.Ytnbinodhdgnjlaa.Bk
set_option linter.unusedVariables false
set_option linter.unusedSimpArgs false
open Varint
theorem dec_tail {itv : Nat} {l : List Pr} (h : okLens l) (T : List UInt8) : ∀ k i, i + k = l.length → decN (dataN itv l l.length ++ T) k (dataN itv l i).length (keyAt l i) = some (l.drop i)
  | 0, i, hi => by rw [decN, List.drop_of_length_le (by omega)]
  | k + 1, i, hi => by
    obtain ⟨q, hq⟩ := dataN_prefix itv l (i + 1) k
    rw [show i + 1 + k = l.length by omega] at hq
    have hd : dataN itv l l.length ++ T = dataN itv l i ++ (entF (nAt itv l i) (l.getD i noPr) ++ (q ++ T)) := by rw [hq, dataN]; simp only [List.append_assoc]
    have a := h i
    obtain ⟨b1, b2⟩ := nAt_key itv l i
    have hkl : (keyAt l i).length ≤ 200 := by unfold keyAt; split; · simp
                                              · exact (h _).1
    have he := entry_at (p := dataN itv l i) (q := q ++ T) b1 (nAt_le itv l i) a.1 a.2 b2 hkl
    rw [decN, hd, he]
    simp only
    have ih := dec_tail (itv := itv) h T k (i + 1) (by omega)
    have hk : keyAt l (i + 1) = (l.getD i noPr).1 := by unfold keyAt; rw [if_neg (by omega), Nat.add_sub_cancel]
    have hl : (dataN itv l (i + 1)).length = (dataN itv l i).length + (entF (nAt itv l i) (l.getD i noPr)).length := by rw [dataN, List.length_append]
    rw [hk, hl, hd] at ih
    rw [ih]
    have hlt : i < l.length := by omega
    rw [List.drop_eq_getElem_cons hlt, List.getD_eq_getElem?_getD, List.getElem?_eq_getElem hlt]
    rfl
/-- the reference's: what the bytes seem to tell, if it has just these -/
def rpairsF (b : List UInt8) : List Pr × Nat :=
  if b.length < 6 then ([], 2)
  else if 10000 < le (b.drop (b.length - 4)) then ([], 2)
  else match decN b (le (b.drop (b.length - 4))) 0 [] with
    | none => ([], 2)
    | some l => if chkF l (le ((b.drop (b.length - 6)).take 2) : Nat) = 0 ∧ buildF (le ((b.drop (b.length - 6)).take 2)) l = b then (l, 0) else ([], 2)
theorem parts_vals {b d : List UInt8} {w c : Nat} (h : partsF b = some (d, w, c)) : 6 ≤ b.length ∧ c ≤ 10000 ∧ w = le ((b.drop (b.length - 6)).take 2) ∧ c = le (b.drop (b.length - 4)) := by
  unfold partsF at h
  split at h
  · cases h
  · simp only at h
    split at h
    · cases h
    · split at h
      · cases h
      · simp only [Option.some.injEq, Prod.mk.injEq] at h
        obtain ⟨_, rfl, rfl⟩ := h
        exact ⟨by omega, by omega, rfl, rfl⟩
theorem chkF_itv {l : List Pr} {a : Int} (h : chkF l a = 0) : 1 ≤ a ∧ a ≤ 64 := by
  unfold chkF at h
  split at h
  · cases h
  · omega
theorem rpairs_eq (b : List UInt8) : rpairsF b = pairsF b := by
  rcases pairs_err b with hp | hp
  · obtain ⟨P, hP⟩ : ∃ P, pairsF b = (P, 0) := ⟨(pairsF b).1, by rw [← hp]⟩
    obtain ⟨w, h1, h2, h3, h4⟩ := pairs_some hP
    have hok := chkF_ok h3
    obtain ⟨v1, v2, v3, v4⟩ := parts_vals (h4 ▸ parts_build h1 h2 hok.2.1)
    have hd := dec_tail (itv := w) hok.1 (placeN w P P.length ++ (bytesN 2 w ++ bytesN 4 P.length)) P.length 0 (by omega)
    rw [show dataN w P P.length ++ (placeN w P P.length ++ (bytesN 2 w ++ bytesN 4 P.length)) = b from h4] at hd
    simp only [dataN, List.length_nil, keyAt, if_true, List.drop_zero] at hd
    unfold rpairsF
    rw [← v3, ← v4, if_neg (by omega), if_neg (by omega), hd, hP]
    simp only
    rw [if_pos ⟨h3, h4⟩]
  · rw [hp]
    unfold rpairsF
    split
    · rfl
    · split
      · rfl
      · split
        · rfl
        · rename_i l _
          split
          · rename_i hh
            have hok := chkF_ok hh.1
            have hi := chkF_itv hh.1
            have := pairs_build (itv := le ((b.drop (b.length - 6)).take 2)) (l := l) (by omega) (by omega) hok.2.1 hok.1 hh.1
            rw [hh.2, hp] at this
            cases this
          · rfl
end Go.Proofs.Ytnbinodhdgnjlaa.Bk
namespace Go.Proofs.Ytnbinodhdgnjlaa
set_option linter.unusedVariables false
set_option linter.unusedSimpArgs false
open Go.RowKit Bk
theorem rGet_at (l : List UInt8) (n k e : Nat) (w : World) (hg : Varint.getF l = (n, k, e)) (hm : l.length ≤ maxLen) :
    Calls Try.prog 42 #[.string (str l)] w fun r w' => r = .returned (.tuple #[.int .u64 (n : Int), .int .i64 (k : Int), .int .i64 (e : Int)]) ∧ w = w' := by
  have h := rGet_any (str l) w (by rw [str_size]; exact hm)
  rw [show (str l).data.toList = l by simp [str], hg] at h
  exact h
theorem rWhole_at (l : List UInt8) (n : Nat) (w : World) (hn : Varint.le l = n) (hm : l.length ≤ 8) :
    Calls Try.prog 41 #[.string (str l)] w fun r w' => r = .returned (.tuple #[.int .u64 (n : Int), .int .i64 0]) ∧ w = w' := by
  have h := rWhole_any (str l) w (by rw [str_size]; unfold maxLen; omega)
  rw [show (str l).data.toList = l by simp [str], show Varint.wholeF l = (n, 0) by unfold Varint.wholeF; rw [if_neg (by omega), hn]] at h
  exact h
theorem rDocBuild_at (ad : Option Addr) (n cap : Nat) (l : List Pr) (itv : Nat) (w : World) (c : Nat) (out : List UInt8) (hn : n = l.length) (hr : Row w ad (pv l)) (hl : l.length ≤ 10000) (hc : chkF l (itv : Int) = c) (ho : (if c = 0 then buildF itv l else []) = out) :
    Calls Try.prog 14 #[.slice ad n cap, .int .i64 (itv : Int)] w fun e w' => e = .returned (.tuple #[.string (str out), .int .i64 (c : Int)]) ∧ Gr w w' := by
  subst hn ho
  by_cases h0 : c = 0
  · subst h0
    have hi : 1 ≤ itv ∧ itv ≤ 64 := by
      unfold chkF at hc
      split at hc
      · cases hc
      · omega
    rw [if_pos rfl]
    exact rDocBuild_ok ad cap l itv w hr hi.1 hi.2 hl hc
  · rw [if_neg h0]
    subst hc
    exact rDocBuild_bad ad cap l (itv : Int) w hr (by omega) h0
set_option maxRecDepth 100000 in
set_option maxHeartbeats 4000000 in
theorem rDocPairs_any (b : List UInt8) (w : World) (hl : b.length ≤ 1000000000) :
    Calls Try.prog 15 #[.string (str b)] w (RetPE w (rpairsF b).1 (rpairsF b).2) := by
  by_cases h6 : b.length < 6
  · have HN := Lib.hid (show rpairsF b = ([], 2) by unfold rpairsF; rw [if_pos h6])
    go_enter Try.func15, Try.ntmps15
    go_wp2
    go_ret2
    rw [HN.out]
    exact ⟨none, 0, rfl, Owns.empty _ _ _ _, Gr.refl _⟩
  · have h6' : 6 ≤ b.length := by omega
    have e1 : (b.length : Int) - 6 = ((b.length - 6 : Nat) : Int) := by omega
    have e2 : (b.length : Int) - 4 = ((b.length - 4 : Nat) : Int) := by omega
    have e3 : b.length - 4 - (b.length - 6) = 2 := by omega
    have hll : (b.drop (b.length - 4)).length ≤ 8 := by rw [List.length_drop]; omega
    have hlw : ((b.drop (b.length - 6)).take 2).length ≤ 8 := by rw [List.length_take]; omega
    obtain ⟨itv, hitv⟩ : ∃ itv, Varint.le ((b.drop (b.length - 6)).take 2) = itv := ⟨_, rfl⟩
    obtain ⟨c, hc⟩ : ∃ c, Varint.le (b.drop (b.length - 4)) = c := ⟨_, rfl⟩
    have hib : itv < 65536 := by have := Varint.le_lt ((b.drop (b.length - 6)).take 2); rw [hitv, List.length_take, List.length_drop] at this; exact Nat.lt_of_lt_of_le this (Nat.pow_le_pow_right (by decide) (by omega : _ ≤ 2))
    have hcb : c < 4294967296 := by have := Varint.le_lt (b.drop (b.length - 4)); rw [hc, List.length_drop] at this; exact Nat.lt_of_lt_of_le this (Nat.pow_le_pow_right (by decide) (by omega : _ ≤ 4))
    have HW1 := Lib.hid (fun w => rWhole_at _ itv w hitv hlw)
    have HW2 := Lib.hid (fun w => rWhole_at _ c w hc hll)
    have HR0 := Lib.hid (show rpairsF b = if 10000 < c then ([], 2) else match decN b c 0 [] with
      | none => ([], 2)
      | some l => if chkF l (itv : Nat) = 0 ∧ buildF itv l = b then (l, 0) else ([], 2) by unfold rpairsF; rw [if_neg h6, hc, hitv])
    clear h6 hll hlw hitv hc
    have T1 : RowKit.Hid True := trivial
    by_cases hcc : 10000 < c
    · have HN := Lib.hid (HR0.out.trans (if_pos hcc))
      clear HR0
      go_enter Try.func15, Try.ntmps15
      go_wp2_with (first
        | (clear T1; go_at_call 41; (with_reducible refine (HW1.out _).mono ?_); rintro e w1 ⟨rfl, rfl⟩)
        | (go_at_call 41; (with_reducible refine (HW2.out _).mono ?_); rintro e w2 ⟨rfl, rfl⟩)
        | fail)
      go_ret2
      rw [HN.out]
      exact ⟨none, 0, rfl, Owns.empty _ _ _ _, Gr.refl _⟩
    · have HR := Lib.hid (HR0.out.trans (if_neg hcc))
      have hcc : c ≤ 10000 := by omega
      clear HR0
      go_enter Try.func15, Try.ntmps15
      go_wp2_with (first
        | (clear T1; go_at_call 41; (with_reducible refine (HW1.out _).mono ?_); rintro e w1 ⟨rfl, rfl⟩)
        | (go_at_call 41; (with_reducible refine (HW2.out _).mono ?_); rintro e w2 ⟨rfl, rfl⟩)
        | fail)
      clear HW1 HW2
      go_loopw [8, 9, 10, 11] (fun vo va vk vi wr => ∃ (i a : Nat) (key : List UInt8) (P : List Pr) (adO : Option Addr) (cO : Nat), i ≤ c ∧ P.length = i ∧ vo = .slice adO i cO ∧ va = .int .i64 (a : Int) ∧ vk = .string (str key) ∧ vi = .int .i64 (i : Int) ∧ a ≤ b.length ∧ key.length ≤ 200 * i ∧
        Owns wr w.heap.size 31 2 adO cO i (pv P) ∧ Gr w wr ∧ decN b c 0 [] = (decN b (c - i) a key).map (P ++ ·)) (fun _ _ _ vi _ => c - (intOf vi).toNat)
      case atStart => exact ⟨0, 0, [], [], none, 0, Nat.zero_le _, rfl, rfl, rfl, rfl, rfl, Nat.zero_le _, Nat.zero_le _, Owns.empty _ _ _ _, Gr.refl _, by cases decN b c 0 [] <;> rfl⟩
      case round =>
        obtain ⟨i, a, key, P, adO, cO, hic, hPl, rfl, rfl, rfl, rfl, ha, hk, oO, hg1, hdec⟩ := hrel
        have HDEC := Lib.hid hdec; clear hdec
        have HPL := Lib.hid hPl; clear hPl
        have hbs := hg1.size
        by_cases hlt : i < c
        · have HST := Lib.hid (show decN b (c - i) a key = match entryF b a key with | none => none | some (p, t) => (decN b (c - (i + 1)) t p.1).map (p :: ·) by
            rw [show c - i = (c - (i + 1)) + 1 by omega, decN]
            cases entryF b a key <;> rfl)
          obtain ⟨n0, k0, e0, g0, hn0, ha1⟩ := get_parts b a ha
          obtain ⟨a1, ha1e⟩ : ∃ a1, a1 = a + k0 := ⟨_, rfl⟩
          obtain ⟨n1, k1, e1, g1, hn1, ha2⟩ := get_parts b a1 (by omega)
          obtain ⟨a2, ha2e⟩ : ∃ a2, a2 = a1 + k1 := ⟨_, rfl⟩
          obtain ⟨n2, k2, e2, g2, hn2, ha3⟩ := get_parts b a2 (by omega)
          obtain ⟨t, hte⟩ : ∃ t, t = a2 + k2 := ⟨_, rfl⟩
          have HE := Lib.hid (show entryF b a key = if e0 ≠ 0 then none else if e1 ≠ 0 then none else if e2 ≠ 0 then none else if key.length < n0 ∨ 200 < n1 ∨ 2000 < n2 ∨ b.length - t < n1 + n2 then none else
              some ((key.take n0 ++ (b.drop t).take n1, (b.drop (t + n1)).take n2), t + n1 + n2) by
            unfold entryF; simp only [g0, ← ha1e, g1, ← ha2e, g2, ← hte])
          have HG0 := Lib.hid (fun w' => rGet_at (b.drop a) n0 k0 e0 w' g0 (by rw [List.length_drop]; unfold maxLen; omega))
          have HG1 := Lib.hid (fun w' => rGet_at (b.drop a1) n1 k1 e1 w' g1 (by rw [List.length_drop]; unfold maxLen; omega))
          have HG2 := Lib.hid (fun w' => rGet_at (b.drop a2) n2 k2 e2 w' g2 (by rw [List.length_drop]; unfold maxLen; omega))
          have hx1 : (a : Int) + (k0 : Int) = (a1 : Int) := by omega
          have hx2 : (a1 : Int) + (k1 : Int) = (a2 : Int) := by omega
          have hx3 : (a2 : Int) + (k2 : Int) = (t : Int) := by omega
          have htl : t ≤ b.length := by omega
          have ht1 : a1 ≤ b.length := by omega
          have ht2 : a2 ≤ b.length := by omega
          have hm1 : min (a1 : Int) (b.length : Int) = (a1 : Int) := by omega
          have hm2 : min (a2 : Int) (b.length : Int) = (a2 : Int) := by omega
          clear g0 g1 g2 ha1e ha2e hte ha1 ha2 ha3
          have T2 : RowKit.Hid True := trivial
          have T3 : RowKit.Hid True := trivial
          by_cases hbad : e0 ≠ 0 ∨ e1 ≠ 0 ∨ e2 ≠ 0 ∨ key.length < n0 ∨ 200 < n1 ∨ 2000 < n2 ∨ b.length < n1 + n2 + t
          · have HN := Lib.hid (show rpairsF b = ([], 2) by
              have he : entryF b a key = none := by
                rw [HE.out]
                split
                · rfl
                · split
                  · rfl
                  · split
                    · rfl
                    · rw [if_pos (by omega)]
              rw [HR.out, HDEC.out, HST.out, he]; rfl)
            clear HR HDEC HST HE
            have hb7 : e0 ≠ 0 ∨ (e0 = 0 ∧ e1 ≠ 0) ∨ (e0 = 0 ∧ e1 = 0 ∧ e2 ≠ 0) ∨ (e0 = 0 ∧ e1 = 0 ∧ e2 = 0 ∧ key.length < n0) ∨ (e0 = 0 ∧ e1 = 0 ∧ e2 = 0 ∧ n0 ≤ key.length ∧ 200 < n1) ∨ (e0 = 0 ∧ e1 = 0 ∧ e2 = 0 ∧ n0 ≤ key.length ∧ n1 ≤ 200 ∧ 2000 < n2) ∨ (e0 = 0 ∧ e1 = 0 ∧ e2 = 0 ∧ n0 ≤ key.length ∧ n1 ≤ 200 ∧ n2 ≤ 2000 ∧ b.length < n1 + n2 + t) := by omega
            clear hbad
            rcases hb7 with u0 | ⟨u0, u1⟩ | ⟨u0, u1, u2⟩ | ⟨u0, u1, u2, hb4⟩ | ⟨u0, u1, u2, hb4, hb5⟩ | ⟨u0, u1, u2, hb4, hb5, hb6⟩ | ⟨u0, u1, u2, hb4, hb5, hb6, hb7⟩
            · have z0 : ((e0 : Int) != 0) = true := by rw [bne_iff_ne]; omega
              clear u0
              go_wp2_with (first
                | (clear T2; go_at_call 42; (with_reducible refine (HG0.out _).mono ?_); rintro e w1 ⟨rfl, rfl⟩)
                | (clear T3; go_at_call 42; (with_reducible refine (HG1.out _).mono ?_); rintro e w2 ⟨rfl, rfl⟩)
                | (go_at_call 42; (with_reducible refine (HG2.out _).mono ?_); rintro e w2 ⟨rfl, rfl⟩)
                | fail)
              go_ret2
              rw [HN.out]
              exact ⟨none, 0, rfl, Owns.empty _ _ _ _, hg1⟩
            · have z0 : ((e0 : Int) != 0) = false := by rw [bne_eq_false_iff_eq]; omega
              have z1 : ((e1 : Int) != 0) = true := by rw [bne_iff_ne]; omega
              clear u0 u1
              go_wp2_with (first
                | (clear T2; go_at_call 42; (with_reducible refine (HG0.out _).mono ?_); rintro e w1 ⟨rfl, rfl⟩)
                | (clear T3; go_at_call 42; (with_reducible refine (HG1.out _).mono ?_); rintro e w2 ⟨rfl, rfl⟩)
                | (go_at_call 42; (with_reducible refine (HG2.out _).mono ?_); rintro e w2 ⟨rfl, rfl⟩)
                | fail)
              go_ret2
              rw [HN.out]
              exact ⟨none, 0, rfl, Owns.empty _ _ _ _, hg1⟩
            · have z0 : ((e0 : Int) != 0) = false := by rw [bne_eq_false_iff_eq]; omega
              have z1 : ((e1 : Int) != 0) = false := by rw [bne_eq_false_iff_eq]; omega
              have z2 : ((e2 : Int) != 0) = true := by rw [bne_iff_ne]; omega
              clear u0 u1 u2
              go_wp2_with (first
                | (clear T2; go_at_call 42; (with_reducible refine (HG0.out _).mono ?_); rintro e w1 ⟨rfl, rfl⟩)
                | (clear T3; go_at_call 42; (with_reducible refine (HG1.out _).mono ?_); rintro e w2 ⟨rfl, rfl⟩)
                | (go_at_call 42; (with_reducible refine (HG2.out _).mono ?_); rintro e w2 ⟨rfl, rfl⟩)
                | fail)
              go_ret2
              rw [HN.out]
              exact ⟨none, 0, rfl, Owns.empty _ _ _ _, hg1⟩
            · have z0 : ((e0 : Int) != 0) = false := by rw [bne_eq_false_iff_eq]; omega
              have z1 : ((e1 : Int) != 0) = false := by rw [bne_eq_false_iff_eq]; omega
              have z2 : ((e2 : Int) != 0) = false := by rw [bne_eq_false_iff_eq]; omega
              clear u0 u1 u2
              go_wp2_with (first
                | (clear T2; go_at_call 42; (with_reducible refine (HG0.out _).mono ?_); rintro e w1 ⟨rfl, rfl⟩)
                | (clear T3; go_at_call 42; (with_reducible refine (HG1.out _).mono ?_); rintro e w2 ⟨rfl, rfl⟩)
                | (go_at_call 42; (with_reducible refine (HG2.out _).mono ?_); rintro e w2 ⟨rfl, rfl⟩)
                | fail)
              go_ret2
              rw [HN.out]
              exact ⟨none, 0, rfl, Owns.empty _ _ _ _, hg1⟩
            · have z0 : ((e0 : Int) != 0) = false := by rw [bne_eq_false_iff_eq]; omega
              have z1 : ((e1 : Int) != 0) = false := by rw [bne_eq_false_iff_eq]; omega
              have z2 : ((e2 : Int) != 0) = false := by rw [bne_eq_false_iff_eq]; omega
              clear u0 u1 u2
              go_wp2_with (first
                | (clear T2; go_at_call 42; (with_reducible refine (HG0.out _).mono ?_); rintro e w1 ⟨rfl, rfl⟩)
                | (clear T3; go_at_call 42; (with_reducible refine (HG1.out _).mono ?_); rintro e w2 ⟨rfl, rfl⟩)
                | (go_at_call 42; (with_reducible refine (HG2.out _).mono ?_); rintro e w2 ⟨rfl, rfl⟩)
                | fail)
              go_ret2
              rw [HN.out]
              exact ⟨none, 0, rfl, Owns.empty _ _ _ _, hg1⟩
            · have z0 : ((e0 : Int) != 0) = false := by rw [bne_eq_false_iff_eq]; omega
              have z1 : ((e1 : Int) != 0) = false := by rw [bne_eq_false_iff_eq]; omega
              have z2 : ((e2 : Int) != 0) = false := by rw [bne_eq_false_iff_eq]; omega
              clear u0 u1 u2
              go_wp2_with (first
                | (clear T2; go_at_call 42; (with_reducible refine (HG0.out _).mono ?_); rintro e w1 ⟨rfl, rfl⟩)
                | (clear T3; go_at_call 42; (with_reducible refine (HG1.out _).mono ?_); rintro e w2 ⟨rfl, rfl⟩)
                | (go_at_call 42; (with_reducible refine (HG2.out _).mono ?_); rintro e w2 ⟨rfl, rfl⟩)
                | fail)
              go_ret2
              rw [HN.out]
              exact ⟨none, 0, rfl, Owns.empty _ _ _ _, hg1⟩
            · have z0 : ((e0 : Int) != 0) = false := by rw [bne_eq_false_iff_eq]; omega
              have z1 : ((e1 : Int) != 0) = false := by rw [bne_eq_false_iff_eq]; omega
              have z2 : ((e2 : Int) != 0) = false := by rw [bne_eq_false_iff_eq]; omega
              clear u0 u1 u2
              go_wp2_with (first
                | (clear T2; go_at_call 42; (with_reducible refine (HG0.out _).mono ?_); rintro e w1 ⟨rfl, rfl⟩)
                | (clear T3; go_at_call 42; (with_reducible refine (HG1.out _).mono ?_); rintro e w2 ⟨rfl, rfl⟩)
                | (go_at_call 42; (with_reducible refine (HG2.out _).mono ?_); rintro e w2 ⟨rfl, rfl⟩)
                | fail)
              go_ret2
              rw [HN.out]
              exact ⟨none, 0, rfl, Owns.empty _ _ _ _, hg1⟩
          · obtain ⟨u0, u1, u2, y0, y1, y2, y3⟩ : e0 = 0 ∧ e1 = 0 ∧ e2 = 0 ∧ n0 ≤ key.length ∧ n1 ≤ 200 ∧ n2 ≤ 2000 ∧ n1 + n2 + t ≤ b.length := by omega
            have HN := Lib.hid (show decN b c 0 [] = (decN b (c - (i + 1)) (t + n1 + n2) (key.take n0 ++ (b.drop t).take n1)).map ((P ++ [(key.take n0 ++ (b.drop t).take n1, (b.drop (t + n1)).take n2)]) ++ ·) by
              rw [HDEC.out, HST.out, HE.out, if_neg (by omega), if_neg (by omega), if_neg (by omega), if_neg (by omega)]
              simp only
              cases decN b (c - (i + 1)) (t + n1 + n2) (key.take n0 ++ (b.drop t).take n1) <;> simp)
            clear hbad HDEC HST HE
            have z0 : ((e0 : Int) != 0) = false := by rw [bne_eq_false_iff_eq]; omega
            have z1 : ((e1 : Int) != 0) = false := by rw [bne_eq_false_iff_eq]; omega
            have z2 : ((e2 : Int) != 0) = false := by rw [bne_eq_false_iff_eq]; omega
            clear u0 u1 u2
            go_wp2_with (first
              | (clear T2; go_at_call 42; (with_reducible refine (HG0.out _).mono ?_); rintro e w1 ⟨rfl, rfl⟩)
              | (clear T3; go_at_call 42; (with_reducible refine (HG1.out _).mono ?_); rintro e w2 ⟨rfl, rfl⟩)
              | (go_at_call 42; (with_reducible refine (HG2.out _).mono ?_); rintro e w2 ⟨rfl, rfl⟩)
              | fail)
            have hks : (key.take n0 ++ (b.drop t).take n1).length ≤ 200 * (i + 1) := by simp only [List.length_append, List.length_take, List.length_drop]; omega
            have htk : (key.take n0).length = n0 := by simp; omega
            have hdk : ((b.drop t).take n1).length = n1 := by simp; omega
            have HKS := Lib.hid hks
            have HTK := Lib.hid htk
            have HDK := Lib.hid hdk
            clear hks htk hdk
            refine region_any_gr _ [Is ?r0, Is ?r1, Is (.string (str (key.take n0))), Is ?r3, Is ?r4, Is ?r5, Is ?r6, Is (.int .i64 (n1 : Int)), Is (.int .i64 ((t : Int) + (n1 : Int))), Is (.string (str ((b.drop t).take n1))), Is (.string (str (key.take n0 ++ (b.drop t).take n1))), Is ?r11] (by kernel_rfl) (by kernel_rfl) (by kernel_rfl) rfl rfl ⟨Is.stable _, Is.stable _, Is.stable _, Is.stable _, Is.stable _, Is.stable _, Is.stable _, Is.stable _, Is.stable _, Is.stable _, Is.stable _, Is.stable _, trivial⟩ ⟨?s0, ?s1, ?s2, ?s3, ?s4, ?s5, ?s6, ?s7, ?s8, ?s9, ?s10, ?s11, trivial⟩ ?fin
            case' s0 | s1 | s2 | s3 | s4 | s5 | s6 | s7 | s8 | s9 | s10 | s11 =>
              intro ρ wr hρ hg hK
              simp [readsOf, slotsOf, Op.operands, Call.operands, tmpOf, List.filterMap_cons, List.filterMap_nil, KnownAll, knownOf, srcOf, depsOf, dstOf, Region.binds, nth, Is] at hK
              obtain ⟨hc, hf, hgl⟩ := hρ
              try simp only [wantedBy, dstOf, boolOf, nth, List.getD_cons_zero, List.getD_cons_succ, List.getElem?_cons_zero, List.getElem?_cons_succ, Option.bind_some, if_true, hK, BEq.rfl]
              try go_simp
              first | exact rfl | (rw [if_pos (by omega)]; exact is_here rfl) | (rw [dif_pos (by omega)]; exact is_here rfl) | exact congrArg (Value.int _) (IntWalk.i64_in _ ⟨by omega, by omega⟩) | skip
            case s9 =>
              rw [if_pos ⟨by omega, by omega⟩, if_pos (by omega), show ((t : Int) + (n1 : Int)).toNat - t = n1 by omega]
              exact is_here rfl
            case s10 =>
              rw [if_neg (by omega)]
              exact is_here rfl
            case fin =>
              intro w1 val hg hH
              simp only [Holds, Is, Nat.zero_add, Nat.reduceAdd] at hH
              obtain ⟨h0, h1, h2, h3, h4, h5, h6, h7, h8, h9, h10, h11, _⟩ := hH
              simp only [List.take_succ_cons, List.take_zero, List.drop_succ_cons, List.drop_zero, putAll, h0, h1, h2, h3, h4, h5, h6, h7, h8, h9, h10, h11, Nat.zero_add, Nat.reduceAdd]
              go_simp
              generalize hkd : key.take n0 ++ (b.drop t).take n1 = K at *
              have HKD := Lib.hid hkd; clear hkd
              have hsl : ((b.drop (t + n1)).take n2).length = n2 := by simp; omega
              have e9 : ((t : Int) + (n1 : Int) + (n2 : Int)).toNat - (t + n1) = n2 := by omega
              have e8 : ((t : Int) + (n1 : Int)).toNat = t + n1 := by omega
              have hbs2 : w.heap.size ≤ w1.heap.size := Nat.le_trans hbs hg.size
              have oO2 := oO.gr hg
              have HRF := row_from oO2
              have m1 : i + 1 ≤ maxLen := by unfold maxLen; omega
              have m2 : (i + 1) * 32 ≤ 140737488355328 := by omega
              have HS := Lib.hid (fun w' g (hg' : w'.heap[g]? = some (.cells #[.string (str K), .string (str ((b.drop (t + n1)).take n2))] 31 (0, 0))) => (show OneB [.string (str K), .string (str ((b.drop (t + n1)).take n2))] (.slice (some ⟨g, 0, none⟩) 1 1) w' from ⟨g, _, _, rfl, hg'⟩).src (P := Try.prog) rfl (pv_one [(K, (b.drop (t + n1)).take n2)]) Try.underlying22)
              go_wp2_with (at_builtin; go_must (refine wp_append elemP rfl _ _ rfl rfl (oO2.gr (Gr.alloc _ _)) rfl (HS.out _ _ (heap_alloc_new _ _)) m1 m2 (Nat.le_trans hbs2 (Gr.alloc _ _).size) ?_); intro ad5 cap5 w5 o5 k5 f5)
              go_roundw
              case rel =>
                exact ⟨i + 1, t + n1 + n2, K, P ++ [(K, (b.drop (t + n1)).take n2)], ad5, cap5, hlt, by rw [List.length_append, HPL.out]; rfl, rfl, by go_num, rfl, by go_num, by omega, HKS.out, by rw [pv_append]; exact o5, ((hg1.trans hg).trans (Gr.alloc _ _)).grown k5 HRF, HN.out⟩
              case measure => simp [intOf]; omega
        · obtain rfl : i = c := by omega
          have HD2 := Lib.hid (show decN b i 0 [] = some P by rw [HDEC.out, Nat.sub_self, decN]; simp)
          have HBU := Lib.hid (rDocBuild_at adO i cO P itv wr (chkF P (itv : Int)) (if chkF P (itv : Int) = 0 then buildF itv P else []) HPL.out.symm oO.row (by have := HPL.out; omega) rfl rfl)
          have HR2 := Lib.hid (show rpairsF b = if chkF P (itv : Int) = 0 ∧ buildF itv P = b then (P, 0) else ([], 2) by rw [HR.out, HD2.out])
          clear hlt HR
          by_cases hk0 : chkF P (itv : Int) = 0
          · rw [hk0] at HBU HR2
            simp only [if_true, true_and] at HBU HR2
            generalize buildF itv P = out at *
            by_cases heq : out = b
            · subst heq
              have HN := Lib.hid (HR2.out.trans (if_pos rfl))
              clear hk0 HR2
              go_wp2_with (go_at_call 14; refine HBU.out.mono ?_; rintro e w3 ⟨rfl, g3⟩)
              go_ret2
              rw [HN.out]
              refine ⟨adO, cO, by rw [HPL.out]; rfl, ?_, hg1.trans g3⟩
              rw [HPL.out]
              exact oO.gr g3
            · have hbe : (out == b) = false := by rw [beq_eq_false_iff_ne]; exact heq
              have HN := Lib.hid (HR2.out.trans (if_neg heq))
              clear hk0 heq HR2
              go_wp2_with (go_at_call 14; refine HBU.out.mono ?_; rintro e w3 ⟨rfl, g3⟩)
              go_ret2
              rw [HN.out]
              exact ⟨none, 0, rfl, Owns.empty _ _ _ _, hg1.trans g3⟩
          · have HN := Lib.hid (HR2.out.trans (if_neg (fun h => hk0 h.1)))
            generalize hcc9 : chkF P (itv : Int) = ck at *
            have hne : ((ck : Int) != 0) = true := by rw [bne_iff_ne]; omega
            rw [if_neg hk0] at HBU
            clear hk0 hcc9 HR2
            go_wp2_with (go_at_call 14; refine HBU.out.mono ?_; rintro e w3 ⟨rfl, g3⟩)
            go_ret2
            rw [HN.out]
            exact ⟨none, 0, rfl, Owns.empty _ _ _ _, hg1.trans g3⟩
end Go.Proofs.Ytnbinodhdgnjlaa
