/- The plain law of layer 6 (bloom): bits in rows of bytes, and the probes of keys. No program is in sight here. -/
import Derived.Test.YtpaogoehgkoaeaaGreatDoorQBunB1
import Derived.Test.YtpaogoehgkoaeaaGreatDoorRows
import Derived.Test.YtpaogoehgkoaeaaGreatDoorQBunB0
import Derived.Outline
import Derived.LoopN
import Derived.Lib.SliceRun
/- Layer 13 (block): pairs come back from their bytes, in plain Lean. No program is in sight here. -/
namespace Go.Proofs.YtpaogoehgkoaeaaGreatDoor.Bk
set_option linter.unusedVariables false
set_option linter.unusedSimpArgs false
open Varint
open Go.Op (bytesLess)
theorem le_bytesN : ∀ k n, n < 256 ^ k → le (bytesN k n) = n
  | 0, n, h => by simp at h; subst h; rfl
  | k + 1, n, h => by
    rw [Nat.pow_succ] at h
    show (UInt8.ofNat n).toNat + 256 * le (bytesN k (n / 256)) = n
    rw [le_bytesN k (n / 256) (by omega), UInt8.toNat_ofNat']
    omega
/-- the pair at a place, and where its bytes end -/
def entryF (b : List UInt8) (a : Nat) (key : List UInt8) : Option (Pr × Nat) :=
  if (getF (b.drop a)).2.2 ≠ 0 then none
  else if (getF (b.drop (a + (getF (b.drop a)).2.1))).2.2 ≠ 0 then none
  else if (getF (b.drop (a + (getF (b.drop a)).2.1 + (getF (b.drop (a + (getF (b.drop a)).2.1))).2.1))).2.2 ≠ 0 then none
  else
    let g0 := getF (b.drop a)
    let g1 := getF (b.drop (a + g0.2.1))
    let g2 := getF (b.drop (a + g0.2.1 + g1.2.1))
    let t := a + g0.2.1 + g1.2.1 + g2.2.1
    if key.length < g0.1 ∨ 200 < g1.1 ∨ 2000 < g2.1 ∨ b.length - t < g1.1 + g2.1 then none
    else some ((key.take g0.1 ++ (b.drop t).take g1.1, (b.drop (t + g1.1)).take g2.1), t + g1.1 + g2.1)
def decN (b : List UInt8) : Nat → Nat → List UInt8 → Option (List Pr)
  | 0, _, _ => some []
  | c + 1, a, key =>
    match entryF b a key with
    | none => none
    | some (p, t) => (decN b c t p.1).map (p :: ·)
/-- the pairs' bytes, the interval, the count -/
def partsF (b : List UInt8) : Option (List UInt8 × Nat × Nat) :=
  if b.length < 6 then none
  else
    let w := le ((b.drop (b.length - 6)).take 2)
    let c := le (b.drop (b.length - 4))
    if w < 1 ∨ 64 < w ∨ 10000 < c then none
    else if b.length - 6 < 4 * ((c + w - 1) / w) then none
    else some (b.take (b.length - 6 - 4 * ((c + w - 1) / w)), w, c)
def pairsF (b : List UInt8) : List Pr × Nat :=
  match partsF b with
  | none => ([], 2)
  | some (d, w, c) =>
    match decN d c 0 [] with
    | none => ([], 2)
    | some l => if chkF l (w : Int) = 0 ∧ buildF w l = b then (l, 0) else ([], 2)
theorem entry_at {p q : List UInt8} {key : List UInt8} {n : Nat} {x : Pr} (hn : n ≤ key.length) (hx : n ≤ x.1.length) (h1 : x.1.length ≤ 200) (h2 : x.2.length ≤ 2000) (hk : key.take n = x.1.take n) (hkl : key.length ≤ 200) :
    entryF (p ++ (entF n x ++ q)) p.length key = some (x, p.length + (entF n x).length) := by
  have e0 : (p ++ (entF n x ++ q)).drop p.length = putF n ++ (putF (x.1.length - n) ++ (putF x.2.length ++ (x.1.drop n ++ (x.2 ++ q)))) := by
    rw [List.drop_left]; simp [entF]
  have g0 : getF ((p ++ (entF n x ++ q)).drop p.length) = (n, (putF n).length, 0) := by rw [e0]; exact get_put _ _ (by omega)
  have e1 : (p ++ (entF n x ++ q)).drop (p.length + (putF n).length) = putF (x.1.length - n) ++ (putF x.2.length ++ (x.1.drop n ++ (x.2 ++ q))) := by
    rw [← List.drop_drop, e0, List.drop_left]
  have g1 : getF ((p ++ (entF n x ++ q)).drop (p.length + (putF n).length)) = (x.1.length - n, (putF (x.1.length - n)).length, 0) := by rw [e1]; exact get_put _ _ (by omega)
  have e2 : (p ++ (entF n x ++ q)).drop (p.length + (putF n).length + (putF (x.1.length - n)).length) = putF x.2.length ++ (x.1.drop n ++ (x.2 ++ q)) := by
    rw [← List.drop_drop, e1, List.drop_left]
  have g2 : getF ((p ++ (entF n x ++ q)).drop (p.length + (putF n).length + (putF (x.1.length - n)).length)) = (x.2.length, (putF x.2.length).length, 0) := by rw [e2]; exact get_put _ _ (by omega)
  have e3 : (p ++ (entF n x ++ q)).drop (p.length + (putF n).length + (putF (x.1.length - n)).length + (putF x.2.length).length) = x.1.drop n ++ (x.2 ++ q) := by
    rw [← List.drop_drop, e2, List.drop_left]
  have hd : (x.1.drop n).length = x.1.length - n := List.length_drop
  have e4 : (p ++ (entF n x ++ q)).drop (p.length + (putF n).length + (putF (x.1.length - n)).length + (putF x.2.length).length + (x.1.length - n)) = x.2 ++ q := by
    rw [← List.drop_drop, e3, ← hd, List.drop_left]
  have hlen : (p ++ (entF n x ++ q)).length = p.length + (putF n).length + (putF (x.1.length - n)).length + (putF x.2.length).length + (x.1.length - n) + x.2.length + q.length := by
    simp [entF]; omega
  have t3 : (x.1.drop n ++ (x.2 ++ q)).take (x.1.length - n) = x.1.drop n := by rw [← hd]; exact List.take_left
  unfold entryF
  simp only [g0, g1, g2]
  rw [if_neg (by simp), if_neg (by simp), if_neg (by simp), if_neg (by rw [hlen]; omega), e3, e4, t3, List.take_left, hk, List.take_append_drop]
  simp only [Option.some.injEq, Prod.mk.injEq, true_and, entF, List.length_append]
  omega
theorem placeN_length (itv : Nat) (l : List Pr) (h : 1 ≤ itv) : ∀ i, (placeN itv l i).length = 4 * ((i + itv - 1) / itv)
  | 0 => by rw [placeN]; simp only [List.length_nil]; rw [Nat.div_eq_of_lt (by omega)]
  | i + 1 => by
    rw [placeN, List.length_append, placeN_length itv l h i]
    have hs : (i + 1 + itv - 1) / itv = (i + itv - 1) / itv + (if i % itv = 0 then 1 else 0) := by
      have e1 : i + 1 + itv - 1 = i + itv := by omega
      rw [e1, Nat.add_div_right _ (by omega)]
      clear e1
      by_cases hm : i % itv = 0
      · rw [if_pos hm]
        obtain ⟨k, rfl⟩ : ∃ k, i = itv * k := ⟨i / itv, by have := Nat.div_add_mod i itv; omega⟩
        rw [Nat.mul_div_cancel_left _ (by omega), show itv * k + itv - 1 = (itv - 1) + itv * k by omega, Nat.add_mul_div_left _ _ (by omega), Nat.div_eq_of_lt (by omega)]
        omega
      · rw [if_neg hm]
        have hd := Nat.div_add_mod i itv
        have hl := Nat.mod_lt i (show 0 < itv by omega)
        have e2 : i + itv - 1 = (i % itv - 1) + itv * (i / itv + 1) := by rw [Nat.mul_add, Nat.mul_one]; omega
        rw [e2, Nat.add_mul_div_left _ _ (by omega), Nat.div_eq_of_lt (show i % itv - 1 < itv by omega)]
        omega
    rw [hs]
    split
    · rw [bytesN_len]; omega
    · simp only [List.length_nil]; omega
/-- the rest of the pairs' bytes -/
theorem dataN_prefix (itv : Nat) (l : List Pr) (i : Nat) : ∀ j, ∃ q, dataN itv l (i + j) = dataN itv l i ++ q
  | 0 => ⟨[], by simp⟩
  | j + 1 => by
    obtain ⟨q, h⟩ := dataN_prefix itv l i j
    exact ⟨q ++ entF (nAt itv l (i + j)) (l.getD (i + j) noPr), by rw [← Nat.add_assoc, dataN, h, List.append_assoc]⟩
def keyAt (l : List Pr) (i : Nat) : List UInt8 := if i = 0 then [] else (l.getD (i - 1) noPr).1
theorem nAt_key (itv : Nat) (l : List Pr) (i : Nat) : nAt itv l i ≤ (keyAt l i).length ∧ (keyAt l i).take (nAt itv l i) = ((l.getD i noPr).1).take (nAt itv l i) := by
  unfold nAt keyAt
  by_cases h0 : i % itv = 0
  · rw [if_pos h0]; simp
  · rw [if_neg h0, if_neg (fun h => h0 (by rw [h]; exact Nat.zero_mod _))]
    exact ⟨(comF_le _ _).1, comF_take _ _⟩
theorem dec_data {itv : Nat} {l : List Pr} (h : okLens l) : ∀ k i, i + k = l.length → decN (dataN itv l l.length) k (dataN itv l i).length (keyAt l i) = some (l.drop i)
  | 0, i, hi => by rw [decN, List.drop_of_length_le (by omega)]
  | k + 1, i, hi => by
    obtain ⟨q, hq⟩ := dataN_prefix itv l (i + 1) k
    rw [show i + 1 + k = l.length by omega] at hq
    have hd : dataN itv l l.length = dataN itv l i ++ (entF (nAt itv l i) (l.getD i noPr) ++ q) := by rw [hq, dataN, List.append_assoc]
    have a := h i
    obtain ⟨b1, b2⟩ := nAt_key itv l i
    have hkl : (keyAt l i).length ≤ 200 := by unfold keyAt; split; · simp
                                              · exact (h _).1
    have he := entry_at (p := dataN itv l i) (q := q) b1 (nAt_le itv l i) a.1 a.2 b2 hkl
    rw [decN, hd, he]
    simp only
    have ih := dec_data (itv := itv) h k (i + 1) (by omega)
    have hk : keyAt l (i + 1) = (l.getD i noPr).1 := by unfold keyAt; rw [if_neg (by omega), Nat.add_sub_cancel]
    have hl : (dataN itv l (i + 1)).length = (dataN itv l i).length + (entF (nAt itv l i) (l.getD i noPr)).length := by rw [dataN, List.length_append]
    rw [hk, hl, hd] at ih
    rw [ih]
    have hlt : i < l.length := by omega
    rw [List.drop_eq_getElem_cons hlt, List.getD_eq_getElem?_getD, List.getElem?_eq_getElem hlt]
    rfl
theorem parts_build {itv : Nat} {l : List Pr} (h1 : 1 ≤ itv) (h2 : itv ≤ 64) (hl : l.length ≤ 10000) : partsF (buildF itv l) = some (dataN itv l l.length, itv, l.length) := by
  have hp := placeN_length itv l h1 l.length
  have b2 := bytesN_len 2 itv
  have b4 := bytesN_len 4 l.length
  have hlen : (buildF itv l).length = (dataN itv l l.length).length + (placeN itv l l.length).length + 6 := by unfold buildF; simp only [List.length_append, b2, b4]; omega
  have hd6 : (buildF itv l).drop ((buildF itv l).length - 6) = bytesN 2 itv ++ bytesN 4 l.length := by
    rw [hlen, Nat.add_sub_cancel]
    unfold buildF
    rw [← List.append_assoc, ← List.length_append, List.drop_left]
  have hd4 : (buildF itv l).drop ((buildF itv l).length - 4) = bytesN 4 l.length := by
    rw [show (buildF itv l).length - 4 = (buildF itv l).length - 6 + 2 by omega, ← List.drop_drop, hd6]
    have := List.drop_left (l₁ := bytesN 2 itv) (l₂ := bytesN 4 l.length); rwa [b2] at this
  have e2 : le ((bytesN 2 itv ++ bytesN 4 l.length).take 2) = itv := by
    have : (bytesN 2 itv ++ bytesN 4 l.length).take 2 = bytesN 2 itv := by
      have := List.take_left (l₁ := bytesN 2 itv) (l₂ := bytesN 4 l.length); rwa [b2] at this
    rw [this]; exact le_bytesN 2 itv (by omega)
  have e4 : le (bytesN 4 l.length) = l.length := le_bytesN 4 _ (by omega)
  unfold partsF
  rw [if_neg (by omega)]
  simp only [hd6, hd4, e2, e4]
  rw [if_neg (by omega), if_neg (by omega)]
  have ht : (buildF itv l).take ((buildF itv l).length - 6 - 4 * ((l.length + itv - 1) / itv)) = dataN itv l l.length := by
    rw [show (buildF itv l).length - 6 - 4 * ((l.length + itv - 1) / itv) = (dataN itv l l.length).length by omega]
    unfold buildF
    exact List.take_left
  rw [ht]
theorem pairs_build {itv : Nat} {l : List Pr} (h1 : 1 ≤ itv) (h2 : itv ≤ 64) (hl : l.length ≤ 10000) (ho : okLens l) (hc : chkF l (itv : Int) = 0) : pairsF (buildF itv l) = (l, 0) := by
  unfold pairsF
  rw [parts_build h1 h2 hl]
  have := dec_data (itv := itv) ho l.length 0 (by omega)
  simp only [dataN, List.length_nil, keyAt, if_true, List.drop_zero] at this
  simp only [this]
  rw [if_pos ⟨hc, trivial⟩]
theorem pairs_some {b : List UInt8} {l : List Pr} (h : pairsF b = (l, 0)) : ∃ w : Nat, 1 ≤ w ∧ w ≤ 64 ∧ chkF l (w : Int) = 0 ∧ buildF w l = b := by
  unfold pairsF at h
  split at h
  · cases h
  · rename_i d w c hp
    have hw : 1 ≤ w ∧ w ≤ 64 := by
      unfold partsF at hp
      split at hp
      · cases hp
      · simp only at hp
        split at hp
        · cases hp
        · split at hp
          · cases hp
          · cases hp; omega
    split at h
    · cases h
    · split at h
      · rename_i l' _ hh
        cases h
        exact ⟨w, hw.1, hw.2, hh.1, hh.2⟩
      · cases h
theorem pairs_err (b : List UInt8) : (pairsF b).2 = 0 ∨ pairsF b = ([], 2) := by
  unfold pairsF
  split
  · exact .inr rfl
  · split
    · exact .inr rfl
    · split
      · exact .inl rfl
      · exact .inr rfl
end Go.Proofs.YtpaogoehgkoaeaaGreatDoor.Bk
/- Layer 13 (block): pairs in memory; what the functions of layer 3 compute. -/
namespace Go.Proofs.YtpaogoehgkoaeaaGreatDoor
set_option linter.unusedVariables false
set_option linter.unusedSimpArgs false
open Go.RowKit
section
open Varint
set_option maxRecDepth 100000 in
set_option maxHeartbeats 1000000 in
theorem Put_any (n : Nat) (w : World) (hn : n < 18446744073709551616) : Calls Tryz.prog 34 #[.int .u64 n] w (RetB 5 w (putF n)) := by
  go_enter Tryz.func34, Tryz.ntmps34
  go_wp2
  go_loopw [0, 3] (fun v b wr => ∃ k acc cur, ∃ ad cap, v = .int .u64 (cur : Nat) ∧ cur < 2 * 128 ^ k ∧ k ≤ 9 ∧ putF n = acc ++ putN k cur ∧ acc.length ≤ 9 - k ∧ b = .slice ad acc.length cap ∧ Owns wr w.heap.size 5 1 ad cap acc.length (bv acc) ∧ Gr w wr) (fun v _ _ => (intOf v).toNat)
  case atStart => exact ⟨9, [], n, none, 0, rfl, by simpa using hn, Nat.le_refl _, rfl, by simp, rfl, Owns.empty _ _ _ _, Gr.refl _⟩
  case round =>
    obtain ⟨k, acc, cur, ad, cap, rfl, hc, hk, hp, hal, rfl, ho, hg⟩ := hrel
    have HP := Lib.hid hp; clear hp
    have hpw : 128 ^ k ≤ 128 ^ 9 := Nat.pow_le_pow_right (by decide) hk
    have hb : cur < 18446744073709551616 := by omega
    have HC := Lib.hid hc; clear hc hpw
    have hs := hg.size
    have hm1 : acc.length + 1 ≤ maxLen := by unfold maxLen; omega
    have hm2 : (acc.length + 1) * 1 ≤ 140737488355328 := by omega
    by_cases hlt : cur < 128
    · have HX := Lib.hid (show (cur : Int) = ((UInt8.ofNat cur).toNat : Int) by rw [UInt8.toNat_ofNat']; omega)
      go_wp2_with (at_builtin; refine wp_append elemB rfl _ _ rfl rfl (ho.gr (Gr.alloc _ _)) rfl (Src.one _ _ (UInt8.ofNat cur) HX.out Tryz.underlying31) hm1 hm2 (by simp; omega) ?_; intro ad2 cap2 w2 o2 k2 f2)
      go_ret
      have e : putF n = acc ++ [UInt8.ofNat cur] := by rw [HP.out, putN_small hlt]
      refine ⟨ad2, cap2, by rw [e]; simp, ?_, hg.app ho (Nat.le_refl _) k2⟩
      rw [e, bv_append]
      simpa using o2
    · have HX := Lib.hid (b8_more cur)
      go_wp2_with (at_builtin; refine wp_append elemB rfl _ _ rfl rfl (ho.gr (Gr.alloc _ _)) rfl (Src.one _ _ (UInt8.ofNat (cur % 128 + 128)) HX.out Tryz.underlying31) hm1 hm2 (by simp; omega) ?_; intro ad2 cap2 w2 o2 k2 f2)
      obtain ⟨k', rfl⟩ : ∃ k', k = k' + 1 := ⟨k - 1, by
        have := HC.out
        cases k with
        | zero => simp at this; omega
        | succ k => rfl⟩
      have hc : cur < 2 * 128 ^ (k' + 1) := HC.out
      rw [Nat.pow_succ] at hc
      go_roundw
      case rel =>
        refine ⟨k', acc ++ [UInt8.ofNat (cur % 128 + 128)], cur / 128, ad2, cap2, by go_num, by omega, by omega, by rw [HP.out, putN_big hlt]; simp, by simp; omega, by simp, ?_, hg.app ho (Nat.le_refl _) k2⟩
        rw [bv_append]
        simpa using o2
      case measure => simp [intOf]; omega
set_option maxRecDepth 100000 in
set_option maxHeartbeats 1000000 in
theorem Get_any (ad : Option Addr) (len cap : Nat) (l : List UInt8) (w : World) (hl : l.length = len) (hm : len ≤ maxLen) (hb : Bytes w ad l) :
    Calls Tryz.prog 103 #[.slice ad len cap] w fun e w' => e = .returned (.tuple #[.int .u64 (getF l).1, .int .i64 (getF l).2.1, .int .i64 (getF l).2.2]) ∧ w = w' := by
  subst hl
  unfold maxLen at hm
  go_enter Tryz.func103, Tryz.ntmps103
  go_wp2
  go_loop [5, 6, 7, 10] (fun v _ _ i => ∃ (k : Nat) (m : Int), k ≤ l.length ∧ k ≤ 10 ∧ i = .int .i64 k ∧ v = .int .u64 m ∧ (k ≤ 9 → m = val (l.take k)) ∧ getF l = getAt l (10 - k) k) (fun _ _ _ i => l.length - (intOf i).toNat)
  case atStart => exact ⟨0, 0, Nat.zero_le _, by omega, rfl, rfl, fun _ => by simp [val], rfl⟩
  case round =>
    obtain ⟨k, m, hk, hk10, rfl, rfl, hv, hg⟩ := hrel
    have HG := Lib.hid hg; clear hg
    have HV := Lib.hid hv; clear hv
    by_cases hlt : k < l.length
    · obtain ⟨b, off, rfl, hc⟩ := hb k hlt
      have hx := byte_hi l[k]
      by_cases h10 : k = 10
      · subst h10
        have HR := Lib.hid (show getF l = (0, 0, 2) by rw [HG.out]; simp only [Nat.sub_self, getAt, short]; rw [if_neg (by omega)])
        go_wp2
        go_ret3
        exact ⟨ret3_of HR.out rfl rfl rfl, rfl⟩
      · obtain ⟨f, hf⟩ : ∃ f, 10 - k = f + 1 := ⟨9 - k, by omega⟩
        have HF := Lib.hid hf; clear hf
        have b10 : ((k : Int) == 10) = false := by rw [beq_eq_false_iff_ne]; omega
        obtain ⟨t1, t2⟩ := take_u64 l k (by omega) (by omega)
        have HM := Lib.hid (HV.out (by omega))
        by_cases hxs : l[k].toNat < 128
        · have HE := Lib.hid (show getF l = endAt l k l[k].toNat by rw [HG.out, HF.out, getAt_end hlt hxs])
          by_cases h9 : k = 9
          · have b9 : ((k : Int) == 9) = true := by rw [beq_iff_eq]; omega
            by_cases hx1 : 1 < l[k].toNat
            · have HR := Lib.hid (HE.out.trans (endAt_bad (.inl ⟨h9, hx1⟩)))
              have bd : decide ((1 : Int) < l[k].toNat) = true := by simp; omega
              clear h9
              go_wp2
              go_ret3
              exact ⟨ret3_of HR.out rfl rfl rfl, rfl⟩
            · have bd : decide ((1 : Int) < l[k].toNat) = false := by simp; omega
              have hk0 : 0 < k := by omega
              by_cases hx0 : l[k].toNat = 0
              · have HR := Lib.hid (HE.out.trans (endAt_bad (.inr ⟨by omega, hx0⟩)))
                have b0 : ((l[k].toNat : Int) == 0) = true := by rw [beq_iff_eq]; omega
                clear h9 hx0
                go_wp2
                go_ret3
                exact ⟨ret3_of HR.out rfl rfl rfl, rfl⟩
              · have HR := Lib.hid (HE.out.trans (endAt_good (by omega)))
                have b0 : ((l[k].toNat : Int) == 0) = false := by rw [beq_eq_false_iff_ne]; omega
                have HO := Lib.hid (u64_shl_or (val (l.take k)) l[k].toNat (7 * k) t2 (fits k _ (by omega) hxs (by omega)) t1)
                have HO2 := Lib.hid (show val (l.take (k + 1)) = val (l.take k) + l[k].toNat * 2 ^ (7 * k) by rw [val_take_succ l k hlt, Nat.mod_eq_of_lt hxs, pow128])
                clear h9 hx0
                go_wp2
                go_ret3
                exact ⟨ret3_of HR.out (by rw [HM.out, HO.out, HO2.out]) (by omega) rfl, rfl⟩
          · have b9 : ((k : Int) == 9) = false := by rw [beq_eq_false_iff_ne]; omega
            by_cases hk0 : 0 < k
            · by_cases hx0 : l[k].toNat = 0
              · have HR := Lib.hid (HE.out.trans (endAt_bad (.inr ⟨hk0, hx0⟩)))
                have b0 : ((l[k].toNat : Int) == 0) = true := by rw [beq_iff_eq]; omega
                clear hx0
                go_wp2
                go_ret3
                exact ⟨ret3_of HR.out rfl rfl rfl, rfl⟩
              · have HR := Lib.hid (HE.out.trans (endAt_good (by omega)))
                have HO := Lib.hid (u64_shl_or (val (l.take k)) l[k].toNat (7 * k) t2 (fits k _ (by omega) hxs (by omega)) t1)
                have HO2 := Lib.hid (show val (l.take (k + 1)) = val (l.take k) + l[k].toNat * 2 ^ (7 * k) by rw [val_take_succ l k hlt, Nat.mod_eq_of_lt hxs, pow128])
                have b0 : ((l[k].toNat : Int) == 0) = false := by rw [beq_eq_false_iff_ne]; omega
                clear hx0
                go_wp2
                go_ret3
                exact ⟨ret3_of HR.out (by rw [HM.out, HO.out, HO2.out]) (by omega) rfl, rfl⟩
            · have HR := Lib.hid (HE.out.trans (endAt_good (by omega)))
              have HO := Lib.hid (u64_shl_or (val (l.take k)) l[k].toNat (7 * k) t2 (fits k _ (by omega) hxs (by omega)) t1)
              have HO2 := Lib.hid (show val (l.take (k + 1)) = val (l.take k) + l[k].toNat * 2 ^ (7 * k) by rw [val_take_succ l k hlt, Nat.mod_eq_of_lt hxs, pow128])
              go_wp2
              go_ret3
              exact ⟨ret3_of HR.out (by rw [HM.out, HO.out, HO2.out]) (by omega) rfl, rfl⟩
        · go_wp2
          go_round
          case rel =>
            refine ⟨k + 1, _, by omega, by omega, by go_num, rfl, ?_, ?_⟩
            · intro h
              rw [HM.out, b8_less, u64_wrap_nat _ (by omega), u64_shl_or _ _ (7 * k) t2 (fits k _ (by omega) (by omega) (by omega)) t1, val_take_succ l k hlt, pow128]
            · rw [HG.out, HF.out, getAt_on hlt hxs]
              have := HF.out
              congr 1
              omega
          case measure => simp [intOf]; omega
    · have hR := Lib.hid (show getF l = short l by rw [HG.out, getAt_none (by omega)])
      by_cases h10 : l.length < 10
      · have HR := Lib.hid (show getF l = (0, 0, 9) by rw [hR.out, short, if_pos h10])
        go_wp2
        go_ret3
        exact ⟨ret3_of HR.out rfl rfl rfl, rfl⟩
      · have HR := Lib.hid (show getF l = (0, 0, 2) by rw [hR.out, short, if_neg h10])
        go_wp2
        go_ret3
        exact ⟨ret3_of HR.out rfl rfl rfl, rfl⟩
set_option maxRecDepth 100000 in
set_option maxHeartbeats 1000000 in
theorem Fixed_any (n : Nat) (s : Int) (w : World) (hn : n < 18446744073709551616) (h1 : -9223372036854775808 ≤ s) (h2 : s ≤ 9223372036854775807) :
    Calls Tryz.prog 63 #[.int .u64 n, .int .i64 s] w (RetBE 5 w (fixedF n s).1 (fixedF n s).2) := by
  by_cases hs : s < 0 ∨ 8 < s
  · have H := Lib.hid (show fixedF n s = ([], 1) by unfold fixedF; rw [if_pos hs])
    rcases hs with hs | hs
    all_goals
      go_enter Tryz.func63, Tryz.ntmps63
      go_wp2
      go_ret2
      refine ⟨none, 0, ?_, ?_, Gr.refl _⟩
      · rw [H.out]; rfl
      · rw [H.out]; exact Owns.empty _ _ _ _
  · obtain ⟨k, rfl⟩ := Int.eq_ofNat_of_zero_le (show 0 ≤ s by omega)
    have hk : k ≤ 8 := by omega
    clear hs h1 h2
    have HP := Lib.hid (show (n : Int) / 2 ^ (8 * k) = ((n / 256 ^ k : Nat) : Int) by rw [pow256]; simp)
    by_cases hb : n / 256 ^ k = 0
    · have H := Lib.hid (show fixedF n k = (bytesN k n, 0) by unfold fixedF; rw [if_neg (by omega), if_neg (by simpa using hb)]; rfl)
      have hq : ((n : Int) / 2 ^ (8 * k) != 0) = false := by rw [HP.out, hb]; rfl
      have HB := Lib.hid hb; clear hb
      by_cases hk8 : k < 8
      all_goals
        go_enter Tryz.func63, Tryz.ntmps63
        go_wp2
        go_loopw [0, 6, 25] (fun v b i wr => ∃ (j : Nat) (ad : Option Addr) (cap : Nat), j ≤ k ∧ i = .int .i64 j ∧ v = .int .u64 ((n / 256 ^ j : Nat) : Int) ∧ b = .slice ad j cap ∧ Owns wr w.heap.size 5 1 ad cap j (bv (bytesN j n)) ∧ Gr w wr) (fun _ _ i _ => k - (intOf i).toNat)
        case atStart => exact ⟨0, none, 0, Nat.zero_le _, rfl, by simp, rfl, Owns.empty _ _ _ _, Gr.refl _⟩
        case round =>
          obtain ⟨j, ad, cap, hj, rfl, rfl, rfl, ho, hg⟩ := hrel
          have hs := hg.size
          by_cases hlt : j < k
          · generalize hc : n / 256 ^ j = cur at *
            have hb : cur < 18446744073709551616 := by rw [← hc]; exact Nat.lt_of_le_of_lt (Nat.div_le_self _ _) hn
            have HC := Lib.hid hc; clear hc
            have HX := Lib.hid (show (cur : Int) % 256 = ((UInt8.ofNat cur).toNat : Int) by rw [UInt8.toNat_ofNat']; omega)
            go_wp2_with (at_builtin; refine wp_append elemB rfl _ _ rfl rfl (ho.gr (Gr.alloc _ _)) rfl (Src.one _ _ (UInt8.ofNat cur) HX.out Tryz.underlying31) (by unfold maxLen; omega) (by omega) (by simp; omega) ?_; intro ad2 cap2 w2 o2 k2 f2)
            go_roundw
            case rel =>
              refine ⟨j + 1, ad2, cap2, by omega, by go_num, ?_, rfl, ?_, hg.app ho (Nat.le_refl _) k2⟩
              · rw [Nat.pow_succ, ← Nat.div_div_eq_div_mul, HC.out]; go_num
              · rw [bytesN_snoc, bv_append, HC.out]; exact o2
            case measure => simp [intOf]; omega
          · obtain rfl : j = k := by omega
            go_wp2
            go_ret2
            refine ⟨ad, cap, ?_, ?_, hg⟩
            · rw [H.out]; simp only [bytesN_len]; rfl
            · rw [H.out]; simp only [bytesN_len]; exact ho
    · have hk8 : k < 8 := by
        rcases Nat.lt_or_ge k 8 with h | h
        · exact h
        · have : k = 8 := by omega
          subst this
          exact absurd (Nat.div_eq_of_lt (by omega)) hb
      have H := Lib.hid (show fixedF n k = ([], 14) by unfold fixedF; rw [if_neg (by omega), if_pos (by simpa using hb)])
      have hq : ((n : Int) / 2 ^ (8 * k) != 0) = true := by rw [HP.out, bne_iff_ne]; omega
      clear hb
      go_enter Tryz.func63, Tryz.ntmps63
      go_wp2
      go_ret2
      refine ⟨none, 0, ?_, ?_, Gr.refl _⟩
      · rw [H.out]; rfl
      · rw [H.out]; exact Owns.empty _ _ _ _
/-- numbers in so many bytes -/
theorem Whole_any (ad : Option Addr) (len cap : Nat) (l : List UInt8) (w : World) (hl : l.length = len) (hm : len ≤ maxLen) (hb : Bytes w ad l) :
    Calls Tryz.prog 100 #[.slice ad len cap] w fun e w' => e = .returned (.tuple #[.int .u64 (wholeF l).1, .int .i64 (wholeF l).2]) ∧ w = w' := by
  subst hl
  unfold maxLen at hm
  by_cases h8 : 8 < l.length
  · have H := Lib.hid (show wholeF l = (0, 1) by unfold wholeF; rw [if_pos h8])
    go_enter Tryz.func100, Tryz.ntmps100
    go_wp2
    go_ret2
    exact ⟨by rw [H.out]; rfl, rfl⟩
  · have H := Lib.hid (show wholeF l = (le l, 0) by unfold wholeF; rw [if_neg h8])
    go_enter Tryz.func100, Tryz.ntmps100
    go_wp2
    go_loop [4, 5, 6, 12] (fun v _ _ i => ∃ k : Nat, k ≤ l.length ∧ i = .int .i64 k ∧ v = .int .u64 (le (l.take k))) (fun _ _ _ i => l.length - (intOf i).toNat)
    case atStart => exact ⟨0, Nat.zero_le _, rfl, rfl⟩
    case round =>
      obtain ⟨k, hk, rfl, rfl⟩ := hrel
      by_cases hlt : k < l.length
      · obtain ⟨b, off, rfl, hc⟩ := hb k hlt
        have hx := byte_hi l[k]
        have h1 := le_take l k (by omega) (by omega)
        have HO := Lib.hid (u64_shl_or (le (l.take k)) l[k].toNat (8 * k) h1.1 (by have := le_fits k l[k].toNat (by omega) l[k].toNat_lt; exact this) h1.2)
        have HT := Lib.hid (le_take_succ l k hlt)
        have h2 := h1.2
        clear h1
        go_wp2
        go_round
        case rel => exact ⟨k + 1, by omega, by go_num, by rw [HO.out, HT.out]⟩
        case measure => simp [intOf]; omega
      · obtain rfl : k = l.length := by omega
        have HL := Lib.hid (List.take_length (l := l))
        go_wp2
        go_ret2
        exact ⟨by rw [H.out]; simp only [List.take_length]; rfl, rfl⟩
end
theorem src_cell {P : Program} {u e e' : TypeId} (w : World) (v : Value) (hv : v.oneCell' = true) (hu : P.underlying u = some (.slice e')) :
    Src P u (w.alloc (.cells #[v] e)) 1 (.slice (some ⟨w.heap.size, 0, none⟩) 1 1) 1 [v] :=
  ⟨rfl, fun x hx => by rw [List.mem_singleton.1 hx]; exact hv, .inl ⟨_, _, e', rfl, Row.alloc w _ e (0, 0) _ rfl, hu⟩⟩
/-- appends to a slice since a world: its own block alone has changed, or it has a new one -/
def AppTo (w0 : World) (ad0 : Option Addr) (w : World) (ad : Option Addr) : Prop := w0.grownBy w (ad0.map (·.block)) ∧ ∀ a, ad = some a → ad0 = some a ∨ w0.heap.size ≤ a.block
theorem AppTo.refl (w : World) (ad : Option Addr) : AppTo w ad w ad := ⟨(Gr.refl w).far, fun _ h => .inl h⟩
theorem AppTo.gr {w0 w w' : World} {ad0 ad : Option Addr} (h : AppTo w0 ad0 w ad) (g : Gr w w') : AppTo w0 ad0 w' ad := ⟨grown_trans h.1 g.far, h.2⟩
theorem AppTo.step {w0 w w' : World} {ad0 ad ad' : Option Addr} (h : AppTo w0 ad0 w ad) (k : w.grownBy w' (ad.map (·.block))) (f : ∀ a, ad' = some a → ad = some a ∨ w.heap.size ≤ a.block) : AppTo w0 ad0 w' ad' := by
  refine ⟨⟨k.os.trans h.1.os, k.tape.trans h.1.tape, k.output.trans h.1.output, Nat.le_trans h.1.size k.size, fun j hj hne => ?_⟩, fun a ha => ?_⟩
  · refine (k.block j (Nat.lt_of_lt_of_le hj h.1.size) ?_).trans (h.1.block j hj hne)
    intro e
    cases ad with
    | none => cases e
    | some a =>
      cases e
      rcases h.2 a rfl with h2 | h2
      · exact hne (by rw [h2]; rfl)
      · exact absurd hj (Nat.not_lt.2 h2)
  · rcases f a ha with h2 | h2
    · exact h.2 a h2
    · exact .inr (Nat.le_trans h.1.size h2)
theorem AppTo.bytes {w0 w : World} {ad0 ad ads : Option Addr} {s : List UInt8} (h : AppTo w0 ad0 w ad) (hb : Bytes w0 ads s) (hf : 0 < s.length → ∀ a, ads = some a → some a.block ≠ ad0.map (·.block)) : Bytes w ads s := fun i hi => by
  obtain ⟨b, off, e, hc⟩ := hb i hi
  have := h.1.block b (World.block_lt_of_cell? w0 _ hc) (hf (by omega) _ e)
  refine ⟨b, off, e, ?_⟩
  unfold World.cell? at hc ⊢
  simp only at hc ⊢
  rw [this]; exact hc
theorem AppTo.back {w w0 w' : World} {ad0 ad' : Option Addr} (g : Gr w w0) (h : AppTo w0 ad0 w' ad') : AppTo w ad0 w' ad' :=
  ⟨grown_trans g.far h.1, fun a ha => (h.2 a ha).imp id (Nat.le_trans g.size)⟩
/-- what hands back a slice that more was put behind -/
def RetApp (B : Nat) (e : TypeId) (ad0 : Option Addr) (w : World) (l : List UInt8) : Ending → World → Prop := fun x w' =>
  ∃ ad cap, x = .returned (.slice ad l.length cap) ∧ Owns w' B e 1 ad cap l.length (bv l) ∧ AppTo w ad0 w' ad
open Bk
/-- pairs, as Go's values: two cells each -/
def pv (l : List Pr) : List Value := l.flatMap fun p => [.string (str p.1), .string (str p.2)]
theorem pv_append (l m : List Pr) : pv (l ++ m) = pv l ++ pv m := by simp [pv]
theorem pv_get (l : List Pr) : ∀ i (h : i < l.length), (pv l)[2 * i]? = some (.string (str l[i].1)) ∧ (pv l)[2 * i + 1]? = some (.string (str l[i].2)) := by
  induction l with
  | nil => intro i h; simp at h
  | cons p l ih =>
    intro i h
    cases i with
    | zero => simp [pv]
    | succ i =>
      have := ih i (by simp at h; omega)
      simp only [pv, List.flatMap_cons, List.getElem_cons_succ] at this ⊢
      rw [show 2 * (i + 1) = 2 * i + 1 + 1 by omega, show 2 * i + 1 + 1 + 1 = 2 * i + 1 + 1 + 1 from rfl]
      exact this
theorem pv_one (l : List Pr) : ∀ v ∈ pv l, v.oneCell' = true := by
  intro v hv
  simp only [pv, List.mem_flatMap] at hv
  obtain ⟨p, _, h⟩ := hv
  simp only [List.mem_cons, List.not_mem_nil, or_false] at h
  rcases h with rfl | rfl <;> rfl
theorem elemP : Elem Tryz.prog 79 105 (.agg #[.string ⟨#[]⟩, .string ⟨#[]⟩]) 2 32 := ⟨by kernel_rfl, by kernel_rfl, rfl, by decide⟩
/-- where a pair of a row lies -/
theorem Row.pair {w : World} {ad : Option Addr} {l : List Pr} (h : Row w ad (pv l)) (i : Nat) (hi : i < l.length) :
    ∃ b off, ad = some ⟨b, off, none⟩ ∧ w.cell? ⟨b, off + i * 2, none⟩ = some (.string (str l[i].1)) ∧ w.cell? ⟨b, off + i * 2 + 1, none⟩ = some (.string (str l[i].2)) := by
  obtain ⟨h1, h2⟩ := pv_get l i hi
  obtain ⟨b, off, e, c1⟩ := h (2 * i) _ h1
  obtain ⟨b', off', e', c2⟩ := h (2 * i + 1) _ h2
  rw [e] at e'
  cases e'
  rw [Nat.mul_comm 2 i] at c1 c2
  exact ⟨b, off, e, c1, c2⟩
end Go.Proofs.YtpaogoehgkoaeaaGreatDoor
/- Layer 13 (block): check. -/
namespace Go.Proofs.YtpaogoehgkoaeaaGreatDoor
set_option linter.unusedVariables false
set_option linter.unusedSimpArgs false
open Go.RowKit Bk
open Go.Op (bytesLess)
theorem long_any (p : Pr) (w : World) : Calls Tryz.prog 171 #[.agg #[.string (str p.1), .string (str p.2)]] w fun e w' => e = .returned (.bool (longB p)) ∧ Gr w w' := by
  obtain ⟨k, v⟩ := p
  have hI : ∀ a n : Nat, decide ((a : Int) < (n : Int)) = decide (a < n) := fun a n => by rw [decide_eq_decide]; omega
  have HL := Lib.hid (show longB (k, v) = (decide ((200 : Int) < (k.length : Int)) || decide ((2000 : Int) < (v.length : Int))) by
    show _ = (decide (((200 : Nat) : Int) < (k.length : Int)) || decide (((2000 : Nat) : Int) < (v.length : Int)))
    rw [hI, hI]; rfl)
  dsimp only
  by_cases h1 : (200 : Int) < (k.length : Int)
  · go_enter Tryz.func171, Tryz.ntmps171
    go_wp2
    go_ret
    exact ⟨by rw [HL.out, decide_eq_true h1]; simp [h1], Gr.alloc _ _⟩
  · go_enter Tryz.func171, Tryz.ntmps171
    go_wp2
    go_ret
    exact ⟨by rw [HL.out, show decide ((200 : Int) < (k.length : Int)) = false from decide_eq_false (by omega)]; rfl, Gr.alloc _ _⟩
set_option maxRecDepth 100000 in
theorem index_long (ad : Option Addr) (cap : Nat) (l : List Pr) (w : World) (hl : l.length ≤ 9223372036854775807) (hr : Row w ad (pv l)) :
    Calls Tryz.prog 187 #[.slice ad l.length cap, .func (.func 171) #[] #[]] w fun e w' => ∃ z : Int, e = .returned (.int .i64 z) ∧ decide (0 ≤ z) = l.any longB ∧ Gr w w' := by
  have HR := Lib.hid hr.pair; clear hr
  go_enter Tryz.func187, Tryz.ntmps187
  go_wp2
  go_loopw [8] (fun v wr => ∃ i : Nat, i ≤ l.length ∧ v = .int .i64 (i : Int) ∧ Gr w wr ∧ (l.take i).any longB = false) (fun v _ => l.length - (intOf v).toNat)
  case atStart => exact ⟨0, Nat.zero_le _, rfl, Gr.refl _, rfl⟩
  case round =>
    obtain ⟨i, hi, rfl, hg, hn⟩ := hrel
    have HN := Lib.hid hn; clear hn
    by_cases hlt : i < l.length
    · obtain ⟨b, off, rfl, hc1, hc2⟩ := HR.out i hlt
      have q1 := hg.cell hc1
      have q2 := hg.cell hc2
      have HT := Lib.hid (show (l.take (i + 1)).any longB = longB l[i] by rw [List.take_succ_eq_append_getElem hlt, List.any_append, HN.out]; simp)
      have HM := Lib.hid (List.getElem_mem hlt)
      have HA := Lib.hid (fun w => long_any l[i] w)
      generalize l[i] = p at *
      cases hb : longB p with
      | true =>
        rw [hb] at HA
        have HB := Lib.hid hb; clear hb
        go_wp2_with (go_at_call 171; refine (HA.out _).mono ?_; rintro e w1 ⟨rfl, g1⟩)
        go_ret
        exact ⟨_, rfl, by rw [List.any_eq_true.2 ⟨p, HM.out, HB.out⟩]; simp, hg.trans g1⟩
      | false =>
        rw [hb] at HA HT
        have HB := Lib.hid hb; clear hb
        go_wp2_with (go_at_call 171; refine (HA.out _).mono ?_; rintro e w1 ⟨rfl, g1⟩)
        go_roundw
        case rel => exact ⟨i + 1, hlt, by go_num, hg.trans g1, HT.out⟩
        case measure => simp [intOf]; omega
    · obtain rfl : i = l.length := by omega
      go_wp2
      go_ret
      exact ⟨_, rfl, by have := HN.out; rw [List.take_length] at this; rw [this]; rfl, hg⟩
theorem contains_long (ad : Option Addr) (cap : Nat) (l : List Pr) (w : World) (hl : l.length ≤ 9223372036854775807) (hr : Row w ad (pv l)) :
    Calls Tryz.prog 172 #[.slice ad l.length cap, .func (.func 171) #[] #[]] w fun e w' => e = .returned (.bool (l.any longB)) ∧ Gr w w' := by
  have HI := Lib.hid (index_long ad cap l w hl hr)
  go_enter Tryz.func172, Tryz.ntmps172
  go_wp2_with (go_at_call 187; refine HI.out.mono ?_; rintro e w1 ⟨z, rfl, hz, g1⟩)
  go_ret
  exact ⟨by rw [← hz]; rfl, g1⟩
theorem check_arg (ad : Option Addr) (cap : Nat) (l : List Pr) (itv : Int) (w : World) (hi : itv < 1 ∨ 64 < itv) :
    Calls Tryz.prog 135 #[.slice ad l.length cap, .int .i64 itv] w fun e w' => e = .returned (.int .i64 1) ∧ Gr w w' := by
  rcases hi with h | h
  · go_enter Tryz.func135, Tryz.ntmps135
    go_wp2
    go_ret
    exact ⟨rfl, Gr.refl _⟩
  · go_enter Tryz.func135, Tryz.ntmps135
    go_wp2
    go_ret
    exact ⟨rfl, Gr.refl _⟩
theorem check_big (ad : Option Addr) (cap : Nat) (l : List Pr) (itv : Int) (w : World) (h1 : 1 ≤ itv) (h2 : itv ≤ 64) (hl : l.length ≤ 9223372036854775807) (hr : Row w ad (pv l)) (hb : 10000 < l.length ∨ l.any longB = true) :
    Calls Tryz.prog 135 #[.slice ad l.length cap, .int .i64 itv] w fun e w' => e = .returned (.int .i64 14) ∧ Gr w w' := by
  have HC := Lib.hid (contains_long ad cap l w hl hr)
  by_cases h3 : 10000 < l.length
  · clear hb
    go_enter Tryz.func135, Tryz.ntmps135
    go_wp2
    go_ret
    exact ⟨rfl, Gr.refl _⟩
  · have hb2 : l.any longB = true := by rcases hb with h | h; · exact absurd h h3
                                        · exact h
    rw [hb2] at HC
    clear hb hb2
    go_enter Tryz.func135, Tryz.ntmps135
    go_wp2_with (go_at_call 172; refine HC.out.mono ?_; rintro e w1 ⟨rfl, g1⟩)
    go_ret
    exact ⟨rfl, g1⟩
set_option maxRecDepth 100000 in
set_option maxHeartbeats 1000000 in
theorem check_rest (ad : Option Addr) (cap : Nat) (l : List Pr) (itv : Int) (w : World) (h1 : 1 ≤ itv) (h2 : itv ≤ 64) (hr : Row w ad (pv l)) (hl : l.length ≤ 10000) (hb : l.any longB = false) :
    Calls Tryz.prog 135 #[.slice ad l.length cap, .int .i64 itv] w fun e w' => e = .returned (.int .i64 (if riseB l then 0 else 2)) ∧ Gr w w' := by
  have HC := Lib.hid (contains_long ad cap l w (by omega) hr)
  rw [hb] at HC
  have HR := Lib.hid hr.pair; clear hr hb
  have hchk : ∃ c : Int, c = (if riseB l then 0 else 2) := ⟨_, rfl⟩
  obtain ⟨c, hc⟩ := hchk
  have HCC := Lib.hid hc
  rw [← hc]
  clear hc
  go_enter Tryz.func135, Tryz.ntmps135
  go_wp2_with (go_at_call 172; refine HC.out.mono ?_; rintro e w1 ⟨rfl, g1⟩)
  go_loopw [6] (fun v wr => ∃ i : Nat, 1 ≤ i ∧ (i ≤ l.length ∨ i = 1) ∧ v = .int .i64 (i : Int) ∧ Gr w wr ∧ (∀ j, j + 1 < i → bytesLess (l.getD j noPr).1 (l.getD (j + 1) noPr).1 = true)) (fun v _ => l.length - (intOf v).toNat)
  case atStart => exact ⟨1, Nat.le_refl _, .inr rfl, rfl, g1, fun j hj => by omega⟩
  case round =>
    obtain ⟨i, hi1, hi2, rfl, hg, hn⟩ := hrel
    have HN := Lib.hid hn; clear hn
    by_cases hlt : i < l.length
    · obtain ⟨i0, rfl⟩ : ∃ i0, i = i0 + 1 := ⟨i - 1, by omega⟩
      obtain ⟨b, off, rfl, hc1, hc2⟩ := HR.out (i0 + 1) hlt
      obtain ⟨b', off', e', hc3, hc4⟩ := HR.out i0 (by omega)
      cases e'
      have q1 := hg.cell hc1
      have q3 := hg.cell hc3
      have hlt0 : i0 < l.length := by omega
      have G1 := Lib.hid (show l.getD (i0 + 1) noPr = l[i0 + 1] by rw [List.getD_eq_getElem?_getD, List.getElem?_eq_getElem hlt, Option.getD_some])
      have G0 := Lib.hid (show l.getD i0 noPr = l[i0] by rw [List.getD_eq_getElem?_getD, List.getElem?_eq_getElem hlt0, Option.getD_some])
      clear hc1 hc2 hc3 hc4
      generalize l[i0 + 1] = p at *
      generalize l[i0] = p0 at *
      have HJ := Lib.hid (show ∀ j, j + 1 < i0 + 1 + 1 → j + 1 < i0 + 1 ∨ j = i0 from fun j hj => by omega)
      cases hb : bytesLess p0.1 p.1 with
      | true =>
        have HB := Lib.hid hb
        have x1 := bl_asymm hb
        have x2 : (p.1 == p0.1) = false := by rw [beq_eq_false_iff_ne]; intro e; rw [e, bl_irr] at hb; cases hb
        clear hb
        go_wp2
        go_quiet (fail)
        go_wp2
        go_roundw
        case rel =>
          refine ⟨i0 + 1 + 1, by omega, .inl (by omega), by go_num, hg.trans (Gr.drewN _ _), fun j hj => ?_⟩
          rcases HJ.out j hj with h | rfl
          · exact HN.out j h
          · rw [G0.out, G1.out]; exact HB.out
        case measure => simp [intOf]; omega
      | false =>
        have HF := Lib.hid (show riseB l = false by
          rw [Bool.eq_false_iff]; intro h
          have := riseB_iff.1 h i0 hlt
          rw [G0.out, G1.out, hb] at this; cases this)
        cases hc : bytesLess p.1 p0.1 with
        | true =>
          clear hb
          go_wp2
          go_quiet (fail)
          go_wp2
          go_ret
          exact ⟨by rw [HCC.out, HF.out]; rfl, hg.trans (Gr.drewN _ _)⟩
        | false =>
          have x2 : (p.1 == p0.1) = true := by rw [beq_iff_eq]; exact bl_total hc hb
          clear hb
          go_wp2
          go_quiet (fail)
          go_wp2
          go_ret
          exact ⟨by rw [HCC.out, HF.out]; rfl, hg.trans (Gr.drewN _ _)⟩
    · go_wp2
      go_ret
      refine ⟨?_, hg⟩
      rw [HCC.out, if_pos (riseB_iff.2 fun j hj => HN.out j (by omega))]
      rfl
end Go.Proofs.YtpaogoehgkoaeaaGreatDoor
/- Layer 13 (block): common, fixed. -/
namespace Go.Proofs.YtpaogoehgkoaeaaGreatDoor
set_option linter.unusedVariables false
set_option linter.unusedSimpArgs false
open Go.RowKit Bk
open Go.Op (bytesLess)
set_option maxRecDepth 100000 in
set_option maxHeartbeats 1000000 in
theorem common_any (a b : List UInt8) (w : World) (ha : a.length ≤ 9223372036854775806) (hb : b.length ≤ 9223372036854775806) :
    Calls Tryz.prog 137 #[.string (str a), .string (str b)] w fun e w' => e = .returned (.int .i64 (comF a b : Nat)) ∧ Gr w w' := by
  go_enter Tryz.func137, Tryz.ntmps137
  go_wp2
  go_loopw [5] (fun v wr => ∃ n : Nat, n ≤ a.length ∧ n ≤ b.length ∧ v = .int .i64 (n : Int) ∧ Gr w wr ∧ comF a b = n + comF (a.drop n) (b.drop n)) (fun v _ => a.length - (intOf v).toNat)
  case atStart => exact ⟨0, Nat.zero_le _, Nat.zero_le _, rfl, Gr.refl _, by simp⟩
  case round =>
    obtain ⟨n, hn1, hn2, rfl, hg0, hc⟩ := hrel
    obtain ⟨m, hm⟩ : ∃ m, m = min a.length b.length := ⟨_, rfl⟩
    have hmin : min (a.length : Int) (b.length : Int) = (m : Int) := by omega
    obtain ⟨m1, m2, m3⟩ : m ≤ a.length ∧ m ≤ b.length ∧ (a.length ≤ m ∨ b.length ≤ m) := by omega
    clear hm
    by_cases hlt : n < m
    · have k1 : n < a.length := by omega
      have k2 : n < b.length := by omega
      by_cases he : a[n]'k1 = b[n]'k2
      · have HC := Lib.hid (hc.trans (congrArg (n + ·) (comF_step k1 k2 he)))
        have hbe : (((a[n]'k1).toNat : Int) == ((b[n]'k2).toNat : Int)) = true := by rw [he]; simp
        clear hc he
        go_wp2
        refine region_any_gr _ [Is ?r0, Is ?r1, Is (.int .i64 (a.length : Int)), Is ?r3, Is (.int .i64 (b.length : Int)), Is (.int .i64 (m : Int)), Is (.bool true), Is (.bool true), Is (.string (str a)), Is (.int .i64 (n : Int)), Is (.int .u8 ((a[n]'k1).toNat : Int)), Is (.string (str b)), Is (.int .i64 (n : Int)), Is (.int .u8 ((b[n]'k2).toNat : Int)), Is (.bool true), Is (.bool true)] (by kernel_rfl) (by kernel_rfl) (by kernel_rfl) rfl rfl ⟨Is.stable _, Is.stable _, Is.stable _, Is.stable _, Is.stable _, Is.stable _, Is.stable _, Is.stable _, Is.stable _, Is.stable _, Is.stable _, Is.stable _, Is.stable _, Is.stable _, Is.stable _, Is.stable _, trivial⟩ ⟨?s0, ?s1, ?s2, ?s3, ?s4, ?s5, ?s6, ?s7, ?s8, ?s9, ?s10, ?s11, ?s12, ?s13, ?s14, ?s15, trivial⟩ ?fin
        case' s0 | s1 | s2 | s3 | s4 | s5 | s6 | s7 | s8 | s9 | s10 | s11 | s12 | s13 | s14 | s15 =>
          intro ρ wr hρ hg hK
          simp [readsOf, slotsOf, Op.operands, Call.operands, tmpOf, List.filterMap_cons, List.filterMap_nil, KnownAll, knownOf, srcOf, depsOf, dstOf, Region.binds, nth, Is] at hK
          obtain ⟨hc, hf, hgl⟩ := hρ
          try simp only [wantedBy, dstOf, boolOf, nth, List.getD_cons_zero, List.getD_cons_succ, List.getElem?_cons_zero, List.getElem?_cons_succ, Option.bind_some, if_true, hK, BEq.rfl]
          try go_simp
          first | exact rfl | (rw [if_pos (by omega)]; exact is_here rfl) | (rw [dif_pos (by omega)]; exact is_here rfl) | exact congrArg (Value.int _) (IntWalk.i64_in _ ⟨by omega, by omega⟩) | skip
        case fin =>
          intro w1 val hg hH
          simp only [Holds, Is, Nat.zero_add, Nat.reduceAdd] at hH
          obtain ⟨h0, h1, h2, h3, h4, h5, h6, h7, h8, h9, h10, h11, h12, h13, h14, h15, _⟩ := hH
          simp only [List.take_succ_cons, List.take_zero, List.drop_succ_cons, List.drop_zero, putAll, h0, h1, h2, h3, h4, h5, h6, h7, h8, h9, h10, h11, h12, h13, h14, h15, Nat.zero_add, Nat.reduceAdd]
          go_simp
          go_wp2
          go_roundw
          case rel => exact ⟨n + 1, k1, k2, by go_num, hg0.trans hg, by rw [HC.out]; omega⟩
          case measure => simp [intOf]; omega
      · have HC := Lib.hid (show comF a b = n by rw [hc, comF_stop k1 k2 he]; rfl)
        have hbe : (((a[n]'k1).toNat : Int) == ((b[n]'k2).toNat : Int)) = false := by
          rw [beq_eq_false_iff_ne]; intro h; exact he (UInt8.toNat_inj.1 (by omega))
        clear hc he
        go_wp2
        refine region_any_gr _ [Is ?r0x1, Is ?r1x1, Is (.int .i64 (a.length : Int)), Is ?r3x1, Is (.int .i64 (b.length : Int)), Is (.int .i64 (m : Int)), Is (.bool true), Is (.bool true), Is (.string (str a)), Is (.int .i64 (n : Int)), Is (.int .u8 ((a[n]'k1).toNat : Int)), Is (.string (str b)), Is (.int .i64 (n : Int)), Is (.int .u8 ((b[n]'k2).toNat : Int)), Is (.bool false), Is (.bool false)] (by kernel_rfl) (by kernel_rfl) (by kernel_rfl) rfl rfl ⟨Is.stable _, Is.stable _, Is.stable _, Is.stable _, Is.stable _, Is.stable _, Is.stable _, Is.stable _, Is.stable _, Is.stable _, Is.stable _, Is.stable _, Is.stable _, Is.stable _, Is.stable _, Is.stable _, trivial⟩ ⟨?s0x1, ?s1x1, ?s2x1, ?s3x1, ?s4x1, ?s5x1, ?s6x1, ?s7x1, ?s8x1, ?s9x1, ?s10x1, ?s11x1, ?s12x1, ?s13x1, ?s14x1, ?s15x1, trivial⟩ ?finx1
        case' s0x1 | s1x1 | s2x1 | s3x1 | s4x1 | s5x1 | s6x1 | s7x1 | s8x1 | s9x1 | s10x1 | s11x1 | s12x1 | s13x1 | s14x1 | s15x1 =>
          intro ρ wr hρ hg hK
          simp [readsOf, slotsOf, Op.operands, Call.operands, tmpOf, List.filterMap_cons, List.filterMap_nil, KnownAll, knownOf, srcOf, depsOf, dstOf, Region.binds, nth, Is] at hK
          obtain ⟨hc, hf, hgl⟩ := hρ
          try simp only [wantedBy, dstOf, boolOf, nth, List.getD_cons_zero, List.getD_cons_succ, List.getElem?_cons_zero, List.getElem?_cons_succ, Option.bind_some, if_true, hK, BEq.rfl]
          try go_simp
          first | exact rfl | (rw [if_pos (by omega)]; exact is_here rfl) | (rw [dif_pos (by omega)]; exact is_here rfl) | exact congrArg (Value.int _) (IntWalk.i64_in _ ⟨by omega, by omega⟩) | skip
        case finx1 =>
          intro w1 val hg hH
          simp only [Holds, Is, Nat.zero_add, Nat.reduceAdd] at hH
          obtain ⟨h0, h1, h2, h3, h4, h5, h6, h7, h8, h9, h10, h11, h12, h13, h14, h15, _⟩ := hH
          simp only [List.take_succ_cons, List.take_zero, List.drop_succ_cons, List.drop_zero, putAll, h0, h1, h2, h3, h4, h5, h6, h7, h8, h9, h10, h11, h12, h13, h14, h15, Nat.zero_add, Nat.reduceAdd]
          go_simp
          go_wp2
          go_ret
          exact ⟨by rw [HC.out]; rfl, hg0.trans hg⟩
    · have HC := Lib.hid (show comF a b = n by rw [hc, comF_end (by omega)]; rfl)
      clear hc
      go_wp2
      refine region_any_gr _ [Is ?r0x2, Is ?r1x2, Is (.int .i64 (a.length : Int)), Is ?r3x2, Is (.int .i64 (b.length : Int)), Is (.int .i64 (m : Int)), Is (.bool false), Is (.bool false), Is (undef), Is (undef), Is (undef), Is (undef), Is (undef), Is (undef), Is (undef), Is (.bool false)] (by kernel_rfl) (by kernel_rfl) (by kernel_rfl) rfl rfl ⟨Is.stable _, Is.stable _, Is.stable _, Is.stable _, Is.stable _, Is.stable _, Is.stable _, Is.stable _, Is.stable _, Is.stable _, Is.stable _, Is.stable _, Is.stable _, Is.stable _, Is.stable _, Is.stable _, trivial⟩ ⟨?s0x2, ?s1x2, ?s2x2, ?s3x2, ?s4x2, ?s5x2, ?s6x2, ?s7x2, ?s8x2, ?s9x2, ?s10x2, ?s11x2, ?s12x2, ?s13x2, ?s14x2, ?s15x2, trivial⟩ ?finx2
      case' s0x2 | s1x2 | s2x2 | s3x2 | s4x2 | s5x2 | s6x2 | s7x2 | s8x2 | s9x2 | s10x2 | s11x2 | s12x2 | s13x2 | s14x2 | s15x2 =>
        intro ρ wr hρ hg hK
        simp [readsOf, slotsOf, Op.operands, Call.operands, tmpOf, List.filterMap_cons, List.filterMap_nil, KnownAll, knownOf, srcOf, depsOf, dstOf, Region.binds, nth, Is] at hK
        obtain ⟨hc, hf, hgl⟩ := hρ
        try simp only [wantedBy, dstOf, boolOf, nth, List.getD_cons_zero, List.getD_cons_succ, List.getElem?_cons_zero, List.getElem?_cons_succ, Option.bind_some, if_true, hK, BEq.rfl]
        try go_simp
        first | exact rfl | (rw [if_pos (by omega)]; exact is_here rfl) | (rw [dif_pos (by omega)]; exact is_here rfl) | exact congrArg (Value.int _) (IntWalk.i64_in _ ⟨by omega, by omega⟩) | skip
      case finx2 =>
        intro w1 val hg hH
        simp only [Holds, Is, Nat.zero_add, Nat.reduceAdd] at hH
        obtain ⟨h0, h1, h2, h3, h4, h5, h6, h7, h8, h9, h10, h11, h12, h13, h14, h15, _⟩ := hH
        simp only [List.take_succ_cons, List.take_zero, List.drop_succ_cons, List.drop_zero, putAll, h0, h1, h2, h3, h4, h5, h6, h7, h8, h9, h10, h11, h12, h13, h14, h15, Nat.zero_add, Nat.reduceAdd]
        go_simp
        go_wp2
        go_ret
        exact ⟨by rw [HC.out]; rfl, hg0.trans hg⟩
theorem Fixed_at (X : Int) (n k : Nat) (S : Int) (w : World) (hX : X = (n : Int)) (hS : S = (k : Int)) (hk : k ≤ 8) (hn : n < 256 ^ k) : Calls Tryz.prog 63 #[.int .u64 X, .int .i64 S] w (RetBE 5 w (Varint.bytesN k n) 0) := by
  subst hX; subst hS
  have h8 : 256 ^ k ≤ 256 ^ 8 := Nat.pow_le_pow_right (by decide) hk
  have h := Fixed_any n (k : Int) w (by omega) (by omega) (by omega)
  have e : Varint.fixedF n (k : Int) = (Varint.bytesN k n, 0) := by
    unfold Varint.fixedF
    rw [if_neg (by omega), if_neg (by rw [Int.toNat_natCast]; exact fun h => h (Nat.div_eq_of_lt hn))]
    rfl
  rw [e] at h
  exact h
set_option maxRecDepth 100000 in
theorem fixed_any (B : Nat) (adb : Option Addr) (capb : Nat) (l : List UInt8) (X S : Int) (n k : Nat) (w : World) (hX : X = (n : Int)) (hS : S = (k : Int)) (ho : Owns w B 5 1 adb capb l.length (bv l)) (hB : B ≤ w.heap.size)
    (hk : k ≤ 8) (hn : n < 256 ^ k) (hl : l.length ≤ 70368744177664) :
    Calls Tryz.prog 136 #[.slice adb l.length capb, .int .i64 X, .int .i64 S] w (RetApp B 5 adb w (l ++ Varint.bytesN k n)) := by
  subst hX hS
  have h8 : 256 ^ k ≤ 256 ^ 8 := Nat.pow_le_pow_right (by decide) hk
  have hn9 : n < 18446744073709551616 := by omega
  have HN := Lib.hid hn
  clear hn h8
  have HF := Lib.hid (fun w X hX => Fixed_at X n k (k : Int) w hX rfl hk HN.out)
  have hbl := Varint.bytesN_len k n
  have hbl8 : (Varint.bytesN k n).length ≤ 8 := by omega
  have m1 : l.length + (Varint.bytesN k n).length ≤ maxLen := by unfold maxLen; omega
  have m1' : (l.length + (Varint.bytesN k n).length) * 1 ≤ 140737488355328 := by omega
  generalize Varint.bytesN k n = x at *
  clear hbl
  go_enter Tryz.func136, Tryz.ntmps136
  go_wp2_with (first
    | (go_at_call 63; refine (HF.out _ _ (by simp)).mono ?_; rintro e w1 ⟨ad1, c1, rfl, o1, g1⟩; have ho1 := ho.gr g1; have hB1 := Nat.le_trans hB g1.size)
    | (at_builtin; refine wp_append elemB rfl _ _ rfl rfl ho1 rfl (Src.bytes o1.bytes rfl Tryz.underlying31) m1 m1' hB1 ?_; intro ad2 c2 w2 o2 k2 f2))
  go_ret
  refine ⟨ad2, c2, by rw [List.length_append]; rfl, by rw [List.length_append, bv_append]; exact o2, AppTo.back g1 ((AppTo.refl w1 adb).step k2 f2)⟩
end Go.Proofs.YtpaogoehgkoaeaaGreatDoor
/- Layer 13 (block): Build. -/
namespace Go.Proofs.YtpaogoehgkoaeaaGreatDoor
set_option linter.unusedVariables false
set_option linter.unusedSimpArgs false
open Go.RowKit Bk
open Go.Op (bytesLess)
/-- two slices that lie in blocks of their own -/
def Apart (x y : Option Addr) : Prop := ∀ a b, x = some a → y = some b → a.block ≠ b.block
theorem Apart.symm {x y : Option Addr} (h : Apart x y) : Apart y x := fun a b ha hb e => h b a hb ha e.symm
theorem Apart.none (y : Option Addr) : Apart .none y := fun a b h => by cases h
theorem Apart.step {x x' y : Option Addr} {w w' : World} {r : Option Nat} {B : Nat} {e : TypeId} {cap n : Nat} {xs : List Value} (h : Apart x y) (_ : w.grownBy w' r) (f : ∀ a, x' = some a → x = some a ∨ w.heap.size ≤ a.block) (o : Owns w B e 1 y cap n xs) : Apart x' y := by
  intro a b ha hb
  rcases f a ha with h1 | h1
  · exact h a b h1 hb
  · have := (o.lt b hb).2; omega
theorem Owns.keep {w w' : World} {B : Nat} {e : TypeId} {cap n : Nat} {xs : List Value} {x y : Option Addr} (o : Owns w B e 1 y cap n xs) (g : w.grownBy w' (x.map (·.block))) (h : Apart x y) : Owns w' B e 1 y cap n xs :=
  o.grown g (fun b hb e => by
    cases x with
    | none => cases e
    | some a => exact h a b rfl hb (Option.some.inj e).symm)
theorem row_from {w : World} {B : Nat} {e : TypeId} {ad : Option Addr} {size cap n : Nat} {xs : List Value} (ho : Owns w B e size ad cap n xs) : ∀ k, ad.map (·.block) = some k → B ≤ k := by
  intro k hk
  cases ad with
  | none => cases hk
  | some x => cases hk; exact (ho.lt x rfl).1
theorem check_any (ad : Option Addr) (cap : Nat) (l : List Pr) (itv : Int) (w : World) (hr : Row w ad (pv l)) (hl : l.length ≤ 9223372036854775807) :
    Calls Tryz.prog 135 #[.slice ad l.length cap, .int .i64 itv] w fun e w' => e = .returned (.int .i64 (chkF l itv : Nat)) ∧ Gr w w' := by
  unfold chkF
  by_cases h1 : itv < 1 ∨ 64 < itv
  · rw [if_pos h1]; exact check_arg ad cap l itv w h1
  · rw [if_neg h1]
    by_cases h2 : 10000 < l.length ∨ l.any longB = true
    · rw [if_pos h2]; exact check_big ad cap l itv w (by omega) (by omega) hl hr h2
    · rw [if_neg h2]
      have h3 : ¬ 10000 < l.length ∧ ¬ l.any longB = true := not_or.1 h2
      refine (check_rest ad cap l itv w (by omega) (by omega) hr (by omega) (by simpa using h3.2)).mono ?_
      rintro e w' ⟨rfl, g⟩
      refine ⟨?_, g⟩
      split <;> rfl
set_option maxRecDepth 100000 in
theorem Build_bad (ad : Option Addr) (cap : Nat) (l : List Pr) (itv : Int) (w : World) (hr : Row w ad (pv l)) (hl : l.length ≤ 9223372036854775807) (hc : chkF l itv ≠ 0) :
    Calls Tryz.prog 94 #[.slice ad l.length cap, .int .i64 itv] w (RetBE 5 w [] (chkF l itv)) := by
  have HC := Lib.hid (check_any ad cap l itv w hr hl)
  generalize chkF l itv = c at *
  have hne : ((c : Int) != 0) = true := by rw [bne_iff_ne]; omega
  go_enter Tryz.func94, Tryz.ntmps94
  go_wp2_with (go_at_call 135; refine HC.out.mono ?_; rintro e w1 ⟨rfl, g1⟩)
  go_ret2
  exact ⟨none, 0, rfl, Owns.empty _ _ _ _, g1⟩
theorem Put_at (X : Int) (n : Nat) (w : World) (hX : X = (n : Int)) (hn : n < 18446744073709551616) : Calls Tryz.prog 34 #[.int .u64 X] w (RetB 5 w (Varint.putF n)) := by
  subst hX; exact Put_any n w hn
theorem Blk.two {w : World} {g : Nat} {t : TypeId} {a b : Value} (h : Blk w g t [a, b]) : w.cell? ⟨g, 0, none⟩ = some a ∧ w.cell? ⟨g, 1, none⟩ = some b := ⟨h.cell (i := 0) rfl, h.cell (i := 1) rfl⟩
theorem fixed_at (B : Nat) (adb : Option Addr) (capb : Nat) (l : List UInt8) (m : Nat) (X S : Int) (n k : Nat) (w : World) (hm : m = l.length) (hX : X = (n : Int)) (hS : S = (k : Int)) (ho : Owns w B 5 1 adb capb m (bv l)) (hB : B ≤ w.heap.size)
    (hk : k ≤ 8) (hn : n < 256 ^ k) (hl : l.length ≤ 70368744177664) :
    Calls Tryz.prog 136 #[.slice adb m capb, .int .i64 X, .int .i64 S] w (RetApp B 5 adb w (l ++ Varint.bytesN k n)) := by
  subst hm; exact fixed_any B adb capb l X S n k w hX hS ho hB hk hn hl
/-- where Build stands within a round: the pairs' bytes, the places, the pair that it is at -/
structure Sit (w : World) (g : Nat) (k v : List UInt8) (adb : Option Addr) (cb : Nat) (D : List UInt8) (adp : Option Addr) (cp : Nat) (Pc : List UInt8) (wr : World) : Prop where
  ob : Owns wr w.heap.size 5 1 adb cb D.length (bv D)
  op : Owns wr w.heap.size 5 1 adp cp Pc.length (bv Pc)
  ap : Apart adb adp
  gr : Gr w wr
  blk : Blk wr g 105 [.string (str k), .string (str v)]
  nb : ∀ a, adb = some a → a.block ≠ g
  np : ∀ a, adp = some a → a.block ≠ g
section
variable {w wr w' : World} {g : Nat} {k v D Pc : List UInt8} {adb adp : Option Addr} {cb cp : Nat}
theorem Sit.start (ob : Owns wr w.heap.size 5 1 adb cb D.length (bv D)) (op : Owns wr w.heap.size 5 1 adp cp Pc.length (bv Pc)) (ap : Apart adb adp) (hg : Gr w wr) :
    Sit w wr.heap.size k v adb cb D adp cp Pc (wr.alloc (.cells #[.string (str k), .string (str v)] 105)) :=
  ⟨ob.gr (Gr.alloc _ _), op.gr (Gr.alloc _ _), ap, hg.trans (Gr.alloc _ _), Blk.new _ _ _, fun a ha => Nat.ne_of_lt (ob.lt a ha).2, fun a ha => Nat.ne_of_lt (op.lt a ha).2⟩
theorem Sit.more (s : Sit w g k v adb cb D adp cp Pc wr) (h : Gr wr w') : Sit w g k v adb cb D adp cp Pc w' :=
  ⟨s.ob.gr h, s.op.gr h, s.ap, s.gr.trans h, s.blk.gr h, s.nb, s.np⟩
theorem ne_step {ad ad' : Option Addr} (h : ∀ a, ad = some a → a.block ≠ g) (f : ∀ a, ad' = some a → ad = some a ∨ wr.heap.size ≤ a.block) (hg : g < wr.heap.size) : ∀ a, ad' = some a → a.block ≠ g := fun a ha => by
  rcases f a ha with h1 | h1
  · exact h a h1
  · omega
theorem row_ne {ad : Option Addr} (h : ∀ a, ad = some a → a.block ≠ g) : some g ≠ ad.map (·.block) := by
  cases ad with
  | none => intro e; cases e
  | some a => intro e; simp only [Option.map_some, Option.some.injEq] at e; exact h a rfl e.symm
theorem Sit.app (s : Sit w g k v adb cb D adp cp Pc wr) {adb' : Option Addr} {cb' n' : Nat} {D' : List UInt8} (kk : wr.grownBy w' (adb.map (·.block))) (f : ∀ a, adb' = some a → adb = some a ∨ wr.heap.size ≤ a.block)
    (o : Owns w' w.heap.size 5 1 adb' cb' n' (bv D')) : Sit w g k v adb' cb' D' adp cp Pc w' := by
  have hn : n' = D'.length := by have := o.1; rw [bv_length] at this; omega
  subst hn
  exact ⟨o, s.op.keep kk s.ap, s.ap.step kk f s.op, s.gr.grown kk (row_from s.ob), s.blk.grown kk (row_ne s.nb), ne_step s.nb f s.blk.lt, s.np⟩
theorem Sit.place (s : Sit w g k v adb cb D adp cp Pc wr) {adp' : Option Addr} {cp' : Nat} {P' : List UInt8} (t : AppTo wr adp w' adp')
    (o : Owns w' w.heap.size 5 1 adp' cp' P'.length (bv P')) : Sit w g k v adb cb D adp' cp' P' w' :=
  ⟨s.ob.keep t.1 s.ap.symm, o, (s.ap.symm.step t.1 t.2 s.ob).symm, s.gr.grown t.1 (row_from s.op), s.blk.grown t.1 (row_ne s.np), s.nb, ne_step s.np t.2 s.blk.lt⟩
end
set_option maxRecDepth 100000 in
set_option maxHeartbeats 4000000 in
theorem Build_ok (ad : Option Addr) (cap : Nat) (l : List Pr) (itv : Nat) (w : World) (hr : Row w ad (pv l)) (h1 : 1 ≤ itv) (h2 : itv ≤ 64) (hl : l.length ≤ 10000) (hlong : l.any longB = false) (hc : chkF l itv = 0) :
    Calls Tryz.prog 94 #[.slice ad l.length cap, .int .i64 (itv : Int)] w (RetBE 5 w (buildF itv l) 0) := by
  have HC := Lib.hid (check_any ad cap l itv w hr (by omega))
  rw [hc] at HC
  clear hc
  have HOK := Lib.hid (okLens_of hlong)
  have HR := Lib.hid hr.pair
  clear hr hlong
  have i0 : ∀ (a b c : Value) w, (Instr.index 227 (.agg #[a, b, c]) (.int .i64 0)).run Tryz.prog w = .ok a w := fun _ _ _ _ => by kernel_rfl
  have i1 : ∀ (a b c : Value) w, (Instr.index 227 (.agg #[a, b, c]) (.int .i64 1)).run Tryz.prog w = .ok b w := fun _ _ _ _ => by kernel_rfl
  have i2 : ∀ (a b c : Value) w, (Instr.index 227 (.agg #[a, b, c]) (.int .i64 2)).run Tryz.prog w = .ok c w := fun _ _ _ _ => by kernel_rfl
  go_enter Tryz.func94, Tryz.ntmps94
  go_wp2_with (go_at_call 135; refine HC.out.mono ?_; rintro e w1 ⟨rfl, g1⟩)
  go_loopw [7, 8, 22] (fun vb vp vi wr => ∃ (i : Nat) (adb adp : Option Addr) (cb cp : Nat), vb = .slice adb (dataN itv l i).length cb ∧ vp = .slice adp (placeN itv l i).length cp ∧ vi = .int .i64 (i : Int) ∧ i ≤ l.length ∧
    Owns wr w.heap.size 5 1 adb cb (dataN itv l i).length (bv (dataN itv l i)) ∧ Owns wr w.heap.size 5 1 adp cp (placeN itv l i).length (bv (placeN itv l i)) ∧ Apart adb adp ∧ Gr w wr) (fun _ _ vi _ => l.length - (intOf vi).toNat)
  case atStart => exact ⟨0, none, none, 0, 0, rfl, rfl, rfl, Nat.zero_le _, Owns.empty _ _ _ _, Owns.empty _ _ _ _, Apart.none _, g1⟩
  case round =>
    obtain ⟨i, adb, adp, cb, cp, rfl, rfl, rfl, hi, ob, op, hap, hg⟩ := hrel
    have HAP := Lib.hid hap; clear hap
    have hbs := hg.size
    by_cases hlt : i < l.length
    · obtain ⟨bl, off, rfl, hc1, hc2⟩ := HR.out i hlt
      have q1 := hg.cell hc1
      have q2 := hg.cell hc2
      have hdl := dataN_len (itv := itv) HOK.out i
      have hpl := placeN_len itv l i
      have hD : dataN itv l (i + 1) = dataN itv l i ++ entF (nAt itv l i) (l.getD i noPr) := rfl
      have hP : placeN itv l (i + 1) = placeN itv l i ++ (if i % itv = 0 then Varint.bytesN 4 (dataN itv l i).length else []) := rfl
      have hge : l.getD i noPr = l[i] := by rw [List.getD_eq_getElem?_getD, List.getElem?_eq_getElem hlt, Option.getD_some]
      have hok := HOK.out i
      have hnk := nAt_le itv l i
      rw [hge] at hD hok hnk
      have HD := Lib.hid hD; have HP := Lib.hid hP; have HGE := Lib.hid hge
      clear hD hP hge hc1 hc2
      generalize hpp : l[i] = p at *
      have HPP := Lib.hid hpp; clear hpp
      obtain ⟨k, v⟩ := p
      dsimp only at *
      generalize hDD : dataN itv l i = D at *
      generalize hPP : placeN itv l i = Pc at *
      have HDD := Lib.hid hDD; have HPL := Lib.hid hPP
      clear hDD hPP
      generalize hn : nAt itv l i = n at *
      have HN := Lib.hid hn; clear hn
      have hs1 := Sit.start (k := k) (v := v) ob op HAP.out hg
      generalize hgb : wr.heap.size = gb at hs1
      have HGB := Lib.hid hgb; clear hgb
      have p1 := putF_le n (by omega)
      have p2 := putF_le (k.length - n) (by omega)
      have p3 := putF_le v.length (by omega)
      have hEF := Lib.hid (show D ++ entF n (k, v) = D ++ Varint.putF n ++ Varint.putF (k.length - n) ++ Varint.putF v.length ++ k.drop n ++ v by simp [entF])
      have hdk : (k.drop n).length = k.length - n := List.length_drop
      by_cases h0 : i % itv = 0
      · have hz : (i : Int) % (itv : Int) = 0 := by omega
        have HP2 := Lib.hid (show placeN itv l (i + 1) = Pc ++ Varint.bytesN 4 D.length by rw [HP.out, if_pos h0])
        have hn0 : n = 0 := by rw [← HN.out]; unfold nAt; rw [if_pos h0]
        have HX := Lib.hid (show (0 : Int) = (n : Int) by omega)
        have HK := Lib.hid (show (k.length : Int) = ((k.length - n : Nat) : Int) by omega)
        have HDR := Lib.hid (show k = k.drop n by rw [hn0]; rfl)
        clear h0 hn0
        go_wp2_with (first
          | (go_at_call 136; rw [HGB.out]; refine (fixed_any w.heap.size adp cp Pc _ _ D.length 4 _ rfl rfl hs1.op hs1.gr.size (by omega) (by omega) (by omega)).mono ?_; rintro e w2 ⟨ad2, c2, rfl, o2, t2⟩; have s2 := hs1.place t2 o2; rw [← HP2.out] at s2 ⊢; obtain ⟨e0, e1⟩ := s2.blk.two))
        refine wp_loop_rounds 4 ?_
        rw [rounds_succ]
        go_wp2_with (first
          | (go_at_call 34; refine (Put_at _ n _ (by first | exact HX.out | exact rfl) (by omega)).mono ?_; rintro e w3 ⟨ad3, c3, rfl, o3, g3⟩; have s3 := s2.more g3)
          | (at_builtin; refine wp_append elemB rfl _ _ rfl rfl s3.ob rfl (Src.bytes o3.bytes rfl Tryz.underlying31) (by unfold maxLen; omega) (by omega) s3.gr.size ?_; intro ad4 c4 w4 o4 k4 f4; rw [← bv_append] at o4; have s4 := s3.app k4 f4 o4))
        rw [rounds_succ]
        go_wp2_with (first
          | (go_at_call 34; refine (Put_at _ (k.length - n) _ HK.out (by omega)).mono ?_; rintro e w5 ⟨ad5, c5, rfl, o5, g5⟩; have s5 := s4.more g5; have ob5 := s5.ob; rw [List.length_append] at ob5)
          | (at_builtin; refine wp_append elemB rfl _ _ rfl rfl ob5 rfl (Src.bytes o5.bytes rfl Tryz.underlying31) (by unfold maxLen; omega) (by omega) s5.gr.size ?_; intro ad6 c6 w6 o6 k6 f6; rw [← bv_append] at o6; have s6 := s5.app k6 f6 o6))
        rw [rounds_succ]
        go_wp2_with (first
          | (go_at_call 34; refine (Put_at _ v.length _ rfl (by omega)).mono ?_; rintro e w7 ⟨ad7, c7, rfl, o7, g7⟩; have s7 := s6.more g7; have ob7 := s7.ob; rw [List.length_append, List.length_append] at ob7)
          | (at_builtin; refine wp_append elemB rfl _ _ rfl rfl ob7 rfl (Src.bytes o7.bytes rfl Tryz.underlying31) (by unfold maxLen; omega) (by omega) s7.gr.size ?_; intro ad8 c8 w8 o8 k8 f8; rw [← bv_append] at o8; have s8 := s7.app k8 f8 o8))
        rw [rounds_succ]
        go_wp2
        have ob8 := s8.ob
        rw [List.length_append, List.length_append, List.length_append] at ob8
        obtain ⟨row, hrow⟩ : ∃ row, row = ad8.map (·.block) := ⟨_, rfl⟩
        have hgne : some gb ≠ row := by rw [hrow]; exact row_ne s8.nb
        have hrlt : ∀ g', row = some g' → g' < w8.heap.size ∧ w.heap.size ≤ g' := by
          intro g' hg'
          rw [hrow] at hg'
          cases ad8 with
          | none => cases hg'
          | some a => cases hg'; exact ⟨(ob8.lt a rfl).2, (ob8.lt a rfl).1⟩
        have hpr : ∀ a, ad2 = some a → some a.block ≠ row := by
          intro a ha hr
          rw [hrow] at hr
          cases ad8 with
          | none => cases hr
          | some y => simp only [Option.map_some, Option.some.injEq] at hr; exact s8.ap y a rfl ha hr.symm
        obtain ⟨A, hA⟩ : ∃ A : Option Obj, ∀ g, row = some g → A = w8.heap[g]? := ⟨row.bind fun g => w8.heap[g]?, fun g hg' => by rw [hg']; rfl⟩
        obtain ⟨B, hB⟩ : ∃ B : Option Obj, B = if D.length + (Varint.putF n).length + (Varint.putF (k.length - n)).length + (Varint.putF v.length).length + (k.length - n) ≤ c8 then appRow ((D.length + (Varint.putF n).length + (Varint.putF (k.length - n)).length + (Varint.putF v.length).length) * 1) (bv (k.drop n)) A else A := ⟨_, rfl⟩
        have mA : D.length + (Varint.putF n).length + (Varint.putF (k.length - n)).length + (Varint.putF v.length).length + (k.length - n) ≤ maxLen := by unfold maxLen; omega
        have mB : (D.length + (Varint.putF n).length + (Varint.putF (k.length - n)).length + (Varint.putF v.length).length + (k.length - n)) * 1 ≤ 140737488355328 := by omega
        have mC : D.length + (Varint.putF n).length + (Varint.putF (k.length - n)).length + (Varint.putF v.length).length + (k.length - n) + v.length ≤ maxLen := by unfold maxLen; omega
        have mD : (D.length + (Varint.putF n).length + (Varint.putF (k.length - n)).length + (Varint.putF v.length).length + (k.length - n) + v.length) * 1 ≤ 140737488355328 := by omega
        have hb8 := s8.gr.size
        have HRow := Lib.hid hrow; have HA := Lib.hid hA; have HBB := Lib.hid hB; have HPR := Lib.hid hpr; have HRL := Lib.hid hrlt
        clear hrow hA hB hpr hrlt
        obtain ⟨x0, x1⟩ := s8.blk.two
        have HSrc := Lib.hid (show ∀ w, Src Tryz.prog 9 w 1 (.string (str (k.drop n))) (k.length - n) (bv (k.drop n)) from fun w => by have := src_str (P := Tryz.prog) (w := w) (k.drop n) Tryz.underlying9; rwa [List.length_drop] at this)
        refine region_tail_once row A B 8 _ [Is (.slice ad8 (D.length + (Varint.putF n).length + (Varint.putF (k.length - n)).length + (Varint.putF v.length).length) c8), Is (.pointer (some ⟨gb, 0, none⟩)), Is (.string (str k)), Is ?r3, Is (.string (str (k.drop n))), Apn row B w.heap.size 5 1 (D.length + (Varint.putF n).length + (Varint.putF (k.length - n)).length + (Varint.putF v.length).length + (k.length - n)) (bv (D ++ Varint.putF n ++ Varint.putF (k.length - n) ++ Varint.putF v.length) ++ bv (k.drop n)) w8.heap.size, Is (.pointer (some ⟨gb, 1, none⟩)), Is (.string (str v))] (by kernel_rfl) (by kernel_rfl) (by kernel_rfl) (by kernel_rfl) rfl rfl ⟨Is.stable _, Is.stable _, Is.stable _, Is.stable _, Is.stable _, Apn.stable _ _ _ _ _ _, Is.stable _, Is.stable _, trivial⟩ ⟨?s0, ?s1, ?s2, ?s3, ?s4, ?s5, ?s6, ?s7, trivial⟩ ?fin
        case' s0 | s1 | s2 | s3 | s4 | s6 | s7 =>
          intro ρ wr hρ hg hK
          simp [readsOf, slotsOf, Op.operands, Call.operands, tmpOf, List.filterMap_cons, List.filterMap_nil, KnownAll, knownOf, srcOf, depsOf, dstOf, Region.binds, nth, Is] at hK
          obtain ⟨hc, hf, hgl⟩ := hρ
          try simp only [wantedBy, dstOf, boolOf, nth, List.getD_cons_zero, List.getD_cons_succ, List.getElem?_cons_zero, List.getElem?_cons_succ, Option.bind_some, if_true, hK, BEq.rfl]
          try go_simp
          first | exact rfl | (rw [if_pos (by omega)]; exact is_here rfl) | (rw [dif_pos (by omega)]; exact is_here rfl) | exact congrArg (Value.int _) (IntWalk.i64_in _ ⟨by omega, by omega⟩) | skip
        case' s5 =>
          intro ρ wr hρ hg hK
          simp [readsOf, slotsOf, Op.operands, Call.operands, tmpOf, List.filterMap_cons, List.filterMap_nil, KnownAll, knownOf, srcOf, depsOf, dstOf, Region.binds, nth, Is] at hK
          obtain ⟨hc, hf, hgl⟩ := hρ
          try simp only [wantedBy, dstOf, boolOf, nth, List.getD_cons_zero, List.getD_cons_succ, List.getElem?_cons_zero, List.getElem?_cons_succ, Option.bind_some, if_true, hK, BEq.rfl]
        case s2 => have := hg.cell x0 hgne; go_simp; exact rfl
        all_goals try exact congrArg (fun x => Value.string (str x)) HDR.out
        case s5 =>
          obtain ⟨v, w2, r1, r2, r3⟩ := append_once2 (ty := 31) (u := 9) elemB ob8 HRow.out HA.out HBB.out hg (HSrc.out _) mA mB hb8
          simp only [execOp, resolve, invoke, builtin, Sem.run_bind, Sem.run_pure, Result.andThen_ok, List.map_toArray, List.map_cons, List.map_nil, hK]
          rw [r1]
          exact ⟨r2, r3⟩
        case s7 => have := hg.cell x1 hgne; go_simp; exact rfl
        case fin =>
          intro w1 val hg hH
          simp only [Holds, Is, Nat.zero_add, Nat.reduceAdd] at hH
          obtain ⟨h0, h1, h2, h3, h4, h5, h6, h7, _⟩ := hH
          simp only [List.take_succ_cons, List.take_zero, List.drop_succ_cons, List.drop_zero, putAll, h0, h1, h2, h3, h4, h6, h7, Nat.zero_add, Nat.reduceAdd]
          obtain ⟨ad9, c9, h5, o9, _, hf9⟩ := h5
          simp only [h5]
          go_simp
          have hs9 := hg.size
          have hb9 : w.heap.size ≤ w1.heap.size := by omega
          have op9 := hg.owns s8.op HPR.out
          have hg9 : Gr w w1 := s8.gr.grown hg.1 (fun g' hg' => (HRL.out g' hg').2)
          have ap9 : Apart ad9 ad2 := by
            intro a b ha hb he
            rcases hf9 a ha with h | h
            · rw [he] at h; exact HPR.out b hb h
            · have := (s8.op.lt b hb).2; omega
          rw [← bv_append] at o9
          go_wp2_with (at_builtin; go_must (refine wp_append elemB rfl _ _ rfl rfl o9 rfl (src_str v Tryz.underlying9) mC mD hb9 ?_); intro ad10 c10 w10 o10 k10 f10)
          go_roundw
          case rel =>
            have hL : (dataN itv l (i + 1)).length = D.length + (Varint.putF n).length + (Varint.putF (k.length - n)).length + (Varint.putF v.length).length + (k.length - n) + v.length := by
              rw [HD.out, hEF.out]; simp only [List.length_append, List.length_drop]
            refine ⟨i + 1, ad10, ad2, c10, c2, by rw [hL], by first | rfl | rw [HP3.out], by go_num, by omega, ?_, by first | exact op9.keep k10 ap9 | (rw [HP3.out]; exact op9.keep k10 ap9), ap9.step k10 f10 op9, hg9.grown k10 (row_from o9)⟩
            rw [hL, HD.out, hEF.out, bv_append]
            exact o10
          case measure => simp [intOf]; omega
      · obtain ⟨i0, hi0⟩ : ∃ i0, i = i0 + 1 := ⟨i - 1, by have : i ≠ 0 := fun h => h0 (by rw [h]; rfl); omega⟩
        have hz : ¬ (i : Int) % (itv : Int) = 0 := by omega
        have HP3 := Lib.hid (show placeN itv l (i + 1) = Pc by rw [HP.out, if_neg h0, List.append_nil])
        obtain ⟨bl', off', e', hd1, hd2⟩ := HR.out i0 (by omega)
        cases e'
        have hlt0 : i0 < l.length := by omega
        have HCM := Lib.hid (show n = comF l[i0].1 k by
          rw [← HN.out]; unfold nAt
          rw [if_neg h0, HGE.out, hi0, Nat.add_sub_cancel, List.getD_eq_getElem?_getD, List.getElem?_eq_getElem hlt0, Option.getD_some])
        have hok0 := HOK.out i0
        rw [List.getD_eq_getElem?_getD, List.getElem?_eq_getElem hlt0, Option.getD_some] at hok0
        have q3 := (hg.trans (Gr.alloc wr (.cells #[.string (str k), .string (str v)] 105))).cell hd1
        generalize l[i0].1 = pk at *
        have HCO := Lib.hid (fun w => common_any pk k w (by omega) (by omega))
        rw [← HCM.out] at HCO
        have e9 : IntKind.i64.wrap ((i : Int) - 1) = (i0 : Int) := by rw [IntKind.wrap_i64]; omega
        have HK := Lib.hid (show (k.length : Int) - (n : Int) = ((k.length - n : Nat) : Int) by omega)
        obtain ⟨z0, z1⟩ := hs1.blk.two
        clear h0 hd1 hd2 hi0
        go_wp2
        rw [HGB.out]
        refine region_any_gr _ [Is ?r0x1, Is ?r1x1, Is (.int .i64 (i0 : Int)), Is (.pointer (some ⟨bl, off + i0 * 2, none⟩)), Is (.pointer (some ⟨bl, off + i0 * 2, none⟩)), Is (.string (str pk)), Is (.pointer (some ⟨gb, 0, none⟩)), Is (.string (str k)), Is (.int .i64 (n : Int)), Is ?r9x1] (by kernel_rfl) (by kernel_rfl) (by kernel_rfl) rfl rfl ⟨Is.stable _, Is.stable _, Is.stable _, Is.stable _, Is.stable _, Is.stable _, Is.stable _, Is.stable _, Is.stable _, Is.stable _, trivial⟩ ⟨?s0x1, ?s1x1, ?s2x1, ?s3x1, ?s4x1, ?s5x1, ?s6x1, ?s7x1, ?s8x1, ?s9x1, trivial⟩ ?finx1
        case' s0x1 | s1x1 | s2x1 | s3x1 | s4x1 | s5x1 | s6x1 | s7x1 | s8x1 | s9x1 =>
          intro ρ wr hρ hg hK
          simp [readsOf, slotsOf, Op.operands, Call.operands, tmpOf, List.filterMap_cons, List.filterMap_nil, KnownAll, knownOf, srcOf, depsOf, dstOf, Region.binds, nth, Is] at hK
          obtain ⟨hc, hf, hgl⟩ := hρ
          try simp only [wantedBy, dstOf, boolOf, nth, List.getD_cons_zero, List.getD_cons_succ, List.getElem?_cons_zero, List.getElem?_cons_succ, Option.bind_some, if_true, hK, BEq.rfl]
          try go_simp
          first | exact rfl | (rw [if_pos (by omega)]; exact is_here rfl) | (rw [dif_pos (by omega)]; exact is_here rfl) | exact congrArg (Value.int _) (IntWalk.i64_in _ ⟨by omega, by omega⟩) | skip
        case s5x1 => have := hg.cell q3; go_simp; exact rfl
        case s7x1 => have := hg.cell z0; go_simp; exact rfl
        case s8x1 => exact any_gr (HCO.out _)
        case finx1 =>
          intro w1 val hg hH
          simp only [Holds, Is, Nat.zero_add, Nat.reduceAdd] at hH
          obtain ⟨h0, h1, h2, h3, h4, h5, h6, h7, h8, h9, _⟩ := hH
          simp only [List.take_succ_cons, List.take_zero, List.drop_succ_cons, List.drop_zero, putAll, h0, h1, h2, h3, h4, h5, h6, h7, h8, h9, Nat.zero_add, Nat.reduceAdd]
          go_simp
          have s2 := hs1.more hg
          obtain ⟨e0, e1⟩ := s2.blk.two
          obtain ⟨ad2, hq1⟩ : ∃ ad2, ad2 = adp := ⟨_, rfl⟩
          obtain ⟨c2, hq2⟩ : ∃ c2, c2 = cp := ⟨_, rfl⟩
          subst hq1 hq2
          go_wp2
          refine wp_loop_rounds 4 ?_
          rw [rounds_succ]
          go_wp2_with (first
            | (go_at_call 34; refine (Put_at _ n _ (by first | exact HX.out | exact rfl) (by omega)).mono ?_; rintro e w3 ⟨ad3, c3, rfl, o3, g3⟩; have s3 := s2.more g3)
            | (at_builtin; refine wp_append elemB rfl _ _ rfl rfl s3.ob rfl (Src.bytes o3.bytes rfl Tryz.underlying31) (by unfold maxLen; omega) (by omega) s3.gr.size ?_; intro ad4 c4 w4 o4 k4 f4; rw [← bv_append] at o4; have s4 := s3.app k4 f4 o4))
          rw [rounds_succ]
          go_wp2_with (first
            | (go_at_call 34; refine (Put_at _ (k.length - n) _ HK.out (by omega)).mono ?_; rintro e w5 ⟨ad5, c5, rfl, o5, g5⟩; have s5 := s4.more g5; have ob5 := s5.ob; rw [List.length_append] at ob5)
            | (at_builtin; refine wp_append elemB rfl _ _ rfl rfl ob5 rfl (Src.bytes o5.bytes rfl Tryz.underlying31) (by unfold maxLen; omega) (by omega) s5.gr.size ?_; intro ad6 c6 w6 o6 k6 f6; rw [← bv_append] at o6; have s6 := s5.app k6 f6 o6))
          rw [rounds_succ]
          go_wp2_with (first
            | (go_at_call 34; refine (Put_at _ v.length _ rfl (by omega)).mono ?_; rintro e w7 ⟨ad7, c7, rfl, o7, g7⟩; have s7 := s6.more g7; have ob7 := s7.ob; rw [List.length_append, List.length_append] at ob7)
            | (at_builtin; refine wp_append elemB rfl _ _ rfl rfl ob7 rfl (Src.bytes o7.bytes rfl Tryz.underlying31) (by unfold maxLen; omega) (by omega) s7.gr.size ?_; intro ad8 c8 w8 o8 k8 f8; rw [← bv_append] at o8; have s8 := s7.app k8 f8 o8))
          rw [rounds_succ]
          go_wp2
          have ob8 := s8.ob
          rw [List.length_append, List.length_append, List.length_append] at ob8
          obtain ⟨row, hrow⟩ : ∃ row, row = ad8.map (·.block) := ⟨_, rfl⟩
          have hgne : some gb ≠ row := by rw [hrow]; exact row_ne s8.nb
          have hrlt : ∀ g', row = some g' → g' < w8.heap.size ∧ w.heap.size ≤ g' := by
            intro g' hg'
            rw [hrow] at hg'
            cases ad8 with
            | none => cases hg'
            | some a => cases hg'; exact ⟨(ob8.lt a rfl).2, (ob8.lt a rfl).1⟩
          have hpr : ∀ a, ad2 = some a → some a.block ≠ row := by
            intro a ha hr
            rw [hrow] at hr
            cases ad8 with
            | none => cases hr
            | some y => simp only [Option.map_some, Option.some.injEq] at hr; exact s8.ap y a rfl ha hr.symm
          obtain ⟨A, hA⟩ : ∃ A : Option Obj, ∀ g, row = some g → A = w8.heap[g]? := ⟨row.bind fun g => w8.heap[g]?, fun g hg' => by rw [hg']; rfl⟩
          obtain ⟨B, hB⟩ : ∃ B : Option Obj, B = if D.length + (Varint.putF n).length + (Varint.putF (k.length - n)).length + (Varint.putF v.length).length + (k.length - n) ≤ c8 then appRow ((D.length + (Varint.putF n).length + (Varint.putF (k.length - n)).length + (Varint.putF v.length).length) * 1) (bv (k.drop n)) A else A := ⟨_, rfl⟩
          have mA : D.length + (Varint.putF n).length + (Varint.putF (k.length - n)).length + (Varint.putF v.length).length + (k.length - n) ≤ maxLen := by unfold maxLen; omega
          have mB : (D.length + (Varint.putF n).length + (Varint.putF (k.length - n)).length + (Varint.putF v.length).length + (k.length - n)) * 1 ≤ 140737488355328 := by omega
          have mC : D.length + (Varint.putF n).length + (Varint.putF (k.length - n)).length + (Varint.putF v.length).length + (k.length - n) + v.length ≤ maxLen := by unfold maxLen; omega
          have mD : (D.length + (Varint.putF n).length + (Varint.putF (k.length - n)).length + (Varint.putF v.length).length + (k.length - n) + v.length) * 1 ≤ 140737488355328 := by omega
          have hb8 := s8.gr.size
          have HRow := Lib.hid hrow; have HA := Lib.hid hA; have HBB := Lib.hid hB; have HPR := Lib.hid hpr; have HRL := Lib.hid hrlt
          clear hrow hA hB hpr hrlt
          obtain ⟨x0, x1⟩ := s8.blk.two
          have HSrc := Lib.hid (show ∀ w, Src Tryz.prog 9 w 1 (.string (str (k.drop n))) (k.length - n) (bv (k.drop n)) from fun w => by have := src_str (P := Tryz.prog) (w := w) (k.drop n) Tryz.underlying9; rwa [List.length_drop] at this)
          refine region_tail_once row A B 8 _ [Is (.slice ad8 (D.length + (Varint.putF n).length + (Varint.putF (k.length - n)).length + (Varint.putF v.length).length) c8), Is (.pointer (some ⟨gb, 0, none⟩)), Is (.string (str k)), Is ?r3x2, Is (.string (str (k.drop n))), Apn row B w.heap.size 5 1 (D.length + (Varint.putF n).length + (Varint.putF (k.length - n)).length + (Varint.putF v.length).length + (k.length - n)) (bv (D ++ Varint.putF n ++ Varint.putF (k.length - n) ++ Varint.putF v.length) ++ bv (k.drop n)) w8.heap.size, Is (.pointer (some ⟨gb, 1, none⟩)), Is (.string (str v))] (by kernel_rfl) (by kernel_rfl) (by kernel_rfl) (by kernel_rfl) rfl rfl ⟨Is.stable _, Is.stable _, Is.stable _, Is.stable _, Is.stable _, Apn.stable _ _ _ _ _ _, Is.stable _, Is.stable _, trivial⟩ ⟨?s0x2, ?s1x2, ?s2x2, ?s3x2, ?s4x2, ?s5x2, ?s6x2, ?s7x2, trivial⟩ ?finx2
          case' s0x2 | s1x2 | s2x2 | s3x2 | s4x2 | s6x2 | s7x2 =>
            intro ρ wr hρ hg hK
            simp [readsOf, slotsOf, Op.operands, Call.operands, tmpOf, List.filterMap_cons, List.filterMap_nil, KnownAll, knownOf, srcOf, depsOf, dstOf, Region.binds, nth, Is] at hK
            obtain ⟨hc, hf, hgl⟩ := hρ
            try simp only [wantedBy, dstOf, boolOf, nth, List.getD_cons_zero, List.getD_cons_succ, List.getElem?_cons_zero, List.getElem?_cons_succ, Option.bind_some, if_true, hK, BEq.rfl]
            try go_simp
            first | exact rfl | (rw [if_pos (by omega)]; exact is_here rfl) | (rw [dif_pos (by omega)]; exact is_here rfl) | exact congrArg (Value.int _) (IntWalk.i64_in _ ⟨by omega, by omega⟩) | skip
          case' s5x2 =>
            intro ρ wr hρ hg hK
            simp [readsOf, slotsOf, Op.operands, Call.operands, tmpOf, List.filterMap_cons, List.filterMap_nil, KnownAll, knownOf, srcOf, depsOf, dstOf, Region.binds, nth, Is] at hK
            obtain ⟨hc, hf, hgl⟩ := hρ
            try simp only [wantedBy, dstOf, boolOf, nth, List.getD_cons_zero, List.getD_cons_succ, List.getElem?_cons_zero, List.getElem?_cons_succ, Option.bind_some, if_true, hK, BEq.rfl]
          case s2x2 => have := hg.cell x0 hgne; go_simp; exact rfl
          all_goals try exact congrArg (fun x => Value.string (str x)) HDR.out
          case s5x2 =>
            obtain ⟨v, w2, r1, r2, r3⟩ := append_once2 (ty := 31) (u := 9) elemB ob8 HRow.out HA.out HBB.out hg (HSrc.out _) mA mB hb8
            simp only [execOp, resolve, invoke, builtin, Sem.run_bind, Sem.run_pure, Result.andThen_ok, List.map_toArray, List.map_cons, List.map_nil, hK]
            rw [r1]
            exact ⟨r2, r3⟩
          case s7x2 => have := hg.cell x1 hgne; go_simp; exact rfl
          case finx2 =>
            intro w1 val hg hH
            simp only [Holds, Is, Nat.zero_add, Nat.reduceAdd] at hH
            obtain ⟨h0, h1, h2, h3, h4, h5, h6, h7, _⟩ := hH
            simp only [List.take_succ_cons, List.take_zero, List.drop_succ_cons, List.drop_zero, putAll, h0, h1, h2, h3, h4, h6, h7, Nat.zero_add, Nat.reduceAdd]
            obtain ⟨ad9, c9, h5, o9, _, hf9⟩ := h5
            simp only [h5]
            go_simp
            have hs9 := hg.size
            have hb9 : w.heap.size ≤ w1.heap.size := by omega
            have op9 := hg.owns s8.op HPR.out
            have hg9 : Gr w w1 := s8.gr.grown hg.1 (fun g' hg' => (HRL.out g' hg').2)
            have ap9 : Apart ad9 ad2 := by
              intro a b ha hb he
              rcases hf9 a ha with h | h
              · rw [he] at h; exact HPR.out b hb h
              · have := (s8.op.lt b hb).2; omega
            rw [← bv_append] at o9
            go_wp2_with (at_builtin; go_must (refine wp_append elemB rfl _ _ rfl rfl o9 rfl (src_str v Tryz.underlying9) mC mD hb9 ?_); intro ad10 c10 w10 o10 k10 f10)
            go_roundw
            case rel =>
              have hL : (dataN itv l (i + 1)).length = D.length + (Varint.putF n).length + (Varint.putF (k.length - n)).length + (Varint.putF v.length).length + (k.length - n) + v.length := by
                rw [HD.out, hEF.out]; simp only [List.length_append, List.length_drop]
              refine ⟨i + 1, ad10, ad2, c10, c2, by rw [hL], by first | rfl | rw [HP3.out], by go_num, by omega, ?_, by first | exact op9.keep k10 ap9 | (rw [HP3.out]; exact op9.keep k10 ap9), ap9.step k10 f10 op9, hg9.grown k10 (row_from o9)⟩
              rw [hL, HD.out, hEF.out, bv_append]
              exact o10
            case measure => simp [intOf]; omega
    · obtain rfl : i = l.length := by omega
      have hdl := dataN_len (itv := itv) HOK.out l.length
      have hpl := placeN_len itv l l.length
      have HBF := Lib.hid (show buildF itv l = dataN itv l l.length ++ placeN itv l l.length ++ Varint.bytesN 2 itv ++ Varint.bytesN 4 l.length by simp [buildF])
      generalize dataN itv l l.length = D at *
      generalize placeN itv l l.length = Pc at *
      have b2 := Varint.bytesN_len 2 itv
      have b4 := Varint.bytesN_len 4 l.length
      have F2 := Lib.hid (fun adb capb m w' ho hB hm => fixed_at w.heap.size adb capb (D ++ Pc) m (itv : Int) 2 itv 2 w' hm rfl rfl ho hB (by omega) (by omega) (by rw [List.length_append]; omega))
      have F4 := Lib.hid (fun adb capb m w' ho hB hm => fixed_at w.heap.size adb capb (D ++ Pc ++ Varint.bytesN 2 itv) m (l.length : Int) 4 l.length 4 w' hm rfl rfl ho hB (by omega) (by omega) (by rw [List.length_append, List.length_append]; omega))
      have m1 : D.length + Pc.length ≤ maxLen := by unfold maxLen; omega
      have m2 : (D.length + Pc.length) * 1 ≤ 140737488355328 := by omega
      clear b2 b4
      generalize Varint.bytesN 2 itv = x2 at *
      generalize Varint.bytesN 4 l.length = x4 at *
      go_wp2_with (first
        | (at_builtin; refine wp_append elemB rfl _ _ rfl rfl ob rfl (Src.bytes op.bytes rfl Tryz.underlying31) m1 m2 hbs ?_; intro ad3 c3 w3 o3 k3 f3; rw [← bv_append] at o3; have g3 := hg.grown k3 (row_from ob))
        | (go_at_call 136; (with_reducible refine (F2.out _ _ _ _ o3 g3.size (by rw [List.length_append])).mono ?_); rintro e w4 ⟨ad4, c4, rfl, o4, t4⟩; have g4 := g3.grown t4.1 (row_from o3); have o4' := o4; rw [show (D ++ Pc ++ x2).length = D.length + (Pc.length + x2.length) by simp only [List.length_append, Nat.add_assoc]] at o4')
        | (go_at_call 136; (with_reducible refine (F4.out _ _ _ _ o4' g4.size (by simp only [List.length_append, Nat.add_assoc])).mono ?_); rintro e w5 ⟨ad5, c5, rfl, o5, t5⟩; have g5 := g4.grown t5.1 (row_from o4)))
      go_ret2
      refine ⟨ad5, c5, ?_, by rw [HBF.out]; exact o5, g5⟩
      rw [HBF.out]
      first | rfl | simp only [List.length_append, Nat.add_assoc]; rfl
theorem Build_any (ad : Option Addr) (cap : Nat) (l : List Pr) (itv : Int) (w : World) (hr : Row w ad (pv l)) (hl : l.length ≤ 9223372036854775807) :
    Calls Tryz.prog 94 #[.slice ad l.length cap, .int .i64 itv] w (RetBE 5 w (if chkF l itv = 0 then buildF itv.toNat l else []) (chkF l itv)) := by
  by_cases hc : chkF l itv = 0
  · rw [if_pos hc, hc]
    have h := hc
    unfold chkF at h
    split at h
    · cases h
    · rename_i h1
      split at h
      · cases h
      · rename_i h2
        have h3 : ¬ 10000 < l.length ∧ ¬ l.any longB = true := not_or.1 h2
        obtain ⟨n, rfl⟩ : ∃ n : Nat, itv = (n : Int) := ⟨itv.toNat, by omega⟩
        exact Build_ok ad cap l n w hr (by omega) (by omega) (by omega) (by simpa using h3.2) hc
  · rw [if_neg hc]
    exact Build_bad ad cap l itv w hr hl hc
end Go.Proofs.YtpaogoehgkoaeaaGreatDoor
/- Layer 13 (block): parts. -/
namespace Go.Proofs.YtpaogoehgkoaeaaGreatDoor
set_option linter.unusedVariables false
set_option linter.unusedSimpArgs false
open Go.RowKit Bk
theorem results_tmp5 {fn : Func} {t u v x y : Tmp} (h : fn.results = #[.tmp t, .tmp u, .tmp v, .tmp x, .tmp y]) (tmps : Array Value) (P : Program) (w : World) :
    (results fn tmps).run P w = .ok (.tuple #[tmps.getD t undef, tmps.getD u undef, tmps.getD v undef, tmps.getD x undef, tmps.getD y undef]) w := by
  simp [results, h]
theorem whole_at (ad : Option Addr) (len cap : Nat) (l : List UInt8) (w : World) (hl : l.length = len) (hm : len ≤ 8) (hb : Bytes w ad l) :
    Calls Tryz.prog 100 #[.slice ad len cap] w fun e w' => e = .returned (.tuple #[.int .u64 (Varint.le l : Nat), .int .i64 0]) ∧ w = w' := by
  have h := Whole_any ad len cap l w hl (by unfold maxLen; omega) hb
  have e : Varint.wholeF l = (Varint.le l, 0) := by unfold Varint.wholeF; rw [if_neg (by omega)]
  rw [e] at h
  exact h
/-- the places' bytes -/
def placesB (b : List UInt8) (w c : Nat) : List UInt8 := (b.drop (b.length - 6 - 4 * ((c + w - 1) / w))).take (4 * ((c + w - 1) / w))
def RetParts (b : List UInt8) (cap : Nat) (bl : Option Nat) (w : World) : Ending → World → Prop := fun x w' =>
  Gr w w' ∧ match partsF b with
  | none => ∃ s1 s2 i1 i2, x = .returned (.tuple #[s1, s2, .int .i64 i1, .int .i64 i2, .bool false])
  | some (d, itv, c) => ∃ b1 o1 ad2 c1 c2, x = .returned (.tuple #[.slice (some ⟨b1, o1, .none⟩) d.length c1, .slice ad2 (4 * ((c + itv - 1) / itv)) c2, .int .i64 (itv : Int), .int .i64 (c : Int), .bool true]) ∧ b1 < w'.heap.size ∧ d.length < c1 ∧ c1 ≤ cap ∧ 4 * ((c + itv - 1) / itv) ≤ c2 ∧ c2 ≤ cap ∧ d.length ≤ b.length ∧ Bytes w' (some ⟨b1, o1, .none⟩) d ∧ Bytes w' ad2 (placesB b itv c) ∧ (placesB b itv c).length = 4 * ((c + itv - 1) / itv) ∧ bl = some b1 ∧ ∀ x, ad2 = some x → bl = some x.block
set_option maxRecDepth 100000 in
set_option maxHeartbeats 4000000 in
theorem parts_any (ad : Option Addr) (cap : Nat) (b : List UInt8) (w : World) (hl : b.length ≤ 1000000000) (hc : b.length ≤ cap) (hm : cap ≤ maxLen) (hb : Bytes w ad b) :
    Calls Tryz.prog 101 #[.slice ad b.length cap] w (RetParts b cap (ad.map (·.block)) w) := by
  have hmx : cap ≤ 9223372036854775807 := by unfold maxLen at hm; omega
  by_cases h6 : b.length < 6
  · have HN := Lib.hid (show partsF b = none by unfold partsF; rw [if_pos h6])
    go_enter Tryz.func101, Tryz.ntmps101
    go_wp2
    (try simp only [Exit.inBlock, Exit.then]); refine bodyPost_ret (results_tmp5 rfl _ _ _) rfl ?_
    refine ⟨Gr.refl _, ?_⟩
    rw [HN.out]
    exact ⟨_, _, _, _, rfl⟩
  · obtain ⟨at_, hat⟩ : ∃ at_, b.length = at_ + 6 := ⟨b.length - 6, by omega⟩
    obtain ⟨bl, off, rfl, hbl⟩ : ∃ bl off, ad = some ⟨bl, off, .none⟩ ∧ bl < w.heap.size := let ⟨x, y, e, hc⟩ := hb 0 (by omega); ⟨x, y, e, World.block_lt_of_cell? w _ hc⟩
    obtain ⟨W, hW⟩ : ∃ W, W = Varint.le ((b.drop at_).take 2) := ⟨_, rfl⟩
    obtain ⟨C, hC⟩ : ∃ C, C = Varint.le (b.drop (at_ + 2)) := ⟨_, rfl⟩
    have hP : partsF b = if W < 1 ∨ 64 < W ∨ 10000 < C then none else if at_ < 4 * ((C + W - 1) / W) then none else some (b.take (at_ - 4 * ((C + W - 1) / W)), W, C) := by
      unfold partsF
      rw [if_neg h6, hat, Nat.add_sub_cancel, show at_ + 6 - 4 = at_ + 2 by omega, hW, hC]
    have HP := Lib.hid hP
    have hW2 : W < 256 ^ 2 := by rw [hW]; exact Nat.lt_of_lt_of_le (Varint.le_lt _) (Nat.pow_le_pow_right (by decide) (by simp; omega))
    have hC4 : C < 256 ^ 4 := by rw [hC]; exact Nat.lt_of_lt_of_le (Varint.le_lt _) (Nat.pow_le_pow_right (by decide) (by simp; omega))
    have HW := Lib.hid (fun w' (g : Gr w w') c n (hn : n = 2) => whole_at (some ⟨bl, off + at_, .none⟩) n c ((b.drop at_).take 2) w' (by simp; omega) (by omega) (((hb.gr g).drop at_).take 2))
    have HC := Lib.hid (fun w' (g : Gr w w') c n (hn : n = 4) => whole_at (some ⟨bl, off + (at_ + 2), .none⟩) n c (b.drop (at_ + 2)) w' (by simp; omega) (by omega) ((hb.gr g).drop (at_ + 2)))
    rw [← hW] at HW
    rw [← hC] at HC
    have hcap : at_ + 6 ≤ cap := by omega
    clear hW hC hP h6
    have HB := Lib.hid hb
    clear hb
    have hWn : W ≤ 65535 := by omega
    have hCn : C ≤ 4294967295 := by omega
    have hat2 : at_ ≤ 1000000000 := by omega
    have HAT := Lib.hid hat
    rw [hat]
    clear hW2 hC4 hl hc hat
    by_cases hbad : W < 1 ∨ 64 < W ∨ 10000 < C
    · have HN := Lib.hid (show partsF b = none by rw [HP.out, if_pos hbad])
      have hb3 : W < 1 ∨ (1 ≤ W ∧ 64 < W) ∨ (1 ≤ W ∧ W ≤ 64 ∧ 10000 < C) := by omega
      clear hbad
      rcases hb3 with hb3 | ⟨hb3, hb4⟩ | ⟨hb3, hb4, hb5⟩
      · go_enter Tryz.func101, Tryz.ntmps101
        go_wp2_with (first
          | (go_at_call 100; (with_reducible refine (HW.out _ (Gr.refl _) _ _ (by omega)).mono ?_); rintro e w' ⟨rfl, rfl⟩)
          | (go_at_call 100; (with_reducible refine (HC.out _ (Gr.refl _) _ _ (by omega)).mono ?_); rintro e w' ⟨rfl, rfl⟩))
        (try simp only [Exit.inBlock, Exit.then]); refine bodyPost_ret (results_tmp5 rfl _ _ _) rfl ?_
        refine ⟨Gr.refl _, ?_⟩
        rw [HN.out]
        exact ⟨_, _, _, _, rfl⟩
      · go_enter Tryz.func101, Tryz.ntmps101
        go_wp2_with (first
          | (go_at_call 100; (with_reducible refine (HW.out _ (Gr.refl _) _ _ (by omega)).mono ?_); rintro e w' ⟨rfl, rfl⟩)
          | (go_at_call 100; (with_reducible refine (HC.out _ (Gr.refl _) _ _ (by omega)).mono ?_); rintro e w' ⟨rfl, rfl⟩))
        (try simp only [Exit.inBlock, Exit.then]); refine bodyPost_ret (results_tmp5 rfl _ _ _) rfl ?_
        refine ⟨Gr.refl _, ?_⟩
        rw [HN.out]
        exact ⟨_, _, _, _, rfl⟩
      · go_enter Tryz.func101, Tryz.ntmps101
        go_wp2_with (first
          | (go_at_call 100; (with_reducible refine (HW.out _ (Gr.refl _) _ _ (by omega)).mono ?_); rintro e w' ⟨rfl, rfl⟩)
          | (go_at_call 100; (with_reducible refine (HC.out _ (Gr.refl _) _ _ (by omega)).mono ?_); rintro e w' ⟨rfl, rfl⟩))
        (try simp only [Exit.inBlock, Exit.then]); refine bodyPost_ret (results_tmp5 rfl _ _ _) rfl ?_
        refine ⟨Gr.refl _, ?_⟩
        rw [HN.out]
        exact ⟨_, _, _, _, rfl⟩
    · have hW1 : 1 ≤ W := by omega
      have hW64 : W ≤ 64 := by omega
      have hC1 : C ≤ 10000 := by omega
      obtain ⟨K, hK⟩ : ∃ K, (C + W - 1) / W = K := ⟨_, rfl⟩
      have hK2 : K ≤ 10063 := by rw [← hK]; exact Nat.le_trans (Nat.div_le_self _ _) (by omega)
      have hk1 : ((C : Int) + (W : Int) - 1) / (W : Int) = (K : Int) := by rw [← hK, Int.natCast_ediv, show ((C + W - 1 : Nat) : Int) = (C : Int) + (W : Int) - 1 by omega]
      rw [hK] at HP
      have HK := Lib.hid hK
      clear hK hWn hCn
      by_cases hfrom : at_ < 4 * K
      · have HN := Lib.hid (show partsF b = none by rw [HP.out, if_neg hbad, if_pos hfrom])
        clear hbad
        go_enter Tryz.func101, Tryz.ntmps101
        go_wp2_with (first
          | (go_at_call 100; (with_reducible refine (HW.out _ (Gr.refl _) _ _ (by omega)).mono ?_); rintro e w' ⟨rfl, rfl⟩)
          | (go_at_call 100; (with_reducible refine (HC.out _ (Gr.refl _) _ _ (by omega)).mono ?_); rintro e w' ⟨rfl, rfl⟩))
        (try simp only [Exit.inBlock, Exit.then]); refine bodyPost_ret (results_tmp5 rfl _ _ _) rfl ?_
        refine ⟨Gr.refl _, ?_⟩
        rw [HN.out]
        exact ⟨_, _, _, _, rfl⟩
      · have HN := Lib.hid (show partsF b = some (b.take (at_ - 4 * K), W, C) by rw [HP.out, if_neg hbad, if_neg hfrom])
        have hfrom2 : 4 * K ≤ at_ := by omega
        clear hbad hfrom
        go_enter Tryz.func101, Tryz.ntmps101
        go_wp2_with (first
          | (go_at_call 100; (with_reducible refine (HW.out _ (Gr.refl _) _ _ (by omega)).mono ?_); rintro e w' ⟨rfl, rfl⟩)
          | (go_at_call 100; (with_reducible refine (HC.out _ (Gr.refl _) _ _ (by omega)).mono ?_); rintro e w' ⟨rfl, rfl⟩))
        go_quiet (fail)
        go_wp2
        (try simp only [Exit.inBlock, Exit.then]); refine bodyPost_ret (results_tmp5 rfl _ _ _) rfl ?_
        refine ⟨Gr.drewN _ _, ?_⟩
        rw [HN.out]
        have hlen := HAT.out
        have e1 : (b.take (at_ - 4 * K)).length = at_ - 4 * K := by simp; omega
        have e2 : 4 * ((C + W - 1) / W) = at_ - (at_ - 4 * K) := by rw [HK.out]; omega
        have e3 : placesB b W C = (b.drop (at_ - 4 * K)).take (at_ - (at_ - 4 * K)) := by unfold placesB; rw [e2, hlen, Nat.add_sub_cancel]; congr 2; omega
        have e4 : (placesB b W C).length = at_ - (at_ - 4 * K) := by rw [e3]; simp; omega
        have hbd := HB.out.gr (Gr.drewN w nq)
        refine ⟨bl, off, some ⟨bl, off + (at_ - 4 * K), none⟩, cap, cap - (at_ - 4 * K), by rw [e1, e2]; rfl, Nat.lt_of_lt_of_le hbl (Gr.drewN w nq).size, by omega, Nat.le_refl _, by omega, by omega, by omega, hbd.take _, ?_, by rw [e4, e2], rfl, fun x hx => by cases hx; rfl⟩
        rw [e3]
        exact (hbd.drop _).take _
end Go.Proofs.YtpaogoehgkoaeaaGreatDoor
/- Layer 13 (block): entry. -/
namespace Go.Proofs.YtpaogoehgkoaeaaGreatDoor
set_option linter.unusedVariables false
set_option linter.unusedSimpArgs false
open Go.RowKit Bk
def EntryIs (o : Option (Pr × Nat)) (p : Pr) (t : Int) (ok : Bool) : Prop :=
  match o with
  | none => ok = false
  | some (p', t') => ok = true ∧ p = p' ∧ t = (t' : Int)
def RetEntry (w : World) (o : Option (Pr × Nat)) : Ending → World → Prop := fun x w' =>
  ∃ (p : Pr) (t : Int) (ok : Bool), x = .returned (.tuple #[.agg #[.string (str p.1), .string (str p.2)], .int .i64 t, .bool ok]) ∧ Gr w w' ∧ EntryIs o p t ok
theorem Get_from (b : List UInt8) (bl off cap a n k e : Nat) (w : World) (hg : Varint.getF (b.drop a) = (n, k, e)) (hc : b.length < cap) (hm : cap ≤ maxLen) (hb : Bytes w (some ⟨bl, off, none⟩) b) (m : Nat) (hmm : m = b.length - a) (c : Nat) :
    Calls Tryz.prog 103 #[.slice (some ⟨bl, off + a, none⟩) m c] w fun x w' => x = .returned (.tuple #[.int .u64 (n : Int), .int .i64 (k : Int), .int .i64 (e : Int)]) ∧ w = w' := by
  have h := Get_any (some ⟨bl, off + a, .none⟩) m c (b.drop a) w (by rw [List.length_drop]; omega) (by omega) (hb.drop a)
  rw [hg] at h
  exact h
theorem get_parts (b : List UInt8) (a : Nat) (ha : a ≤ b.length) : ∃ n k e, Varint.getF (b.drop a) = (n, k, e) ∧ n < 18446744073709551616 ∧ a + k ≤ b.length := by
  have h := Varint.getF_le (b.drop a)
  rw [List.length_drop] at h
  exact ⟨(Varint.getF (b.drop a)).1, (Varint.getF (b.drop a)).2.1, (Varint.getF (b.drop a)).2.2, rfl, Varint.getF_lt _, by omega⟩
set_option maxRecDepth 100000 in
set_option maxHeartbeats 4000000 in
theorem entry_any (bl off cap : Nat) (b : List UInt8) (a : Nat) (key : List UInt8) (w : World) (hl : b.length ≤ 1000000000) (hc : b.length < cap) (hm : cap ≤ maxLen) (ha : a ≤ b.length) (hk : key.length ≤ 1000000000) (hbl : bl < w.heap.size) (hb : Bytes w (some ⟨bl, off, none⟩) b) :
    Calls Tryz.prog 102 #[.slice (some ⟨bl, off, none⟩) b.length cap, .int .i64 (a : Int), .string (str key)] w (RetEntry w (entryF b a key)) := by
  have hmx : cap ≤ 9223372036854775807 := by unfold maxLen at hm; omega
  obtain ⟨n0, k0, e0, g0, hn0, ha1⟩ := get_parts b a ha
  obtain ⟨a1, ha1e⟩ : ∃ a1, a1 = a + k0 := ⟨_, rfl⟩
  obtain ⟨n1, k1, e1, g1, hn1, ha2⟩ := get_parts b a1 (by omega)
  obtain ⟨a2, ha2e⟩ : ∃ a2, a2 = a1 + k1 := ⟨_, rfl⟩
  obtain ⟨n2, k2, e2, g2, hn2, ha3⟩ := get_parts b a2 (by omega)
  obtain ⟨t, hte⟩ : ∃ t, t = a2 + k2 := ⟨_, rfl⟩
  have HE := Lib.hid (show entryF b a key = if e0 ≠ 0 then none else if e1 ≠ 0 then none else if e2 ≠ 0 then none else if key.length < n0 ∨ 200 < n1 ∨ 2000 < n2 ∨ b.length - t < n1 + n2 then none else
      some ((key.take n0 ++ (b.drop t).take n1, (b.drop (t + n1)).take n2), t + n1 + n2) by
    unfold entryF; simp only [g0, ← ha1e, g1, ← ha2e, g2, ← hte])
  have HG0 := Lib.hid (fun w' (g : Gr w w') m hmm c => Get_from b bl off cap a n0 k0 e0 w' g0 hc hm (hb.gr g) m hmm c)
  have HG1 := Lib.hid (fun w' (g : Gr w w') m hmm c => Get_from b bl off cap a1 n1 k1 e1 w' g1 hc hm (hb.gr g) m hmm c)
  have HG2 := Lib.hid (fun w' (g : Gr w w') m hmm c => Get_from b bl off cap a2 n2 k2 e2 w' g2 hc hm (hb.gr g) m hmm c)
  have hx1 : (a : Int) + (k0 : Int) = (a1 : Int) := by omega
  have hx2 : (a1 : Int) + (k1 : Int) = (a2 : Int) := by omega
  have hx3 : (a2 : Int) + (k2 : Int) = (t : Int) := by omega
  have hB := Lib.hid hb
  have htl : t ≤ b.length := by omega
  have ht1 : a1 ≤ b.length := by omega
  have ht2 : a2 ≤ b.length := by omega
  clear g0 g1 g2 hb ha1e ha2e hte ha1 ha2 ha3
  by_cases h0 : e0 = 0
  · have z0 : ((e0 : Int) != 0) = false := by rw [bne_eq_false_iff_eq]; omega
    have HE1 := Lib.hid (HE.out.trans (if_neg (show ¬ e0 ≠ 0 by omega)))
    clear HE
    by_cases h1 : e1 = 0
    · have z1 : ((e1 : Int) != 0) = false := by rw [bne_eq_false_iff_eq]; omega
      have HE2 := Lib.hid (HE1.out.trans (if_neg (show ¬ e1 ≠ 0 by omega)))
      clear HE1
      by_cases h2 : e2 = 0
      · have z2 : ((e2 : Int) != 0) = false := by rw [bne_eq_false_iff_eq]; omega
        have HE3 := Lib.hid (HE2.out.trans (if_neg (show ¬ e2 ≠ 0 by omega)))
        clear HE2
        by_cases hb : key.length < n0 ∨ 200 < n1 ∨ 2000 < n2 ∨ b.length - t < n1 + n2
        · have HN := Lib.hid (HE3.out.trans (if_pos hb))
          have hb4 : key.length < n0 ∨ (n0 ≤ key.length ∧ 200 < n1) ∨ (n0 ≤ key.length ∧ n1 ≤ 200 ∧ 2000 < n2) ∨ (n0 ≤ key.length ∧ n1 ≤ 200 ∧ n2 ≤ 2000 ∧ b.length < n1 + n2 + t) := by omega
          clear hb h0 h1 h2
          rcases hb4 with hb4 | ⟨hb4, hb5⟩ | ⟨hb4, hb5, hb6⟩ | ⟨hb4, hb5, hb6, hb7⟩
          · go_enter Tryz.func102, Tryz.ntmps102
            go_wp2
            refine wp_loop_rounds 4 ?_
            rw [rounds_succ]
            go_wp2_with (go_at_call 103; (with_reducible refine (HG0.out _ ((Gr.alloc _ _).trans (Gr.alloc _ _)) _ rfl _).mono ?_); rintro e w' ⟨rfl, rfl⟩)
            rw [rounds_succ]
            go_wp2_with (go_at_call 103; (with_reducible refine (HG1.out _ ((Gr.alloc _ _).trans (Gr.alloc _ _)) _ rfl _).mono ?_); rintro e w' ⟨rfl, rfl⟩)
            rw [rounds_succ]
            go_wp2_with (go_at_call 103; (with_reducible refine (HG2.out _ ((Gr.alloc _ _).trans (Gr.alloc _ _)) _ rfl _).mono ?_); rintro e w' ⟨rfl, rfl⟩)
            rw [rounds_succ]
            go_wp2
            refine bodyPost_ret (v := .tuple #[.agg #[.string ⟨#[]⟩, .string ⟨#[]⟩], .int .i64 0, .bool false]) (by simp [results, Tryz.results102, go_sem]) rfl ?_
            rw [HN.out]
            exact ⟨([], []), _, _, rfl, (Gr.alloc _ _).trans (Gr.alloc _ _), rfl⟩
          · go_enter Tryz.func102, Tryz.ntmps102
            go_wp2
            refine wp_loop_rounds 4 ?_
            rw [rounds_succ]
            go_wp2_with (go_at_call 103; (with_reducible refine (HG0.out _ ((Gr.alloc _ _).trans (Gr.alloc _ _)) _ rfl _).mono ?_); rintro e w' ⟨rfl, rfl⟩)
            rw [rounds_succ]
            go_wp2_with (go_at_call 103; (with_reducible refine (HG1.out _ ((Gr.alloc _ _).trans (Gr.alloc _ _)) _ rfl _).mono ?_); rintro e w' ⟨rfl, rfl⟩)
            rw [rounds_succ]
            go_wp2_with (go_at_call 103; (with_reducible refine (HG2.out _ ((Gr.alloc _ _).trans (Gr.alloc _ _)) _ rfl _).mono ?_); rintro e w' ⟨rfl, rfl⟩)
            rw [rounds_succ]
            go_wp2
            refine bodyPost_ret (v := .tuple #[.agg #[.string ⟨#[]⟩, .string ⟨#[]⟩], .int .i64 0, .bool false]) (by simp [results, Tryz.results102, go_sem]) rfl ?_
            rw [HN.out]
            exact ⟨([], []), _, _, rfl, (Gr.alloc _ _).trans (Gr.alloc _ _), rfl⟩
          · go_enter Tryz.func102, Tryz.ntmps102
            go_wp2
            refine wp_loop_rounds 4 ?_
            rw [rounds_succ]
            go_wp2_with (go_at_call 103; (with_reducible refine (HG0.out _ ((Gr.alloc _ _).trans (Gr.alloc _ _)) _ rfl _).mono ?_); rintro e w' ⟨rfl, rfl⟩)
            rw [rounds_succ]
            go_wp2_with (go_at_call 103; (with_reducible refine (HG1.out _ ((Gr.alloc _ _).trans (Gr.alloc _ _)) _ rfl _).mono ?_); rintro e w' ⟨rfl, rfl⟩)
            rw [rounds_succ]
            go_wp2_with (go_at_call 103; (with_reducible refine (HG2.out _ ((Gr.alloc _ _).trans (Gr.alloc _ _)) _ rfl _).mono ?_); rintro e w' ⟨rfl, rfl⟩)
            rw [rounds_succ]
            go_wp2
            refine bodyPost_ret (v := .tuple #[.agg #[.string ⟨#[]⟩, .string ⟨#[]⟩], .int .i64 0, .bool false]) (by simp [results, Tryz.results102, go_sem]) rfl ?_
            rw [HN.out]
            exact ⟨([], []), _, _, rfl, (Gr.alloc _ _).trans (Gr.alloc _ _), rfl⟩
          · go_enter Tryz.func102, Tryz.ntmps102
            go_wp2
            refine wp_loop_rounds 4 ?_
            rw [rounds_succ]
            go_wp2_with (go_at_call 103; (with_reducible refine (HG0.out _ ((Gr.alloc _ _).trans (Gr.alloc _ _)) _ rfl _).mono ?_); rintro e w' ⟨rfl, rfl⟩)
            rw [rounds_succ]
            go_wp2_with (go_at_call 103; (with_reducible refine (HG1.out _ ((Gr.alloc _ _).trans (Gr.alloc _ _)) _ rfl _).mono ?_); rintro e w' ⟨rfl, rfl⟩)
            rw [rounds_succ]
            go_wp2_with (go_at_call 103; (with_reducible refine (HG2.out _ ((Gr.alloc _ _).trans (Gr.alloc _ _)) _ rfl _).mono ?_); rintro e w' ⟨rfl, rfl⟩)
            rw [rounds_succ]
            go_wp2
            refine bodyPost_ret (v := .tuple #[.agg #[.string ⟨#[]⟩, .string ⟨#[]⟩], .int .i64 0, .bool false]) (by simp [results, Tryz.results102, go_sem]) rfl ?_
            rw [HN.out]
            exact ⟨([], []), _, _, rfl, (Gr.alloc _ _).trans (Gr.alloc _ _), rfl⟩
        · have HN := Lib.hid (HE3.out.trans (if_neg hb))
          obtain ⟨y0, y1, y2, y3⟩ : n0 ≤ key.length ∧ n1 ≤ 200 ∧ n2 ≤ 2000 ∧ n1 + n2 + t ≤ b.length := by omega
          clear hb h0 h1 h2
          go_enter Tryz.func102, Tryz.ntmps102
          go_wp2
          refine wp_loop_rounds 4 ?_
          rw [rounds_succ]
          go_wp2_with (go_at_call 103; (with_reducible refine (HG0.out _ ((Gr.alloc _ _).trans (Gr.alloc _ _)) _ rfl _).mono ?_); rintro e w' ⟨rfl, rfl⟩)
          rw [rounds_succ]
          go_wp2_with (go_at_call 103; (with_reducible refine (HG1.out _ ((Gr.alloc _ _).trans (Gr.alloc _ _)) _ rfl _).mono ?_); rintro e w' ⟨rfl, rfl⟩)
          rw [rounds_succ]
          go_wp2_with (go_at_call 103; (with_reducible refine (HG2.out _ ((Gr.alloc _ _).trans (Gr.alloc _ _)) _ rfl _).mono ?_); rintro e w' ⟨rfl, rfl⟩)
          rw [rounds_succ]
          go_wp2
          have gW : Gr w ((w.alloc (.cells #[.string ⟨#[]⟩, .string ⟨#[]⟩] 105)).alloc (.cells #[.int .u64 (n0 : Int), .int .u64 (n1 : Int), .int .u64 (n2 : Int)] 229)) := (Gr.alloc _ _).trans (Gr.alloc _ _)
          have bP := Blk.of2a (Gr.refl ((w.alloc (.cells #[.string ⟨#[]⟩, .string ⟨#[]⟩] 105)).alloc (.cells #[.int .u64 (n0 : Int), .int .u64 (n1 : Int), .int .u64 (n2 : Int)] 229)))
          have bA := Blk.of2b (Gr.refl ((w.alloc (.cells #[.string ⟨#[]⟩, .string ⟨#[]⟩] 105)).alloc (.cells #[.int .u64 (n0 : Int), .int .u64 (n1 : Int), .int .u64 (n2 : Int)] 229)))
          obtain ⟨cA, _, _, _⟩ := bA.three
          have bWb := hB.out.gr gW
          have BW := Lib.hid bWb
          have BP := Lib.hid bP
          clear bWb bA bP
          generalize ((w.alloc (.cells #[.string ⟨#[]⟩, .string ⟨#[]⟩] 105)).alloc (.cells #[.int .u64 (n0 : Int), .int .u64 (n1 : Int), .int .u64 (n2 : Int)] 229)) = W at *
          generalize hP1 : (b.drop t).take n1 = s1 at *
          generalize hP2 : (b.drop (t + n1)).take n2 = s2 at *
          have hs1 : s1.length = n1 := by rw [← hP1]; simp; omega
          have hs2 : s2.length = n2 := by rw [← hP2]; simp; omega
          have HS1 := Lib.hid hs1; have HS2 := Lib.hid hs2; have HP1 := Lib.hid hP1; have HP2 := Lib.hid hP2
          clear hP1 hP2
          have htk : (key.take n0).length = n0 := by simp; omega
          have HTK := Lib.hid htk
          clear hs1 hs2 htk
          have f1 : off + t < off + cap := by omega
          obtain ⟨Po, hPo⟩ : ∃ Po, Po = w.heap.size := ⟨_, rfl⟩
          have hPW : Po < W.heap.size := by rw [hPo]; exact BP.out.lt
          have hPb : bl ≠ Po := by omega
          have hPA : (some (Po + 1) : Option Nat) ≠ some Po := by simp
          have BP2 : Blk W Po 105 [.string ⟨#[]⟩, .string ⟨#[]⟩] := by rw [hPo]; exact BP.out
          have BP := Lib.hid BP2
          have HPO := Lib.hid hPo
          rw [← hPo] at cA ⊢
          obtain ⟨A, hA⟩ : ∃ A, A = W.heap[Po]? := ⟨_, rfl⟩
          have HA := Lib.hid hA
          clear hPo BP2 hA
          have hblk : ∀ x : Addr, x.block = bl → some x.block ≠ some Po := fun x hx h => by rw [hx] at h; cases h; exact hPb rfl
          have HBK := Lib.hid hblk; clear hblk
          refine region_store_once (some Po) A (some (.cells #[.string (str (key.take n0 ++ s1)), .string (str s2)] 105 (0, 0))) _ [Is (.string (str key)), Is (.pointer (some ⟨Po + 1, 0, none⟩)), Is (.int .u64 (n0 : Int)), Is (.string (str (key.take n0))), Is (.slice (some ⟨bl, off, none⟩) b.length cap), Is (.int .i64 (t : Int)), Is (.int .i64 ((t : Int) + (n1 : Int))), Is (.slice (some ⟨bl, off + t, none⟩) n1 (cap - t)), Is (.string (str s1)), Is (.string (str (key.take n0 ++ s1))), Is (.slice (some ⟨bl, off, none⟩) b.length cap), Is (.int .i64 ((t : Int) + (n1 : Int))), Is (.int .i64 ((t : Int) + (n1 : Int) + (n2 : Int))), Is (.slice (some ⟨bl, off + (t + n1), none⟩) n2 (cap - (t + n1))), Is (.string (str s2)), Is (.agg #[.string (str (key.take n0 ++ s1)), .string (str s2)]), Is (.int .i64 ((t : Int) + (n1 : Int) + (n2 : Int))), StoredB (some Po) (some (.cells #[.string (str (key.take n0 ++ s1)), .string (str s2)] 105 (0, 0))), Is (.int .i64 ((t : Int) + (n1 : Int) + (n2 : Int))), Is (.bool true)] (by kernel_rfl) (by kernel_rfl) (by kernel_rfl) rfl rfl ⟨Is.stable _, Is.stable _, Is.stable _, Is.stable _, Is.stable _, Is.stable _, Is.stable _, Is.stable _, Is.stable _, Is.stable _, Is.stable _, Is.stable _, Is.stable _, Is.stable _, Is.stable _, Is.stable _, Is.stable _, StoredB.stable, Is.stable _, Is.stable _, trivial⟩ ⟨?s0, ?s1, ?s2, ?s3, ?s4, ?s5, ?s6, ?s7, ?s8, ?s9, ?s10, ?s11, ?s12, ?s13, ?s14, ?s15, ?s16, ?s17, ?s18, ?s19, trivial⟩ ?fin
          case' s0 | s1 | s2 | s3 | s4 | s5 | s6 | s7 | s8 | s9 | s10 | s11 | s12 | s13 | s14 | s15 | s16 | s17 | s18 | s19 =>
            intro ρ wr hρ hg hK
            simp [readsOf, slotsOf, Op.operands, Call.operands, tmpOf, List.filterMap_cons, List.filterMap_nil, KnownAll, knownOf, srcOf, depsOf, dstOf, Region.binds, nth, Is] at hK
            obtain ⟨hc, hf, hgl⟩ := hρ
            try simp only [wantedBy, dstOf, boolOf, nth, List.getD_cons_zero, List.getD_cons_succ, List.getElem?_cons_zero, List.getElem?_cons_succ, Option.bind_some, if_true, hK, BEq.rfl]
            try go_simp
            first | exact rfl | (rw [if_pos (by omega)]; exact is_here rfl) | (rw [dif_pos (by omega)]; exact is_here rfl) | exact congrArg (Value.int _) (IntWalk.i64_in _ ⟨by omega, by omega⟩) | skip
          case s2 => have := hg.cell cA hPA; go_simp; exact rfl
          case s7 =>
            rw [if_pos ⟨by omega, by omega⟩, if_pos (by omega)]
            refine ⟨Once.refl _, ?_⟩
            rw [if_neg (by omega), show ((t : Int) + (n1 : Int)).toNat - t = n1 by omega]
            exact rfl
          case s8 =>
            rw [run_string (P := Tryz.prog) Tryz.underlying31 Tryz.underlying5 Tryz.underlying9 HS1.out (hg.bytes (by rw [← HP1.out]; exact (BW.out.drop t).take n1) (fun x hx => by cases hx; exact HBK.out _ rfl))]
            exact ⟨Once.refl _, rfl⟩
          case s9 =>
            rw [if_neg (by have := HS1.out; omega)]
            exact ⟨Once.refl _, rfl⟩
          case s13 =>
            rw [if_pos ⟨by omega, by omega⟩, if_pos ⟨by omega, by omega⟩]
            refine ⟨Once.refl _, ?_⟩
            have q1 : ((t : Int) + (n1 : Int)).toNat = t + n1 := by omega
            have q2 : ((t : Int) + (n1 : Int) + (n2 : Int)).toNat - (t + n1) = n2 := by omega
            rw [q1, q2, if_neg (by omega)]
            exact rfl
          case s14 =>
            rw [run_string (P := Tryz.prog) Tryz.underlying31 Tryz.underlying5 Tryz.underlying9 HS2.out (hg.bytes (by rw [← HP2.out]; exact (BW.out.drop (t + n1)).take n2) (fun x hx => by cases hx; exact HBK.out _ rfl))]
            exact ⟨Once.refl _, rfl⟩
          case s17 =>
            have hcs := hg.2 Po rfl
            have hbk : ∃ x y, Blk wr Po 105 [x, y] := by
              rcases hcs with h | ⟨_, h⟩
              · exact ⟨_, _, h.trans BP.out⟩
              · exact ⟨_, _, h⟩
            obtain ⟨x, y, hbk⟩ := hbk
            obtain ⟨u0, u1⟩ := hbk.two
            have fz0 := hbk.frozen 0
            have fz1 := hbk.frozen 1
            have hb2 := (hbk.set_ 0 (.string (str (key.take n0 ++ s1)))).set_ 1 (.string (str s2))
            simp only [List.set_cons_zero, List.set_cons_succ] at hb2
            go_simp
            refine ⟨⟨grown_trans (grown_set wr Po 0 _) (grown_set _ Po 1 _), fun g hg' => ?_⟩, fun g hg' => by cases hg'; exact hb2⟩
            cases hg'
            rcases hcs with h | ⟨_, h⟩
            · exact .inr ⟨h.trans HA.out.symm, hb2⟩
            · exact .inl (hb2.trans h.symm)
          case fin =>
            intro w1 val hg hH
            simp only [Holds, Is, Nat.zero_add, Nat.reduceAdd] at hH
            obtain ⟨h0, h1, h2, h3, h4, h5, h6, h7, h8, h9, h10, h11, h12, h13, h14, h15, h16, h17, h18, h19, _⟩ := hH
            simp only [List.take_succ_cons, List.take_zero, List.drop_succ_cons, List.drop_zero, putAll, h0, h1, h2, h3, h4, h5, h6, h7, h8, h9, h10, h11, h12, h13, h14, h15, h16, h18, h19, Nat.zero_add, Nat.reduceAdd]
            have hb2 : Blk w1 Po 105 [.string (str (key.take n0 ++ s1)), .string (str s2)] := h17 Po rfl
            obtain ⟨d0, d1⟩ := hb2.two
            have gE : Gr w w1 := gW.grown hg.1 (fun g e => by cases e; exact Nat.le_of_eq HPO.out.symm)
            go_simp
            go_wp2
            refine bodyPost_ret (v := .tuple #[.agg #[.string (str (key.take n0 ++ s1)), .string (str s2)], .int .i64 ((t : Int) + (n1 : Int) + (n2 : Int)), .bool true]) (by simp [results, Tryz.results102, go_sem, d0, d1]) rfl ?_
            refine ⟨(key.take n0 ++ s1, s2), _, _, rfl, gE, ?_⟩
            rw [HN.out]
            exact ⟨rfl, rfl, by omega⟩
      · have z2 : ((e2 : Int) != 0) = true := by rw [bne_iff_ne]; omega
        have HN := Lib.hid (HE2.out.trans (if_pos h2))
        clear h0 h1 h2
        go_enter Tryz.func102, Tryz.ntmps102
        go_wp2
        refine wp_loop_rounds 4 ?_
        rw [rounds_succ]
        go_wp2_with (go_at_call 103; (with_reducible refine (HG0.out _ ((Gr.alloc _ _).trans (Gr.alloc _ _)) _ rfl _).mono ?_); rintro e w' ⟨rfl, rfl⟩)
        rw [rounds_succ]
        go_wp2_with (go_at_call 103; (with_reducible refine (HG1.out _ ((Gr.alloc _ _).trans (Gr.alloc _ _)) _ rfl _).mono ?_); rintro e w' ⟨rfl, rfl⟩)
        rw [rounds_succ]
        go_wp2_with (go_at_call 103; (with_reducible refine (HG2.out _ ((Gr.alloc _ _).trans (Gr.alloc _ _)) _ rfl _).mono ?_); rintro e w' ⟨rfl, rfl⟩)
        refine bodyPost_ret (v := .tuple #[.agg #[.string ⟨#[]⟩, .string ⟨#[]⟩], .int .i64 0, .bool false]) (by simp [results, Tryz.results102, go_sem]) rfl ?_
        rw [HN.out]
        exact ⟨([], []), _, _, rfl, (Gr.alloc _ _).trans (Gr.alloc _ _), rfl⟩
    · have z1 : ((e1 : Int) != 0) = true := by rw [bne_iff_ne]; omega
      have HN := Lib.hid (HE1.out.trans (if_pos h1))
      clear h0 h1
      go_enter Tryz.func102, Tryz.ntmps102
      go_wp2
      refine wp_loop_rounds 4 ?_
      rw [rounds_succ]
      go_wp2_with (go_at_call 103; (with_reducible refine (HG0.out _ ((Gr.alloc _ _).trans (Gr.alloc _ _)) _ rfl _).mono ?_); rintro e w' ⟨rfl, rfl⟩)
      rw [rounds_succ]
      go_wp2_with (go_at_call 103; (with_reducible refine (HG1.out _ ((Gr.alloc _ _).trans (Gr.alloc _ _)) _ rfl _).mono ?_); rintro e w' ⟨rfl, rfl⟩)
      refine bodyPost_ret (v := .tuple #[.agg #[.string ⟨#[]⟩, .string ⟨#[]⟩], .int .i64 0, .bool false]) (by simp [results, Tryz.results102, go_sem]) rfl ?_
      rw [HN.out]
      exact ⟨([], []), _, _, rfl, (Gr.alloc _ _).trans (Gr.alloc _ _), rfl⟩
  · have z0 : ((e0 : Int) != 0) = true := by rw [bne_iff_ne]; omega
    have HN := Lib.hid (HE.out.trans (if_pos h0))
    clear h0
    go_enter Tryz.func102, Tryz.ntmps102
    go_wp2
    refine wp_loop_rounds 4 ?_
    rw [rounds_succ]
    go_wp2_with (go_at_call 103; (with_reducible refine (HG0.out _ ((Gr.alloc _ _).trans (Gr.alloc _ _)) _ rfl _).mono ?_); rintro e w' ⟨rfl, rfl⟩)
    refine bodyPost_ret (v := .tuple #[.agg #[.string ⟨#[]⟩, .string ⟨#[]⟩], .int .i64 0, .bool false]) (by simp [results, Tryz.results102, go_sem]) rfl ?_
    rw [HN.out]
    exact ⟨([], []), _, _, rfl, (Gr.alloc _ _).trans (Gr.alloc _ _), rfl⟩
end Go.Proofs.YtpaogoehgkoaeaaGreatDoor
/- Layer 13 (block): the statements' own rising. -/
namespace Go.Proofs.YtpaogoehgkoaeaaGreatDoor.Bk
set_option linter.unusedVariables false
set_option linter.unusedSimpArgs false
open Go.Op (bytesLess)
def posF (k : List UInt8) : List Pr → Nat
  | [] => 0
  | q :: l => if bytesLess q.1 k = true then posF k l + 1 else 0
def insF (out : List Pr) (p : Pr) : List Pr :=
  if posF p.1 out < out.length ∧ (out.getD (posF p.1 out) noPr).1 = p.1 then out else out.take (posF p.1 out) ++ [p] ++ out.drop (posF p.1 out)
end Go.Proofs.YtpaogoehgkoaeaaGreatDoor.Bk
namespace Go.Proofs.YtpaogoehgkoaeaaGreatDoor
set_option linter.unusedVariables false
set_option linter.unusedSimpArgs false
open Go.RowKit Bk
open Go.Op (bytesLess)
theorem Owns.pair {w : World} {base : Nat} {e : TypeId} {ad : Option Addr} {cap n : Nat} {l : List Pr} (h : Owns w base e 2 ad cap n (pv l)) (i : Nat) (hi : i < l.length) :
    ∃ b off, ad = some ⟨b, off, none⟩ ∧ w.cell? ⟨b, off + i * 2, none⟩ = some (.string (str l[i].1)) ∧ w.cell? ⟨b, off + i * 2 + 1, none⟩ = some (.string (str l[i].2)) := h.row.pair i hi
theorem Row.drop {w : World} {b off : Nat} {vs : List Value} (h : Row w (some ⟨b, off, none⟩) vs) (k : Nat) : Row w (some ⟨b, off + k, none⟩) (vs.drop k) := fun i u hi => by
  rw [List.getElem?_drop] at hi
  obtain ⟨b', off', e, hc⟩ := h (k + i) u hi
  cases e
  exact ⟨b, off + k, rfl, by rw [Nat.add_assoc]; exact hc⟩
end Go.Proofs.YtpaogoehgkoaeaaGreatDoor
/- Layer 13 (block): BlockWhole answers true. -/
namespace Go.Proofs.YtpaogoehgkoaeaaGreatDoor.Bk
set_option linter.unusedVariables false
set_option linter.unusedSimpArgs false
open Varint
theorem chkF_ok {l : List Pr} {a : Int} (h : chkF l a = 0) : okLens l ∧ l.length ≤ 10000 ∧ riseB l = true := by
  unfold chkF at h
  split at h
  · cases h
  · split at h
    · cases h
    · rename_i h2
      have h3 : ¬ 10000 < l.length ∧ ¬ l.any longB = true := not_or.1 h2
      split at h
      · rename_i h5; exact ⟨okLens_of (by simpa using h3.2), by omega, h5⟩
      · cases h
end Go.Proofs.YtpaogoehgkoaeaaGreatDoor.Bk
namespace Go.Proofs.YtpaogoehgkoaeaaGreatDoor
set_option linter.unusedVariables false
set_option linter.unusedSimpArgs false
open Go.RowKit Bk
theorem u64_mod (x : Int) (m : Nat) (hm : 0 < m) (h : m ≤ 4611686018427387904) : ∃ a : Nat, IntKind.i64.wrap ((IntKind.u64.wrap x).tmod (m : Int)) = (a : Int) ∧ a < m := by
  have h0 : 0 ≤ IntKind.u64.wrap x := by rw [IntKind.wrap_u64]; omega
  have h1 : (IntKind.u64.wrap x).tmod (m : Int) = IntKind.u64.wrap x % (m : Int) := Int.tmod_eq_emod_of_nonneg h0
  have h2 := Int.emod_nonneg (IntKind.u64.wrap x) (show (m : Int) ≠ 0 by omega)
  have h3 := Int.emod_lt_of_pos (IntKind.u64.wrap x) (show (0 : Int) < m by omega)
  obtain ⟨a, ha⟩ := Int.eq_ofNat_of_zero_le h2
  refine ⟨a, ?_, by omega⟩
  rw [h1, ha, IntKind.wrap_i64]
  omega
theorem Build_at (ad : Option Addr) (n cap : Nat) (l : List Pr) (itv : Int) (w : World) (c : Nat) (out : List UInt8) (hn : n = l.length) (hr : Row w ad (pv l)) (hl : l.length ≤ 9223372036854775807) (hc : chkF l itv = c) (ho : (if c = 0 then buildF itv.toNat l else []) = out) :
    Calls Tryz.prog 94 #[.slice ad n cap, .int .i64 itv] w (RetBE 5 w out c) := by
  subst hn hc ho; exact Build_any ad cap l itv w hr hl
end Go.Proofs.YtpaogoehgkoaeaaGreatDoor
/- Layer 13 (block): Pairs. -/
namespace Go.Proofs.YtpaogoehgkoaeaaGreatDoor
set_option linter.unusedVariables false
set_option linter.unusedSimpArgs false
open Go.RowKit Bk
theorem equal_any (ad1 ad2 : Option Addr) (n1 n2 c1 c2 : Nat) (a b : List UInt8) (w : World) (h1 : a.length = n1) (h2 : b.length = n2) (hb1 : Bytes w ad1 a) (hb2 : Bytes w ad2 b) :
    Calls Tryz.prog 52 #[.slice ad1 n1 c1, .slice ad2 n2 c2] w fun e w' => e = .returned (.bool (a == b)) ∧ w = w' := by
  have s1 := run_string (P := Tryz.prog) Tryz.underlying31 Tryz.underlying5 Tryz.underlying9 (cap := c1) h1 hb1
  have s2 := run_string (P := Tryz.prog) Tryz.underlying31 Tryz.underlying5 Tryz.underlying9 (cap := c2) h2 hb2
  go_enter Tryz.func52, Tryz.ntmps52
  go_wp2
  go_ret
  exact ⟨rfl, rfl⟩
/-- pairs of its own, and an error's number -/
def RetPE (w : World) (l : List Pr) (n : Nat) : Ending → World → Prop := fun x w' => ∃ ad cap, x = .returned (.tuple #[.slice ad l.length cap, .int .i64 (n : Int)]) ∧ Owns w' w.heap.size 105 2 ad cap l.length (pv l) ∧ Gr w w'
/-- one element, in a block that was made since -/
def OneN (N : Nat) (xs : List Value) : Value → World → Prop := fun v w => ∃ g e fr, v = .slice (some ⟨g, 0, none⟩) 1 1 ∧ N ≤ g ∧ w.heap[g]? = some (.cells xs.toArray e fr)
theorem OneN.one {N : Nat} {xs : List Value} {v : Value} {w : World} (h : OneN N xs v w) : OneB xs v w := by
  obtain ⟨g, e, fr, h1, _, h2⟩ := h; exact ⟨g, e, fr, h1, h2⟩
theorem OneN.stable {row : Option Nat} {A B : Option Obj} {N : Nat} {xs : List Value} (h : ∀ g, row = some g → g < N) : Stable (Once row A B) (OneN N xs) := by
  rintro v w1 w2 ⟨g, e, fr, rfl, hN, hg⟩ k
  exact ⟨g, e, fr, rfl, hN, (k.1.block g (Array.getElem?_eq_some_iff.1 hg).1 (fun hh => by have := h g hh.symm; omega)).trans hg⟩
theorem entry_len {b : List UInt8} {a : Nat} {key : List UInt8} {p : Pr} {t : Nat} (h : entryF b a key = some (p, t)) (ha : a ≤ b.length) : p.1.length ≤ key.length + 200 ∧ t ≤ b.length := by
  unfold entryF at h
  have f0 := Varint.getF_le (b.drop a)
  rw [List.length_drop] at f0
  have f1 := Varint.getF_le (b.drop (a + (Varint.getF (b.drop a)).2.1))
  rw [List.length_drop] at f1
  have f2 := Varint.getF_le (b.drop (a + (Varint.getF (b.drop a)).2.1 + (Varint.getF (b.drop (a + (Varint.getF (b.drop a)).2.1))).2.1))
  rw [List.length_drop] at f2
  split at h
  · cases h
  · split at h
    · cases h
    · split at h
      · cases h
      · simp only at h
        split at h
        · cases h
        · rename_i hh
          simp only [Option.some.injEq, Prod.mk.injEq] at h
          obtain ⟨rfl, rfl⟩ := h
          simp only [List.length_append, List.length_take, List.length_drop]
          omega
set_option maxRecDepth 100000 in
set_option maxHeartbeats 4000000 in
theorem Pairs_any (ad : Option Addr) (cap : Nat) (b : List UInt8) (w : World) (hl : b.length ≤ 1000000000) (hc : b.length ≤ cap) (hm : cap ≤ maxLen) (hb : Bytes w ad b) :
    Calls Tryz.prog 48 #[.slice ad b.length cap] w (RetPE w (pairsF b).1 (pairsF b).2) := by
  have HP := Lib.hid (parts_any ad cap b w hl hc hm hb)
  have HB := Lib.hid hb
  clear hb
  unfold RetParts at HP
  cases hp : partsF b with
  | none =>
    have HN := Lib.hid (show pairsF b = ([], 2) by unfold pairsF; rw [hp])
    rw [hp] at HP
    clear hp
    go_enter Tryz.func48, Tryz.ntmps48
    go_wp2_with (go_at_call 101; refine HP.out.mono ?_; rintro e w1 ⟨g1, s1, s2, i1, i2, rfl⟩)
    go_ret2
    rw [HN.out]
    exact ⟨none, 0, rfl, Owns.empty _ _ _ _, g1⟩
  | some X =>
    obtain ⟨d, itv, c⟩ := X
    rw [hp] at HP
    have hcc : c ≤ 10000 ∧ 1 ≤ itv ∧ itv ≤ 64 := by
      unfold partsF at hp
      split at hp
      · cases hp
      · simp only at hp
        split at hp
        · cases hp
        · split at hp
          · cases hp
          · cases hp; omega
    obtain ⟨hcc, hi1, hi2⟩ := hcc
    have HPF := Lib.hid (show pairsF b = match decN d c 0 [] with | none => ([], 2) | some l => if chkF l (itv : Int) = 0 ∧ buildF itv l = b then (l, 0) else ([], 2) by unfold pairsF; rw [hp] <;> rfl)
    clear hp
    go_enter Tryz.func48, Tryz.ntmps48
    go_wp2_with (go_at_call 101; refine HP.out.mono ?_; rintro e wp ⟨g1, b1, o1, ad2, c1, c2, rfl, hb1, hd1, hd2, _, _, hdl, hbd, _, _⟩)
    have hc1m : c1 ≤ maxLen := Nat.le_trans hd2 hm
    go_loopw [9, 10, 11, 28] (fun vo va vk vi wr => ∃ (i a : Nat) (key : List UInt8) (P : List Pr) (adO : Option Addr) (cO : Nat), i ≤ c ∧ P.length = i ∧ vo = .slice adO i cO ∧ va = .int .i64 (a : Int) ∧ vk = .string (str key) ∧ vi = .int .i64 (i : Int) ∧ a ≤ d.length ∧ key.length ≤ 200 * i ∧
      Owns wr wp.heap.size 105 2 adO cO i (pv P) ∧ Gr wp wr ∧ decN d c 0 [] = (decN d (c - i) a key).map (P ++ ·)) (fun _ _ _ vi _ => c - (intOf vi).toNat)
    case atStart => exact ⟨0, 0, [], [], none, 0, Nat.zero_le _, rfl, rfl, rfl, rfl, rfl, Nat.zero_le _, Nat.zero_le _, Owns.empty _ _ _ _, Gr.refl _, by cases decN d c 0 [] <;> rfl⟩
    case round =>
      obtain ⟨i, a, key, P, adO, cO, hic, hPl, rfl, rfl, rfl, rfl, ha, hk, oO, hg1, hdec⟩ := hrel
      have hg := g1.trans hg1
      have HDEC := Lib.hid hdec; clear hdec
      have HPL := Lib.hid hPl; clear hPl
      have hbs := hg1.size
      by_cases hlt : i < c
      · have HEN := Lib.hid (entry_any b1 o1 c1 d a key wr (by omega) hd1 hc1m ha (by omega) (Nat.lt_of_lt_of_le hb1 hg1.size) (hbd.gr hg1))
        have hstep : decN d (c - i) a key = match entryF d a key with | none => none | some (p, t) => (decN d (c - (i + 1)) t p.1).map (p :: ·) := by
          rw [show c - i = (c - (i + 1)) + 1 by omega, decN] <;>
            cases entryF d a key <;> rfl
        have HST := Lib.hid hstep; clear hstep
        cases he : entryF d a key with
        | none =>
          have HN := Lib.hid (show pairsF b = ([], 2) by rw [HPF.out, HDEC.out, HST.out, he]; rfl)
          rw [he] at HEN
          clear he
          go_wp2_with (go_at_call 102; refine HEN.out.mono ?_; rintro e w2 ⟨p, t, ok, rfl, g2, hok⟩; obtain rfl : ok = false := hok)
          go_ret2
          rw [HN.out]
          exact ⟨none, 0, rfl, Owns.empty _ _ _ _, (hg.trans g2).trans (Gr.alloc _ _)⟩
        | some X =>
          obtain ⟨p, t⟩ := X
          have hel := entry_len he ha
          have HN := Lib.hid (show decN d c 0 [] = (decN d (c - (i + 1)) t p.1).map ((P ++ [p]) ++ ·) by
            rw [HDEC.out, HST.out, he]
            simp only
            cases decN d (c - (i + 1)) t p.1 <;> simp)
          rw [he] at HEN
          clear he
          go_wp2_with (go_at_call 102; refine HEN.out.mono ?_; rintro e w2 ⟨p', t', ok, rfl, g2, hok, hp', ht'⟩; obtain rfl : ok = true := hok; obtain rfl := hp'; subst ht')
          obtain ⟨gb, hgb⟩ : ∃ gb, gb = w2.heap.size := ⟨_, rfl⟩
          have bk : Blk (w2.alloc (.cells #[.string (str p'.1), .string (str p'.2)] 105)) gb 105 [.string (str p'.1), .string (str p'.2)] := by rw [hgb]; exact Blk.new _ _ _
          have gw2 : Gr wr (w2.alloc (.cells #[.string (str p'.1), .string (str p'.2)] 105)) := g2.trans (Gr.alloc _ _)
          have hgs : wr.heap.size ≤ gb := by rw [hgb]; exact g2.size
          have hgb2 : gb < (w2.alloc (.cells #[.string (str p'.1), .string (str p'.2)] 105)).heap.size := bk.lt
          rw [← hgb]
          clear hgb
          generalize w2.alloc (.cells #[.string (str p'.1), .string (str p'.2)] 105) = W at *
          have oO2 := oO.gr gw2
          have gW := hg.trans gw2
          obtain ⟨x0, x1⟩ := bk.two
          obtain ⟨row, hrow⟩ : ∃ row, row = adO.map (·.block) := ⟨_, rfl⟩
          have hrlt : ∀ g', row = some g' → g' < wr.heap.size ∧ wp.heap.size ≤ g' := by
            intro g' hg'
            rw [hrow] at hg'
            cases adO with
            | none => cases hg'
            | some y => cases hg'; exact ⟨(oO.lt y rfl).2, (oO.lt y rfl).1⟩
          have hgne : some gb ≠ row := fun h => by have := (hrlt gb h.symm).1; omega
          have hWs := gw2.size
          obtain ⟨A, hA⟩ : ∃ A : Option Obj, ∀ g, row = some g → A = W.heap[g]? := ⟨row.bind fun g => W.heap[g]?, fun g hg' => by rw [hg']; rfl⟩
          obtain ⟨B, hB⟩ : ∃ B : Option Obj, B = if i + 1 ≤ cO then appRow (i * 2) [.string (str p'.1), .string (str p'.2)] A else A := ⟨_, rfl⟩
          have m1 : i + 1 ≤ maxLen := by unfold maxLen; omega
          have m2 : (i + 1) * 32 ≤ 140737488355328 := by omega
          have hbsW : wp.heap.size ≤ W.heap.size := Nat.le_trans hbs hWs
          have HRow := Lib.hid hrow; have HA := Lib.hid hA; have HBB := Lib.hid hB; have HRL := Lib.hid hrlt
          clear hrow hA hB hrlt
          refine region_store_once row A B _ [Is (.slice adO i cO), Is (.agg #[.string (str p'.1), .string (str p'.2)]), OneN W.heap.size [.string (str p'.1), .string (str p'.2)], Apn row B wp.heap.size 105 2 (i + 1) (pv P ++ [.string (str p'.1), .string (str p'.2)]) W.heap.size, Is (.int .i64 (t : Int)), Is (.pointer (some ⟨gb, 0, none⟩)), Is (.string (str p'.1)), Apn row B wp.heap.size 105 2 (i + 1) (pv P ++ [.string (str p'.1), .string (str p'.2)]) W.heap.size, Is (.int .i64 (t : Int)), Is (.string (str p'.1))] (by kernel_rfl) (by kernel_rfl) (by kernel_rfl) rfl rfl ⟨Is.stable _, Is.stable _, OneN.stable (fun g h => by have := (HRL.out g h).1; omega), Apn.stable _ _ _ _ _ _, Is.stable _, Is.stable _, Is.stable _, Apn.stable _ _ _ _ _ _, Is.stable _, Is.stable _, trivial⟩ ⟨?s0, ?s1, ?s2, ?s3, ?s4, ?s5, ?s6, ?s7, ?s8, ?s9, trivial⟩ ?fin
          case' s0 | s1 | s2 | s4 | s5 | s6 | s7 | s8 | s9 =>
            intro ρ wr hρ hg hK
            simp [readsOf, slotsOf, Op.operands, Call.operands, tmpOf, List.filterMap_cons, List.filterMap_nil, KnownAll, knownOf, srcOf, depsOf, dstOf, Region.binds, nth, Is] at hK
            obtain ⟨hc, hf, hgl⟩ := hρ
            try simp only [wantedBy, dstOf, boolOf, nth, List.getD_cons_zero, List.getD_cons_succ, List.getElem?_cons_zero, List.getElem?_cons_succ, Option.bind_some, if_true, hK, BEq.rfl]
            try go_simp
            first | exact rfl | (rw [if_pos (by omega)]; exact is_here rfl) | (rw [dif_pos (by omega)]; exact is_here rfl) | exact congrArg (Value.int _) (IntWalk.i64_in _ ⟨by omega, by omega⟩) | skip
          case' s3 =>
            intro ρ wr hρ hg hK
            simp [readsOf, slotsOf, Op.operands, Call.operands, tmpOf, List.filterMap_cons, List.filterMap_nil, KnownAll, knownOf, srcOf, depsOf, dstOf, Region.binds, nth, Is] at hK
            obtain ⟨hc, hf, hgl⟩ := hρ
            try simp only [wantedBy, dstOf, boolOf, nth, List.getD_cons_zero, List.getD_cons_succ, List.getElem?_cons_zero, List.getElem?_cons_succ, Option.bind_some, if_true, hK, BEq.rfl]
          case s1 =>
            have z0 := hg.cell x0 hgne
            have z1 := hg.cell x1 hgne
            go_simp
            exact rfl
          case s2 => exact ⟨(Gr.alloc _ _).once (fun g h => by have := (HRL.out g h).1; have := hg.size; omega), _, _, _, rfl, hg.size, heap_alloc_new _ _⟩
          case s3 =>
            obtain ⟨e0, hone⟩ := hK
            obtain ⟨v, w3, r1, r2, r3⟩ := append_once2 (ty := 79) (u := 79) elemP oO2 HRow.out HA.out HBB.out hg (hone.one.src rfl (pv_one [p']) Tryz.underlying79) m1 m2 hbsW
            simp only [execOp, resolve, invoke, builtin, Sem.run_bind, Sem.run_pure, Result.andThen_ok, List.map_toArray, List.map_cons, List.map_nil, e0]
            rw [r1]
            exact ⟨r2, r3⟩
          case s6 =>
            have z0 := hg.cell x0 hgne
            go_simp
            exact rfl
          case fin =>
            intro w1 val hg hH
            simp only [Holds, Is, Nat.zero_add, Nat.reduceAdd] at hH
            obtain ⟨h0, h1, h2, h3, h4, h5, h6, h7, h8, h9, _⟩ := hH
            simp only [List.take_succ_cons, List.take_zero, List.drop_succ_cons, List.drop_zero, putAll, h0, h1, h4, h5, h6, h8, h9, Nat.zero_add, Nat.reduceAdd]
            obtain ⟨ad7, c7, e7, o7, _, _⟩ := h7
            obtain ⟨ad3, c3, e3, _⟩ := h3
            obtain ⟨g9, e9, fr9, e2, _⟩ := h2
            simp only [e7, e3, e2]
            go_simp
            go_wp2
            go_roundw
            case rel =>
              exact ⟨i + 1, t, p'.1, P ++ [p'], ad7, c7, hlt, by rw [List.length_append, HPL.out]; rfl, rfl, rfl, rfl, by go_num, hel.2, by omega, by rw [pv_append]; exact o7, (hg1.trans gw2).grown hg.1 (fun g h => (HRL.out g h).2), HN.out⟩
            case measure => simp [intOf]; omega
      · obtain rfl : i = c := by omega
        have HD2 := Lib.hid (show decN d i 0 [] = some P by rw [HDEC.out, Nat.sub_self, decN]; simp)
        have HBU := Lib.hid (fun w' (g : Gr wr w') => Build_at adO i cO P (itv : Int) w' (chkF P (itv : Int)) (if chkF P (itv : Int) = 0 then buildF itv P else []) HPL.out.symm (oO.gr g).row (by have := HPL.out; omega) rfl rfl)
        have HR := Lib.hid (show pairsF b = if chkF P (itv : Int) = 0 ∧ buildF itv P = b then (P, 0) else ([], 2) by rw [HPF.out, HD2.out])
        clear hlt
        by_cases hk0 : chkF P (itv : Int) = 0
        · rw [hk0] at HBU HR
          simp only [if_true, true_and] at HBU HR
          generalize buildF itv P = out at *
          by_cases heq : out = b
          · subst heq
            have hbe : (out == out) = true := by simp
            rw [if_pos rfl] at HR
            clear hk0
            go_wp2_with (first
              | (go_at_call 94; refine (HBU.out _ (Gr.refl _)).mono ?_; rintro e w3 ⟨ad3, c3, rfl, o3, g3⟩)
              | (go_at_call 52; refine (equal_any _ _ _ _ _ _ out out _ rfl rfl (HB.out.gr (hg.trans g3)) o3.bytes).mono ?_; rintro e w4 ⟨rfl, rfl⟩))
            go_ret2
            rw [HR.out]
            refine ⟨adO, cO, by rw [HPL.out]; rfl, ?_, hg.trans g3⟩
            rw [HPL.out]
            exact (oO.gr g3).base g1.size
          · have hbe : (b == out) = false := by rw [beq_eq_false_iff_ne]; exact fun h => heq h.symm
            rw [if_neg heq] at HR
            clear hk0 heq
            go_wp2_with (first
              | (go_at_call 94; refine (HBU.out _ (Gr.refl _)).mono ?_; rintro e w3 ⟨ad3, c3, rfl, o3, g3⟩)
              | (go_at_call 52; refine (equal_any _ _ _ _ _ _ b out _ rfl rfl (HB.out.gr (hg.trans g3)) o3.bytes).mono ?_; rintro e w4 ⟨rfl, rfl⟩))
            go_ret2
            rw [HR.out]
            exact ⟨none, 0, rfl, Owns.empty _ _ _ _, hg.trans g3⟩
        · have HR2 := Lib.hid (HR.out.trans (if_neg (fun h => hk0 h.1)))
          generalize hcc9 : chkF P (itv : Int) = ck at *
          have hne : ((ck : Int) != 0) = true := by rw [bne_iff_ne]; omega
          rw [if_neg hk0] at HBU
          clear hk0 hcc9
          go_wp2_with (first
            | (go_at_call 94; refine (HBU.out _ (Gr.refl _)).mono ?_; rintro e w3 ⟨ad3, c3, rfl, o3, g3⟩))
          go_ret2
          rw [HR2.out]
          exact ⟨none, 0, rfl, Owns.empty _ _ _ _, hg.trans g3⟩
end Go.Proofs.YtpaogoehgkoaeaaGreatDoor
/- Layer 13 (block): Same (the reference's), and BlockIntervals answers true. -/
namespace Go.Proofs.YtpaogoehgkoaeaaGreatDoor
set_option linter.unusedVariables false
set_option linter.unusedSimpArgs false
open Go.RowKit Bk
end Go.Proofs.YtpaogoehgkoaeaaGreatDoor
/- Layer 13 (block): the reference's DocCheck, common, fixed. -/
namespace Go.Proofs.YtpaogoehgkoaeaaGreatDoor
set_option linter.unusedVariables false
set_option linter.unusedSimpArgs false
open Go.RowKit Bk
open Go.Op (bytesLess)
section
open Varint
end
end Go.Proofs.YtpaogoehgkoaeaaGreatDoor
/- Layer 13 (block): the reference's DocBuild. -/
namespace Go.Proofs.YtpaogoehgkoaeaaGreatDoor
set_option linter.unusedVariables false
set_option linter.unusedSimpArgs false
open Go.RowKit Bk
end Go.Proofs.YtpaogoehgkoaeaaGreatDoor
/- Layer 13 (block): BlockBack answers true. -/
namespace Go.Proofs.YtpaogoehgkoaeaaGreatDoor.Bk
set_option linter.unusedVariables false
set_option linter.unusedSimpArgs false
open Varint
theorem build_tail (itv : Nat) (l : List Pr) : (buildF itv l).length = (dataN itv l l.length).length + (placeN itv l l.length).length + 6 ∧ (buildF itv l).drop ((buildF itv l).length - 6) = bytesN 2 itv ++ bytesN 4 l.length := by
  have b2 := bytesN_len 2 itv
  have b4 := bytesN_len 4 l.length
  have hlen : (buildF itv l).length = (dataN itv l l.length).length + (placeN itv l l.length).length + 6 := by unfold buildF; simp only [List.length_append, b2, b4]; omega
  refine ⟨hlen, ?_⟩
  rw [hlen, Nat.add_sub_cancel]
  unfold buildF
  rw [← List.append_assoc, ← List.length_append, List.drop_left]
end Go.Proofs.YtpaogoehgkoaeaaGreatDoor.Bk
namespace Go.Proofs.YtpaogoehgkoaeaaGreatDoor
set_option linter.unusedVariables false
set_option linter.unusedSimpArgs false
open Go.RowKit Bk
end Go.Proofs.YtpaogoehgkoaeaaGreatDoor
/- Layer 13 (block): the reference's DocPairs. -/
namespace Go.Proofs.YtpaogoehgkoaeaaGreatDoor.Bk
set_option linter.unusedVariables false
set_option linter.unusedSimpArgs false
open Varint
end Go.Proofs.YtpaogoehgkoaeaaGreatDoor.Bk
namespace Go.Proofs.YtpaogoehgkoaeaaGreatDoor
set_option linter.unusedVariables false
set_option linter.unusedSimpArgs false
open Go.RowKit Bk
end Go.Proofs.YtpaogoehgkoaeaaGreatDoor
/- Layer 13 (block): bytes.Clone, Open. -/
namespace Go.Proofs.YtpaogoehgkoaeaaGreatDoor
set_option linter.unusedVariables false
set_option linter.unusedSimpArgs false
open Go.RowKit Bk
set_option maxRecDepth 100000 in
theorem clone_any (ad : Option Addr) (n cap : Nat) (l : List UInt8) (w : World) (hn : n = l.length) (h1 : 1 ≤ l.length) (hl : l.length ≤ 1000000000) (hb : Bytes w ad l) :
    Calls Tryz.prog 49 #[.slice ad n cap] w fun e w' => ∃ ad' cap', e = .returned (.slice ad' n cap') ∧ Owns w' w.heap.size 5 1 ad' cap' n (bv l) ∧ Gr w w' := by
  subst hn
  obtain ⟨a, rfl⟩ : ∃ a, ad = some a := by
    obtain ⟨b, off, e, _⟩ := hb 0 (by omega)
    exact ⟨_, e⟩
  have HB := Lib.hid hb
  have HE := fun w' => Lib.run_eql_slice_nil (P := Tryz.prog) w' 31 5 (some a) l.length cap 0 0 Tryz.underlying31
  clear hb
  go_enter Tryz.func49, Tryz.ntmps49
  go_wp2_with (first
    | (at_builtin; refine wp_append elemB rfl _ _ rfl rfl (Owns.void w w.heap.size 5 1 (Nat.le_refl _)) rfl (Src.bytes (HB.out.gr (Gr.alloc _ _)) rfl Tryz.underlying31) (by unfold maxLen; omega) (by omega) (by simp) ?_; intro ad7 c7 w7 o7 k7 f7)
    | fail)
  go_ret
  refine ⟨ad7, c7, by simp, ?_, (Gr.alloc _ _).grown k7 (fun g h => by cases h; exact Nat.le_refl _)⟩
  simpa using o7
end Go.Proofs.YtpaogoehgkoaeaaGreatDoor
/- The plain law of layer 6 (bloom): a key's number. No program is in sight here. -/
namespace Go.Proofs.YtpaogoehgkoaeaaGreatDoor.Bloom
set_option linter.unusedVariables false
set_option linter.unusedSimpArgs false
/-- the factor -/
def fac : BitVec 32 := 3332679571#32
/-- four bytes, the lowest first -/
def word (a b c d : UInt8) : BitVec 32 := BitVec.ofNat 32 (a.toNat + b.toNat * 256 + c.toNat * 65536 + d.toNat * 16777216)
def mixW (h w : BitVec 32) : BitVec 32 := (h + w) * fac ^^^ ((h + w) * fac) >>> 16
/-- what is added for the bytes that are left, from a place on -/
def tailS : List UInt8 → Nat → BitVec 32
  | [], _ => 0#32
  | x :: l, i => BitVec.ofNat 32 (x.toNat * 256 ^ i) + tailS l (i + 1)
def endF (h : BitVec 32) (l : List UInt8) : BitVec 32 := if l = [] then h else (h + tailS l 0) * fac ^^^ ((h + tailS l 0) * fac) >>> 24
def hashG : BitVec 32 → List UInt8 → BitVec 32
  | h, a :: b :: c :: d :: l => hashG (mixW h (word a b c d)) l
  | h, l => endF h l
def seedF (n : Nat) : BitVec 32 := 3164544308#32 ^^^ BitVec.ofNat 32 n * fac
def hashF (l : List UInt8) : BitVec 32 := hashG (seedF l.length) l
theorem hashG_four (h : BitVec 32) (a b c d : UInt8) (l : List UInt8) : hashG h (a :: b :: c :: d :: l) = hashG (mixW h (word a b c d)) l := by rw [hashG]
theorem hashG_end (h : BitVec 32) (l : List UInt8) (hl : l.length < 4) : hashG h l = endF h l := by
  match l, hl with
  | [], _ => rfl
  | [_], _ => rfl
  | [_, _], _ => rfl
  | [_, _, _], _ => rfl
theorem tail_snoc : ∀ (l : List UInt8) (x : UInt8) (i : Nat), tailS (l ++ [x]) i = tailS l i + BitVec.ofNat 32 (x.toNat * 256 ^ (i + l.length))
  | [], x, i => by simp [tailS]
  | y :: l, x, i => by
    rw [List.cons_append, tailS, tailS, tail_snoc l x (i + 1), BitVec.add_assoc, List.length_cons, show i + 1 + l.length = i + (l.length + 1) by omega]
end Go.Proofs.YtpaogoehgkoaeaaGreatDoor.Bloom
/- Layer 6 (bloom): a key's number, in the program and in the reference. -/
namespace Go.Proofs.YtpaogoehgkoaeaaGreatDoor
set_option linter.unusedVariables false
set_option linter.unusedSimpArgs false
open Go.RowKit Bloom
theorem u32_join (a b i : Nat) (ha : a < 2 ^ i) (hb : b * 2 ^ i < 4294967296) (hs : a < 4294967296) : bits .or .u32 (a : Int) ((b * 2 ^ i : Nat) : Int) = ((a + b * 2 ^ i : Nat) : Int) := by
  rw [u32_or_nat _ _ hs hb, Nat.or_comm, nat_join i _ _ (Nat.mul_mod_left _ _) ha, Nat.add_comm]
theorem or4 (a b c d : UInt8) : bits .or .u32 (bits .or .u32 (bits .or .u32 (a.toNat : Int) ((b.toNat : Int) * 256)) ((c.toNat : Int) * 65536)) ((d.toNat : Int) * 16777216) = ((a.toNat + b.toNat * 256 + c.toNat * 65536 + d.toNat * 16777216 : Nat) : Int) := by
  have ha := a.toNat_lt
  have hb := b.toNat_lt
  have hc := c.toNat_lt
  have hd := d.toNat_lt
  have e1 : ((b.toNat : Int) * 256) = ((b.toNat * 2 ^ 8 : Nat) : Int) := by omega
  have e2 : ((c.toNat : Int) * 65536) = ((c.toNat * 2 ^ 16 : Nat) : Int) := by omega
  have e3 : ((d.toNat : Int) * 16777216) = ((d.toNat * 2 ^ 24 : Nat) : Int) := by omega
  rw [e1, e2, e3, u32_join _ _ 8 (by omega) (by omega) (by omega), u32_join _ _ 16 (by omega) (by omega) (by omega), u32_join _ _ 24 (by omega) (by omega) (by omega)]
theorem word_lt (a b c d : UInt8) : a.toNat + b.toNat * 256 + c.toNat * 65536 + d.toNat * 16777216 < 4294967296 := by
  have ha := a.toNat_lt
  have hb := b.toNat_lt
  have hc := c.toNat_lt
  have hd := d.toNat_lt
  omega
theorem mixU (H : BitVec 32) (N : Nat) (hN : N < 4294967296) :
    bits .xor .u32 ((U H + (N : Int)) % 4294967296 * 3332679571 % 4294967296) ((U H + (N : Int)) % 4294967296 * 3332679571 % 4294967296 / 65536) = U (mixW H (BitVec.ofNat 32 N)) := by
  rw [U_addc H _ N rfl hN, U_mulc _ 3332679571 3332679571 rfl (by decide), U_shr _ 65536 16 rfl, U_xor]
  rfl
theorem endU (H : BitVec 32) : bits .xor .u32 (U H * 3332679571 % 4294967296) (U H * 3332679571 % 4294967296 / 16777216) = U (H * fac ^^^ (H * fac) >>> 24) := by
  rw [U_mulc _ 3332679571 3332679571 rfl (by decide), U_shr _ 16777216 24 rfl, U_xor]
  rfl
theorem seedU (n : Nat) : bits .xor .u32 3164544308 ((n : Int) % 4294967296 * 3332679571 % 4294967296) = U (seedF n) := by
  have e : (n : Int) % 4294967296 = U (BitVec.ofNat 32 n) := by rw [U_ofNat]; omega
  rw [e, U_mulc _ 3332679571 3332679571 rfl (by decide), U_lit (m := 3164544308) 3164544308 rfl (by decide), U_xor]
  rfl
theorem tailU (X : BitVec 32) (x : UInt8) (j : Nat) : (U X + (x.toNat : Int) * 2 ^ (8 * j) % 4294967296) % 4294967296 = U (X + BitVec.ofNat 32 (x.toNat * 256 ^ j)) := by
  have e : (x.toNat : Int) * 2 ^ (8 * j) % 4294967296 = U (BitVec.ofNat 32 (x.toNat * 256 ^ j)) := by
    rw [U_ofNat]
    have : (x.toNat : Int) * 2 ^ (8 * j) = ((x.toNat * 256 ^ j : Nat) : Int) := by rw [show 256 ^ j = 2 ^ (8 * j) by rw [Nat.pow_mul]]; simp
    rw [this]; omega
  rw [e, U_add]
set_option maxRecDepth 100000 in
set_option maxHeartbeats 1000000 in
theorem Hash_any (key : List UInt8) (w : World) (hm : key.length ≤ 9223372036854775807) :
    Calls Tryz.prog 132 #[.string (str key)] w fun e w' => e = .returned (.int .u32 (U (hashF key))) ∧ Gr w w' := by
  go_enter Tryz.func132, Tryz.ntmps132
  go_wp2
  go_loopw [0, 3] (fun k h wr => ∃ (l : List UInt8) (H : BitVec 32), l.length ≤ key.length ∧ k = .string (str l) ∧ h = .int .u32 (U H) ∧ hashF key = hashG H l ∧ Gr w wr) (fun k _ _ => match k with | .string t => t.size | _ => 0)
  case atStart => exact ⟨key, _, Nat.le_refl _, rfl, by rw [seedU], rfl, Gr.refl _⟩
  case round =>
    obtain ⟨l, H, hl, rfl, rfl, hh, hg⟩ := hrel
    have hU0 := U_lo H
    have hU1 := U_hi H
    by_cases h4 : 4 ≤ l.length
    · match l with
      | a :: b :: c :: d :: r =>
        rw [hashG_four] at hh
        have HH := Lib.hid hh; clear hh h4
        have ha := byte_hi a
        have hb := byte_hi b
        have hc := byte_hi c
        have hd := byte_hi d
        go_wp2
        go_quiet (fail)
        go_wp2
        go_roundw
        case rel =>
          simp only [List.length_cons] at hl
          exact ⟨r, _, by omega, rfl, by rw [or4, mixU _ _ (word_lt a b c d)]; rfl, HH.out, hg.trans (Gr.drewN _ _)⟩
        case measure => simp [str_size]; omega
    · rw [hashG_end _ _ (by omega)] at hh
      by_cases h0 : l = []
      · subst h0
        have HH := Lib.hid hh; clear hh
        go_wp2
        go_ret
        exact ⟨by rw [HH.out]; rfl, hg⟩
      · have hl0 : 0 < l.length := by cases l with | nil => exact absurd rfl h0 | cons x r => simp
        have hb0 : ((l.length : Int) == 0) = false := by rw [beq_eq_false_iff_ne]; omega
        unfold endF at hh
        rw [if_neg h0] at hh
        have HH := Lib.hid hh; clear hh h0
        go_wp2
        obtain ⟨wo, rfl⟩ : ∃ wo : World, wo = wr := ⟨_, rfl⟩
        go_loop [3, 4, 47] (fun h _ i => ∃ j : Nat, j ≤ l.length ∧ i = .int .i64 j ∧ h = .int .u32 (U (H + tailS (l.take j) 0))) (fun _ _ i => l.length - (intOf i).toNat)
        case atStart => exact ⟨0, Nat.zero_le _, rfl, by simp [tailS]⟩
        case round =>
          obtain ⟨j, hj, rfl, rfl⟩ := hrel
          by_cases hlt : j < l.length
          · have hx := byte_hi l[j]
            go_wp2
            go_round
            case rel => exact ⟨j + 1, by omega, by go_num, by rw [tailU, List.take_succ_eq_append_getElem hlt, tail_snoc, BitVec.add_assoc]; simp [Nat.min_eq_left hj]⟩
            case measure => simp [intOf]; omega
          · obtain rfl : j = l.length := by omega
            go_wp2
            go_ret
            exact ⟨by rw [HH.out]; exact ret_int (endU _), hg⟩
end Go.Proofs.YtpaogoehgkoaeaaGreatDoor
namespace Go.Proofs.YtpaogoehgkoaeaaGreatDoor.Bloom
set_option linter.unusedVariables false
set_option linter.unusedSimpArgs false
/-- what so many bits of a byte make -/
def byteN (on : Nat → Bool) (q : Nat) : Nat → Nat
  | 0 => 0
  | m + 1 => byteN on q m + if on (8 * q + m) then 2 ^ m else 0
theorem byteN_lt (on : Nat → Bool) (q : Nat) : ∀ m, byteN on q m < 2 ^ m
  | 0 => by simp [byteN]
  | m + 1 => by
    have := byteN_lt on q m
    rw [byteN, Nat.pow_succ]
    split <;> omega
theorem byteN_bit (on : Nat → Bool) (q : Nat) : ∀ m r, (byteN on q m).testBit r = (decide (r < m) && on (8 * q + r))
  | 0, r => by simp [byteN]
  | m + 1, r => by
    have hlt := byteN_lt on q m
    have ih := byteN_bit on q m
    rw [byteN]
    by_cases ho : on (8 * q + m) = true
    · rw [if_pos ho, Nat.add_comm]
      have e : 2 ^ m + byteN on q m = 2 ^ m * 1 + byteN on q m := by omega
      rw [e, Nat.testBit_two_pow_mul_add _ hlt]
      by_cases h1 : r < m
      · rw [if_pos h1, ih]; simp [h1, show r < m + 1 by omega]
      · rw [if_neg h1]
        by_cases h2 : r = m
        · subst h2; simp [ho]
        · have h3 : ¬ r < m + 1 := by omega
          simp only [h3, decide_false, Bool.false_and]
          rw [Bool.eq_false_iff]
          intro h
          rw [Nat.testBit_one_eq_true_iff_self_eq_zero] at h
          omega
    · rw [if_neg ho, Nat.add_zero, ih]
      by_cases h2 : r = m
      · subst h2; simp [Bool.eq_false_iff.2 ho]
      · have : (r < m + 1) ↔ r < m := by omega
        simp [this]
theorem byteN_congr {on on' : Nat → Bool} {q : Nat} : ∀ {m : Nat}, (∀ r, r < m → on (8 * q + r) = on' (8 * q + r)) → byteN on q m = byteN on' q m
  | 0, _ => rfl
  | m + 1, h => by rw [byteN, byteN, byteN_congr (m := m) fun r hr => h r (by omega), h m (by omega)]
theorem byteN_cut {on : Nat → Bool} {q r : Nat} : ∀ {m : Nat}, r ≤ m → (∀ i, r ≤ i → i < m → on (8 * q + i) = false) → byteN on q m = byteN on q r
  | 0, h, _ => by have : r = 0 := by omega
                  subst this; rfl
  | m + 1, h, hf => by
    by_cases e : r = m + 1
    · rw [e]
    · rw [byteN, hf m (by omega) (by omega), byteN_cut (m := m) (by omega) fun i h1 h2 => hf i h1 (by omega)]
      simp
def byteF (on : Nat → Bool) (q : Nat) : UInt8 := UInt8.ofNat (byteN on q 8)
theorem byteF_nat (on : Nat → Bool) (q : Nat) : (byteF on q).toNat = byteN on q 8 := by
  have := byteN_lt on q 8
  unfold byteF
  rw [UInt8.toNat_ofNat']; omega
def rowF (on : Nat → Bool) (n : Nat) : List UInt8 := (List.range n).map (byteF on)
theorem rowF_len (on : Nat → Bool) (n : Nat) : (rowF on n).length = n := by simp [rowF]
theorem rowF_get (on : Nat → Bool) (n q : Nat) (h : q < (rowF on n).length) : (rowF on n)[q] = byteF on q := by simp [rowF]
def addB (on : Nat → Bool) (b : Nat) : Nat → Bool := fun p => on p || p == b
theorem row_set (on : Nat → Bool) (n b : Nat) (hb : b / 8 < n) (y : UInt8) (hy : y.toNat = byteN on (b / 8) 8 ||| 2 ^ (b % 8)) : (rowF on n).set (b / 8) y = rowF (addB on b) n := by
  apply List.ext_getElem
  · simp [rowF_len]
  · intro q h1 h2
    rw [List.length_set, rowF_len] at h1
    rw [List.getElem_set, rowF_get]
    by_cases e : b / 8 = q
    · subst e
      rw [if_pos rfl]
      apply UInt8.toNat_inj.1
      rw [hy, rowF_get, byteF_nat]
      apply Nat.eq_of_testBit_eq
      intro r
      rw [Nat.testBit_or, byteN_bit, byteN_bit, Nat.testBit_two_pow]
      unfold addB
      by_cases h8 : r < 8
      · simp only [h8, decide_true, Bool.true_and]
        congr 1
        rw [Bool.eq_iff_iff, decide_eq_true_iff, beq_iff_eq]
        omega
      · have : ¬ b % 8 = r := by omega
        simp [h8, this]
    · rw [if_neg e, rowF_get]
      unfold byteF
      congr 1
      apply byteN_congr
      intro r hr
      unfold addB
      have : (8 * q + r == b) = false := by rw [beq_eq_false_iff_ne]; omega
      rw [this, Bool.or_false]
/-- a filter's bits -/
def bitOf (l : List UInt8) (p : Nat) : Bool := (l.getD (p / 8) 0).toNat.testBit (p % 8)
theorem bit_row (on : Nat → Bool) (n p : Nat) (h : p < 8 * n) : bitOf (rowF on n) p = on p := by
  unfold bitOf
  have h1 : p / 8 < (rowF on n).length := by rw [rowF_len]; omega
  rw [List.getD_eq_getElem?_getD, List.getElem?_eq_getElem h1, Option.getD_some, rowF_get, byteF_nat, byteN_bit]
  have h2 : p % 8 < 8 := by omega
  have h3 : 8 * (p / 8) + p % 8 = p := by omega
  simp [h2, h3]
/-- a key's second number, and its probes -/
def dF (h : BitVec 32) : BitVec 32 := h <<< 15 ||| h >>> 17
def atF (h : BitVec 32) (j : Nat) : BitVec 32 := h + BitVec.ofNat 32 j * dF h
theorem atF_zero (h : BitVec 32) : atF h 0 = h := by simp [atF]
theorem atF_succ (h : BitVec 32) (j : Nat) : atF h (j + 1) = atF h j + dF h := by
  have e : BitVec.ofNat 32 (j + 1) = BitVec.ofNat 32 j + 1#32 := by
    apply BitVec.eq_of_toNat_eq
    simp [BitVec.toNat_add]
  unfold atF
  rw [e, BitVec.add_mul, BitVec.one_mul, BitVec.add_assoc]
def bitAt (h : BitVec 32) (b j : Nat) : Nat := (atF h j).toNat % b
/-- the bits of some keys, and of the first probes of one more -/
def probesF (h : BitVec 32) (b k : Nat) (p : Nat) : Bool := (List.range k).any fun j => bitAt h b j == p
def onF (keys : List (List UInt8)) (b k : Nat) (p : Nat) : Bool := keys.any fun key => probesF (hashF key) b k p
theorem probesF_succ (h : BitVec 32) (b k p : Nat) : probesF h b (k + 1) p = (probesF h b k p || p == bitAt h b k) := by
  unfold probesF
  rw [List.range_succ, List.any_append]
  simp [Bool.beq_comm]
theorem probesF_zero (h : BitVec 32) (b p : Nat) : probesF h b 0 p = false := rfl
theorem onF_snoc (keys : List (List UInt8)) (key : List UInt8) (b k p : Nat) : onF (keys ++ [key]) b k p = (onF keys b k p || probesF (hashF key) b k p) := by
  unfold onF
  rw [List.any_append]
  simp
theorem onF_take (keys : List (List UInt8)) (i : Nat) (h : i < keys.length) (b k p : Nat) : onF (keys.take (i + 1)) b k p = (onF (keys.take i) b k p || probesF (hashF keys[i]) b k p) := by
  rw [List.take_succ_eq_append_getElem h, onF_snoc]
/-- are all probes there? -/
def allF (l : List UInt8) (h : BitVec 32) (b k : Nat) : Bool := (List.range k).all fun j => bitOf l (bitAt h b j)
theorem allF_no {l : List UInt8} {h : BitVec 32} {b k j : Nat} (hj : j < k) (hb : bitOf l (bitAt h b j) = false) : allF l h b k = false := by
  rw [Bool.eq_false_iff]
  intro ha
  have := List.all_eq_true.1 ha j (List.mem_range.2 hj)
  rw [hb] at this; cases this
theorem allF_yes {l : List UInt8} {h : BitVec 32} {b k : Nat} (ha : ∀ j, j < k → bitOf l (bitAt h b j) = true) : allF l h b k = true :=
  List.all_eq_true.2 fun j hj => ha j (List.mem_range.1 hj)
end Go.Proofs.YtpaogoehgkoaeaaGreatDoor.Bloom
