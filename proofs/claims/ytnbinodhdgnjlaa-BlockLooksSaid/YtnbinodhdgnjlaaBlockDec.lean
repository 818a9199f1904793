/- Layer 13 (block): pairs come back from their bytes, in plain Lean. No program is in sight here. -/
import Derived.Test.YtnbinodhdgnjlaaBlockMath
import Derived.Test.YtnbinodhdgnjlaaVarintLaw
namespace Go.Proofs.Ytnbinodhdgnjlaa.Bk
set_option linter.unusedVariables false
set_option linter.unusedSimpArgs false
open Varint
open Go.Op (bytesLess)
theorem le_bytesN : ∀ k n, n < 256 ^ k → le (bytesN k n) = n
  | 0, n, h => by simp at h; subst h; rfl
  | k + 1, n, h => by
    rw [Nat.pow_succ] at h
    show (UInt8.ofNat n).toNat + 256 * le (bytesN k (n / 256)) = n
    rw [le_bytesN k (n / 256) (by omega), UInt8.toNat_ofNat']
    omega
theorem bytesN_le : ∀ l : List UInt8, bytesN l.length (le l) = l
  | [] => rfl
  | x :: l => by
    have hx := x.toNat_lt
    show UInt8.ofNat (x.toNat + 256 * le l) :: bytesN l.length ((x.toNat + 256 * le l) / 256) = x :: l
    have h1 : (x.toNat + 256 * le l) / 256 = le l := by omega
    have h2 : UInt8.ofNat (x.toNat + 256 * le l) = x := by
      apply UInt8.toNat_inj.1
      rw [UInt8.toNat_ofNat']; omega
    rw [h1, h2, bytesN_le l]
/-- the pair at a place, and where its bytes end -/
def entryF (b : List UInt8) (a : Nat) (key : List UInt8) : Option (Pr × Nat) :=
  if (getF (b.drop a)).2.2 ≠ 0 then none
  else if (getF (b.drop (a + (getF (b.drop a)).2.1))).2.2 ≠ 0 then none
  else if (getF (b.drop (a + (getF (b.drop a)).2.1 + (getF (b.drop (a + (getF (b.drop a)).2.1))).2.1))).2.2 ≠ 0 then none
  else
    let g0 := getF (b.drop a)
    let g1 := getF (b.drop (a + g0.2.1))
    let g2 := getF (b.drop (a + g0.2.1 + g1.2.1))
    let t := a + g0.2.1 + g1.2.1 + g2.2.1
    if key.length < g0.1 ∨ 200 < g1.1 ∨ 2000 < g2.1 ∨ b.length - t < g1.1 + g2.1 then none
    else some ((key.take g0.1 ++ (b.drop t).take g1.1, (b.drop (t + g1.1)).take g2.1), t + g1.1 + g2.1)
def decN (b : List UInt8) : Nat → Nat → List UInt8 → Option (List Pr)
  | 0, _, _ => some []
  | c + 1, a, key =>
    match entryF b a key with
    | none => none
    | some (p, t) => (decN b c t p.1).map (p :: ·)
/-- the pairs' bytes, the interval, the count -/
def partsF (b : List UInt8) : Option (List UInt8 × Nat × Nat) :=
  if b.length < 6 then none
  else
    let w := le ((b.drop (b.length - 6)).take 2)
    let c := le (b.drop (b.length - 4))
    if w < 1 ∨ 64 < w ∨ 10000 < c then none
    else if b.length - 6 < 4 * ((c + w - 1) / w) then none
    else some (b.take (b.length - 6 - 4 * ((c + w - 1) / w)), w, c)
def pairsF (b : List UInt8) : List Pr × Nat :=
  match partsF b with
  | none => ([], 2)
  | some (d, w, c) =>
    match decN d c 0 [] with
    | none => ([], 2)
    | some l => if chkF l (w : Int) = 0 ∧ buildF w l = b then (l, 0) else ([], 2)
theorem entry_at {p q : List UInt8} {key : List UInt8} {n : Nat} {x : Pr} (hn : n ≤ key.length) (hx : n ≤ x.1.length) (h1 : x.1.length ≤ 200) (h2 : x.2.length ≤ 2000) (hk : key.take n = x.1.take n) (hkl : key.length ≤ 200) :
    entryF (p ++ (entF n x ++ q)) p.length key = some (x, p.length + (entF n x).length) := by
  have e0 : (p ++ (entF n x ++ q)).drop p.length = putF n ++ (putF (x.1.length - n) ++ (putF x.2.length ++ (x.1.drop n ++ (x.2 ++ q)))) := by
    rw [List.drop_left]; simp [entF]
  have g0 : getF ((p ++ (entF n x ++ q)).drop p.length) = (n, (putF n).length, 0) := by rw [e0]; exact get_put _ _ (by omega)
  have e1 : (p ++ (entF n x ++ q)).drop (p.length + (putF n).length) = putF (x.1.length - n) ++ (putF x.2.length ++ (x.1.drop n ++ (x.2 ++ q))) := by
    rw [← List.drop_drop, e0, List.drop_left]
  have g1 : getF ((p ++ (entF n x ++ q)).drop (p.length + (putF n).length)) = (x.1.length - n, (putF (x.1.length - n)).length, 0) := by rw [e1]; exact get_put _ _ (by omega)
  have e2 : (p ++ (entF n x ++ q)).drop (p.length + (putF n).length + (putF (x.1.length - n)).length) = putF x.2.length ++ (x.1.drop n ++ (x.2 ++ q)) := by
    rw [← List.drop_drop, e1, List.drop_left]
  have g2 : getF ((p ++ (entF n x ++ q)).drop (p.length + (putF n).length + (putF (x.1.length - n)).length)) = (x.2.length, (putF x.2.length).length, 0) := by rw [e2]; exact get_put _ _ (by omega)
  have e3 : (p ++ (entF n x ++ q)).drop (p.length + (putF n).length + (putF (x.1.length - n)).length + (putF x.2.length).length) = x.1.drop n ++ (x.2 ++ q) := by
    rw [← List.drop_drop, e2, List.drop_left]
  have hd : (x.1.drop n).length = x.1.length - n := List.length_drop
  have e4 : (p ++ (entF n x ++ q)).drop (p.length + (putF n).length + (putF (x.1.length - n)).length + (putF x.2.length).length + (x.1.length - n)) = x.2 ++ q := by
    rw [← List.drop_drop, e3, ← hd, List.drop_left]
  have hlen : (p ++ (entF n x ++ q)).length = p.length + (putF n).length + (putF (x.1.length - n)).length + (putF x.2.length).length + (x.1.length - n) + x.2.length + q.length := by
    simp [entF]; omega
  have t3 : (x.1.drop n ++ (x.2 ++ q)).take (x.1.length - n) = x.1.drop n := by rw [← hd]; exact List.take_left
  unfold entryF
  simp only [g0, g1, g2]
  rw [if_neg (by simp), if_neg (by simp), if_neg (by simp), if_neg (by rw [hlen]; omega), e3, e4, t3, List.take_left, hk, List.take_append_drop]
  simp only [Option.some.injEq, Prod.mk.injEq, true_and, entF, List.length_append]
  omega
theorem getD_take (l : List Pr) (m i : Nat) (h : i < m) : (l.take m).getD i noPr = l.getD i noPr := by
  rw [List.getD_eq_getElem?_getD, List.getD_eq_getElem?_getD, List.getElem?_take, if_pos h]
theorem dataN_take (itv : Nat) (l : List Pr) (m : Nat) : ∀ i, i ≤ m → dataN itv (l.take m) i = dataN itv l i
  | 0, _ => rfl
  | i + 1, h => by
    have e : nAt itv (l.take m) i = nAt itv l i := by unfold nAt; rw [getD_take _ _ _ (by omega), getD_take _ _ _ (by omega)]
    rw [dataN, dataN, dataN_take itv l m i (by omega), e, getD_take _ _ _ (by omega)]
theorem placeN_length (itv : Nat) (l : List Pr) (h : 1 ≤ itv) : ∀ i, (placeN itv l i).length = 4 * ((i + itv - 1) / itv)
  | 0 => by rw [placeN]; simp only [List.length_nil]; rw [Nat.div_eq_of_lt (by omega)]
  | i + 1 => by
    rw [placeN, List.length_append, placeN_length itv l h i]
    have hs : (i + 1 + itv - 1) / itv = (i + itv - 1) / itv + (if i % itv = 0 then 1 else 0) := by
      have e1 : i + 1 + itv - 1 = i + itv := by omega
      rw [e1, Nat.add_div_right _ (by omega)]
      clear e1
      by_cases hm : i % itv = 0
      · rw [if_pos hm]
        obtain ⟨k, rfl⟩ : ∃ k, i = itv * k := ⟨i / itv, by have := Nat.div_add_mod i itv; omega⟩
        rw [Nat.mul_div_cancel_left _ (by omega), show itv * k + itv - 1 = (itv - 1) + itv * k by omega, Nat.add_mul_div_left _ _ (by omega), Nat.div_eq_of_lt (by omega)]
        omega
      · rw [if_neg hm]
        have hd := Nat.div_add_mod i itv
        have hl := Nat.mod_lt i (show 0 < itv by omega)
        have e2 : i + itv - 1 = (i % itv - 1) + itv * (i / itv + 1) := by rw [Nat.mul_add, Nat.mul_one]; omega
        rw [e2, Nat.add_mul_div_left _ _ (by omega), Nat.div_eq_of_lt (show i % itv - 1 < itv by omega)]
        omega
    rw [hs]
    split
    · rw [bytesN_len]; omega
    · simp only [List.length_nil]; omega
/-- the rest of the pairs' bytes -/
theorem dataN_prefix (itv : Nat) (l : List Pr) (i : Nat) : ∀ j, ∃ q, dataN itv l (i + j) = dataN itv l i ++ q
  | 0 => ⟨[], by simp⟩
  | j + 1 => by
    obtain ⟨q, h⟩ := dataN_prefix itv l i j
    exact ⟨q ++ entF (nAt itv l (i + j)) (l.getD (i + j) noPr), by rw [← Nat.add_assoc, dataN, h, List.append_assoc]⟩
def keyAt (l : List Pr) (i : Nat) : List UInt8 := if i = 0 then [] else (l.getD (i - 1) noPr).1
theorem nAt_key (itv : Nat) (l : List Pr) (i : Nat) : nAt itv l i ≤ (keyAt l i).length ∧ (keyAt l i).take (nAt itv l i) = ((l.getD i noPr).1).take (nAt itv l i) := by
  unfold nAt keyAt
  by_cases h0 : i % itv = 0
  · rw [if_pos h0]; simp
  · rw [if_neg h0, if_neg (fun h => h0 (by rw [h]; exact Nat.zero_mod _))]
    exact ⟨(comF_le _ _).1, comF_take _ _⟩
theorem dec_data {itv : Nat} {l : List Pr} (h : okLens l) : ∀ k i, i + k = l.length → decN (dataN itv l l.length) k (dataN itv l i).length (keyAt l i) = some (l.drop i)
  | 0, i, hi => by rw [decN, List.drop_of_length_le (by omega)]
  | k + 1, i, hi => by
    obtain ⟨q, hq⟩ := dataN_prefix itv l (i + 1) k
    rw [show i + 1 + k = l.length by omega] at hq
    have hd : dataN itv l l.length = dataN itv l i ++ (entF (nAt itv l i) (l.getD i noPr) ++ q) := by rw [hq, dataN, List.append_assoc]
    have a := h i
    obtain ⟨b1, b2⟩ := nAt_key itv l i
    have hkl : (keyAt l i).length ≤ 200 := by unfold keyAt; split; · simp
                                              · exact (h _).1
    have he := entry_at (p := dataN itv l i) (q := q) b1 (nAt_le itv l i) a.1 a.2 b2 hkl
    rw [decN, hd, he]
    simp only
    have ih := dec_data (itv := itv) h k (i + 1) (by omega)
    have hk : keyAt l (i + 1) = (l.getD i noPr).1 := by unfold keyAt; rw [if_neg (by omega), Nat.add_sub_cancel]
    have hl : (dataN itv l (i + 1)).length = (dataN itv l i).length + (entF (nAt itv l i) (l.getD i noPr)).length := by rw [dataN, List.length_append]
    rw [hk, hl, hd] at ih
    rw [ih]
    have hlt : i < l.length := by omega
    rw [List.drop_eq_getElem_cons hlt, List.getD_eq_getElem?_getD, List.getElem?_eq_getElem hlt]
    rfl
theorem parts_build {itv : Nat} {l : List Pr} (h1 : 1 ≤ itv) (h2 : itv ≤ 64) (hl : l.length ≤ 10000) : partsF (buildF itv l) = some (dataN itv l l.length, itv, l.length) := by
  have hp := placeN_length itv l h1 l.length
  have b2 := bytesN_len 2 itv
  have b4 := bytesN_len 4 l.length
  have hlen : (buildF itv l).length = (dataN itv l l.length).length + (placeN itv l l.length).length + 6 := by unfold buildF; simp only [List.length_append, b2, b4]; omega
  have hd6 : (buildF itv l).drop ((buildF itv l).length - 6) = bytesN 2 itv ++ bytesN 4 l.length := by
    rw [hlen, Nat.add_sub_cancel]
    unfold buildF
    rw [← List.append_assoc, ← List.length_append, List.drop_left]
  have hd4 : (buildF itv l).drop ((buildF itv l).length - 4) = bytesN 4 l.length := by
    rw [show (buildF itv l).length - 4 = (buildF itv l).length - 6 + 2 by omega, ← List.drop_drop, hd6]
    have := List.drop_left (l₁ := bytesN 2 itv) (l₂ := bytesN 4 l.length); rwa [b2] at this
  have e2 : le ((bytesN 2 itv ++ bytesN 4 l.length).take 2) = itv := by
    have : (bytesN 2 itv ++ bytesN 4 l.length).take 2 = bytesN 2 itv := by
      have := List.take_left (l₁ := bytesN 2 itv) (l₂ := bytesN 4 l.length); rwa [b2] at this
    rw [this]; exact le_bytesN 2 itv (by omega)
  have e4 : le (bytesN 4 l.length) = l.length := le_bytesN 4 _ (by omega)
  unfold partsF
  rw [if_neg (by omega)]
  simp only [hd6, hd4, e2, e4]
  rw [if_neg (by omega), if_neg (by omega)]
  have ht : (buildF itv l).take ((buildF itv l).length - 6 - 4 * ((l.length + itv - 1) / itv)) = dataN itv l l.length := by
    rw [show (buildF itv l).length - 6 - 4 * ((l.length + itv - 1) / itv) = (dataN itv l l.length).length by omega]
    unfold buildF
    exact List.take_left
  rw [ht]
theorem pairs_build {itv : Nat} {l : List Pr} (h1 : 1 ≤ itv) (h2 : itv ≤ 64) (hl : l.length ≤ 10000) (ho : okLens l) (hc : chkF l (itv : Int) = 0) : pairsF (buildF itv l) = (l, 0) := by
  unfold pairsF
  rw [parts_build h1 h2 hl]
  have := dec_data (itv := itv) ho l.length 0 (by omega)
  simp only [dataN, List.length_nil, keyAt, if_true, List.drop_zero] at this
  simp only [this]
  rw [if_pos ⟨hc, trivial⟩]
theorem pairs_some {b : List UInt8} {l : List Pr} (h : pairsF b = (l, 0)) : ∃ w : Nat, 1 ≤ w ∧ w ≤ 64 ∧ chkF l (w : Int) = 0 ∧ buildF w l = b := by
  unfold pairsF at h
  split at h
  · cases h
  · rename_i d w c hp
    have hw : 1 ≤ w ∧ w ≤ 64 := by
      unfold partsF at hp
      split at hp
      · cases hp
      · simp only at hp
        split at hp
        · cases hp
        · split at hp
          · cases hp
          · cases hp; omega
    split at h
    · cases h
    · split at h
      · rename_i l' _ hh
        cases h
        exact ⟨w, hw.1, hw.2, hh.1, hh.2⟩
      · cases h
theorem pairs_err (b : List UInt8) : (pairsF b).2 = 0 ∨ pairsF b = ([], 2) := by
  unfold pairsF
  split
  · exact .inr rfl
  · split
    · exact .inr rfl
    · split
      · exact .inl rfl
      · exact .inr rfl
end Go.Proofs.Ytnbinodhdgnjlaa.Bk
