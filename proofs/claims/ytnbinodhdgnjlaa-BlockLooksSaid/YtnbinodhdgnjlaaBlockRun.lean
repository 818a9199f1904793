/- Layer 13 (block): the runs of whole pairs; where a key stands. No program is in sight here. -/
import Derived.Test.YtnbinodhdgnjlaaBlockDec
import Derived.Test.YtnbinodhdgnjlaaBytesOrd
namespace Go.Proofs.Ytnbinodhdgnjlaa.Bk
set_option linter.unusedVariables false
set_option linter.unusedSimpArgs false
open Varint Go.RowKit
open Go.Op (bytesLess)
/-- a run's pairs -/
def runF (itv : Nat) (l : List Pr) (r : Nat) : List Pr := (l.drop (r * itv)).take itv
def runI (itv : Nat) (l : List Pr) (R : Int) : List Pr := if R < 0 then [] else runF itv l R.toNat
theorem runF_len (itv : Nat) (l : List Pr) (r : Nat) : (runF itv l r).length = min itv (l.length - r * itv) := by
  simp [runF]
theorem runF_get {itv : Nat} {l : List Pr} {r j : Nat} (hj : j < (runF itv l r).length) : (runF itv l r)[j]? = some (l.getD (r * itv + j) noPr) := by
  rw [runF_len] at hj
  unfold runF
  rw [List.getElem?_take, if_pos (by omega), List.getElem?_drop, List.getD_eq_getElem?_getD, List.getElem?_eq_getElem (by omega)]
  rfl
theorem places_build {itv : Nat} {l : List Pr} (h1 : 1 ≤ itv) : ((buildF itv l).drop ((buildF itv l).length - 6 - 4 * ((l.length + itv - 1) / itv))).take (4 * ((l.length + itv - 1) / itv)) = placeN itv l l.length := by
  have hp := placeN_length itv l h1 l.length
  have b2 := bytesN_len 2 itv
  have b4 := bytesN_len 4 l.length
  have hlen : (buildF itv l).length = (dataN itv l l.length).length + (placeN itv l l.length).length + 6 := by unfold buildF; simp only [List.length_append, b2, b4]; omega
  rw [show (buildF itv l).length - 6 - 4 * ((l.length + itv - 1) / itv) = (dataN itv l l.length).length by omega]
  unfold buildF
  rw [List.drop_left, ← hp, List.take_left]
theorem runs_step {itv : Nat} (h1 : 1 ≤ itv) (i : Nat) (r : Nat) (hr : r * itv < i) : r + 1 ≤ (i + itv - 1) / itv := by
  rw [Nat.le_div_iff_mul_le (by omega), Nat.add_mul]
  omega
theorem runs_lt {itv : Nat} (h1 : 1 ≤ itv) (n r : Nat) : r < (n + itv - 1) / itv ↔ r * itv < n := by
  constructor
  · intro h
    have : (r + 1) * itv ≤ n + itv - 1 := Nat.le_trans (Nat.mul_le_mul_right _ h) (Nat.div_mul_le_self _ _)
    rw [Nat.add_mul] at this
    omega
  · exact fun h => runs_step h1 n r h
theorem place_at {itv : Nat} {l : List Pr} (h1 : 1 ≤ itv) (r : Nat) : ∀ i, r * itv < i → ((placeN itv l i).drop (4 * r)).take 4 = bytesN 4 (dataN itv l (r * itv)).length
  | 0, h => by omega
  | i + 1, h => by
    rw [placeN]
    have hl := placeN_length itv l h1 i
    by_cases hr : r * itv < i
    · have := runs_step h1 i r hr
      rw [List.drop_append_of_le_length (by omega), List.take_append_of_le_length (by rw [List.length_drop]; omega)]
      exact place_at h1 r i hr
    · obtain rfl : i = r * itv := by omega
      rw [if_pos (Nat.mul_mod_left _ _)]
      have : (r * itv + itv - 1) / itv = r := by
        rw [show r * itv + itv - 1 = (itv - 1) + itv * r by rw [Nat.mul_comm]; omega, Nat.add_mul_div_left _ _ (by omega), Nat.div_eq_of_lt (by omega), Nat.zero_add]
      rw [this] at hl
      rw [← hl, List.drop_left, List.take_of_length_le (by rw [bytesN_len]; omega)]
/-- the key that a pair of a run is read by -/
def keyR (l : List Pr) (i j : Nat) : List UInt8 := if j = 0 then [] else keyAt l i
theorem entry_run {itv : Nat} {l : List Pr} (h : okLens l) (r j : Nat) (hi : r * itv + j < l.length) (hj : j < itv) :
    entryF (dataN itv l l.length) (dataN itv l (r * itv + j)).length (keyR l (r * itv + j) j) = some (l.getD (r * itv + j) noPr, (dataN itv l (r * itv + (j + 1))).length) := by
  obtain ⟨i, hie⟩ : ∃ i, i = r * itv + j := ⟨_, rfl⟩
  rw [← hie] at hi ⊢
  rw [show r * itv + (j + 1) = i + 1 by omega]
  obtain ⟨q, hq⟩ := dataN_prefix itv l (i + 1) (l.length - (i + 1))
  rw [show i + 1 + (l.length - (i + 1)) = l.length by omega] at hq
  have hd : dataN itv l l.length = dataN itv l i ++ (entF (nAt itv l i) (l.getD i noPr) ++ q) := by rw [hq, dataN, List.append_assoc]
  have a := h i
  obtain ⟨b1, b2⟩ := nAt_key itv l i
  have hkl : (keyAt l i).length ≤ 200 := by unfold keyAt; split; · simp
                                            · exact (h _).1
  have hl : (dataN itv l (i + 1)).length = (dataN itv l i).length + (entF (nAt itv l i) (l.getD i noPr)).length := by rw [dataN, List.length_append]
  rw [hl, hd]
  unfold keyR
  by_cases h0 : j = 0
  · rw [if_pos h0]
    have hn : nAt itv l i = 0 := by unfold nAt; rw [if_pos (by rw [hie, h0, Nat.add_zero]; exact Nat.mul_mod_left _ _)]
    rw [hn]
    exact entry_at (Nat.zero_le _) (Nat.zero_le _) a.1 a.2 rfl (Nat.zero_le _)
  · rw [if_neg h0]
    exact entry_at b1 (nAt_le itv l i) a.1 a.2 b2 hkl
theorem keyR_next (l : List Pr) (i j : Nat) : keyR l (i + 1) (j + 1) = (l.getD i noPr).1 := by
  unfold keyR keyAt
  rw [if_neg (by omega), if_neg (by omega), Nat.add_sub_cancel]
/-- how many are below a key -/
def lowF (key : List UInt8) : List Pr → Nat
  | [] => 0
  | p :: t => if bytesLess p.1 key = true then lowF key t + 1 else 0
theorem lowF_le (key : List UInt8) : ∀ l, lowF key l ≤ l.length
  | [] => Nat.zero_le _
  | p :: t => by
    rw [lowF]
    have := lowF_le key t
    split <;> simp only [List.length_cons] <;> omega
theorem lowF_is {key : List UInt8} : ∀ {l : List Pr} {p : Nat}, p ≤ l.length → (∀ i, i < p → bytesLess (l.getD i noPr).1 key = true) → (p < l.length → bytesLess (l.getD p noPr).1 key = false) → lowF key l = p
  | [], p, h, _, _ => by simp at h; subst h; rfl
  | x :: t, 0, _, _, h => by
    have := h (by simp)
    simp only [List.getD_cons_zero] at this
    rw [lowF, if_neg (by rw [this]; simp)]
  | x :: t, p + 1, h1, h2, h3 => by
    have h0 := h2 0 (by omega)
    simp only [List.getD_cons_zero] at h0
    rw [lowF, if_pos h0, lowF_is (l := t) (p := p) (by simpa using h1) (fun i hi => by simpa using h2 (i + 1) (by omega)) (fun hp => by simpa using h3 (by simpa using hp))]
theorem lowF_lt {key : List UInt8} : ∀ {l : List Pr} {i : Nat}, i < lowF key l → bytesLess (l.getD i noPr).1 key = true
  | [], i, h => by simp [lowF] at h
  | x :: t, i, h => by
    rw [lowF] at h
    split at h
    · rename_i hx
      cases i with
      | zero => simpa using hx
      | succ i => rw [List.getD_cons_succ]; exact lowF_lt (by omega)
    · omega
theorem lowF_ge {key : List UInt8} : ∀ {l : List Pr}, lowF key l < l.length → bytesLess (l.getD (lowF key l) noPr).1 key = false
  | [], h => by simp at h
  | x :: t, h => by
    rw [lowF] at h ⊢
    split
    · rename_i hx
      rw [if_pos hx] at h
      rw [List.getD_cons_succ]
      exact lowF_ge (by simpa using h)
    · rename_i hx
      simpa using hx
end Go.Proofs.Ytnbinodhdgnjlaa.Bk
