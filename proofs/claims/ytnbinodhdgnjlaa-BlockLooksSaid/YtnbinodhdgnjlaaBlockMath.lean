/- Layer 13 (block): the bytes of pairs, in plain Lean. No program is in sight here. -/
import Derived.Test.YtnbinodhdgnjlaaVarintMath
import Derived.Test.YtnbinodhdgnjlaaBytesOrd
namespace Go.Proofs.Ytnbinodhdgnjlaa.Bk
set_option linter.unusedVariables false
set_option linter.unusedSimpArgs false
open Varint
open Go.Op (bytesLess)
abbrev Pr := List UInt8 × List UInt8
def noPr : Pr := ([], [])
/-- how many bytes two keys have in common at the front -/
def comF : List UInt8 → List UInt8 → Nat
  | a :: x, b :: y => if a = b then comF x y + 1 else 0
  | _, _ => 0
theorem comF_le : ∀ x y : List UInt8, comF x y ≤ x.length ∧ comF x y ≤ y.length
  | [], y => by simp [comF]
  | a :: x, [] => by simp [comF]
  | a :: x, b :: y => by
    have := comF_le x y
    simp only [comF, List.length_cons]
    split <;> omega
theorem comF_take : ∀ x y : List UInt8, x.take (comF x y) = y.take (comF x y)
  | [], y => by simp [comF]
  | a :: x, [] => by simp [comF]
  | a :: x, b :: y => by
    simp only [comF]
    split
    · rename_i h; subst h; rw [List.take_succ_cons, List.take_succ_cons, comF_take x y]
    · rfl
theorem comF_step {x y : List UInt8} {n : Nat} (h1 : n < x.length) (h2 : n < y.length) (he : x[n] = y[n]) : comF (x.drop n) (y.drop n) = comF (x.drop (n + 1)) (y.drop (n + 1)) + 1 := by
  rw [List.drop_eq_getElem_cons h1, List.drop_eq_getElem_cons h2, comF, if_pos he]
theorem comF_stop {x y : List UInt8} {n : Nat} (h1 : n < x.length) (h2 : n < y.length) (he : x[n] ≠ y[n]) : comF (x.drop n) (y.drop n) = 0 := by
  rw [List.drop_eq_getElem_cons h1, List.drop_eq_getElem_cons h2, comF, if_neg he]
theorem comF_end {x y : List UInt8} {n : Nat} (h : x.length ≤ n ∨ y.length ≤ n) : comF (x.drop n) (y.drop n) = 0 := by
  rcases h with h | h
  · rw [List.drop_of_length_le h]; cases y.drop n <;> rfl
  · rw [List.drop_of_length_le h]; cases x.drop n <;> rfl
def entF (n : Nat) (p : Pr) : List UInt8 := putF n ++ (putF (p.1.length - n) ++ (putF p.2.length ++ (p.1.drop n ++ p.2)))
def nAt (itv : Nat) (l : List Pr) (i : Nat) : Nat := if i % itv = 0 then 0 else comF (l.getD (i - 1) noPr).1 (l.getD i noPr).1
def dataN (itv : Nat) (l : List Pr) : Nat → List UInt8
  | 0 => []
  | i + 1 => dataN itv l i ++ entF (nAt itv l i) (l.getD i noPr)
def placeN (itv : Nat) (l : List Pr) : Nat → List UInt8
  | 0 => []
  | i + 1 => placeN itv l i ++ (if i % itv = 0 then bytesN 4 (dataN itv l i).length else [])
/-- a block's bytes -/
def buildF (itv : Nat) (l : List Pr) : List UInt8 := dataN itv l l.length ++ (placeN itv l l.length ++ (bytesN 2 itv ++ bytesN 4 l.length))
def longB (p : Pr) : Bool := decide (200 < p.1.length) || decide (2000 < p.2.length)
def riseB (l : List Pr) : Bool := (List.range (l.length - 1)).all fun i => bytesLess (l.getD i noPr).1 (l.getD (i + 1) noPr).1
theorem riseB_iff {l : List Pr} : riseB l = true ↔ ∀ i, i + 1 < l.length → bytesLess (l.getD i noPr).1 (l.getD (i + 1) noPr).1 = true := by
  unfold riseB
  rw [List.all_eq_true]
  constructor
  · intro h i hi; exact h i (by rw [List.mem_range]; omega)
  · intro h i hi; rw [List.mem_range] at hi; exact h i (by omega)
def chkF (l : List Pr) (itv : Int) : Nat := if itv < 1 ∨ 64 < itv then 1 else if 10000 < l.length ∨ l.any longB = true then 14 else if riseB l = true then 0 else 2
theorem putF_le (n : Nat) (h : n < 16384) : (putF n).length ≤ 2 ∧ 1 ≤ (putF n).length ∧ (n < 128 → (putF n).length = 1) := by
  unfold putF
  by_cases h1 : n < 128
  · rw [putN_small h1]; simp
  · rw [putN_big h1, putN_small (by omega)]; exact ⟨by simp, by simp, fun h => absurd h h1⟩
theorem putF_two {m n : Nat} (h : m ≤ n) (hn : n < 16384) : (putF m).length ≤ (putF n).length := by
  have a := putF_le m (by omega)
  have b := putF_le n hn
  by_cases h1 : n < 128
  · have := a.2.2 (by omega); omega
  · have : (putF n).length = 2 := by unfold putF; rw [putN_big h1, putN_small (by omega)]; rfl
    omega
theorem nAt_le (itv : Nat) (l : List Pr) (i : Nat) : nAt itv l i ≤ (l.getD i noPr).1.length := by
  unfold nAt; split
  · omega
  · exact (comF_le _ _).2
theorem entF_len (n : Nat) (p : Pr) (h1 : p.1.length ≤ 200) (h2 : p.2.length ≤ 2000) (hn : n ≤ p.1.length) : (entF n p).length ≤ 6 + p.1.length + p.2.length ∧ (entF n p).length ≤ (entF 0 p).length := by
  have a := putF_le n (by omega)
  have b := putF_le (p.1.length - n) (by omega)
  have c := putF_le p.2.length (by omega)
  have d := putF_two (m := p.1.length - n) (n := p.1.length) (by omega) (by omega)
  have e := putF_le 0 (by omega)
  have f := e.2.2 (by omega)
  simp only [entF, List.length_append, List.length_drop, Nat.sub_zero]
  by_cases h0 : n = 0
  · subst h0; simp only [Nat.sub_zero] at *; omega
  · omega
def okLens (l : List Pr) : Prop := ∀ i, (l.getD i noPr).1.length ≤ 200 ∧ (l.getD i noPr).2.length ≤ 2000
theorem okLens_of {l : List Pr} (h : l.any longB = false) : okLens l := by
  intro i
  rw [List.getD_eq_getElem?_getD]
  by_cases hi : i < l.length
  · rw [List.getElem?_eq_getElem hi, Option.getD_some]
    have := List.any_eq_false.1 h l[i] (List.getElem_mem hi)
    simp only [longB, Bool.or_eq_true, decide_eq_true_eq, not_or] at this
    omega
  · rw [List.getElem?_eq_none (by omega), Option.getD_none]; simp [noPr]
theorem dataN_len {itv : Nat} {l : List Pr} (h : okLens l) (i : Nat) : (dataN itv l i).length ≤ 2206 * i := by
  induction i with
  | zero => simp [dataN]
  | succ i ih =>
    have a := h i
    have b := entF_len (nAt itv l i) _ a.1 a.2 (nAt_le itv l i)
    rw [dataN, List.length_append]; omega
theorem placeN_len (itv : Nat) (l : List Pr) (i : Nat) : (placeN itv l i).length ≤ 4 * i := by
  induction i with
  | zero => simp [placeN]
  | succ i ih =>
    rw [placeN, List.length_append]
    split
    · rw [bytesN_len]; omega
    · simp only [List.length_nil]; omega
end Go.Proofs.Ytnbinodhdgnjlaa.Bk
