/- Layer 16 (keep): the library's Sort and BinarySearch at ints, over this program. -/
import Derived.Test.YtpaogoehgkoaeaaGreatDoorBunB0
import Derived.Shelf.Sort.Plain
import Derived.Shelf.Slices.SearchI
import Derived.Sort.OwnSortedInts
namespace Go.Proofs.YtpaogoehgkoaeaaGreatDoor
set_option linter.unusedVariables false
set_option linter.unusedSimpArgs false
open Go.RowKit
theorem elemI : Elem Tryz.prog 23 3 (.int .i64 0) 1 8 := ⟨by kernel_rfl, by kernel_rfl, rfl, by decide⟩
def zv (l : List Int) : List Value := l.map (Value.int .i64)
theorem zv_length (l : List Int) : (zv l).length = l.length := by simp [zv]
theorem zv_get (l : List Int) (i : Nat) (h : i < l.length) : (zv l)[i]? = some (.int .i64 l[i]) := by simp [zv, h]
theorem zv_append (l m : List Int) : zv (l ++ m) = zv l ++ zv m := by simp [zv]
def renS : Go.Shelf.Ren := ⟨fun x => if x = 189 then 55 else if x = 125 then 106 else if x = 128 then 149 else if x = 129 then 150 else if x = 215 then 179 else if x = 216 then 146 else if x = 257 then 105 else if x = 294 then 140 else if x = 295 then 141 else if x = 296 then 142 else if x = 297 then 143 else if x = 298 then 144 else if x = 299 then 145 else if x = 300 then 147 else if x = 301 then 148 else if x = 328 then 174 else if x = 329 then 175 else if x = 330 then 176 else if x = 331 then 177 else if x = 332 then 178 else if x = 343 then 188 else 0,
  fun t => if t = 0 then 0 else if t = 3 then 3 else if t = 4 then 4 else if t = 5 then 5 else if t = 9 then 9 else if t = 28 then 23 else if t = 46 then 165 else if t = 51 then 170 else if t = 53 then 26 else if t = 131 then 192 else if t = 182 then 232 else if t = 183 then 233 else if t = 218 then 260 else if t = 222 then 264 else if t = 228 then 273 else if t = 229 then 274 else 0, fun x => x⟩
set_option maxRecDepth 1000000 in
theorem laysS : Lays.n189 Tryz.prog renS :=
  ⟨by kernel_rfl, by kernel_rfl, by kernel_rfl, by kernel_rfl, by kernel_rfl, by kernel_rfl, by kernel_rfl, by kernel_rfl, by kernel_rfl, by kernel_rfl, by kernel_rfl, by kernel_rfl, by kernel_rfl, by kernel_rfl, by kernel_rfl, by kernel_rfl, by kernel_rfl, by kernel_rfl, by kernel_rfl, by kernel_rfl, by kernel_rfl, by kernel_rfl,
   by kernel_rfl, fun w => by kernel_rfl, fun w => by kernel_rfl, fun w => by kernel_rfl, by kernel_rfl, fun w => by kernel_rfl, fun w => by kernel_rfl, fun w => by kernel_rfl, by kernel_rfl, fun w => by kernel_rfl, fun w => by kernel_rfl, fun w => by kernel_rfl, by kernel_rfl, fun w => by kernel_rfl, fun w => by kernel_rfl, fun w => by kernel_rfl,
   by kernel_rfl, fun w => by kernel_rfl, fun w => by kernel_rfl, fun w => by kernel_rfl, by kernel_rfl, fun w => by kernel_rfl, fun w => by kernel_rfl, fun w => by kernel_rfl, by kernel_rfl, fun w => by kernel_rfl, fun w => by kernel_rfl, fun w => by kernel_rfl, by kernel_rfl, fun w => by kernel_rfl, fun w => by kernel_rfl, fun w => by kernel_rfl,
   by kernel_rfl, fun w => by kernel_rfl, fun w => by kernel_rfl, fun w => by kernel_rfl, by kernel_rfl, fun w => by kernel_rfl, fun w => by kernel_rfl, fun w => by kernel_rfl, by kernel_rfl, fun w => by kernel_rfl, fun w => by kernel_rfl, fun w => by kernel_rfl, by kernel_rfl, fun w => by kernel_rfl, fun w => by kernel_rfl, fun w => by kernel_rfl,
   by kernel_rfl, fun w => by kernel_rfl, fun w => by kernel_rfl, fun w => by kernel_rfl, by kernel_rfl, fun w => by kernel_rfl, fun w => by kernel_rfl, fun w => by kernel_rfl, by kernel_rfl, fun w => by kernel_rfl, fun w => by kernel_rfl, fun w => by kernel_rfl, by kernel_rfl, fun w => by kernel_rfl, fun w => by kernel_rfl, fun w => by kernel_rfl⟩
def renB : Go.Shelf.Ren := ⟨fun x => if x = 25 then 107 else if x = 31 then 146 else if x = 32 then 151 else if x = 37 then 179 else 0,
  fun t => if t = 0 then 0 else if t = 3 then 3 else if t = 4 then 4 else if t = 22 then 23 else if t = 40 then 165 else 0, fun x => x⟩
set_option maxRecDepth 1000000 in
theorem laysB : Lays2.n25 Tryz.prog renB :=
  ⟨by kernel_rfl, by kernel_rfl, by kernel_rfl, by kernel_rfl, by kernel_rfl,
   by kernel_rfl, fun w => by kernel_rfl, fun w => by kernel_rfl, fun w => by kernel_rfl, by kernel_rfl, fun w => by kernel_rfl, fun w => by kernel_rfl, fun w => by kernel_rfl, by kernel_rfl, fun w => by kernel_rfl, fun w => by kernel_rfl, fun w => by kernel_rfl, by kernel_rfl, fun w => by kernel_rfl, fun w => by kernel_rfl, fun w => by kernel_rfl, by kernel_rfl, fun w => by kernel_rfl, fun w => by kernel_rfl, fun w => by kernel_rfl⟩
open Go.Sort in
/-- slices.Sort at ints that are owned -/
theorem sortI_any (B : Nat) (ad : Option Addr) (cap : Nat) (l : List Int) (w : World) (ho : Owns w B 3 1 ad cap l.length (zv l)) (h0 : 0 < l.length) (hl : l.length ≤ 9223372036854775) :
    Calls Tryz.prog 55 #[.slice ad l.length cap] w fun e w' => e = .returned (.tuple #[]) ∧ Row w' ad (zv (l.mergeSort fun x y => decide (x ≤ y))) ∧ w.grownBy w' (ad.map (·.block)) := by
  obtain ⟨b, rfl, hb, _⟩ := ho.at (zv_get l 0 h0)
  have hH : Go.Sort.Holds (Value.int .i64) w b 0 l.toArray := fun j hj => by
    have hj2 : j < l.length := by simpa using hj
    obtain ⟨b2, e, _, z⟩ := ho.at (zv_get l j hj2)
    cases e
    refine ⟨?_, ?_⟩
    · rw [Nat.zero_add, z]
      simp [hj2]
    · rw [Nat.zero_add]
      exact ho.unfrozen rfl (by omega)
  have hbl : b < w.heap.size := (ho.lt _ rfl).2
  have h := Any.slices_Sort_int laysS b 0 cap l w hH hbl (by omega)
  rw [show renS.f 189 = 55 from rfl] at h
  refine h.mono fun e w' ⟨he, n, os, hw⟩ => ⟨he, ?_, ?_⟩
  · generalize hS : (l.mergeSort fun x y => decide (x ≤ y)) = S at *
    have hs : S.length = l.length := by rw [← hS]; simp
    intro i u hu
    have hi : i < S.length := by
      have := (List.getElem?_eq_some_iff.1 hu).1
      simpa [zv] using this
    refine ⟨b, 0, rfl, ?_⟩
    have hc := cell?_putRow (Value.int .i64) (Sort.ahead w n) b 0 l.toArray S.toArray (holds_ahead (Value.int .i64) w n b 0 _ hH) (by simpa using hs) i (by simpa using hi)
    rw [hw, cell?_grow _ _ _ (by simpa [putRow, mapBlock, Sort.ahead] using hbl), hc]
    rw [zv_get _ i hi] at hu
    rw [← hu]
    simp [hi]
  · rw [hw]
    exact grownBy_sortedI _
/-- slices.BinarySearch at ints that rise -/
theorem searchI_any (ad : Option Addr) (cap : Nat) (l : List Int) (x : Int) (w : World) (hr : Row w ad (zv l)) (h0 : 0 < l.length) (hl : l.length ≤ 9223372036854775) (hs : l.Pairwise (· ≤ ·)) :
    Calls Tryz.prog 107 #[.slice ad l.length cap, .int .i64 x] w fun e w' => (∃ b, e = .returned (.tuple #[.int .i64 (l.countP (· < x) : Nat), .bool b])) ∧ Gr w w' := by
  obtain ⟨b, off, rfl, _⟩ := hr 0 _ (zv_get l 0 h0)
  have h := Any.slices_BinarySearch_int laysB b off l.length cap l x w (Nat.le_refl _) (by omega) (fun j hj => by
    obtain ⟨b2, off2, e, z⟩ := hr j _ (zv_get l j hj)
    cases e
    rw [z]
    simp [List.getD, List.getElem?_eq_getElem hj]) (by rw [List.take_length]; exact hs)
  rw [List.take_length, show renB.f 25 = 107 from rfl] at h
  exact h.mono fun e w' ⟨he, q, hw⟩ => ⟨⟨_, he⟩, by rw [hw]; exact Gr.drewN _ _⟩
end Go.Proofs.YtpaogoehgkoaeaaGreatDoor
