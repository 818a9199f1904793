/- Layer 12 (epoch): slices.Sorted(maps.Keys(m)) at ints, over this program. -/
import Derived.Test.YtpaogoehgkoaeaaGreatDoorQKeepLib
import Derived.Shelf.SlIterI.Sorted
import Derived.Shelf.Slices.In.SortNone
namespace Go.Proofs.YtpaogoehgkoaeaaGreatDoor
set_option linter.unusedVariables false
set_option linter.unusedSimpArgs false
open Go.RowKit Go.Maps
def renY : Go.Shelf.Ren := ⟨fun x => if x = 6 then 116 else if x = 7 then 117 else if x = 8 then 153 else if x = 9 then 55 else if x = 10 then 154 else if x = 11 then 180 else 0,
  fun t => if t = 0 then 0 else if t = 3 then 143 else if t = 4 then 4 else if t = 23 then 125 else if t = 24 then 23 else if t = 26 then 3 else if t = 27 then 204 else if t = 28 then 205 else if t = 33 then 241 else 0, fun x => x⟩
set_option maxRecDepth 1000000 in
theorem laysY7 : SlLaysZI.n7 Tryz.prog renY :=
  ⟨by kernel_rfl, ⟨"maps.Keys[map[int]*assart/epoch.era,int,*assart/epoch.era]", by decide, by kernel_rfl⟩, ⟨"maps.Keys[map[int]*assart/epoch.era,int,*assart/epoch.era]$1", by decide, by kernel_rfl⟩,
   by kernel_rfl, fun w => by kernel_rfl, fun w => by kernel_rfl, fun w => by kernel_rfl, by kernel_rfl, fun w => by kernel_rfl, fun w => by kernel_rfl, fun w => by kernel_rfl, by kernel_rfl, fun w => by kernel_rfl, fun w => by kernel_rfl, fun w => by kernel_rfl, by kernel_rfl, fun w => by kernel_rfl, fun w => by kernel_rfl, fun w => by kernel_rfl,
   by kernel_rfl, fun w => by kernel_rfl, fun w => by kernel_rfl, fun w => by kernel_rfl, by kernel_rfl, fun w => by kernel_rfl, fun w => by kernel_rfl, fun w => by kernel_rfl, by kernel_rfl, fun w => by kernel_rfl, fun w => by kernel_rfl, fun w => by kernel_rfl⟩
set_option maxRecDepth 1000000 in
theorem laysY6 : SlLaysZI.n6 Tryz.prog renY :=
  ⟨by kernel_rfl, ⟨"slices.Sorted[int]", by decide, by kernel_rfl⟩, ⟨"slices.Collect[int]", by decide, by kernel_rfl⟩, ⟨"slices.AppendSeq[[]int,int]", by decide, by kernel_rfl⟩,
   by kernel_rfl, fun w => by kernel_rfl, fun w => by kernel_rfl, fun w => by kernel_rfl, by kernel_rfl, fun w => by kernel_rfl, fun w => by kernel_rfl, fun w => by kernel_rfl, by kernel_rfl, fun w => by kernel_rfl, fun w => by kernel_rfl, fun w => by kernel_rfl, by kernel_rfl, fun w => by kernel_rfl, fun w => by kernel_rfl, fun w => by kernel_rfl, by kernel_rfl⟩
theorem sortsY (m : Nat) : AnyZI.SortsIn Tryz.prog renY Fence.wide m :=
  ⟨fun blk off cap ss W hH hblk hsz => callsIn_wide.2 (Any.slices_Sort_int laysS blk off cap ss W hH hblk hsz),
   fun p cap W => callsIn_wide.2 (Any.slices_Sort_int_none laysS p cap W)⟩
/-- maps.Keys -/
theorem keysY_any (mb : Option Nat) (w : World) : Calls Tryz.prog 117 #[.map mb] w fun e w' => e = .returned (.func (.func 154) #[] #[.pointer (some ⟨w.heap.size, 0, none⟩)]) ∧ w' = w.alloc (.cells #[.map mb] 125) :=
  (callsIn_wide (n := 5)).1 (AnyZI.keys_in laysY7 Fence.wide 5 trivial rfl mb w)
/-- slices.Sorted of them -/
theorem sortedY_any {H : Type} (b nn : Nat) (D0 : DataW H) (R : Value → Option (DataW H × List MemPlace)) (w : World) (hown : w.ownsMap Tryz.prog 3 R b nn D0) (Bm : Nat) (hBm : Bm < w.heap.size) (hm : w.cell? ⟨Bm, 0, none⟩ = some (.map (some b))) (hmax : Maps.size D0 ≤ 1000000) :
    Calls Tryz.prog 116 #[.func (.func 154) #[] #[.pointer (some ⟨Bm, 0, none⟩)]] w fun e w' => ∃ (v : Value) (ss : List Int), e = .returned v ∧ ss.Perm (intKeys D0) ∧
      w'.ownsRow w.heap.size 3 1 v ss.length ((ss.mergeSort (fun x y => decide (x ≤ y))).map (Value.int .i64)) ∧ (v = .slice none 0 0 ↔ ss = []) ∧ Gr w w' := by
  have hseq : SeqGives Fence.wide 2 Tryz.prog 154 #[.pointer (some ⟨Bm, 0, none⟩)] encZ (fun ss => ss.Perm (intKeys D0)) (Maps.size D0) w :=
    AnyZI.keys_gives (ρ := renY) { laysY7 with } Fence.wide _ trivial rfl (by omega) Bm b nn D0 _ hBm hm hown
  have cS := AnyZI.sorted_in laysY6 Fence.wide 5 trivial trivial trivial trivial rfl (by omega) (sortsY _) (enters_of Tryz.func55 (by kernel_rfl) rfl) 154 #[.pointer (some ⟨Bm, 0, none⟩)] trivial (enters_of Tryz.func154 (by kernel_rfl) rfl) _ _ (by unfold maxLen; omega) (by omega) w hseq
  exact (callsIn_wide (n := 5)).1 cS
end Go.Proofs.YtpaogoehgkoaeaaGreatDoor
