/- Layer 16 (keep): the library's Sort and BinarySearch at ints, over this program. -/
import Derived.Test.YtpaogoehgkoaeaaGreatDoorQBunB0
import Derived.Shelf.Sort.Plain
import Derived.Shelf.Slices.SearchI
import Derived.Sort.OwnSortedInts
namespace Go.Proofs.YtpaogoehgkoaeaaGreatDoor
set_option linter.unusedVariables false
set_option linter.unusedSimpArgs false
open Go.RowKit
theorem elemI : Elem Tryz.prog 23 3 (.int .i64 0) 1 8 := ⟨by kernel_rfl, by kernel_rfl, rfl, by decide⟩
def zv (l : List Int) : List Value := l.map (Value.int .i64)
def renS : Go.Shelf.Ren := ⟨fun x => if x = 189 then 55 else if x = 125 then 106 else if x = 128 then 149 else if x = 129 then 150 else if x = 215 then 179 else if x = 216 then 146 else if x = 257 then 105 else if x = 294 then 140 else if x = 295 then 141 else if x = 296 then 142 else if x = 297 then 143 else if x = 298 then 144 else if x = 299 then 145 else if x = 300 then 147 else if x = 301 then 148 else if x = 328 then 174 else if x = 329 then 175 else if x = 330 then 176 else if x = 331 then 177 else if x = 332 then 178 else if x = 343 then 188 else 0,
  fun t => if t = 0 then 0 else if t = 3 then 3 else if t = 4 then 4 else if t = 5 then 5 else if t = 9 then 9 else if t = 28 then 23 else if t = 46 then 165 else if t = 51 then 170 else if t = 53 then 26 else if t = 131 then 192 else if t = 182 then 232 else if t = 183 then 233 else if t = 218 then 260 else if t = 222 then 264 else if t = 228 then 273 else if t = 229 then 274 else 0, fun x => x⟩
set_option maxRecDepth 1000000 in
theorem laysS : Lays.n189 Tryz.prog renS :=
  ⟨by kernel_rfl, by kernel_rfl, by kernel_rfl, by kernel_rfl, by kernel_rfl, by kernel_rfl, by kernel_rfl, by kernel_rfl, by kernel_rfl, by kernel_rfl, by kernel_rfl, by kernel_rfl, by kernel_rfl, by kernel_rfl, by kernel_rfl, by kernel_rfl, by kernel_rfl, by kernel_rfl, by kernel_rfl, by kernel_rfl, by kernel_rfl, by kernel_rfl,
   by kernel_rfl, fun w => by kernel_rfl, fun w => by kernel_rfl, fun w => by kernel_rfl, by kernel_rfl, fun w => by kernel_rfl, fun w => by kernel_rfl, fun w => by kernel_rfl, by kernel_rfl, fun w => by kernel_rfl, fun w => by kernel_rfl, fun w => by kernel_rfl, by kernel_rfl, fun w => by kernel_rfl, fun w => by kernel_rfl, fun w => by kernel_rfl,
   by kernel_rfl, fun w => by kernel_rfl, fun w => by kernel_rfl, fun w => by kernel_rfl, by kernel_rfl, fun w => by kernel_rfl, fun w => by kernel_rfl, fun w => by kernel_rfl, by kernel_rfl, fun w => by kernel_rfl, fun w => by kernel_rfl, fun w => by kernel_rfl, by kernel_rfl, fun w => by kernel_rfl, fun w => by kernel_rfl, fun w => by kernel_rfl,
   by kernel_rfl, fun w => by kernel_rfl, fun w => by kernel_rfl, fun w => by kernel_rfl, by kernel_rfl, fun w => by kernel_rfl, fun w => by kernel_rfl, fun w => by kernel_rfl, by kernel_rfl, fun w => by kernel_rfl, fun w => by kernel_rfl, fun w => by kernel_rfl, by kernel_rfl, fun w => by kernel_rfl, fun w => by kernel_rfl, fun w => by kernel_rfl,
   by kernel_rfl, fun w => by kernel_rfl, fun w => by kernel_rfl, fun w => by kernel_rfl, by kernel_rfl, fun w => by kernel_rfl, fun w => by kernel_rfl, fun w => by kernel_rfl, by kernel_rfl, fun w => by kernel_rfl, fun w => by kernel_rfl, fun w => by kernel_rfl, by kernel_rfl, fun w => by kernel_rfl, fun w => by kernel_rfl, fun w => by kernel_rfl⟩
end Go.Proofs.YtpaogoehgkoaeaaGreatDoor
