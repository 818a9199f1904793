/- Layer 4 (crc): the row's condition lays the library's table; the law's slice by its length. -/
import Derived.Test.YtpebdkkcbhlidaaDoorCrcParts
import Derived.Lib.LaidTab
import Derived.MakeChecks
namespace Go.Proofs.YtpebdkkcbhlidaaDoor
set_option linter.unusedVariables false
set_option linter.unusedSimpArgs false
open Go.RowKit Crc
theorem tab_get : ∀ j, j < 32 → (Go.Lib.deBruijn32tab.map (fun (n : Nat) => (n : Int))).getD j 0 = ((Go.Lib.deBruijn32tab.getD j 0 : Nat) : Int) := by decide +kernel
theorem tab_name : Tryd.prog.globalNamed "math/bits.deBruijn32tab" = some 0 := by kernel_rfl
theorem tab_of {W : World} (h : laidMetH Tryd.prog Rows.crcPartsRow.laid W) : Tab W := by
  rw [Go.MakeChecks.laidMetH_plain Tryd.prog _ W (by kernel_rfl)] at h
  have h' : laidMet Tryd.prog (("math/bits.deBruijn32tab", Go.Lib.tabData .u8 (Go.Lib.deBruijn32tab.map (fun (n : Nat) => (n : Int)))) :: []) W := h
  have hT := Go.Lib.tabIs_of_head (P := Tryd.prog) (g := 0) (t := 38) (e := 5) (n := 32) tab_name (by kernel_rfl) (by kernel_rfl) (by kernel_rfl) (by kernel_rfl) (by kernel_rfl) h'
  intro j hj
  rw [hT.cell tab_name j (by simpa [Go.Lib.deBruijn32tab] using hj), tab_get j hj]
theorem CrcParts_len (ad : Option Addr) (len cap : Nat) (l : List UInt8) (i j : Int) (w : World) (hl : l.length = len) (hlc : len ≤ cap) (hm : len ≤ 140737488351232) (hb : Bytes w ad l) (hT : Tab w) :
    Calls Tryd.prog 3 #[.slice ad len cap, .int .i64 i, .int .i64 j] w fun e w' => e = .returned (.bool true) ∧ Gr w w' := by
  subst hl
  exact CrcParts_any ad cap l i j w hlc hm hb hT
end Go.Proofs.YtpebdkkcbhlidaaDoor
