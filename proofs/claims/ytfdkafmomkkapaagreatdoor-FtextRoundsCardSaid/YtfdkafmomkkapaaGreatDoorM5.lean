/- What a row's list gives: the table of trailing noughts. -/
import Derived.Test.YtfdkafmomkkapaaGreatDoorM4
import Derived.Test.YtfdkafmomkkapaaGreatDoorV2
import Derived.Lib.TrailingZeros
import Derived.Laws.Cover2
namespace Go.Proofs.YtfdkafmomkkapaaGreatDoor
open Go.ChangeShapes Go.WideShapes Go.ChangeAt Go.RowKit
set_option maxRecDepth 100000

theorem gBru : Tryz.prog.globalNamed "math/bits.deBruijn64tab" = some 6 := by kernel_rfl
theorem bru_laid : (Rows.laid_math_bits_deBruijn64tab : DataW Unit) = Lib.tabData .u8 (Lib.deBruijn64tab.map Int.ofNat) := by kernel_rfl
theorem gz_shaped (W : World) (h : laidMetH Tryz.prog Rows.ftextRoundsRow.laid W) (hs : W.ShapedOpen Tryz.prog) : Gz W := by
  have h1 := only W h "math/bits.deBruijn64tab" Rows.laid_math_bits_deBruijn64tab (by kernel_rfl)
  rw [bru_laid] at h1
  have ht := Lib.tabIs_of_head gBru (t := 125) (e := 5) (n := 64) (by kernel_rfl) (by kernel_rfl) (by kernel_rfl) (by kernel_rfl) (by kernel_rfl) h1
  exact ⟨gl_shaped W h hs, ht.cell gBru 15 (by decide)⟩
end Go.Proofs.YtfdkafmomkkapaaGreatDoor
