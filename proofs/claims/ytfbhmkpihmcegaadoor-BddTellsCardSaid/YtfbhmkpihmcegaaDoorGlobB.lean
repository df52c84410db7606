/-
  The row of NatOfs: what its condition gives a walk; a start that meets it.
-/
import Derived.Test.YtfbhmkpihmcegaaDoorRow
import Derived.Test.YtfbhmkpihmcegaaDoorTold
import Derived.Lib.LaidTab
namespace Go.Proofs.YtfbhmkpihmcegaaDoor
open Go.ChangeShapes Go.WideShapes Go.ChangeAt Go.WideElems Go.RowKit Go.Deep

def laidTab : List (String × DataW Unit) := [("math/bits.deBruijn32tab", Rows.laid_math_bits_deBruijn32tab), ("math/bits.deBruijn64tab", Rows.laid_math_bits_deBruijn64tab), ("internal/strconv.uint64pow10", Rows.laid_internal_strconv_uint64pow10)]
theorem door_metTab (os : Os) (args : Array Value) : laidMetH Tryd.prog laidTab ((World.doorLaid Tryd.prog 400 os).forCall (fun _ _ => 0) ⟨#[], args, []⟩).memory := by
  rw [MakeChecks.laidMetH_plain _ _ _ (by kernel_rfl)]
  exact laidMet_of_run' 8 (by kernel_rfl) (by kernel_rfl)
theorem tPowB : (Tryd.prog.globals[2]?).map (·.type) = some 202 := by kernel_rfl
theorem dPowB : (Rows.laid_internal_strconv_uint64pow10 : DataW Unit) = Lib.tabData .u64 Lib.pow10Tab := by kernel_rfl
theorem cellsU64B : Tryd.prog.cellsOf 159 = 1 := by kernel_rfl
theorem cellsPowB : Tryd.prog.cellsOf 202 = 20 := by kernel_rfl
theorem globT_of_tab {W : World} (h : laidMetH Tryd.prog laidTab W) : GlobT W := by
  rw [MakeChecks.laidMetH_plain _ _ _ (by kernel_rfl)] at h
  obtain ⟨ps, ⟨_, _, _, _, _, _, _, _, _, _, ⟨_, _, _, _, _, _, _, _, _, _, ⟨g2, t2, cs2, f2, p2, q2, hg2, ht2, hv2, hd2, _, _⟩, _⟩, _⟩, _, _⟩ := h
  obtain rfl := Option.some.inj (gPow.symm.trans hg2)
  obtain rfl := Option.some.inj (tPowB.symm.trans ht2)
  rw [dPowB] at hd2
  refine ⟨?_⟩
  unfold Lib.TabIs
  rw [hv2, ← Lib.cells_of_tab Tryd.underlying202 Tryd.underlying159 cellsU64B cellsPowB hd2]
end Go.Proofs.YtfbhmkpihmcegaaDoor
