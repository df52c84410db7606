/-
  Rows that list the tables of numbers and errors.errorType: what the condition gives a walk; a start that meets it.
-/
import Derived.Test.YtdlcldhnbhlikaaGreatDoorRow
import Derived.Test.YtdlcldhnbhlikaaGreatDoorTold
import Derived.Lib.LaidTab
namespace Go.Proofs.YtdlcldhnbhlikaaGreatDoor
open Go.ChangeShapes Go.WideShapes Go.ChangeAt Go.WideElems Go.RowKit Go.Deep

def laidTabE : List (String × DataW Unit) := [("math/bits.deBruijn32tab", Rows.laid_math_bits_deBruijn32tab), ("math/bits.deBruijn64tab", Rows.laid_math_bits_deBruijn64tab), ("internal/strconv.uint64pow10", Rows.laid_internal_strconv_uint64pow10), ("errors.errorType", Rows.laid_errors_errorType)]
theorem door_metTabE (os : Os) (args : Array Value) : laidMetH Tryz.prog laidTabE ((World.doorLaid Tryz.prog 400 os).forCall (fun _ _ => 0) ⟨#[], args, []⟩).memory :=
  laidMetH_of_parts3 (fuel := 8) (laidMet_of_run' 8 (by kernel_rfl) (by kernel_rfl)) (by kernel_rfl) (by kernel_rfl)
theorem gPowE : Tryz.prog.globalNamed "internal/strconv.uint64pow10" = some 5 := by kernel_rfl
theorem tPowE : (Tryz.prog.globals[5]?).map (·.type) = some 246 := by kernel_rfl
theorem dPowE : (Rows.laid_internal_strconv_uint64pow10 : DataW Unit) = Lib.tabData .u64 Lib.pow10Tab := by kernel_rfl
theorem cellsU64E : Tryz.prog.cellsOf 172 = 1 := by kernel_rfl
theorem cellsPowE : Tryz.prog.cellsOf 246 = 20 := by kernel_rfl
theorem globs_of_tabE {W : World} (h : laidMetH Tryz.prog laidTabE W) : GlobT W ∧ GlobE W := by
  have h' : laidMet Tryz.prog [("math/bits.deBruijn32tab", Rows.laid_math_bits_deBruijn32tab), ("math/bits.deBruijn64tab", Rows.laid_math_bits_deBruijn64tab), ("internal/strconv.uint64pow10", Rows.laid_internal_strconv_uint64pow10)] W ∧ handlesMet Tryz.prog [("errors.errorType", Rows.laid_errors_errorType)] W := h
  refine ⟨?_, ⟨cell_of_handle h'.2 (List.mem_singleton.2 rfl)⟩⟩
  obtain ⟨ps, ⟨_, _, _, _, _, _, _, _, _, _, ⟨_, _, _, _, _, _, _, _, _, _, ⟨g2, t2, cs2, f2, p2, q2, hg2, ht2, hv2, hd2, _, _⟩, _⟩, _⟩, _, _⟩ := h'.1
  obtain rfl := Option.some.inj (gPowE.symm.trans hg2)
  obtain rfl := Option.some.inj (tPowE.symm.trans ht2)
  rw [dPowE] at hd2
  refine ⟨?_⟩
  unfold Lib.TabIs
  rw [hv2, ← Lib.cells_of_tab Tryz.underlying246 Tryz.underlying172 cellsU64E cellsPowE hd2]
end Go.Proofs.YtdlcldhnbhlikaaGreatDoor
