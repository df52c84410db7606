/-
  Rows that list errors.errorType alone: what their condition gives a walk; a start that meets it.
-/
import Derived.Test.YtfbhmkpihmcegaaDoorRow
namespace Go.Proofs.YtfbhmkpihmcegaaDoor
open Go.ChangeShapes Go.WideShapes Go.ChangeAt Go.WideElems Go.RowKit Go.Deep

def laidE : List (String × DataW Unit) := [("errors.errorType", Rows.laid_errors_errorType)]
theorem door_metE (os : Os) (args : Array Value) : laidMetH Tryd.prog laidE ((World.doorLaid Tryd.prog 400 os).forCall (fun _ _ => 0) ⟨#[], args, []⟩).memory :=
  laidMetH_of_parts3 (fuel := 8) (laidMet_of_run' 8 (by kernel_rfl) (by kernel_rfl)) (by kernel_rfl) (by kernel_rfl)
theorem globE_of_laid {W : World} (h : laidMetH Tryd.prog laidE W) : GlobE W := by
  have h' : laidMet Tryd.prog [] W ∧ handlesMet Tryd.prog [("errors.errorType", Rows.laid_errors_errorType)] W := h
  exact ⟨cell_of_handle h'.2 (List.mem_singleton.2 rfl)⟩
end Go.Proofs.YtfbhmkpihmcegaaDoor
