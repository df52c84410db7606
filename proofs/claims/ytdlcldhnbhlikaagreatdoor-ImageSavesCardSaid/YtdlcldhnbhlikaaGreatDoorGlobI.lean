/-
  Rows that list the tables of numbers, errors.errorType and bytes.ErrTooLarge: what the condition gives a walk; a start that meets it.
-/
import Derived.Test.YtdlcldhnbhlikaaGreatDoorGlobV
namespace Go.Proofs.YtdlcldhnbhlikaaGreatDoor
open Go.ChangeShapes Go.WideShapes Go.ChangeAt Go.WideElems Go.RowKit Go.Deep

def laidI : List (String × DataW Unit) := [("math/bits.deBruijn32tab", Rows.laid_math_bits_deBruijn32tab), ("math/bits.deBruijn64tab", Rows.laid_math_bits_deBruijn64tab), ("internal/strconv.uint64pow10", Rows.laid_internal_strconv_uint64pow10), ("errors.errorType", Rows.laid_errors_errorType), ("bytes.ErrTooLarge", Rows.laid_bytes_ErrTooLarge)]
def laidI2 : List (String × DataW Unit) := [("math/bits.deBruijn32tab", Rows.laid_math_bits_deBruijn32tab), ("math/bits.deBruijn64tab", Rows.laid_math_bits_deBruijn64tab), ("internal/strconv.uint64pow10", Rows.laid_internal_strconv_uint64pow10), ("bytes.ErrTooLarge", Rows.laid_bytes_ErrTooLarge)]
noncomputable def startI (os : Os) : World := (World.doorLaid Tryz.prog 400 os).layVars Tryz.prog laidI2
theorem startI_two (os : Os) (args : Array Value) : laidMet Tryz.prog laidI2 ((startI os).forCall (fun _ _ => 0) ⟨#[], args, []⟩).memory := by
  have e1 : (laidI2.filter fun x => (laidI2.map (·.1)).contains x.1) = laidI2 := by kernel_rfl
  have e2 : (laidI2.filter fun x => !(laidI2.map (·.1)).contains x.1) = [] := by kernel_rfl
  have h : laidMet Tryz.prog laidI2 (startI os) := laidMet_layVars (w0 := World.doorLaid Tryz.prog 400 os) (laidI2.map (·.1)) [] (by rw [e1]; rfl) (by rw [e1]; kernel_rfl) (by rw [e1]; kernel_rfl) (by rw [e2]; exact LaidIn.none)
  exact h.of_heap (by simp [World.memory, World.forCall, Input.heap])
theorem startI_met (os : Os) (args : Array Value) : laidMetH Tryz.prog laidI ((startI os).forCall (fun _ _ => 0) ⟨#[], args, []⟩).memory :=
  laidMetH_of_parts (startI_two os args) (by kernel_rfl)
theorem globs_of_tabI {W : World} (h : laidMetH Tryz.prog laidI W) : GlobT W ∧ GlobE W := by
  have h' : laidMet Tryz.prog laidI2 W ∧ handlesMet Tryz.prog [("errors.errorType", Rows.laid_errors_errorType)] W := h
  exact ⟨globT_of_head (laidMet.tail (laidMet.tail h'.1)), ⟨cell_of_handle h'.2 (List.mem_singleton.2 rfl)⟩⟩
end Go.Proofs.YtdlcldhnbhlikaaGreatDoor
