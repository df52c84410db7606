/-
  Rows that list what reading a diagram's bytes leans on: what the condition gives a walk; a start that meets it.
-/
import Derived.Test.YtdlcldhnbhlikaaGreatDoorGlobV
namespace Go.Proofs.YtdlcldhnbhlikaaGreatDoor
open Go.ChangeShapes Go.WideShapes Go.ChangeAt Go.WideElems Go.RowKit Go.Deep

def laidL : List (String × DataW Unit) := [("math/bits.deBruijn32tab", Rows.laid_math_bits_deBruijn32tab), ("math/bits.deBruijn64tab", Rows.laid_math_bits_deBruijn64tab), ("internal/strconv.uint64pow10", Rows.laid_internal_strconv_uint64pow10), ("unicode/utf8.acceptRanges", Rows.laid_unicode_utf8_acceptRanges), ("errors.errorType", Rows.laid_errors_errorType), ("strconv.ErrRange", Rows.laid_strconv_ErrRange), ("strconv.ErrSyntax", Rows.laid_strconv_ErrSyntax), ("bytes.ErrTooLarge", Rows.laid_bytes_ErrTooLarge), ("unicode/utf8.first", Rows.laid_unicode_utf8_first)]
def laidL2 : List (String × DataW Unit) := [("math/bits.deBruijn32tab", Rows.laid_math_bits_deBruijn32tab), ("math/bits.deBruijn64tab", Rows.laid_math_bits_deBruijn64tab), ("internal/strconv.uint64pow10", Rows.laid_internal_strconv_uint64pow10), ("unicode/utf8.acceptRanges", Rows.laid_unicode_utf8_acceptRanges), ("strconv.ErrRange", Rows.laid_strconv_ErrRange), ("strconv.ErrSyntax", Rows.laid_strconv_ErrSyntax), ("bytes.ErrTooLarge", Rows.laid_bytes_ErrTooLarge), ("unicode/utf8.first", Rows.laid_unicode_utf8_first)]
noncomputable def startL (os : Os) : World := (World.doorLaid Tryz.prog 400 os).layVars Tryz.prog laidL2
theorem startL_two (os : Os) (args : Array Value) : laidMet Tryz.prog laidL2 ((startL os).forCall (fun _ _ => 0) ⟨#[], args, []⟩).memory := by
  have e1 : (laidL2.filter fun x => (laidL2.map (·.1)).contains x.1) = laidL2 := by kernel_rfl
  have e2 : (laidL2.filter fun x => !(laidL2.map (·.1)).contains x.1) = [] := by kernel_rfl
  have h : laidMet Tryz.prog laidL2 (startL os) := laidMet_layVars (w0 := World.doorLaid Tryz.prog 400 os) (laidL2.map (·.1)) [] (by rw [e1]; rfl) (by rw [e1]; kernel_rfl) (by rw [e1]; kernel_rfl) (by rw [e2]; exact LaidIn.none)
  exact h.of_heap (by simp [World.memory, World.forCall, Input.heap])
theorem startL_met (os : Os) (args : Array Value) : laidMetH Tryz.prog laidL ((startL os).forCall (fun _ _ => 0) ⟨#[], args, []⟩).memory :=
  laidMetH_of_parts (startL_two os args) (by kernel_rfl)
theorem globV_of_laidL {W : World} (h : laidMetH Tryz.prog laidL W) (hs : W.ShapedOpen Tryz.prog) : GlobV W := by
  have h' : laidMet Tryz.prog laidL2 W ∧ handlesMet Tryz.prog [("errors.errorType", Rows.laid_errors_errorType)] W := h
  have h3 := laidMet.tail (laidMet.tail h'.1)
  have h5 := laidMet.tail (laidMet.tail h3)
  exact ⟨⟨cell_of_handle h'.2 (List.mem_singleton.2 rfl)⟩, globT_of_head h3, shape_max hs, cell_of_sentinel (laidMet.tail h5) gSynV tSynV, cell_of_sentinel h5 gRngV tRngV⟩
end Go.Proofs.YtdlcldhnbhlikaaGreatDoor
