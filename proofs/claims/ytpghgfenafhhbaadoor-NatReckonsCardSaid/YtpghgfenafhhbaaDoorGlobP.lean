/-
  Rows that list unicode/utf8's two tables and errors.errorType: what the condition gives a walk; a start that meets it.
-/
import Derived.Test.YtpghgfenafhhbaaDoorRow
import Derived.Test.YtpghgfenafhhbaaDoorRefCheck
import Derived.Lay
import Derived.LaidHandle
namespace Go.Proofs.YtpghgfenafhhbaaDoor
open Go.ChangeShapes Go.WideShapes Go.ChangeAt Go.WideElems Go.RowKit Go.Deep

def laidN : List (String × DataW Unit) := [("unicode/utf8.acceptRanges", Rows.laid_unicode_utf8_acceptRanges), ("errors.errorType", Rows.laid_errors_errorType), ("unicode/utf8.first", Rows.laid_unicode_utf8_first)]
def laidN2 : List (String × DataW Unit) := [("unicode/utf8.acceptRanges", Rows.laid_unicode_utf8_acceptRanges), ("unicode/utf8.first", Rows.laid_unicode_utf8_first)]
noncomputable def startN (os : Os) : World := (World.doorLaid Tryd.prog 400 os).layVars Tryd.prog laidN2
theorem startN_os (os : Os) : (startN os).os = os := (World.layVars_os _ _ _).trans rfl
theorem startN_two (os : Os) (args : Array Value) : laidMet Tryd.prog laidN2 ((startN os).forCall (fun _ _ => 0) ⟨#[], args, []⟩).memory := by
  have e1 : (laidN2.filter fun x => (laidN2.map (·.1)).contains x.1) = laidN2 := by kernel_rfl
  have e2 : (laidN2.filter fun x => !(laidN2.map (·.1)).contains x.1) = [] := by kernel_rfl
  have h : laidMet Tryd.prog laidN2 (startN os) := laidMet_layVars (w0 := World.doorLaid Tryd.prog 400 os) (laidN2.map (·.1)) [] (by rw [e1]; rfl) (by rw [e1]; kernel_rfl) (by rw [e1]; kernel_rfl) (by rw [e2]; exact LaidIn.none)
  exact h.of_heap (by simp [World.memory, World.forCall, Input.heap])
theorem startN_met (os : Os) (args : Array Value) : laidMetH Tryd.prog laidN ((startN os).forCall (fun _ _ => 0) ⟨#[], args, []⟩).memory :=
  laidMetH_of_parts (startN_two os args) (by kernel_rfl)
theorem globE_of_laidN {W : World} (h : laidMetH Tryd.prog laidN W) : GlobE W := by
  have h' : laidMet Tryd.prog laidN2 W ∧ handlesMet Tryd.prog [("errors.errorType", Rows.laid_errors_errorType)] W := h
  exact ⟨cell_of_handle h'.2 (List.mem_singleton.2 rfl)⟩
end Go.Proofs.YtpghgfenafhhbaaDoor
