/-
  Rows that list errors.errorType and solspaceref.Fine: what the condition gives a walk; a start that meets it.
-/
import Derived.Test.YtkkgdlfjblmbjaaGreatDoorRow
namespace Go.Proofs.YtkkgdlfjblmbjaaGreatDoor
open Go.ChangeShapes Go.WideShapes Go.ChangeAt Go.WideElems Go.RowKit Go.Deep

theorem gFine : Tryz.prog.globalNamed "solspace/solspaceref.Fine" = some 0 := by kernel_rfl
theorem tFine : (Tryz.prog.globals[0]?).map (·.type) = some 26 := by kernel_rfl
theorem cellsFault : Tryz.prog.cellsOf 26 = 2 := by kernel_rfl
theorem cellsErrno : Tryz.prog.cellsOf 24 = 1 := by kernel_rfl

def laidEF : List (String × DataW Unit) := [("errors.errorType", Rows.laid_errors_errorType), ("solspace/solspaceref.Fine", Rows.laid_solspace_solspaceref_Fine)]

theorem door_metEF (os : Os) (args : Array Value) : laidMetH Tryz.prog laidEF ((World.doorLaid Tryz.prog 400 os).forCall (fun _ _ => 0) ⟨#[], args, []⟩).memory :=
  laidMetH_of_parts3 (fuel := 8) (laidMet_of_run' 8 (by kernel_rfl) (by kernel_rfl)) (by kernel_rfl) (by kernel_rfl)

set_option maxRecDepth 100000 in
theorem glob_of_laid {W : World} (h : laidMetH Tryz.prog laidEF W) : Glob W := by
  have h' : laidMet Tryz.prog [("solspace/solspaceref.Fine", Rows.laid_solspace_solspaceref_Fine)] W ∧ handlesMet Tryz.prog [("errors.errorType", Rows.laid_errors_errorType)] W := h
  have he := cell_of_handle h'.2 (List.mem_singleton.2 rfl)
  obtain ⟨ps, ⟨g0, t0, cs0, f0, p0, q0, hg0, ht0, hv0, hd0, _, _⟩, _, _⟩ := h'.1
  obtain rfl := Option.some.inj (gFine.symm.trans hg0)
  obtain rfl := Option.some.inj (tFine.symm.trans ht0)
  obtain ⟨y0, y1, n, hx, hl, h0, h1⟩ := trod_struct2 Tryz.underlying26 hd0
  rw [cellsFault] at hl
  obtain ⟨l⟩ := cs0
  match l, hl with
  | [c0, c1], _ =>
    rw [cellsErrno] at h0
    rw [cellsInt] at h1
    obtain ⟨a, ea, rfl, _⟩ := DataW.trod_int Tryz.underlying24 h0
    obtain ⟨b, eb, rfl, _⟩ := DataW.trod_int Tryz.underlying3 h1
    simp at ea eb
    subst ea eb
    simp only [Rows.laid_solspace_solspaceref_Fine, Prod.mk.injEq, DataW.agg.injEq, List.cons.injEq, DataW.lit.injEq, Lit.int.injEq] at hx
    obtain ⟨⟨⟨_, rfl⟩, ⟨_, rfl⟩, _⟩, _⟩ := hx
    have c0 := World.var?_cell hg0 hv0 0
    have c1 := World.var?_cell hg0 hv0 1
    exact ⟨by simpa using c0, by simpa using c1, he⟩

/-- Rows that list errors.errorType alone. -/
def laidE : List (String × DataW Unit) := [("errors.errorType", Rows.laid_errors_errorType)]
theorem door_metE (os : Os) (args : Array Value) : laidMetH Tryz.prog laidE ((World.doorLaid Tryz.prog 400 os).forCall (fun _ _ => 0) ⟨#[], args, []⟩).memory :=
  laidMetH_of_parts3 (fuel := 8) (laidMet_of_run' 8 (by kernel_rfl) (by kernel_rfl)) (by kernel_rfl) (by kernel_rfl)
theorem globE_of_laid {W : World} (h : laidMetH Tryz.prog laidE W) : GlobE W := by
  have h' : laidMet Tryz.prog [] W ∧ handlesMet Tryz.prog [("errors.errorType", Rows.laid_errors_errorType)] W := h
  exact ⟨cell_of_handle h'.2 (List.mem_singleton.2 rfl)⟩
end Go.Proofs.YtkkgdlfjblmbjaaGreatDoor
