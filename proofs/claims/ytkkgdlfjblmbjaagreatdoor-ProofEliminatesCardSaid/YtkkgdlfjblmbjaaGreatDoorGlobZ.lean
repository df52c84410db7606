/-
  The row of ProofEliminates: what its condition gives a walk; a start that meets it.
-/
import Derived.Test.YtkkgdlfjblmbjaaGreatDoorGlob
import Derived.Test.YtkkgdlfjblmbjaaGreatDoorLawElim
import Derived.Lib.LaidTab
namespace Go.Proofs.YtkkgdlfjblmbjaaGreatDoor
open Go.ChangeShapes Go.WideShapes Go.ChangeAt Go.WideElems Go.RowKit Go.Deep

def laidTEF : List (String × DataW Unit) := [("math/bits.deBruijn32tab", Rows.laid_math_bits_deBruijn32tab), ("math/bits.deBruijn64tab", Rows.laid_math_bits_deBruijn64tab), ("internal/strconv.uint64pow10", Rows.laid_internal_strconv_uint64pow10), ("errors.errorType", Rows.laid_errors_errorType), ("solspace/solspaceref.Fine", Rows.laid_solspace_solspaceref_Fine)]
theorem door_metTEF (os : Os) (args : Array Value) : laidMetH Tryz.prog laidTEF ((World.doorLaid Tryz.prog 400 os).forCall (fun _ _ => 0) ⟨#[], args, []⟩).memory :=
  laidMetH_of_parts3 (fuel := 8) (laidMet_of_run' 8 (by kernel_rfl) (by kernel_rfl)) (by kernel_rfl) (by kernel_rfl)
theorem tPow : (Tryz.prog.globals[2]?).map (·.type) = some 145 := by kernel_rfl
theorem dPow : (Rows.laid_internal_strconv_uint64pow10 : DataW Unit) = Lib.tabData .u64 Lib.pow10Tab := by kernel_rfl
theorem cellsU64 : Tryz.prog.cellsOf 92 = 1 := by kernel_rfl
theorem cellsPow : Tryz.prog.cellsOf 145 = 20 := by kernel_rfl

set_option maxRecDepth 100000 in
theorem globT_of_laid {W : World} (h : laidMetH Tryz.prog laidTEF W) : Glob W ∧ GlobT W := by
  have h' : laidMet Tryz.prog [("math/bits.deBruijn32tab", Rows.laid_math_bits_deBruijn32tab), ("math/bits.deBruijn64tab", Rows.laid_math_bits_deBruijn64tab), ("internal/strconv.uint64pow10", Rows.laid_internal_strconv_uint64pow10), ("solspace/solspaceref.Fine", Rows.laid_solspace_solspaceref_Fine)] W ∧ handlesMet Tryz.prog [("errors.errorType", Rows.laid_errors_errorType)] W := h
  have he := cell_of_handle h'.2 (List.mem_singleton.2 rfl)
  obtain ⟨ps, ⟨_, _, _, _, _, _, _, _, _, _, ⟨_, _, _, _, _, _, _, _, _, _, ⟨g2, t2, cs2, f2, p2, q2, hg2, ht2, hv2, hd2, ⟨g0, t0, cs0, f0, p0, q0, hg0, ht0, hv0, hd0, _, _⟩, _⟩, _⟩, _⟩, _, _⟩ := h'.1
  refine ⟨?_, ?_⟩
  · obtain rfl := Option.some.inj (gFine.symm.trans hg0)
    obtain rfl := Option.some.inj (tFine.symm.trans ht0)
    obtain ⟨y0, y1, n, hx, hl, h0, h1⟩ := trod_struct2 Tryz.underlying26 hd0
    rw [cellsFault] at hl
    obtain ⟨l⟩ := cs0
    match l, hl with
    | [c0, c1], _ =>
      rw [cellsErrno] at h0
      rw [cellsInt] at h1
      obtain ⟨a, ea, rfl, _⟩ := DataW.trod_int Tryz.underlying24 h0
      obtain ⟨b, eb, rfl, _⟩ := DataW.trod_int Tryz.underlying3 h1
      simp at ea eb
      subst ea eb
      simp only [Rows.laid_solspace_solspaceref_Fine, Prod.mk.injEq, DataW.agg.injEq, List.cons.injEq, DataW.lit.injEq, Lit.int.injEq] at hx
      obtain ⟨⟨⟨_, rfl⟩, ⟨_, rfl⟩, _⟩, _⟩ := hx
      have c0 := World.var?_cell hg0 hv0 0
      have c1 := World.var?_cell hg0 hv0 1
      exact ⟨by simpa using c0, by simpa using c1, he⟩
  · obtain rfl := Option.some.inj (gPow.symm.trans hg2)
    obtain rfl := Option.some.inj (tPow.symm.trans ht2)
    rw [dPow] at hd2
    refine ⟨?_⟩
    unfold Lib.TabIs
    rw [hv2, ← Lib.cells_of_tab Tryz.underlying145 Tryz.underlying92 cellsU64 cellsPow hd2]
end Go.Proofs.YtkkgdlfjblmbjaaGreatDoor
