/-
  Rows that list what reading ranges leans on: what the condition gives a walk; a start that meets it.
-/
import Derived.Test.YtbmmkhehejoidaaGreatDoorGlobV
import Derived.Test.YtbmmkhehejoidaaGreatDoorLawRg
namespace Go.Proofs.YtbmmkhehejoidaaGreatDoor
open Go.ChangeShapes Go.WideShapes Go.ChangeAt Go.WideElems Go.RowKit Go.Deep

def laidR : List (String × DataW Unit) := [("math/bits.deBruijn32tab", Rows.laid_math_bits_deBruijn32tab), ("math/bits.deBruijn64tab", Rows.laid_math_bits_deBruijn64tab), ("internal/strconv.uint64pow10", Rows.laid_internal_strconv_uint64pow10), ("unicode/utf8.acceptRanges", Rows.laid_unicode_utf8_acceptRanges), ("errors.errorType", Rows.laid_errors_errorType), ("strconv.ErrRange", Rows.laid_strconv_ErrRange), ("strconv.ErrSyntax", Rows.laid_strconv_ErrSyntax), ("solspace/solspaceref.Fine", Rows.laid_solspace_solspaceref_Fine), ("unicode/utf8.first", Rows.laid_unicode_utf8_first)]
def laidR2 : List (String × DataW Unit) := [("math/bits.deBruijn32tab", Rows.laid_math_bits_deBruijn32tab), ("math/bits.deBruijn64tab", Rows.laid_math_bits_deBruijn64tab), ("internal/strconv.uint64pow10", Rows.laid_internal_strconv_uint64pow10), ("unicode/utf8.acceptRanges", Rows.laid_unicode_utf8_acceptRanges), ("strconv.ErrRange", Rows.laid_strconv_ErrRange), ("strconv.ErrSyntax", Rows.laid_strconv_ErrSyntax), ("solspace/solspaceref.Fine", Rows.laid_solspace_solspaceref_Fine), ("unicode/utf8.first", Rows.laid_unicode_utf8_first)]
noncomputable def startR (os : Os) : World := (World.doorLaid Tryz.prog 400 os).layVars Tryz.prog laidR2
theorem startR_two (os : Os) (args : Array Value) : laidMet Tryz.prog laidR2 ((startR os).forCall (fun _ _ => 0) ⟨#[], args, []⟩).memory := by
  have e1 : (laidR2.filter fun x => (laidR2.map (·.1)).contains x.1) = laidR2 := by kernel_rfl
  have e2 : (laidR2.filter fun x => !(laidR2.map (·.1)).contains x.1) = [] := by kernel_rfl
  have h : laidMet Tryz.prog laidR2 (startR os) := laidMet_layVars (w0 := World.doorLaid Tryz.prog 400 os) (laidR2.map (·.1)) [] (by rw [e1]; rfl) (by rw [e1]; kernel_rfl) (by rw [e1]; kernel_rfl) (by rw [e2]; exact LaidIn.none)
  exact h.of_heap (by simp [World.memory, World.forCall, Input.heap])
theorem startR_met (os : Os) (args : Array Value) : laidMetH Tryz.prog laidR ((startR os).forCall (fun _ _ => 0) ⟨#[], args, []⟩).memory :=
  laidMetH_of_parts (startR_two os args) (by kernel_rfl)
theorem gFineR : Tryz.prog.globalNamed "solspace/solspaceref.Fine" = some 0 := by kernel_rfl
theorem tFineR : (Tryz.prog.globals[0]?).map (·.type) = some 26 := by kernel_rfl
theorem cellsFaultR : Tryz.prog.cellsOf 26 = 2 := by kernel_rfl
theorem cellsErrnoR : Tryz.prog.cellsOf 24 = 1 := by kernel_rfl
theorem cellsIntR : Tryz.prog.cellsOf 3 = 1 := by kernel_rfl
set_option maxRecDepth 100000 in
theorem fine_of_head {r : List (String × DataW Unit)} {W : World} (h : laidMet Tryz.prog (("solspace/solspaceref.Fine", Rows.laid_solspace_solspaceref_Fine) :: r) W) : FineP W := by
  obtain ⟨ps, ⟨g0, t0, cs0, f0, p0, q0, hg0, ht0, hv0, hd0, _, _⟩, _, _⟩ := h
  obtain rfl := Option.some.inj (gFineR.symm.trans hg0)
  obtain rfl := Option.some.inj (tFineR.symm.trans ht0)
  obtain ⟨y0, y1, n, hx, hl, h0, h1⟩ := trod_struct2 Tryz.underlying26 hd0
  rw [cellsFaultR] at hl
  obtain ⟨l⟩ := cs0
  match l, hl with
  | [c0, c1], _ =>
    rw [cellsErrnoR] at h0
    rw [cellsIntR] at h1
    obtain ⟨a, ea, rfl, _⟩ := DataW.trod_int Tryz.underlying24 h0
    obtain ⟨b, eb, rfl, _⟩ := DataW.trod_int Tryz.underlying3 h1
    simp at ea eb
    subst ea eb
    simp only [Rows.laid_solspace_solspaceref_Fine, Prod.mk.injEq, DataW.agg.injEq, List.cons.injEq, DataW.lit.injEq, Lit.int.injEq] at hx
    obtain ⟨⟨⟨_, rfl⟩, ⟨_, rfl⟩, _⟩, _⟩ := hx
    have c0 := World.var?_cell hg0 hv0 0
    have c1 := World.var?_cell hg0 hv0 1
    exact ⟨by simpa using c0, by simpa using c1⟩
theorem globV_of_laidR {W : World} (h : laidMetH Tryz.prog laidR W) (hs : W.ShapedOpen Tryz.prog) : GlobV W ∧ FineP W := by
  have h' : laidMet Tryz.prog laidR2 W ∧ handlesMet Tryz.prog [("errors.errorType", Rows.laid_errors_errorType)] W := h
  have h3 := laidMet.tail (laidMet.tail h'.1)
  have h5 := laidMet.tail (laidMet.tail h3)
  exact ⟨⟨⟨cell_of_handle h'.2 (List.mem_singleton.2 rfl)⟩, globT_of_head h3, shape_max hs, cell_of_sentinel (laidMet.tail h5) gSynV tSynV, cell_of_sentinel h5 gRngV tRngV⟩, fine_of_head (laidMet.tail (laidMet.tail h5))⟩
end Go.Proofs.YtbmmkhehejoidaaGreatDoor
