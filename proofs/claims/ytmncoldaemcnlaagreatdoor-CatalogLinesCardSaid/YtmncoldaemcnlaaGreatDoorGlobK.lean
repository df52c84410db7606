/-
  Rows that list what reading catalogs leans on: what the condition gives a walk; a start that meets it.
-/
import Derived.Test.YtmncoldaemcnlaaGreatDoorGlobV
import Derived.Test.YtmncoldaemcnlaaGreatDoorRefLine
import Derived.ChangeArms
import Derived.ChangeSlices
namespace Go.Proofs.YtmncoldaemcnlaaGreatDoor
open Go.ChangeShapes Go.WideShapes Go.ChangeAt Go.WideElems Go.RowKit Go.Deep

def laidC : List (String × DataW Unit) := [("math/bits.deBruijn32tab", Rows.laid_math_bits_deBruijn32tab), ("math/bits.deBruijn64tab", Rows.laid_math_bits_deBruijn64tab), ("internal/strconv.uint64pow10", Rows.laid_internal_strconv_uint64pow10), ("unicode/utf8.acceptRanges", Rows.laid_unicode_utf8_acceptRanges), ("errors.errorType", Rows.laid_errors_errorType), ("strconv.ErrRange", Rows.laid_strconv_ErrRange), ("strconv.ErrSyntax", Rows.laid_strconv_ErrSyntax), ("solspace/solspaceref.kinds", Rows.laid_solspace_solspaceref_kinds), ("solspace/solspaceref.Fine", Rows.laid_solspace_solspaceref_Fine), ("unicode/utf8.first", Rows.laid_unicode_utf8_first)]
def laidC2 : List (String × DataW Unit) := [("math/bits.deBruijn32tab", Rows.laid_math_bits_deBruijn32tab), ("math/bits.deBruijn64tab", Rows.laid_math_bits_deBruijn64tab), ("internal/strconv.uint64pow10", Rows.laid_internal_strconv_uint64pow10), ("unicode/utf8.acceptRanges", Rows.laid_unicode_utf8_acceptRanges), ("strconv.ErrRange", Rows.laid_strconv_ErrRange), ("strconv.ErrSyntax", Rows.laid_strconv_ErrSyntax), ("solspace/solspaceref.kinds", Rows.laid_solspace_solspaceref_kinds), ("solspace/solspaceref.Fine", Rows.laid_solspace_solspaceref_Fine), ("unicode/utf8.first", Rows.laid_unicode_utf8_first)]
noncomputable def startC (os : Os) : World := (World.doorLaid Tryz.prog 400 os).layVars Tryz.prog laidC2
theorem startC_two (os : Os) (args : Array Value) : laidMet Tryz.prog laidC2 ((startC os).forCall (fun _ _ => 0) ⟨#[], args, []⟩).memory := by
  have e1 : (laidC2.filter fun x => (laidC2.map (·.1)).contains x.1) = laidC2 := by kernel_rfl
  have e2 : (laidC2.filter fun x => !(laidC2.map (·.1)).contains x.1) = [] := by kernel_rfl
  have h : laidMet Tryz.prog laidC2 (startC os) := laidMet_layVars (w0 := World.doorLaid Tryz.prog 400 os) (laidC2.map (·.1)) [] (by rw [e1]; rfl) (by rw [e1]; kernel_rfl) (by rw [e1]; kernel_rfl) (by rw [e2]; exact LaidIn.none)
  exact h.of_heap (by simp [World.memory, World.forCall, Input.heap])
theorem startC_met (os : Os) (args : Array Value) : laidMetH Tryz.prog laidC ((startC os).forCall (fun _ _ => 0) ⟨#[], args, []⟩).memory :=
  laidMetH_of_parts (startC_two os args) (by kernel_rfl)
theorem gFineC : Tryz.prog.globalNamed "solspace/solspaceref.Fine" = some 1 := by kernel_rfl
theorem tFineC : (Tryz.prog.globals[1]?).map (·.type) = some 30 := by kernel_rfl
theorem cellsFaultC : Tryz.prog.cellsOf 30 = 2 := by kernel_rfl
theorem cellsErrnoC : Tryz.prog.cellsOf 28 = 1 := by kernel_rfl
theorem cellsIntC : Tryz.prog.cellsOf 3 = 1 := by kernel_rfl
set_option maxRecDepth 100000 in
theorem fineC_of_head {r : List (String × DataW Unit)} {W : World} (h : laidMet Tryz.prog (("solspace/solspaceref.Fine", Rows.laid_solspace_solspaceref_Fine) :: r) W) : FineP W := by
  obtain ⟨ps, ⟨g0, t0, cs0, f0, p0, q0, hg0, ht0, hv0, hd0, _, _⟩, _, _⟩ := h
  obtain rfl := Option.some.inj (gFineC.symm.trans hg0)
  obtain rfl := Option.some.inj (tFineC.symm.trans ht0)
  obtain ⟨y0, y1, n, hx, hl, h0, h1⟩ := trod_struct2 Tryz.underlying30 hd0
  rw [cellsFaultC] at hl
  obtain ⟨l⟩ := cs0
  match l, hl with
  | [c0, c1], _ =>
    rw [cellsErrnoC] at h0
    rw [cellsIntC] at h1
    obtain ⟨a, ea, rfl, _⟩ := DataW.trod_int Tryz.underlying28 h0
    obtain ⟨b, eb, rfl, _⟩ := DataW.trod_int Tryz.underlying3 h1
    simp at ea eb
    subst ea eb
    simp only [Rows.laid_solspace_solspaceref_Fine, Prod.mk.injEq, DataW.agg.injEq, List.cons.injEq, DataW.lit.injEq, Lit.int.injEq] at hx
    obtain ⟨⟨⟨_, rfl⟩, ⟨_, rfl⟩, _⟩, _⟩ := hx
    have c0 := World.var?_cell hg0 hv0 0
    have c1 := World.var?_cell hg0 hv0 1
    exact ⟨by simpa using c0, by simpa using c1⟩
theorem gKindsC : Tryz.prog.globalNamed "solspace/solspaceref.kinds" = some 0 := by kernel_rfl
theorem tKindsC : (Tryz.prog.globals[0]?).map (·.type) = some 108 := by kernel_rfl
theorem cellsStrC : Tryz.prog.cellsOf 9 = 1 := by kernel_rfl
set_option maxRecDepth 100000 in
theorem kinds_of_head {r : List (String × DataW Unit)} {W : World} (h : laidMet Tryz.prog (("solspace/solspaceref.kinds", Rows.laid_solspace_solspaceref_kinds) :: r) W) : KindsP W := by
  obtain ⟨ps, ⟨g0, t0, cs0, f0, p0, q0, hg0, ht0, hv0, hd0, _, _⟩, _, _⟩ := h
  obtain rfl := Option.some.inj (gKindsC.symm.trans hg0)
  obtain rfl := Option.some.inj (tKindsC.symm.trans ht0)
  obtain ⟨l0⟩ := cs0
  rcases DataW.trod_slice Tryz.underlying108 hd0 with ⟨_, hx⟩ | ⟨a, len, cap, elems, rest, n, _, hcs, hx, _, hlc, _, hel, hcell, _, _⟩
  · have h9 := congrArg Prod.fst hx
    simp only [Rows.laid_solspace_solspaceref_kinds] at h9
    cases h9
  · have h9 : DataW.slice [DataW.lit (.string []), .lit (.string [112, 97, 99, 107, 97, 103, 101]), .lit (.string [110, 101, 101, 100, 115]), .lit (.string [99, 108, 97, 115, 104, 101, 115]), .lit (.string [114, 111, 111, 116])] [] = DataW.slice (elems.map (·.1)) (rest.map (·.1)) := congrArg Prod.fst hx
    injection h9 with h8 _
    have h5 : len = 5 := by rw [← hel]; have := congrArg List.length h8; simp at this; omega
    subst h5
    have c0 := World.var?_cell hg0 hv0 0
    obtain rfl : l0 = [.slice (some a) 5 cap] := by simpa using hcs
    have each : ∀ k, k < 5 → W.cell? (a.add k) = some (.string (kindB.getD k ByteArray.empty)) := by
      intro k hk
      have hk' : k < elems.length := by omega
      have h1 := hcell k hk
      rw [cellsStrC, Nat.mul_one, List.getElem?_eq_getElem hk'] at h1
      cases hc : W.cells? 0 (a.add k) 1 with
      | none => rw [hc] at h1; cases h1
      | some cs =>
        rw [hc] at h1
        obtain ⟨s, rfl, hd, _⟩ := DataW.trod_string Tryz.underlying9 h1
        have h2 := cell_of_cells?_one hc
        rw [h2]
        have h3 : (elems[k]).1 = .lit (.string s.data.toList) := by rw [hd]
        have h4 : (elems.map (·.1))[k]? = some (.lit (.string s.data.toList)) := by rw [List.getElem?_map, List.getElem?_eq_getElem hk', Option.map_some, h3]
        rw [← h8] at h4
        rcases (show k = 0 ∨ k = 1 ∨ k = 2 ∨ k = 3 ∨ k = 4 by omega) with rfl | rfl | rfl | rfl | rfl <;>
        · simp only [List.getElem?_cons_zero, List.getElem?_cons_succ, Option.some.injEq, DataW.lit.injEq, Lit.string.injEq] at h4
          exact congrArg (fun z => some (Value.string z)) (bytes_back _ s h4).symm
    obtain ⟨b, off, spot⟩ := a
    have hsp : spot = none := by
      have h1 := each 0 (by omega)
      unfold Addr.add at h1
      rw [if_pos rfl] at h1
      cases spot with
      | none => rfl
      | some sp =>
        unfold World.cell? at h1
        split at h1 <;> simp at h1
    subst hsp
    refine ⟨b, off, cap, by simpa using c0, fun k hk => ?_⟩
    have := each k hk
    rwa [Addr.add_lit] at this
theorem globV_of_laidC {W : World} (h : laidMetH Tryz.prog laidC W) (hs : W.ShapedOpen Tryz.prog) : GlobV W ∧ FineP W ∧ KindsP W := by
  have h' : laidMet Tryz.prog laidC2 W ∧ handlesMet Tryz.prog [("errors.errorType", Rows.laid_errors_errorType)] W := h
  have h3 := laidMet.tail (laidMet.tail h'.1)
  have h5 := laidMet.tail (laidMet.tail h3)
  exact ⟨⟨⟨cell_of_handle h'.2 (List.mem_singleton.2 rfl)⟩, globT_of_head h3, shape_max hs, cell_of_sentinel (laidMet.tail h5) gSynV tSynV, cell_of_sentinel h5 gRngV tRngV⟩, fineC_of_head (laidMet.tail (laidMet.tail (laidMet.tail h5))), kinds_of_head (laidMet.tail (laidMet.tail h5))⟩
end Go.Proofs.YtmncoldaemcnlaaGreatDoor
