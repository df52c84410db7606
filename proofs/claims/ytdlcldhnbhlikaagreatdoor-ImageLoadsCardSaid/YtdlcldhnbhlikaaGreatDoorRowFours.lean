/-
  Rows that list errors.errorType alone: what their condition gives a walk; a start that meets it. An argument that is a row of structs of four ints, opened.
-/
import Derived.Test.YtdlcldhnbhlikaaGreatDoorRow
import Derived.Test.YtdlcldhnbhlikaaGreatDoorFourRow
import Derived.Deep.Strs
import Derived.Lib.SmallJoins
namespace Go.Proofs.YtdlcldhnbhlikaaGreatDoor
open Go.ChangeShapes Go.WideShapes Go.ChangeAt Go.WideElems Go.RowKit Go.Deep

def laidE : List (String × DataW Unit) := [("errors.errorType", Rows.laid_errors_errorType)]
theorem door_metE (os : Os) (args : Array Value) : laidMetH Tryz.prog laidE ((World.doorLaid Tryz.prog 400 os).forCall (fun _ _ => 0) ⟨#[], args, []⟩).memory :=
  laidMetH_of_parts3 (fuel := 8) (laidMet_of_run' 8 (by kernel_rfl) (by kernel_rfl)) (by kernel_rfl) (by kernel_rfl)
theorem globE_of_laid {W : World} (h : laidMetH Tryz.prog laidE W) : GlobE W := by
  have h' : laidMet Tryz.prog [] W ∧ handlesMet Tryz.prog [("errors.errorType", Rows.laid_errors_errorType)] W := h
  exact ⟨cell_of_handle h'.2 (List.mem_singleton.2 rfl)⟩
end Go.Proofs.YtdlcldhnbhlikaaGreatDoor
namespace Go.Proofs.YtdlcldhnbhlikaaGreatDoor
open Go.ChangeShapes Go.WideShapes Go.ChangeAt Go.WideElems Go.RowKit Go.Deep

theorem add_fld (ad : Addr) (k j : Nat) (hj : 0 < j) : (⟨(ad.add k).block, (ad.add k).off + j, none⟩ : Addr) = ad.add (k + j) := by
  unfold Addr.add
  rw [if_neg (show ¬ k + j = 0 by omega)]
  split
  · rename_i h; rw [h, Nat.zero_add]
  · simp only [Nat.add_assoc]
section
variable {H : Type} {enc : TypeId × Value → H} {W : World}

set_option maxRecDepth 100000 in
theorem open_fours {ts t : TypeId} {f0 f1 f2 f3 : Field} (hus : Tryz.prog.underlying ts = some (.slice t)) (hut : Tryz.prog.underlying t = some (.struct #[f0, f1, f2, f3])) (hc : Tryz.prog.cellsOf t = 4)
    (t0 : f0.type = 3 ∧ f0.offset = 0) (t1 : f1.type = 3 ∧ f1.offset = 1) (t2 : f2.type = 3 ∧ f2.offset = 2) (t3 : f3.type = 3 ∧ f3.offset = 3)
    {v : Value} {d : DataW H} {p : List MemPlace} {j : Nat} (hv : Value.okWide Tryz.prog W .any j ts v) (h : DataW.Trod enc Tryz.prog W 0 (fun _ => true) true ts v d p) :
    ∃ A n c q, v = .slice A n c ∧ FourP W A n q := by
  obtain ⟨a0, len, cap, rfl⟩ := okWide_slice hus hv
  obtain ⟨fuel, hf⟩ := h
  rcases open_slice hus hf with ⟨hcs, _⟩ | ⟨a, len', cap', m, n, D, Pl, hcs, _, hlc, hcm, hmm, _, hx⟩
  · simp only [Value.cells, List.cons.injEq, and_true] at hcs
    cases hcs
    exact ⟨none, 0, 0, fun _ => ⟨0, 0, 0, 0⟩, rfl, fun k hk => absurd hk (Nat.not_lt_zero k), fun h => absurd h (Nat.lt_irrefl _)⟩
  · simp only [Value.cells, List.cons.injEq, and_true] at hcs
    cases hcs
    simp only [if_true] at hmm
    have each : ∀ i, i < len → ∃ q : Four, FourOk q ∧ W.cell? (a.add (i * 4)) = some (.int .i64 q.what) ∧ W.cell? (a.add (i * 4 + 1)) = some (.int .i64 q.a) ∧ W.cell? (a.add (i * 4 + 2)) = some (.int .i64 q.b) ∧ W.cell? (a.add (i * 4 + 3)) = some (.int .i64 q.c) := by
      intro i hi
      obtain ⟨cs', h1, h2⟩ := hx i (by omega)
      rw [hc] at h1
      obtain ⟨_, hlen, hcell⟩ := World.cells?_some h1
      obtain ⟨y0, y1, y2, y3, n', _, _, g0, g1, g2, g3⟩ := Go.Joins.trod_struct4 hut h2
      rw [t0.1, t0.2] at g0
      rw [t1.1, t1.2] at g1
      rw [t2.1, t2.2] at g2
      rw [t3.1, t3.2] at g3
      match cs', hlen with
      | [v0, v1, v2, v3], _ =>
        simp only [cellsInt] at g0 g1 g2 g3
        obtain ⟨z0, e0, _, w0⟩ := DataW.trod_int Tryz.underlying3 g0
        obtain ⟨z1, e1, _, w1⟩ := DataW.trod_int Tryz.underlying3 g1
        obtain ⟨z2, e2, _, w2⟩ := DataW.trod_int Tryz.underlying3 g2
        obtain ⟨z3, e3, _, w3⟩ := DataW.trod_int Tryz.underlying3 g3
        simp at e0 e1 e2 e3
        subst e0 e1 e2 e3
        have c0 := hcell 0 (by omega)
        have c1 := hcell 1 (by omega)
        have c2 := hcell 2 (by omega)
        have c3 := hcell 3 (by omega)
        rw [add_add] at c0 c1 c2 c3
        exact ⟨⟨z0, z1, z2, z3⟩, ⟨bounds_i64 w0, bounds_i64 w1, bounds_i64 w2, bounds_i64 w3⟩, by simpa using c0, by simpa using c1, by simpa using c2, by simpa using c3⟩
    obtain ⟨q, hq⟩ := choose_lt each
    refine ⟨some a, len, cap, q, rfl, fun k hk => (hq k hk).1, fun hn => ⟨a, rfl, ?_, fun k hk => ?_⟩⟩
    · have := lt_of_cell (hq 0 hn).2.1
      rw [block_of_add] at this
      exact this
    · obtain ⟨_, c0, c1, c2, c3⟩ := hq k hk
      rw [← add_fld a (k * 4) 1 (by omega)] at c1
      rw [← add_fld a (k * 4) 2 (by omega)] at c2
      rw [← add_fld a (k * 4) 3 (by omega)] at c3
      exact ⟨c0, c1, c2, c3⟩
end
end Go.Proofs.YtdlcldhnbhlikaaGreatDoor
