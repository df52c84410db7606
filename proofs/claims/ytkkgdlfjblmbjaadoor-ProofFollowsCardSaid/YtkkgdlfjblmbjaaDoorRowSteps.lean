/-
  An argument '[]proof.Step', opened.
-/
import Derived.Test.YtkkgdlfjblmbjaaDoorLawFol
import Derived.Test.YtkkgdlfjblmbjaaDoorGlob
import Derived.Deep.Strs
namespace Go.Proofs.YtkkgdlfjblmbjaaDoor
open Go.ChangeShapes Go.WideShapes Go.ChangeAt Go.WideElems Go.RowKit Go.Deep

theorem cellsStep : Tryd.prog.cellsOf 71 = 3 := by kernel_rfl
section
variable {H : Type} {enc : TypeId × Value → H} {W : World}

set_option maxRecDepth 100000 in
theorem open_steps {v : Value} {d : DataW H} {p : List MemPlace} {j : Nat} (hv : Value.okWide Tryd.prog W .any j 68 v) (h : DataW.Trod enc Tryd.prog W 0 (fun _ => true) true 68 v d p) :
    ∃ A n c ts, v = .slice A n c ∧ StpP W (· < W.heap.size) A n ts := by
  obtain ⟨a0, len, cap, rfl⟩ := okWide_slice Tryd.underlying68 hv
  obtain ⟨fuel, hf⟩ := h
  rcases open_slice Tryd.underlying68 hf with ⟨hcs, _⟩ | ⟨a, len', cap', m, n, D, Pl, hcs, _, hlc, hcm, hmm, _, hx⟩
  · simp only [Value.cells, List.cons.injEq, and_true] at hcs
    cases hcs
    exact ⟨none, 0, 0, [], rfl, rfl, Nat.zero_le _, by simp, fun h => absurd h (Nat.lt_irrefl _)⟩
  · simp only [Value.cells, List.cons.injEq, and_true] at hcs
    cases hcs
    simp only [if_true] at hmm
    have each : ∀ i, i < len → ∃ q : Stp3, W.cell? (a.add (i * 3)) = some (.int .i64 q.1) ∧ W.cell? (a.add (i * 3 + 1)) = some (.int .i64 q.2.1) ∧ W.cell? (a.add (i * 3 + 2)) = some (.int .i64 q.2.2) ∧ I64 q.1 ∧ I64 q.2.1 ∧ I64 q.2.2 := by
      intro i hi
      obtain ⟨cs', h1, h2⟩ := hx i (by omega)
      rw [cellsStep] at h1
      obtain ⟨_, hlen, hcell⟩ := World.cells?_some h1
      obtain ⟨y0, y1, y2, n', _, _, g0, g1, g2⟩ := trod_struct3 Tryd.underlying71 h2
      match cs', hlen with
      | [v0, v1, v2], _ =>
        simp only [cellsInt] at g0 g1 g2
        obtain ⟨z0, e0, _, w0⟩ := DataW.trod_int Tryd.underlying3 g0
        obtain ⟨z1, e1, _, w1⟩ := DataW.trod_int Tryd.underlying3 g1
        obtain ⟨z2, e2, _, w2⟩ := DataW.trod_int Tryd.underlying3 g2
        simp at e0 e1 e2
        subst e0 e1 e2
        have c0 := hcell 0 (by omega)
        have c1 := hcell 1 (by omega)
        have c2 := hcell 2 (by omega)
        rw [add_add] at c0 c1 c2
        exact ⟨(z0, z1, z2), by simpa using c0, by simpa using c1, by simpa using c2, bounds_i64 w0, bounds_i64 w1, bounds_i64 w2⟩
    obtain ⟨q, hq⟩ := choose_lt each
    refine ⟨some a, len, cap, (List.range len).map q, rfl, by simp, by omega, fun t ht => ?_, fun hn => ⟨a, rfl, ?_, fun k hk => ?_⟩⟩
    · obtain ⟨k, hk, rfl⟩ := List.mem_map.1 ht
      exact (hq k (List.mem_range.1 hk)).2.2.2
    · have := lt_of_cell (hq 0 hn).1
      rw [block_of_add] at this
      exact this
    · rw [show ((List.range len).map q).getD k (0, 0, 0) = q k by simp [List.getD_eq_getElem?_getD, hk]]
      exact ⟨(hq k hk).1, (hq k hk).2.1, (hq k hk).2.2.1⟩
end
end Go.Proofs.YtkkgdlfjblmbjaaDoor
