/-
  count's Mul. Numbers in boxes of the call's own.
-/
import Derived.Test.YtdlcldhnbhlikaaDoorNatC
namespace Go.Proofs.YtdlcldhnbhlikaaDoor
open Go.RowKit

theorem gr_bel {B g : Nat} {x y : World} (h : x.grownBy y (some g)) (h1 : B ≤ g) (h2 : B ≤ x.heap.size) : Below B x y :=
  ⟨h.os, h.tape, h.output, h.size, fun i hi => h.block i (Nat.lt_of_lt_of_le hi h2) (fun e => by cases e; omega)⟩
theorem gr_set {x y : World} {g : Nat} (h : x.grownBy y (some g)) (i : Nat) (u : Value) : x.grownBy (y.setCell ⟨g, i, none⟩ u) (some g) := only_setCell h (.inl rfl) u
theorem valL_ge {xs : List Nat} {n : Nat} (hl : xs.length = n + 1) (ht : TrimL xs) : 4294967296 ^ n ≤ valL xs := by
  have h1 := valL_succ (l := xs) (k := n) (by omega)
  rw [List.take_of_length_le (by omega)] at h1
  rcases ht with e | ht
  · rw [e] at hl; simp at hl
  · rw [hl, Nat.add_sub_cancel] at ht
    have := Nat.le_mul_of_pos_left (4294967296 ^ n) (show 0 < xs.getD n 0 by omega)
    omega
theorem NatV.len {w : World} {v : Value} {N k : Nat} (h : NatV w v N) (hN : N < 4294967296 ^ k) : ∃ A n c xs, v = .agg #[.slice A n c] ∧ n ≤ c ∧ Lim w w.heap.size A n xs ∧ TrimL xs ∧ valL xs = N ∧ n ≤ k := by
  obtain ⟨A, n, c, xs, e, hc, hl, ht, hv⟩ := h.is
  refine ⟨A, n, c, xs, e, hc, hl, ht, hv, ?_⟩
  rcases Nat.lt_or_ge k n with hk | hk
  · have h1 := valL_ge (n := n - 1) (by have := hl.1; omega) ht
    have h2 : 4294967296 ^ k ≤ 4294967296 ^ (n - 1) := Nat.pow_le_pow_right (by omega) (by omega)
    omega
  · exact hk
theorem limbArr_setAt {l : List Nat} {p v : Nat} : (limbArr l).setIfInBounds p (.int .u32 (v : Int)) = limbArr (l.set p v) := by
  apply Array.toList_inj.1
  simp [limbArr, List.map_set]
theorem getD_lt {l : List Nat} (h : ∀ y ∈ l, y < 4294967296) (p : Nat) : l.getD p 0 < 4294967296 := by
  rcases Nat.lt_or_ge p l.length with hp | hp
  · rw [List.getD_eq_getElem?_getD, List.getElem?_eq_getElem hp]; exact h _ (List.getElem_mem _)
  · rw [List.getD_eq_getElem?_getD, List.getElem?_eq_none hp]; simp
/-- A row of limbs in block g, all else as it was. -/
structure NmI (w4 : World) (g : Nat) (P : List Nat → Prop) (wr : World) : Prop where
  gr : w4.grownBy wr (some g)
  mem : ∃ out, Blk wr g 100 (limbArr out) ∧ P out
theorem run_mk (w : World) (n : Nat) (hn : n ≤ 1000000) (l : Int) (hl : l = n) : (Instr.makeSlice 33 (.int .i64 l) (.int .i64 l)).run Tryd.prog w = .ok (.slice (some ⟨w.heap.size, 0, none⟩) n n) (w.alloc (.cells (limbArr (List.replicate n 0)) 100)) := by
  subst hl
  obtain ⟨i0, hi, hz0, hz1, hz2⟩ := info_parts limbInfo
  have hmk := run_make (P := Tryd.prog) w 33 100 i0 (.int .u32 0) Tryd.underlying33 hi hz0 .i64 .i64 (n : Int) (n : Int) (by omega) (Int.le_refl _) (by rw [hz2]; omega) (by omega)
  rw [hz1, Nat.mul_one, Int.toNat_natCast, show (Value.int .u32 0).cells = #[Value.int .u32 0] from rfl, limbArr_zero] at hmk
  exact hmk

end Go.Proofs.YtdlcldhnbhlikaaDoor
namespace Go.Proofs.YtdlcldhnbhlikaaDoor
open Go.RowKit

theorem chain3 {w w1 w2 w3 : World} (h1 : Below w.heap.size w w1) (h2 : Below w1.heap.size w1 w2) (h3 : Below w2.heap.size w2 w3) : Below w.heap.size w w3 :=
  (h1.trans (h2.mono h1.size)).trans (h3.mono (Nat.le_trans h1.size h2.size))
theorem chain3' {w w1 w2 w3 : World} (h1 : Below w.drew.heap.size w.drew w1) (h2 : Below w1.heap.size w1 w2) (h3 : Below w2.heap.size w2 w3) : Below w.heap.size w w3 :=
  chain3 ((Below.refl _ w).drew.trans h1) h2 h3
theorem NatV.form {w : World} {v : Value} {N : Nat} (h : NatV w v N) : ∃ A n c, v = .agg #[.slice A n c] := by
  obtain ⟨A, n, c, _, e, _⟩ := h.is
  exact ⟨A, n, c, e⟩

theorem natV_set {w : World} {g N : Nat} {v u u0 : Value} (h : NatV w v N) (hs : w.cell? ⟨g, 0, none⟩ = some u0) (hu : ∀ i, u0 ≠ .int .u32 i) : NatV (w.setCell ⟨g, 0, none⟩ u) v N := by
  obtain ⟨A, n, c, xs, e, hc, hl, ht, hv⟩ := h.is
  refine ⟨A, n, c, xs, e, hc, ?_, ht, hv⟩
  rw [sizeSet]
  refine ⟨hl.1, hl.2.1, hl.2.2.1, hl.2.2.2.1, fun h0 => ?_⟩
  obtain ⟨ad, e3, hb, hcl⟩ := hl.2.2.2.2 h0
  refine ⟨ad, e3, hb, fun j x hx => ?_⟩
  have h1 := hcl j x hx
  refine (World.cell?_setCell_other _ _ _ _ (fun e4 => ?_)).trans h1
  rw [← e4, hs] at h1
  injection h1 with h1
  rw [List.getElem?_map] at hx
  cases hq : xs[j]? with
  | none => rw [hq] at hx; cases hx
  | some q =>
    rw [hq] at hx
    simp at hx
    exact hu _ (h1.trans hx.symm)
/-- A box that holds the number N. -/
structure BoxN (w : World) (g N : Nat) : Prop where
  is : ∃ A n c, Blk w g 35 #[.slice A n c] ∧ NatV w (.agg #[.slice A n c]) N
theorem BoxN.below {w w' : World} {g N : Nat} (h : BoxN w g N) (hb : Below w.heap.size w w') : BoxN w' g N := by
  obtain ⟨A, n, c, h1, h2⟩ := h.is
  exact ⟨A, n, c, h1.below hb h1.lt, h2.below hb⟩
theorem BoxN.put {w : World} {g N M : Nat} {A : Option Addr} {n c : Nat} (h : BoxN w g N) (hv : NatV w (.agg #[.slice A n c]) M) : BoxN (w.setCell ⟨g, 0, none⟩ (.slice A n c)) g M := by
  obtain ⟨A0, n0, c0, h1, h2⟩ := h.is
  exact ⟨A, n, c, h1.set_ 0 _, natV_set hv (h1.cell 0) (fun i e => by cases e)⟩
theorem BoxN.other {w : World} {g g' N M : Nat} {u : Value} (h : BoxN w g N) (h' : BoxN w g' M) (hne : g ≠ g') : BoxN (w.setCell ⟨g', 0, none⟩ u) g N := by
  obtain ⟨A0, n0, c0, h1, h2⟩ := h.is
  obtain ⟨A1, n1, c1, h3, h4⟩ := h'.is
  exact ⟨A0, n0, c0, h1.far hne _, natV_set h2 (h3.cell 0) (fun i e => by cases e)⟩
end Go.Proofs.YtdlcldhnbhlikaaDoor
