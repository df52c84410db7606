/-
  A row of clauses that the call itself made; what it leads to grows: 'ProF'.
-/
import Derived.Test.YtkkgdlfjblmbjaaGreatDoorFolA
namespace Go.Proofs.YtkkgdlfjblmbjaaGreatDoor
open Go.RowKit

/-- A row of clauses of the call's own, what it leads to in T. -/
structure ProF (w0 : World) (T : Nat → Prop) (va : Value) (all : List (List Int)) (w : World) : Prop where
  own : OwnC w w0.heap.size T va all
  TS : ∀ i, T i → i < w.heap.size ∧ va.ownBlock ≠ some i
  bel : Below w0.heap.size w0 w
section
variable {w0 w w' : World} {T : Nat → Prop} {va : Value} {all : List (List Int)}
theorem ProF.lT (h : ProF w0 T va all w) : ∀ i, T i → i < w.heap.size := fun i hi => (h.TS i hi).1
theorem ProF.below (h : ProF w0 T va all w) (hb : Below w.heap.size w w') : ProF w0 T va all w' :=
  ⟨h.own.below hb h.lT, fun i hi => ⟨Nat.lt_of_lt_of_le (h.lT i hi) hb.size, (h.TS i hi).2⟩, h.bel.trans (hb.mono h.bel.size)⟩
theorem ProF.grow (h : ProF w0 T va all w) (hb : Below w.heap.size w w') : ProF w0 (fun i => T i ∨ (w.heap.size ≤ i ∧ i < w'.heap.size)) va all w' := by
  have h' := h.below hb
  refine ⟨h'.own.mono fun i hi => .inl hi, fun i hi => ?_, h'.bel⟩
  rcases hi with hi | hi
  · exact h'.TS i hi
  · exact ⟨hi.2, fun e => by have := h.own.lt i e; omega⟩
theorem ProF.put (h : ProF w0 T va all w) {va' : Value} {all' : List (List Int)} (ho : OwnC w' w0.heap.size T va' all') (hg : w.grownBy w' va.ownBlock) (hor : va'.ownBlock = va.ownBlock ∨ va'.ownBlock = some w.heap.size) : ProF w0 T va' all' w' :=
  ⟨ho, fun i hi => ⟨Nat.lt_of_lt_of_le (h.lT i hi) hg.size, newV h.lT (fun i hi => (h.TS i hi).2) hor i hi⟩,
    h.bel.trans ⟨hg.os, hg.tape, hg.output, hg.size, fun i hi => hg.block i (Nat.lt_of_lt_of_le hi h.bel.size) fun e => by have := (h.own.lt i e.symm).1; omega⟩⟩
theorem OwnC.form' {base : Nat} (h : OwnC w base T va all) : (va = .slice none 0 0 ∧ all = []) ∨ ∃ g c, va = .slice (some ⟨g, 0, none⟩) all.length c ∧ all.length ≤ c := by
  obtain ⟨_, vs, h, _⟩ := h
  rcases h.2 with ⟨rfl, h0⟩ | ⟨g, cap, cur, rfl, _, _, hc, _⟩
  · exact .inl ⟨rfl, List.eq_nil_of_length_eq_zero h0⟩
  · exact .inr ⟨g, _, rfl, hc⟩
theorem base_add (g k : Nat) : (⟨g, 0, none⟩ : Addr).add k = ⟨g, k, none⟩ := by
  unfold Addr.add
  split
  · rename_i h; rw [h]
  · simp
theorem OwnC.cellAt {base g k n c : Nat} (h : OwnC w base T (.slice (some ⟨g, 0, none⟩) n c) all) (hk : k < all.length) : ∃ A' n' c', w.cell? ⟨g, k, none⟩ = some (.slice A' n' c') ∧ n' ≤ c' ∧ IntsP w T A' n' (all.getD k []) := by
  obtain ⟨ad, c, A', n', c', e, _, h1, h2, h3⟩ := h.at_ hk
  cases e
  exact ⟨A', n', c', by rw [← base_add]; exact h1, h2, h3⟩
theorem OwnC.atN {base k n c : Nat} {A : Option Addr} (h : OwnC w base T (.slice A n c) all) (hk : k < all.length) : ∃ ad A' n' c', A = some ad ∧ w.cell? (ad.add k) = some (.slice A' n' c') ∧ n' ≤ c' ∧ IntsP w T A' n' (all.getD k []) := by
  obtain ⟨ad, c2, A', n', c', e, _, h1, h2, h3⟩ := h.at_ hk
  exact ⟨ad, A', n', c', by injection e, h1, h2, h3⟩
theorem ownC_made (w : World) (base cap : Nat) (cur : Array Value) (hb : base ≤ w.heap.size) (hm : cap ≤ maxLen) (hs : cur.size = cap * 1) (S : Nat → Prop) : OwnC (w.alloc (.cells cur 39)) base S (.slice (some ⟨w.heap.size, 0, none⟩) 0 cap) [] :=
  ⟨Nat.zero_le _, [], World.ownsRow_made (e := 39) (size := 1) w cur cap hb hm hs, .nil _ _⟩
theorem keep6 {a1 a2 a3 a4 a5 : Addr} {v1 v2 v3 v4 v5 : Value} (h : w.cell? a1 = some v1 ∧ w.cell? a2 = some v2 ∧ w.cell? a3 = some v3 ∧ w.cell? a4 = some v4 ∧ w.cell? a5 = some v5 ∧ Below w0.heap.size w0 w) (hb : Below w.heap.size w w') :
    w'.cell? a1 = some v1 ∧ w'.cell? a2 = some v2 ∧ w'.cell? a3 = some v3 ∧ w'.cell? a4 = some v4 ∧ w'.cell? a5 = some v5 ∧ Below w0.heap.size w0 w' :=
  ⟨(hb.cell (lt_of_cell h.1)).trans h.1, (hb.cell (lt_of_cell h.2.1)).trans h.2.1, (hb.cell (lt_of_cell h.2.2.1)).trans h.2.2.1, (hb.cell (lt_of_cell h.2.2.2.1)).trans h.2.2.2.1, (hb.cell (lt_of_cell h.2.2.2.2.1)).trans h.2.2.2.2.1, h.2.2.2.2.2.trans (hb.mono h.2.2.2.2.2.size)⟩
end
end Go.Proofs.YtkkgdlfjblmbjaaGreatDoor
