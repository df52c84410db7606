/-
  Both halves of a table, made in two rows at once.
-/
import Derived.Test.YtdlcldhnbhlikaaGreatDoorSizePure
import Derived.Test.YtdlcldhnbhlikaaGreatDoorBddTabM
namespace Go.Proofs.YtdlcldhnbhlikaaGreatDoor
open Go.RowKit

structure HlfI (wz : World) (pl ph sz : Nat) (f : List Bool) (v i : Nat) (wr : World) : Prop where
  fr : Fr (fun k => k = pl ∨ k = ph) wz wr
  ne : pl ≠ ph
  lo : ∃ us, Blk wr pl 4 (boolArr us) ∧ us.length = sz ∧ ∀ j, j < i → us.getD j false = f.getD (offN j v) false
  hi : ∃ us, Blk wr ph 4 (boolArr us) ∧ us.length = sz ∧ ∀ j, j < i → us.getD j false = f.getD (onN j v) false
section
variable {wz wr : World} {pl ph sz v i : Nat} {f : List Bool}
theorem HlfI.drewN (h : HlfI wz pl ph sz f v i wr) (m : Nat) : HlfI wz pl ph sz f v i (wr.drewN m) := by
  obtain ⟨us, h1, h2, h3⟩ := h.lo
  obtain ⟨vs, k1, k2, k3⟩ := h.hi
  exact ⟨h.fr.trans (.of_below (below_drewN (Below.refl wr.heap.size wr) m) (Nat.le_refl _)), h.ne, ⟨us, h1.drewN m, h2, h3⟩, ⟨vs, k1.drewN m, k2, k3⟩⟩
theorem half_put {us : List Bool} {g : Nat → Bool} {i : Nat} (h2 : us.length = sz) (h3 : ∀ j, j < i → us.getD j false = g j) (hi : i < sz) : ∀ j, j < i + 1 → (us.set i (g i)).getD j false = g j := by
  intro j hj
  rw [getD_set]
  by_cases e : i = j
  · subst e
    rw [if_pos ⟨rfl, by omega⟩]
  · rw [if_neg (fun h => e h.1)]
    exact h3 j (by omega)
/-- Low, then high. -/
theorem HlfI.next (h : HlfI wz pl ph sz f v i wr) (hi : i < sz) : HlfI wz pl ph sz f v (i + 1) ((wr.setCell ⟨pl, i, none⟩ (.bool (f.getD (offN i v) false))).setCell ⟨ph, i, none⟩ (.bool (f.getD (onN i v) false))) := by
  obtain ⟨us, h1, h2, h3⟩ := h.lo
  obtain ⟨vs, k1, k2, k3⟩ := h.hi
  have hn := h.ne
  refine ⟨(h.fr.set_ (p := ⟨pl, i, none⟩) (.inl rfl) _).set_ (p := ⟨ph, i, none⟩) (.inr rfl) _, hn, ⟨us.set i _, ?_, by rw [List.length_set]; exact h2, half_put (g := fun j => f.getD (offN j v) false) h2 h3 hi⟩, ⟨vs.set i _, ?_, by rw [List.length_set]; exact k2, half_put (g := fun j => f.getD (onN j v) false) k2 k3 hi⟩⟩
  · rw [← boolArr_set]; exact (h1.set_ i _).far hn _
  · rw [← boolArr_set]; exact (k1.far (fun e => hn e.symm) _).set_ i _
/-- High, then low. -/
theorem HlfI.next2 (h : HlfI wz pl ph sz f v i wr) (hi : i < sz) : HlfI wz pl ph sz f v (i + 1) ((wr.setCell ⟨ph, i, none⟩ (.bool (f.getD (onN i v) false))).setCell ⟨pl, i, none⟩ (.bool (f.getD (offN i v) false))) := by
  obtain ⟨us, h1, h2, h3⟩ := h.lo
  obtain ⟨vs, k1, k2, k3⟩ := h.hi
  have hn := h.ne
  refine ⟨(h.fr.set_ (p := ⟨ph, i, none⟩) (.inr rfl) _).set_ (p := ⟨pl, i, none⟩) (.inl rfl) _, hn, ⟨us.set i _, ?_, by rw [List.length_set]; exact h2, half_put (g := fun j => f.getD (offN j v) false) h2 h3 hi⟩, ⟨vs.set i _, ?_, by rw [List.length_set]; exact k2, half_put (g := fun j => f.getD (onN j v) false) k2 k3 hi⟩⟩
  · rw [← boolArr_set]; exact (h1.far hn _).set_ i _
  · rw [← boolArr_set]; exact (k1.set_ i _).far (fun e => hn e.symm) _
theorem half_all {us : List Bool} {g : Nat → Bool} (h2 : us.length = sz) (h3 : ∀ j, j < sz → us.getD j false = g j) : us = (List.range sz).map g := by
  refine list_same (by rw [h2]; simp) fun j hj => ?_
  rw [h3 j (by omega), List.getD_eq_getElem?_getD, List.getElem?_map, List.getElem?_eq_getElem (by simp; omega)]
  simp
theorem HlfI.done (h : HlfI wz pl ph sz f v sz wr) (hf : f.length = sz) : Blk wr pl 4 (boolArr (lowT f v)) ∧ Blk wr ph 4 (boolArr (highT f v)) := by
  obtain ⟨us, h1, h2, h3⟩ := h.lo
  obtain ⟨vs, k1, k2, k3⟩ := h.hi
  rw [half_all (g := fun j => f.getD (offN j v) false) h2 h3, ← hf] at h1
  rw [half_all (g := fun j => f.getD (onN j v) false) k2 k3, ← hf] at k1
  exact ⟨h1, k1⟩
end
theorem half_start {wr : World} {pl ph sz v : Nat} {f : List Bool} (hn : pl ≠ ph) (h1 : Blk wr pl 4 (boolArr (List.replicate sz false))) (h2 : Blk wr ph 4 (boolArr (List.replicate sz false))) : HlfI wr pl ph sz f v 0 wr :=
  ⟨.of_below (Below.refl wr.heap.size wr) (Nat.le_refl _), hn, ⟨_, h1, List.length_replicate, fun j hj => absurd hj (Nat.not_lt_zero j)⟩, ⟨_, h2, List.length_replicate, fun j hj => absurd hj (Nat.not_lt_zero j)⟩⟩
structure Twos (w0 wr : World) (pl ph sz : Nat) : Prop where
  bel : Below w0.heap.size w0 wr
  l0 : w0.heap.size ≤ pl
  h0 : w0.heap.size ≤ ph
  half : ∀ f v, HlfI wr pl ph sz f v 0 wr
theorem twos1 (w : World) (sz : Nat) : Twos w (((w.alloc (.cells (boolArr (List.replicate sz false)) 4)).alloc (.cells (boolArr (List.replicate sz false)) 4)).drew) w.heap.size (w.heap.size + 1) sz := by
  have h1 := Blk.new w 4 (boolArr (List.replicate sz false))
  have h2 := Blk.new (w.alloc (.cells (boolArr (List.replicate sz false)) 4)) 4 (boolArr (List.replicate sz false))
  have hb := (Below.refl (w.alloc (.cells (boolArr (List.replicate sz false)) 4)).heap.size _).alloc (Nat.le_refl _) (.cells (boolArr (List.replicate sz false)) 4)
  have h3 := h1.below hb h1.lt
  rw [show (w.alloc (.cells (boolArr (List.replicate sz false)) 4)).heap.size = w.heap.size + 1 by simp] at h2
  have hz := (((Below.refl w.heap.size w).alloc (Nat.le_refl _) (.cells (boolArr (List.replicate sz false)) 4)).alloc ((Below.refl w.heap.size w).alloc (Nat.le_refl _) (.cells (boolArr (List.replicate sz false)) 4)).size (.cells (boolArr (List.replicate sz false)) 4))
  exact ⟨⟨hz.os, hz.tape, hz.output, hz.size, hz.block⟩, Nat.le_refl _, by omega, fun f v => half_start (by omega) h3 h2⟩
theorem twos2 (w : World) (sz : Nat) : Twos w (((w.alloc (.cells (boolArr (List.replicate sz false)) 4)).alloc (.cells (boolArr (List.replicate sz false)) 4)).drew) (w.heap.size + 1) w.heap.size sz := by
  have h := twos1 w sz
  refine ⟨h.bel, h.h0, h.l0, fun f v => ?_⟩
  have hh := h.half f v
  obtain ⟨us, h1, h2, _⟩ := hh.lo
  obtain ⟨vs, k1, k2, _⟩ := hh.hi
  exact ⟨.of_below (Below.refl _ _) (Nat.le_refl _), hh.ne.symm, ⟨vs, k1, k2, fun j hj => absurd hj (Nat.not_lt_zero j)⟩, ⟨us, h1, h2, fun j hj => absurd hj (Nat.not_lt_zero j)⟩⟩
theorem lowT_len (t : List Bool) (v : Nat) : (lowT t v).length = t.length := by unfold lowT; simp
theorem highT_len (t : List Bool) (v : Nat) : (highT t v).length = t.length := by unfold highT; simp
theorem ownT_one (w : World) (base sz g : Nat) (hb : base ≤ w.heap.size) : OwnT (w.alloc (.cells #[tabV sz g] 35)) base sz (.slice (some ⟨w.heap.size, 0, none⟩) 1 1) [g] :=
  ⟨rfl, .inr ⟨w.heap.size, 1, #[tabV sz g], rfl, hb, Blk.new w _ _, Nat.le_refl _, by simp [maxLen], rfl, rfl⟩⟩
theorem ownT_nil (w : World) (base sz : Nat) : OwnT w base sz (.slice none 0 0) [] := World.ownsRow_nil _ _ _ _
theorem tabs_nil (w : World) (base sz : Nat) : Tabs w base sz [] [] := ⟨rfl, fun k hk => absurd hk (Nat.not_lt_zero k)⟩
theorem OwnT.len {w : World} {base sz : Nat} {v : Value} {gs : List Nat} (h : OwnT w base sz v gs) : ∃ A c, v = .slice A gs.length c := by
  rcases h.2 with ⟨rfl, h0⟩ | ⟨g, cap, cur, rfl, _⟩
  · exact ⟨none, 0, by rw [h0]⟩
  · exact ⟨_, _, rfl⟩
theorem OwnT.base_le {w : World} {b b' sz : Nat} {v : Value} {gs : List Nat} (h : OwnT w b sz v gs) (hb : b' ≤ b) : OwnT w b' sz v gs := by
  refine ⟨h.1, ?_⟩
  rcases h.2 with h2 | ⟨g, cap, cur, e, hg, r⟩
  · exact .inl h2
  · exact .inr ⟨g, cap, cur, e, Nat.le_trans hb hg, r⟩
end Go.Proofs.YtdlcldhnbhlikaaGreatDoor
