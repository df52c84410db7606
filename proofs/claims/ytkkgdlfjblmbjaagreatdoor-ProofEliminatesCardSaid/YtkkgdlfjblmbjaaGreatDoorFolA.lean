/-
  The reference's Follow: the memory; what is told by number.
-/
import Derived.Test.YtkkgdlfjblmbjaaGreatDoorFollowPure
import Derived.Test.YtkkgdlfjblmbjaaGreatDoorResolveA
import Derived.Test.YtkkgdlfjblmbjaaGreatDoorRefCheck
namespace Go.Proofs.YtkkgdlfjblmbjaaGreatDoor
open Go.RowKit

theorem OwnC.at_ {w : World} {base k : Nat} {T : Nat → Prop} {v : Value} {ls : List (List Int)} (h : OwnC w base T v ls) (hk : k < ls.length) : ∃ ad c A' n' c', v = .slice (some ad) ls.length c ∧ ls.length ≤ c ∧ w.cell? (ad.add k) = some (.slice A' n' c') ∧ n' ≤ c' ∧ IntsP w T A' n' (ls.getD k []) := by
  obtain ⟨A, c, rfl, hc⟩ := h.form
  obtain ⟨_, vs, h2, h3⟩ := h
  obtain ⟨A', n', c', e, hcc, hi⟩ := h3.2 k hk
  obtain ⟨ad, e2, _, hcell⟩ := (Reads.of_own h2).2 (by omega)
  exact ⟨ad, c, A', n', c', by rw [e2], hc, hcell k _ e, hcc, hi⟩
theorem OwnC.ne_blk {w : World} {base g : Nat} {T : Nat → Prop} {v : Value} {ls : List (List Int)} {t : TypeId} {cs : Array Value} (h : OwnC w base T v ls) (hg : Blk w g t cs) (hne : 39 ≠ t) : v.ownBlock ≠ some g := by
  obtain ⟨_, vs, h2, _⟩ := h
  exact own_blk_ne h2 hg hne

theorem fld_add (ad : Addr) (k j : Nat) (hj : 0 < j) : (⟨(ad.add k).block, (ad.add k).off + j, none⟩ : Addr) = ad.add (k + j) := by
  unfold Addr.add
  rw [if_neg (show ¬ k + j = 0 by omega)]
  split
  · rename_i h; rw [h, Nat.zero_add]
  · simp only [Nat.add_assoc]

def inB (all : List (List Int)) (i : Int) : Bool := decide (0 ≤ i ∧ i < all.length)
def GetPost (w : World) (all : List (List Int)) (i : Int) (e : Ending) (w' : World) : Prop :=
  ∃ A n c, e = .returned (.tuple #[.slice A n c, .bool (inB all i)]) ∧ (inB all i = true → n ≤ c ∧ Ints w w.heap.size A n (all.getD i.toNat [])) ∧ w = w'
theorem inB_out {all : List (List Int)} {i : Int} (h : ¬ (0 ≤ i ∧ i < all.length)) : inB all i = false := decide_eq_false h
theorem inB_in {all : List (List Int)} {i : Int} (h : 0 ≤ i ∧ i < all.length) : inB all i = true := decide_eq_true h

/-- What Follow holds: the boxes of l, of the fault and of the clauses made. -/
structure FolM (w0 : World) (A : Option Addr) (n c : Nat) (T : Nat → Prop) (vo : Value) (out : List (List Int)) (w : World) : Prop where
  own : OwnC w w0.heap.size T vo out
  bl : Blk w w0.heap.size 22 #[.slice A n c]
  bf : Blk w (w0.heap.size + 1) 26 #[.int .i64 0, .int .i64 0]
  bo : Blk w (w0.heap.size + 2) 22 #[vo]
  TS : ∀ i, T i → i < w.heap.size ∧ vo.ownBlock ≠ some i ∧ i ≠ w0.heap.size + 2 ∧ i ≠ w0.heap.size + 1 ∧ w0.heap.size ≤ i
  bel : Below w0.heap.size w0 w
section
variable {w0 w w' : World} {A : Option Addr} {n c : Nat} {T : Nat → Prop} {vo : Value} {out : List (List Int)}
theorem FolM.lT (h : FolM w0 A n c T vo out w) : ∀ i, T i → i < w.heap.size := fun i hi => (h.TS i hi).1
theorem FolM.below (h : FolM w0 A n c T vo out w) (hb : Below w.heap.size w w') : FolM w0 A n c T vo out w' :=
  ⟨h.own.below hb h.lT, h.bl.below hb h.bl.lt, h.bf.below hb h.bf.lt, h.bo.below hb h.bo.lt, fun i hi => ⟨Nat.lt_of_lt_of_le (h.lT i hi) hb.size, (h.TS i hi).2⟩, h.bel.trans (hb.mono h.bel.size)⟩
theorem FolM.grow (h : FolM w0 A n c T vo out w) (hb : Below w.heap.size w w') : FolM w0 A n c (fun i => T i ∨ (w.heap.size ≤ i ∧ i < w'.heap.size)) vo out w' := by
  have h' := h.below hb
  refine ⟨h'.own.mono fun i hi => .inl hi, h'.bl, h'.bf, h'.bo, fun i hi => ?_, h'.bel⟩
  rcases hi with hi | hi
  · exact h'.TS i hi
  · exact ⟨hi.2, fun e => by have := h.own.lt i e; omega, by have := h.bo.lt; omega, by have := h.bo.lt; omega, by have := h.bo.lt; omega⟩
theorem FolM.put (h : FolM w0 A n c T vo out w) {vo' : Value} {out' : List (List Int)} (ho : OwnC w' w0.heap.size T vo' out') (hg : w.grownBy w' vo.ownBlock) (hor : vo'.ownBlock = vo.ownBlock ∨ vo'.ownBlock = some w.heap.size) :
    FolM w0 A n c T vo' out' (w'.setCell ⟨w0.heap.size + 2, 0, none⟩ vo') := by
  have hbl := h.bl.grown hg (fun e => h.own.ne_blk h.bl (by decide) e.symm)
  have hbf := h.bf.grown hg (fun e => h.own.ne_blk h.bf (by decide) e.symm)
  have hbo := h.bo.grown hg (fun e => h.own.ne_blk h.bo (by decide) e.symm)
  refine ⟨ho.kept (row := some (w0.heap.size + 2)) (only_setCell (World.grownBy.refl w' _) (.inl rfl) vo') (.inr (ho.ne_blk hbo (by decide))) (fun i hi => ⟨Nat.lt_of_lt_of_le (h.lT i hi) hg.size, fun e => (h.TS i hi).2.2.1 (by cases e; rfl)⟩), hbl.far (by simp) _, hbf.far (by simp) _, hbo.set_ 0 vo', fun i hi => ?_, ?_⟩
  · exact ⟨by rw [size_setCell]; exact Nat.lt_of_lt_of_le (h.lT i hi) hg.size, newV h.lT (fun i hi => (h.TS i hi).2.1) hor i hi, (h.TS i hi).2.2⟩
  · exact (h.bel.trans ⟨hg.os, hg.tape, hg.output, hg.size, fun i hi => hg.block i (Nat.lt_of_lt_of_le hi h.bel.size) fun e => by have := (h.own.lt i e.symm).1; omega⟩).setCell (p := ⟨w0.heap.size + 2, 0, none⟩) (by simp) vo'
theorem FolM.done (h : FolM w0 A n c T vo out w) (u0 u1 : Value) : OwnC ((w.setCell ⟨w0.heap.size + 1, 0, none⟩ u0).setCell ⟨w0.heap.size + 1, 1, none⟩ u1) w0.heap.size T vo out ∧ Below w0.heap.size w0 ((w.setCell ⟨w0.heap.size + 1, 0, none⟩ u0).setCell ⟨w0.heap.size + 1, 1, none⟩ u1) := by
  have hne : ∀ i, T i → some i ≠ some (w0.heap.size + 1) := fun i hi e => (h.TS i hi).2.2.2.1 (by cases e; rfl)
  have h1 := h.own.kept (w' := w.setCell ⟨w0.heap.size + 1, 0, none⟩ u0) (row := some (w0.heap.size + 1)) (only_setCell (World.grownBy.refl w _) (.inl rfl) u0) (.inr (h.own.ne_blk h.bf (by decide))) (fun i hi => ⟨h.lT i hi, hne i hi⟩)
  exact ⟨h1.kept (row := some (w0.heap.size + 1)) (only_setCell (World.grownBy.refl _ _) (.inl rfl) u1) (.inr (h1.ne_blk (h.bf.set_ 0 u0) (by decide))) (fun i hi => ⟨by rw [size_setCell]; exact h.lT i hi, hne i hi⟩), (h.bel.setCell (p := ⟨w0.heap.size + 1, 0, none⟩) (by simp) u0).setCell (p := ⟨w0.heap.size + 1, 1, none⟩) (by simp) u1⟩
theorem put2_blk {g : Nat} {t : TypeId} {x0 x1 : Value} (h : Blk w g t #[x0, x1]) (u0 u1 : Value) : Blk ((w.setCell ⟨g, 0, none⟩ u0).setCell ⟨g, 1, none⟩ u1) g t #[u0, u1] := (h.set_ 0 u0).set_ 1 u1
end
end Go.Proofs.YtkkgdlfjblmbjaaGreatDoor
