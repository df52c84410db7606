/-
  The law ClauseFollows, walked.
-/
import Derived.Test.YtkkgdlfjblmbjaaGreatDoorFollows
namespace Go.Proofs.YtkkgdlfjblmbjaaGreatDoor
open Go.RowKit

theorem ints_nil' {n : Nat} (h : ([] : List Int).length = n) (w : World) (B : Nat) (A : Option Addr) : Ints w B A n [] := by
  subst h
  exact ⟨rfl, Nat.zero_le _, by simp, rfl, fun h => absurd h (Nat.lt_irrefl _)⟩
theorem two_cells {w : World} {b : Nat} {u0 u1 : Value} (c0 : w.cell? ⟨b, 0, none⟩ = some u0) (c1 : w.cell? ⟨b, 1, none⟩ = some u1) (x y : Int) :
    ((w.setCell ⟨b, 0, none⟩ (.int .i64 x)).setCell ⟨b, 1, none⟩ (.int .i64 y)).cell? ⟨b, 0, none⟩ = some (.int .i64 x) ∧ ((w.setCell ⟨b, 0, none⟩ (.int .i64 x)).setCell ⟨b, 1, none⟩ (.int .i64 y)).cell? ⟨b, 1, none⟩ = some (.int .i64 y) := by
  have h1 : (w.setCell ⟨b, 0, none⟩ (.int .i64 x)).cell? ⟨b, 1, none⟩ = some u1 := by
    rw [World.cell?_setCell_other _ _ _ _ (by simp)]; exact c1
  refine ⟨?_, World.cell?_setCell_same _ _ _ h1⟩
  rw [World.cell?_setCell_other _ _ _ _ (by simp)]
  exact World.cell?_setCell_same _ _ _ c0
theorem firstBad_zero (vars : Int) : ∀ (ls : List (List Int)) (i : Nat), (firstBad vars ls i).1 = 0 → firstBad vars ls i = (0, -1) := by
  intro ls
  induction ls with
  | nil => intro i _; rfl
  | cons c cs ih =>
    intro i h
    unfold firstBad at h ⊢
    split at h
    · simp at h
    · rename_i h1
      rw [if_neg h1]
      split at h
      · simp at h
      · rename_i h2
        rw [if_neg h2]
        exact ih (i + 1) h
theorem checkF_zero {vars : Int} {ls : List (List Int)} (h : (checkF vars ls).1 = 0) : checkF vars ls = (0, -1) := by
  unfold checkF at h ⊢
  split at h
  · simp at h
  · rename_i h1
    rw [if_neg h1]
    split at h
    · simp at h
    · rename_i h2
      rw [if_neg h2]
      exact firstBad_zero vars ls 0 h

end Go.Proofs.YtkkgdlfjblmbjaaGreatDoor
