/-
  clause's unit and spread: what follows by clauses, from what is told on.
-/
import Derived.Test.YtkkgdlfjblmbjaaGreatDoorHas
import Derived.Deep.LoopGhost
namespace Go.Proofs.YtkkgdlfjblmbjaaGreatDoor
open Go.RowKit

theorem ret_two {a a' : Int} {b b' : Bool} (h : a = a') (h' : b = b') : Ending.returned (.tuple #[.int .i64 a, .bool b]) = .returned (.tuple #[.int .i64 a', .bool b']) := by rw [h, h']

def litOk (x : Int) : Prop := (1 ≤ x ∧ x ≤ 24) ∨ (-24 ≤ x ∧ x ≤ -1)

theorem unit_three (tr c : List Int) (hc : ∀ x ∈ c, litOk x) : unitF tr c = (0, true) ∨ unitF tr c = (0, false) ∨ ∃ x, x ≠ 0 ∧ unitF tr c = (x, true) ∧ litOk x ∧ x ∉ tr ∧ -x ∉ tr := by
  rcases unit_left tr c 0 [] (.inl ⟨rfl, rfl⟩) (fun x hx => by rcases hc x hx with h | h <;> omega) with ⟨h, _⟩ | ⟨h, _⟩ | ⟨x, hx, h, _⟩
  · exact .inl h
  · exact .inr (.inl h)
  · rcases unitGo_mem tr c 0 x h hx with e | ⟨e, h1, h2⟩
    · exact absurd e hx
    · exact .inr (.inr ⟨x, hx, h, hc x e, h1, h2⟩)

def okRows (ls : List (List Int)) : Prop := ∀ k, k < ls.length → ∀ x ∈ ls.getD k [], litOk x

end Go.Proofs.YtkkgdlfjblmbjaaGreatDoor
