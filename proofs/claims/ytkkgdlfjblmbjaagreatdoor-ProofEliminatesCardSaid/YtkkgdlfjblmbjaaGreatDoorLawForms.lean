/-
  The law ProofForms, walked.
-/
import Derived.Test.YtkkgdlfjblmbjaaGreatDoorResolveB
import Derived.Test.YtkkgdlfjblmbjaaGreatDoorLawFollows
namespace Go.Proofs.YtkkgdlfjblmbjaaGreatDoor
open Go.RowKit

theorem proResolve_any (v : Int) (A B : Option Addr) (n c n2 c2 : Nat) (a b : List Int) (w : World) (h : Ints w w.heap.size A n a) (h2 : Ints w w.heap.size B n2 b) (ha : ∀ x ∈ a, litOk x) (hb : ∀ x ∈ b, litOk x) (hn : n ≤ 1000) (hn2 : n2 ≤ 1000) :
    Calls Tryz.prog 22 #[.slice A n c, .slice B n2 c2, .int .i64 v] w (ProResPost w (resF a b v)) := by
  by_cases hv : v < 0 ∨ 24 ≤ v ∨ v + 1 ∉ a ∨ -v - 1 ∉ b
  · rw [resF_bad hv]
    exact proResolve_bad v A B n c n2 c2 a b w h h2 hv
  · obtain ⟨m, rfl⟩ : ∃ m : Nat, v = m := ⟨v.toNat, by omega⟩
    rw [resF_ok hv]
    exact proResolve_ok m A B n c n2 c2 a b w h h2 (by omega) (Decidable.of_not_not fun h => hv (.inr (.inr (.inl h)))) (fun h => hv (.inr (.inr (.inr h)))) ha hb hn hn2

theorem errBelow {w w' : World} {v : Value} {f : Int × Int} (h : IsErr w v f) (hb : Below w.heap.size w w') : IsErr w' v f := by
  rcases h with h | h | ⟨b, h1, h2, h3, h4, h5, h6⟩
  · exact .inl h
  · exact .inr (.inl h)
  · exact .inr (.inr ⟨b, Nat.lt_of_lt_of_le h1 hb.size, h2, h3, h4, h5, h6.below hb h1⟩)
theorem right_lits {zs : List Int} (h : rightB zs = true) : ∀ x ∈ zs, litOk x := by
  unfold rightB at h
  rw [Bool.and_eq_true, List.all_eq_true] at h
  intro x hx
  have := h.1 x hx
  exact badB_lit (by simpa using this) (Int.le_refl 24)
theorem right_len {zs : List Int} (h : rightB zs = true) : zs.length ≤ 60 := by
  unfold rightB at h
  rw [Bool.and_eq_true] at h
  exact of_decide_eq_true h.2

end Go.Proofs.YtkkgdlfjblmbjaaGreatDoor
