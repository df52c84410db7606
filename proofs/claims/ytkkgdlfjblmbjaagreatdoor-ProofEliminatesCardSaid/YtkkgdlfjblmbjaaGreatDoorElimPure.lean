/-
  The plain law of Eliminate; no program in sight.
-/
import Derived.Test.YtkkgdlfjblmbjaaGreatDoorFollowPure
namespace Go.Proofs.YtkkgdlfjblmbjaaGreatDoor
open Go.RowKit

noncomputable def onceF (l : List (List Int)) (c : List Int) : List (List Int) :=
  if (formF c).2 = true then l else if (formF c).1 ∈ l then l else l ++ [(formF c).1]
noncomputable def firstF : List (List Int) → List (List Int) → List (List Int)
  | [], now => now
  | c :: r, now => firstF r (onceF now c)
noncomputable def keepOne (v : Int) (now : List (List Int)) (c : List Int) : List (List Int) := if v + 1 ∉ c ∧ -v - 1 ∉ c then onceF now c else now
noncomputable def keepF (v : Int) : List (List Int) → List (List Int) → List (List Int)
  | [], now => now
  | c :: r, now => keepF v r (keepOne v now c)
noncomputable def pairOne (v : Int) (a : List Int) (now : List (List Int)) (b : List Int) : List (List Int) := if (resF a b v).2 = 0 then onceF now (resF a b v).1 else now
noncomputable def pairF (v : Int) (a : List Int) : List (List Int) → List (List Int) → List (List Int)
  | [], now => now
  | b :: r, now => pairF v a r (pairOne v a now b)
noncomputable def crossF (v : Int) (all : List (List Int)) : List (List Int) → List (List Int) → List (List Int)
  | [], now => now
  | a :: r, now => crossF v all r (pairF v a all now)
noncomputable def stepF (v : Int) (all : List (List Int)) : List (List Int) := crossF v all all (keepF v all [])
abbrev ElimRes := (List Int × Bool) × Int
noncomputable def elimGo : Nat → Nat → List (List Int) → List Int → ElimRes
  | 0, _, all, sz => ((sz, all.isEmpty), 0)
  | f + 1, v, all, sz => if 2000 < (stepF v all).length then (([], false), 4) else elimGo f (v + 1) (stepF v all) (sz ++ [((stepF v all).length : Int)])
/-- How many there are behind each variable; whether all can hold; the error. -/
noncomputable def elimF (m : Nat) (ls : List (List Int)) : ElimRes := elimGo m 0 (firstF ls []) []

theorem onceF_len (l : List (List Int)) (c : List Int) : l.length ≤ (onceF l c).length ∧ (onceF l c).length ≤ l.length + 1 := by
  unfold onceF
  split
  · omega
  · split
    · omega
    · rw [List.length_append, List.length_singleton]; omega
theorem onceF_row {l : List (List Int)} {c : List Int} (h : rowsOk l) (hc : ∀ x ∈ c, litOk x) : rowsOk (onceF l c) := by
  unfold onceF
  split
  · exact h
  · split
    · exact h
    · intro d hd
      rcases List.mem_append.1 hd with hd | hd
      · exact h d hd
      · rw [List.mem_singleton.1 hd]; exact formF_row hc
theorem onceF_always {l : List (List Int)} {c : List Int} (h : (formF c).2 = true) : onceF l c = l := by unfold onceF; rw [if_pos h]
theorem onceF_there {l : List (List Int)} {c d : List Int} (h : formF c = (d, false)) (hd : d ∈ l) : onceF l c = l := by unfold onceF; rw [h, if_neg (by simp), if_pos hd]
theorem onceF_new {l : List (List Int)} {c d : List Int} (h : formF c = (d, false)) (hd : d ∉ l) : onceF l c = l ++ [d] := by unfold onceF; rw [h, if_neg (by simp), if_neg hd]
theorem keepOne_len (v : Int) (l : List (List Int)) (c : List Int) : l.length ≤ (keepOne v l c).length ∧ (keepOne v l c).length ≤ l.length + 1 := by
  unfold keepOne
  split
  · exact onceF_len l c
  · omega
theorem pairOne_len (v : Int) (a : List Int) (l : List (List Int)) (c : List Int) : l.length ≤ (pairOne v a l c).length ∧ (pairOne v a l c).length ≤ l.length + 1 := by
  unfold pairOne
  split
  · exact onceF_len l _
  · omega
theorem pairF_len (v : Int) (a : List Int) : ∀ (cs now : List (List Int)), now.length ≤ (pairF v a cs now).length ∧ (pairF v a cs now).length ≤ now.length + cs.length := by
  intro cs
  induction cs with
  | nil => intro now; exact ⟨Nat.le_refl _, Nat.le_refl _⟩
  | cons c r ih =>
    intro now
    have h1 := ih (pairOne v a now c)
    have h2 := pairOne_len v a now c
    rw [pairF, List.length_cons]; omega
theorem crossF_len (v : Int) (all : List (List Int)) : ∀ (cs now : List (List Int)), now.length ≤ (crossF v all cs now).length := by
  intro cs
  induction cs with
  | nil => intro now; exact Nat.le_refl _
  | cons c r ih =>
    intro now
    have h1 := ih (pairF v c all now)
    have h2 := pairF_len v c all now
    rw [crossF]; omega
section
variable {all ls now : List (List Int)} {k : Nat} {v : Int} {a : List Int}
theorem firstF_next (hk : k < ls.length) : firstF (ls.drop k) now = firstF (ls.drop (k + 1)) (onceF now (ls.getD k [])) := by rw [getD_cons_drop ls k [] hk, firstF]
theorem keepF_next (hk : k < ls.length) : keepF v (ls.drop k) now = keepF v (ls.drop (k + 1)) (keepOne v now (ls.getD k [])) := by rw [getD_cons_drop ls k [] hk, keepF]
theorem pairF_next (hk : k < ls.length) : pairF v a (ls.drop k) now = pairF v a (ls.drop (k + 1)) (pairOne v a now (ls.getD k [])) := by rw [getD_cons_drop ls k [] hk, pairF]
theorem crossF_next (hk : k < ls.length) : crossF v all (ls.drop k) now = crossF v all (ls.drop (k + 1)) (pairF v (ls.getD k []) all now) := by rw [getD_cons_drop ls k [] hk, crossF]
theorem firstF_end (hk : ls.length ≤ k) : firstF (ls.drop k) now = now := by rw [List.drop_eq_nil_of_le hk, firstF]
theorem keepF_end (hk : ls.length ≤ k) : keepF v (ls.drop k) now = now := by rw [List.drop_eq_nil_of_le hk, keepF]
theorem pairF_end (hk : ls.length ≤ k) : pairF v a (ls.drop k) now = now := by rw [List.drop_eq_nil_of_le hk, pairF]
theorem crossF_end (hk : ls.length ≤ k) : crossF v all (ls.drop k) now = now := by rw [List.drop_eq_nil_of_le hk, crossF]
theorem keepOne_yes (h : v + 1 ∉ a ∧ -v - 1 ∉ a) : keepOne v now a = onceF now a := by unfold keepOne; rw [if_pos h]
theorem keepOne_no (h : ¬ (v + 1 ∉ a ∧ -v - 1 ∉ a)) : keepOne v now a = now := by unfold keepOne; rw [if_neg h]
theorem pairOne_yes {b q : List Int} (h : resF a b v = (q, 0)) : pairOne v a now b = onceF now q := by unfold pairOne; rw [h, if_pos rfl]
theorem pairOne_no {b q : List Int} {c : Int} (h : resF a b v = (q, c)) (hc : c ≠ 0) : pairOne v a now b = now := by unfold pairOne; rw [h, if_neg hc]
theorem elimGo_big {f w : Nat} {sz : List Int} (h : 2000 < (stepF w all).length) : elimGo (f + 1) w all sz = (([], false), 4) := by rw [elimGo, if_pos h]
theorem elimGo_next {f w : Nat} {sz : List Int} (h : ¬ 2000 < (stepF w all).length) : elimGo (f + 1) w all sz = elimGo f (w + 1) (stepF w all) (sz ++ [((stepF w all).length : Int)]) := by rw [elimGo, if_neg h]
end
end Go.Proofs.YtkkgdlfjblmbjaaGreatDoor
