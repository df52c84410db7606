/-
  What a word has is rising spans that don't touch. No program in sight.
-/
import Derived.Test.YtmncoldaemcnlaaGreatDoorVerNum
import Derived.Test.YtmncoldaemcnlaaGreatDoorRgSplit
namespace Go.Proofs.YtmncoldaemcnlaaGreatDoor

theorem num_le {f : Nat → Int} (h : ∀ j, j < 3 → 0 ≤ f j ∧ f j ≤ 999) : numV3 f + 1 ≤ endR ∧ caretN f ≤ endR ∧ tildeN f ≤ endR := by
  have h0 := h 0 (by omega)
  have h1 := h 1 (by omega)
  have h2 := h 2 (by omega)
  unfold endR
  refine ⟨?_, ?_, ?_⟩
  · unfold numV3
    omega
  · unfold caretN
    repeat' split
    all_goals omega
  · unfold tildeN
    omega
theorem opC_can (k : Nat) {f : Nat → Int} (h : ∀ j, j < 3 → 0 ≤ f j ∧ f j ≤ 999) : CanF 0 (opC k f) := by
  obtain ⟨hn, hc, ht⟩ := num_le h
  unfold opC
  split
  · exact row_can hn
  · split
    · exact (not_spec (row_can hn)).1
    · split
      · exact row_can (by omega)
      · split
        · exact row_can hn
        · split
          · exact row_can (Nat.le_refl _)
          · split
            · exact row_can (Nat.le_refl _)
            · split
              · exact row_can ht
              · exact row_can hc
theorem wordC_can {s : List UInt8} (h : wordE s = 0) : CanF 0 (wordC s) := by
  unfold wordC
  by_cases h1 : s = anyW
  · rw [if_pos h1]; exact any_can
  · rw [if_neg h1]
    by_cases h2 : s = noneW
    · rw [if_pos h2]; trivial
    · rw [if_neg h2]
      have hv : verE (baL (restL s)) = 0 := by
        unfold wordE at h
        rw [if_neg (fun h => h.elim h1 h2)] at h
        by_cases e : verE (baL (restL s)) = 0
        · exact e
        · rw [if_pos e] at h; exact absurd h e
      exact opC_can _ (verV_le hv)
theorem resW_can : ∀ (ws : List (List UInt8)) (a : Nat) (acc : List (Nat × Nat)) (sm : Bool) (l : List (Nat × Nat)) (s2 : Bool), CanF 0 acc → resW ws a acc sm = .inr (l, s2) → CanF 0 l
  | [], a, acc, sm, l, s2, h, e => by
    rw [resW_nil] at e
    injection e with e
    injection e with e _
    rw [← e]; exact h
  | x :: ws, a, acc, sm, l, s2, h, e => by
    by_cases h0 : x = []
    · subst h0
      rw [resW_empty] at e
      exact resW_can ws _ acc sm l s2 h e
    · by_cases he : wordE x = 0
      · rw [resW_good _ _ _ _ h0 he] at e
        exact resW_can ws _ _ true l s2 (and_spec h (wordC_can he)).1 e
      · rw [resW_bad _ _ _ _ h0 he] at e
        cases e
end Go.Proofs.YtmncoldaemcnlaaGreatDoor
