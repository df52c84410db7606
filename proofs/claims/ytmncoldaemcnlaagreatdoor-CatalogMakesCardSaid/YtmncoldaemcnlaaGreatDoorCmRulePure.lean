/-
  A part of the proof: RulePure. Conditions: none.
-/
import Derived.Test.YtmncoldaemcnlaaGreatDoorCmCatIdx
namespace Go.Proofs.YtmncoldaemcnlaaGreatDoor
open Classical
def nmA (its : List ItR) (i : Nat) : ByteArray := (its.getD i (ByteArray.empty, 0, 0, 0)).1
def TwA (its : List ItR) (set i k : Nat) : Prop := i ≠ k ∧ i < its.length ∧ k < its.length ∧ set.testBit i = true ∧ set.testBit k = true ∧ nmA its i = nmA its k
theorem TwA.symm {its : List ItR} {set i k : Nat} (h : TwA its set i k) : TwA its set k i := ⟨Ne.symm h.1, h.2.2.1, h.2.1, h.2.2.2.2.1, h.2.2.2.1, h.2.2.2.2.2.symm⟩
theorem itemsF_perm (ls : List LnR) : (itemsF ls).Perm (onesL ls) := (srtI_spec _).2
theorem catR_few {ls : List LnR} {its : List ItR} (h : catR ls = .inr its) : (itemsF ls).length ≤ 24 ∧ (itemsF ls).Nodup := by
 obtain ⟨e, h1, h2, _⟩ := catR_ok h
 rw [(itemsF_perm ls).length_eq, ← e]
 exact ⟨h1, (itemsF_perm ls).nodup_iff.2 (by rw [← e]; exact h2)⟩
theorem amF_len (nm : ByteArray) (rg : List (Nat × Nat)) : ∀ (its : List ItR) (i : Nat), (amF nm rg its i).length ≤ its.length
 | [], _ => Nat.le_refl _
 | a :: r, i => by
  have ih := amF_len nm rg r (i + 1)
  unfold amF
  rw [List.length_cons]
  split
  ·rw [List.length_cons]; omega
  ·omega
end Go.Proofs.YtmncoldaemcnlaaGreatDoor
namespace Go.Proofs.YtmncoldaemcnlaaGreatDoor
open Classical
end Go.Proofs.YtmncoldaemcnlaaGreatDoor
