/-
  The document's RangeWord, of any text.
-/
import Derived.Test.YtbmmkhehejoidaaGreatDoorRefWord
namespace Go.Proofs.YtbmmkhehejoidaaGreatDoor
open Go.RowKit

theorem refWord_known (w : World) : Calls Tryz.prog 24 #[.string ⟨#[97, 110, 121]⟩] w (RefWordP ⟨#[97, 110, 121]⟩ w) := by
  have hE : wordE (ByteArray.mk #[97, 110, 121]).data.toList = 0 := by unfold wordE; rw [if_pos (.inl rfl)]
  have hC0 : wordC anyW = rowC 0 endR := by unfold wordC; rw [if_pos rfl]; rfl
  have hC : wordC (ByteArray.mk #[97, 110, 121]).data.toList = rowC 0 endR := hC0
  have hrow := row_any 0 endR w
  rw [show ((endR : Nat) : Int) = 1000000000 from rfl, show ((0 : Nat) : Int) = 0 from rfl] at hrow
  unfold RefWordP
  rw [hE, hC]
  go_enter Tryz.func24, Tryz.ntmps24
  go_wp2_with (go_at_call 23; refine hrow.mono ?_; rintro e w9 ⟨v, rfl, ho, hb9⟩)
  go_ret2
  first | exact ⟨_, rfl, fun _ => ho, hb9⟩ | exact ⟨_, rfl, ho, hb9⟩
theorem refWord_none (w : World) : Calls Tryz.prog 24 #[.string ⟨#[110, 111, 110, 101]⟩] w (RefWordP ⟨#[110, 111, 110, 101]⟩ w) := by
  have hE : wordE (ByteArray.mk #[110, 111, 110, 101]).data.toList = 0 := by unfold wordE; rw [if_pos (.inr rfl)]
  have hC0 : wordC noneW = [] := by unfold wordC; rw [if_neg (by decide), if_pos rfl]
  have hC : wordC (ByteArray.mk #[110, 111, 110, 101]).data.toList = [] := hC0
  unfold RefWordP
  rw [hE, hC]
  go_enter Tryz.func24, Tryz.ntmps24
  go_wp2_with fail
  go_ret2
  first | exact ⟨_, rfl, fun _ => ownI_nil _ _, Below.refl _ _⟩ | exact ⟨_, rfl, ownI_nil _ _, Below.refl _ _⟩
theorem refWord_any (s : ByteArray) (w : World) (hG : GlobV w) (hs : s.size ≤ 1000) : Calls Tryz.prog 24 #[.string s] w (RefWordP s w) := by
  by_cases h1 : s.data.toList = anyW
  · have e : s = ⟨#[97, 110, 121]⟩ := (bytes_back anyW s h1.symm).symm
    rw [e]
    exact refWord_known w
  · by_cases h2 : s.data.toList = noneW
    · have e : s = ⟨#[110, 111, 110, 101]⟩ := (bytes_back noneW s h2.symm).symm
      rw [e]
      exact refWord_none w
    · exact refWord_walk s w hG hs h1 h2
end Go.Proofs.YtbmmkhehejoidaaGreatDoor
