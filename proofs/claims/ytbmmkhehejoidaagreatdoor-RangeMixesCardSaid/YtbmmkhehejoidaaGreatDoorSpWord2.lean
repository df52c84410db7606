/-
  semver.word, of any text.
-/
import Derived.Test.YtbmmkhehejoidaaGreatDoorSpWord
namespace Go.Proofs.YtbmmkhehejoidaaGreatDoor
open Go.RowKit

theorem word_known (w : World) : Calls Tryz.prog 26 #[.string ⟨#[97, 110, 121]⟩] w (WordP ⟨#[97, 110, 121]⟩ w) := by
  have hE : wordE anyW = 0 := by unfold wordE; rw [if_pos (.inl rfl)]
  have hC : wordC anyW = anyC := by unfold wordC; rw [if_pos rfl]
  have HR := hide (Blk.new w 31 #[.slice none 0 0])
  have HB := hide ((Below.refl w.heap.size w).alloc (Nat.le_refl _) (.cells #[.slice none 0 0] 31))
  go_enter Tryz.func26, Tryz.ntmps26
  go_wp2_with fail
  refine (any_any _).mono ?_
  generalize (w.alloc (.cells #[.slice none 0 0] 31)) = wa at HR HB ⊢
  rintro e w8 ⟨v8, rfl, ho8, hb8⟩
  obtain ⟨k1, n0, R2, R3⟩ := res_end HR.out (Nat.le_refl _) HB.out hb8 ho8
  have r0 := k1.cell 0
  have f0 := k1.frozen 0
  have K2 := hide R2
  have K3 := hide R3
  have ev := ho8.len
  clear k1 R2 R3 ho8 hb8 HR HB
  obtain ⟨A8, c8, rfl⟩ := ev
  go_wp2_with fail
  exact bodyPost_ret (v := .tuple #[.agg #[.slice A8 anyC.length c8], .nilIface]) (by simp [results, Tryz.results26, go_sem, n0]) rfl ⟨_, _, rfl, .inl ⟨by rw [show wordE (ByteArray.mk #[97, 110, 121]).data.toList = 0 from hE], rfl⟩, fun _ => by rw [show wordC (ByteArray.mk #[97, 110, 121]).data.toList = anyC from hC]; exact K2.out, fun h => absurd (show wordE (ByteArray.mk #[97, 110, 121]).data.toList = 0 from hE) h, K3.out⟩
theorem word_none (w : World) : Calls Tryz.prog 26 #[.string ⟨#[110, 111, 110, 101]⟩] w (WordP ⟨#[110, 111, 110, 101]⟩ w) := by
  have hE : wordE noneW = 0 := by unfold wordE; rw [if_pos (.inr rfl)]
  have hC : wordC noneW = [] := by unfold wordC; rw [if_neg (by decide), if_pos rfl]
  have HR := hide (Blk.new w 31 #[.slice none 0 0])
  have HB := hide ((Below.refl w.heap.size w).alloc (Nat.le_refl _) (.cells #[.slice none 0 0] 31))
  have n0 := HR.out.cell 0
  go_enter Tryz.func26, Tryz.ntmps26
  go_wp2_with fail
  exact bodyPost_ret (v := .tuple #[.agg #[.slice none 0 0], .nilIface]) (by simp [results, Tryz.results26, go_sem, n0]) rfl ⟨_, _, rfl, .inl ⟨by rw [show wordE (ByteArray.mk #[110, 111, 110, 101]).data.toList = 0 from hE], rfl⟩, fun _ => by rw [show wordC (ByteArray.mk #[110, 111, 110, 101]).data.toList = [] from hC]; exact ownP_nil _ _, fun _ => rfl, HB.out⟩
theorem word_any (s : ByteArray) (w : World) (hG : GlobV w) (hs : s.size ≤ 1000) : Calls Tryz.prog 26 #[.string s] w (WordP s w) := by
  by_cases h1 : s.data.toList = anyW
  · have e : s = ⟨#[97, 110, 121]⟩ := (bytes_back anyW s h1.symm).symm
    rw [e]
    exact word_known w
  · by_cases h2 : s.data.toList = noneW
    · have e : s = ⟨#[110, 111, 110, 101]⟩ := (bytes_back noneW s h2.symm).symm
      rw [e]
      exact word_none w
    · exact word_walk s w hG hs h1 h2
end Go.Proofs.YtbmmkhehejoidaaGreatDoor
