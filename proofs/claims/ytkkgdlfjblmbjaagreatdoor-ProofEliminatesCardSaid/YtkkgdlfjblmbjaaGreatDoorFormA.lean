/-
  Small walks for proof.Form: the order of literals; a clone of a clause.
-/
import Derived.Test.YtkkgdlfjblmbjaaGreatDoorFormPure
import Derived.Test.YtkkgdlfjblmbjaaGreatDoorRefSolM
namespace Go.Proofs.YtkkgdlfjblmbjaaGreatDoor
open Go.RowKit

set_option maxHeartbeats 1000000 in
theorem before_any (x y : Int) (w : World) (hx : litOk x) (hy : litOk y) :
    Calls Tryz.prog 30 #[.int .i64 x, .int .i64 y] w fun e w' => e = .returned (.int .i64 (beforeF x y)) ∧ w = w' := by
  rcases hx with hx | hx
  · obtain ⟨i, rfl⟩ : ∃ i : Nat, x = (i : Int) + 1 := ⟨(x - 1).toNat, by omega⟩
    have hi : i < 24 := by omega
    rcases hy with hy | hy
    · obtain ⟨j, rfl⟩ : ∃ j : Nat, y = (j : Int) + 1 := ⟨(y - 1).toNat, by omega⟩
      have hj : j < 24 := by omega
      by_cases hij : i = j
      · subst hij
        have HE := Lib.hid (show beforeF ((i : Int) + 1) ((i : Int) + 1) = 0 by unfold beforeF; simp)
        go_enter Tryz.func30, Tryz.ntmps30
        go_wp2
        go_ret
        exact ⟨ret_int (by rw [HE.out]; try omega), rfl⟩
      · have HE := Lib.hid (show beforeF ((i : Int) + 1) ((j : Int) + 1) = (i : Int) - j by unfold beforeF; rw [if_neg (by omega)]; omega)
        have hb : ((i : Int) + 1 != (j : Int) + 1) = true := by simp; omega
        go_enter Tryz.func30, Tryz.ntmps30
        go_wp2
        go_ret
        exact ⟨ret_int (by rw [HE.out]; try omega), rfl⟩
    · obtain ⟨j, rfl⟩ : ∃ j : Nat, y = -((j : Int) + 1) := ⟨(-y - 1).toNat, by omega⟩
      have hj : j < 24 := by omega
      by_cases hij : i = j
      · subst hij
        have HE := Lib.hid (show beforeF ((i : Int) + 1) (-((i : Int) + 1)) = -((i : Int) + 1) - ((i : Int) + 1) by unfold beforeF; rw [if_pos (by omega)])
        go_enter Tryz.func30, Tryz.ntmps30
        go_wp2
        go_ret
        exact ⟨ret_int (by rw [HE.out]; try omega), rfl⟩
      · have HE := Lib.hid (show beforeF ((i : Int) + 1) (-((j : Int) + 1)) = (i : Int) - j by unfold beforeF; rw [if_neg (by omega)]; omega)
        have hb : ((i : Int) + 1 != (j : Int) + 1) = true := by simp; omega
        go_enter Tryz.func30, Tryz.ntmps30
        go_wp2
        go_ret
        exact ⟨ret_int (by rw [HE.out]; try omega), rfl⟩
  · obtain ⟨i, rfl⟩ : ∃ i : Nat, x = -((i : Int) + 1) := ⟨(-x - 1).toNat, by omega⟩
    have hi : i < 24 := by omega
    rcases hy with hy | hy
    · obtain ⟨j, rfl⟩ : ∃ j : Nat, y = (j : Int) + 1 := ⟨(y - 1).toNat, by omega⟩
      have hj : j < 24 := by omega
      by_cases hij : i = j
      · subst hij
        have HE := Lib.hid (show beforeF (-((i : Int) + 1)) ((i : Int) + 1) = (i : Int) + 1 - (-((i : Int) + 1)) by unfold beforeF; rw [if_pos (by omega)])
        go_enter Tryz.func30, Tryz.ntmps30
        go_wp2
        go_ret
        exact ⟨ret_int (by rw [HE.out]; try omega), rfl⟩
      · have HE := Lib.hid (show beforeF (-((i : Int) + 1)) ((j : Int) + 1) = (i : Int) - j by unfold beforeF; rw [if_neg (by omega)]; omega)
        have hb : ((i : Int) + 1 != (j : Int) + 1) = true := by simp; omega
        go_enter Tryz.func30, Tryz.ntmps30
        go_wp2
        go_ret
        exact ⟨ret_int (by rw [HE.out]; try omega), rfl⟩
    · obtain ⟨j, rfl⟩ : ∃ j : Nat, y = -((j : Int) + 1) := ⟨(-y - 1).toNat, by omega⟩
      have hj : j < 24 := by omega
      by_cases hij : i = j
      · subst hij
        have HE := Lib.hid (show beforeF (-((i : Int) + 1)) (-((i : Int) + 1)) = 0 by unfold beforeF; simp)
        go_enter Tryz.func30, Tryz.ntmps30
        go_wp2
        go_ret
        exact ⟨ret_int (by rw [HE.out]; try omega), rfl⟩
      · have HE := Lib.hid (show beforeF (-((i : Int) + 1)) (-((j : Int) + 1)) = (i : Int) - j by unfold beforeF; rw [if_neg (by omega)]; omega)
        have hb : ((i : Int) + 1 != (j : Int) + 1) = true := by simp; omega
        go_enter Tryz.func30, Tryz.ntmps30
        go_wp2
        go_ret
        exact ⟨ret_int (by rw [HE.out]; try omega), rfl⟩

theorem isNilC_none (n c : Nat) (w : World) : (binOp .eql 39 (.slice none n c) (.slice none 0 0)).run Tryz.prog w = .ok (.bool true) w := by kernel_rfl
theorem isNilC_some (ad : Addr) (n c : Nat) (w : World) : (binOp .eql 39 (.slice (some ad) n c) (.slice none 0 0)).run Tryz.prog w = .ok (.bool false) w := by kernel_rfl
def CloneIPost (w : World) (zs : List Int) (e : Ending) (w' : World) : Prop := ∃ v, e = .returned v ∧ Own w' w.heap.size v zs ∧ Below w.heap.size w w'
theorem ints_none {w : World} {B n : Nat} {zs : List Int} (h : Ints w B none n zs) : zs = [] := by
  rcases Nat.eq_zero_or_pos n with h0 | h0
  · exact List.eq_nil_of_length_eq_zero (h.1.trans h0)
  · obtain ⟨ad, e, _⟩ := h.2.2.2.2 h0
    cases e

set_option maxHeartbeats 1000000 in
theorem cloneI_any (A : Option Addr) (n c : Nat) (zs : List Int) (w : World) (h : Ints w w.heap.size A n zs) (hl : n ≤ 1000000) :
    Calls Tryz.prog 28 #[.slice A n c] w (CloneIPost w zs) := by
  have hn := h.len
  have hmk := hide (own_empty w w.heap.size (Nat.le_refl _))
  have HB := hide ((Below.refl w.heap.size w).alloc (Nat.le_refl _) (.cells #[] 3))
  have HI := hide ((h.below HB.out).more HB.out.size)
  have hq0 := isNilC_none
  have hq1 := isNilC_some
  rcases A with _ | ad
  · obtain rfl := ints_none h
    clear h
    go_enter Tryz.func28, Tryz.ntmps28
    go_wp2
    go_ret
    exact ⟨_, rfl, Own.nil _ _, Below.refl _ _⟩
  · clear h
    go_enter Tryz.func28, Tryz.ntmps28
    go_wp2_with (at_builtin; refine appS _ rfl _ _ 39 rfl w.heap.size Tryz.underlying39 _ [] rfl hmk.out (some ad) n c zs rfl HI.out (by rw [hn]; simp; omega) (by simp) ?_; intro v' w' ho hg hor)
    go_ret
    exact ⟨v', rfl, by simpa using ho, HB.out.grown hg HB.out.size (fun j hj => by cases hj; exact Nat.le_refl _)⟩
end Go.Proofs.YtkkgdlfjblmbjaaGreatDoor
