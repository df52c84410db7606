/-
  The walks of the law's own small functions: few, right, within.
-/
import Derived.Test.YtkkgdlfjblmbjaaDoorProg
import Derived.Test.YtkkgdlfjblmbjaaDoorSpec
import Derived.WalkKit
import Derived.WalkSpells
import Derived.WalkLawsBesides
import Derived.BigQuiet
import Derived.Lib.Hide
namespace Go.Proofs.YtkkgdlfjblmbjaaDoor
open Go.RowKit

def SomeBool (w : World) (e : Ending) (w' : World) : Prop := ∃ b : Bool, e = .returned (.bool b) ∧ w = w'

set_option maxHeartbeats 400000 in
theorem few_any (vars m : Int) (A : Option Addr) (n c : Nat) (ls : List (List Int)) (w : World) (h : Cls w w.heap.size A n ls) :
    Calls Tryd.prog 10 #[.int .i64 vars, .slice A n c, .int .i64 m] w (SomeBool w) := by
  have hn := h.le
  go_enter Tryd.func10, Tryd.ntmps10
  go_wp2
  go_loop [7, 8] (fun t i => ∃ k : Nat, ∃ s : Int, k ≤ n ∧ i = .int .i64 k ∧ t = .int .i64 s) (fun _ i => n - (intOf i).toNat)
  case atStart => exact ⟨0, _, Nat.zero_le _, rfl, rfl⟩
  case round =>
    obtain ⟨k, s, hk, rfl, rfl⟩ := hrel
    by_cases hlt : k < n
    · obtain ⟨ad, A', n', c', rfl, hb, hc, hcc, hi⟩ := h.at_ hlt
      go_wp2
      go_round
      case rel => exact ⟨k + 1, _, by omega, by go_num, rfl⟩
      case measure => simp [intOf]; omega
    · go_wp2
      go_ret
      exact ⟨_, rfl, rfl⟩

def withinB (n lo hi : Int) : Bool := decide (lo ≤ n ∧ n ≤ hi)
theorem within_any (n lo hi : Int) (w : World) : Calls Tryd.prog 40 #[.int .i64 n, .int .i64 lo, .int .i64 hi] w fun e w' => e = .returned (.bool (withinB n lo hi)) ∧ w = w' := by
  by_cases h1 : lo ≤ n
  · by_cases h2 : n ≤ hi
    · go_enter Tryd.func40, Tryd.ntmps40
      go_wp2
      go_ret
      exact ⟨ret_bool (by simp [withinB, h1, h2]), rfl⟩
    · go_enter Tryd.func40, Tryd.ntmps40
      go_wp2
      go_ret
      exact ⟨ret_bool (by simp [withinB, h1, h2]), rfl⟩
  · go_enter Tryd.func40, Tryd.ntmps40
    go_wp2
    go_ret
    exact ⟨ret_bool (by unfold withinB; symm; apply decide_eq_false; omega), rfl⟩

set_option maxHeartbeats 1000000 in
theorem right_any (A : Option Addr) (n c : Nat) (zs : List Int) (w : World) (h : Ints w w.heap.size A n zs) :
    Calls Tryd.prog 14 #[.slice A n c] w fun e w' => e = .returned (.bool (rightB zs)) ∧ w = w' := by
  have hn := h.le
  have hlen := Lib.hid h.len
  go_enter Tryd.func14, Tryd.ntmps14
  go_wp2
  go_loop [3] (fun i => ∃ k : Nat, k ≤ n ∧ i = .int .i64 k ∧ Hid ((zs.take k).all (fun x => !badB 24 x) = true)) (fun i => n - (intOf i).toNat)
  case atStart => exact ⟨0, Nat.zero_le _, rfl, Lib.hid rfl⟩
  case round =>
    obtain ⟨k, hk, rfl, hall⟩ := hrel
    by_cases hlt : k < n
    · obtain ⟨ad, rfl, hb, hc⟩ := h.at_ hlt
      have hkl := Lib.hid (show k < zs.length by rw [hlen.out]; exact hlt)
      obtain ⟨x, hx⟩ : ∃ x, zs.getD k 0 = x := ⟨_, rfl⟩
      rw [hx] at hc
      have HX := Lib.hid hx
      clear hx
      by_cases h0 : x = 0
      · subst h0
        go_wp2
        go_ret
        exact ⟨ret_bool (by unfold rightB; rw [all_false_at _ zs k 0 hkl.out (by rw [HX.out]; rfl)]; rfl), rfl⟩
      · by_cases h1 : x < -24
        · go_wp2
          go_ret
          exact ⟨ret_bool (by unfold rightB; rw [all_false_at _ zs k 0 hkl.out (by rw [HX.out, badB_t (by omega)]; rfl)]; rfl), rfl⟩
        · by_cases h2 : 24 < x
          · go_wp2
            go_ret
            exact ⟨ret_bool (by unfold rightB; rw [all_false_at _ zs k 0 hkl.out (by rw [HX.out, badB_t (by omega)]; rfl)]; rfl), rfl⟩
          · go_wp2
            go_round
            case rel => exact ⟨k + 1, by omega, by go_num, Lib.hid (all_of_take _ zs k 0 hkl.out hall.out (by rw [HX.out, badB_f (by omega)]; rfl))⟩
            case measure => simp [intOf]; omega
    · go_wp2
      go_ret
      exact ⟨ret_bool (by unfold rightB; rw [take_all zs k (by have := hlen.out; omega)] at hall; rw [hall.out, hlen.out, Bool.true_and]; exact decide_eq_decide.2 (by omega)), rfl⟩
end Go.Proofs.YtkkgdlfjblmbjaaDoor
