/-
  The walks of the law's own small functions: few, right, within.
-/
import Derived.Test.YtkkgdlfjblmbjaaGreatDoorProg
import Derived.Test.YtkkgdlfjblmbjaaGreatDoorSpec
import Derived.WalkKit
import Derived.WalkSpells
import Derived.WalkLawsBesides
import Derived.BigQuiet
import Derived.Lib.Hide
namespace Go.Proofs.YtkkgdlfjblmbjaaGreatDoor
open Go.RowKit

def SomeBool (w : World) (e : Ending) (w' : World) : Prop := ∃ b : Bool, e = .returned (.bool b) ∧ w = w'

set_option maxHeartbeats 400000 in
theorem few_any (vars m : Int) (A : Option Addr) (n c : Nat) (ls : List (List Int)) (w : World) (h : Cls w w.heap.size A n ls) :
    Calls Tryz.prog 4 #[.int .i64 vars, .slice A n c, .int .i64 m] w (SomeBool w) := by
  have hn := h.le
  go_enter Tryz.func4, Tryz.ntmps4
  go_wp2
  go_loop [7, 8] (fun t i => ∃ k : Nat, ∃ s : Int, k ≤ n ∧ i = .int .i64 k ∧ t = .int .i64 s) (fun _ i => n - (intOf i).toNat)
  case atStart => exact ⟨0, _, Nat.zero_le _, rfl, rfl⟩
  case round =>
    obtain ⟨k, s, hk, rfl, rfl⟩ := hrel
    by_cases hlt : k < n
    · obtain ⟨ad, A', n', c', rfl, hb, hc, hcc, hi⟩ := h.at_ hlt
      go_wp2
      go_round
      case rel => exact ⟨k + 1, _, by omega, by go_num, rfl⟩
      case measure => simp [intOf]; omega
    · go_wp2
      go_ret
      exact ⟨_, rfl, rfl⟩

def withinB (n lo hi : Int) : Bool := decide (lo ≤ n ∧ n ≤ hi)
theorem within_any (n lo hi : Int) (w : World) : Calls Tryz.prog 11 #[.int .i64 n, .int .i64 lo, .int .i64 hi] w fun e w' => e = .returned (.bool (withinB n lo hi)) ∧ w = w' := by
  by_cases h1 : lo ≤ n
  · by_cases h2 : n ≤ hi
    · go_enter Tryz.func11, Tryz.ntmps11
      go_wp2
      go_ret
      exact ⟨ret_bool (by simp [withinB, h1, h2]), rfl⟩
    · go_enter Tryz.func11, Tryz.ntmps11
      go_wp2
      go_ret
      exact ⟨ret_bool (by simp [withinB, h1, h2]), rfl⟩
  · go_enter Tryz.func11, Tryz.ntmps11
    go_wp2
    go_ret
    exact ⟨ret_bool (by unfold withinB; symm; apply decide_eq_false; omega), rfl⟩

end Go.Proofs.YtkkgdlfjblmbjaaGreatDoor
