/-
  A part of the proof: SameInts. Conditions: none.
-/
import Derived.Test.YtmncoldaemcnlaaGreatDoorCmOwnIs
namespace Go.Proofs.YtmncoldaemcnlaaGreatDoor
open Go.RowKit
def SameQ (w : World) (e : Ending) (w' : World) : Prop := e = .returned (.bool true) ∧ ∃ q, w' = w.drewN q
set_option maxHeartbeats 2000000 in
theorem sameInts_any (A1 A2 : Option Addr) (n c1 c2 : Nat) (zs : List Int) (w : World) (h1 : RowI w A1 n zs) (h2 : RowI w A2 n zs) (hn : n ≤ 1000000) :
  Calls Tryz.prog 22 #[.slice A1 n c1, .slice A2 n c2] w (SameQ w) := by
 have H1 := hide h1
 have H2 := hide h2
 clear h1 h2
 go_enter Tryz.func22, Tryz.ntmps22
 go_wp2
 go_loopw [5] (fun iv wr => ∃ i q : Nat, i ≤ n ∧ iv = .int .i64 i ∧ wr = w.drewN q) (fun iv _ => n - (intOf iv).toNat)
 case atStart => exact ⟨0, 0, Nat.zero_le _, rfl, rfl⟩
 case round =>
  obtain ⟨i, q, hi, rfl, rfl⟩ := hrel
  by_cases hlt : i < n
  ·obtain ⟨a1, u1, e1, hb1, hu1, hc1⟩ := H1.out.2.at_ (k := i) hlt
   obtain ⟨a2, u2, e2, hb2, hu2, hc2⟩ := H2.out.2.at_ (k := i) hlt
   have hil : i < zs.length := by rw [H1.out.1]; exact hlt
   rw [intsV_at hil] at hu1 hu2
   cases hu1
   cases hu2
   subst e1 e2
   generalize zs.getD i 0 = x at hc1 hc2
   have hiI : (i : Int) < (n : Int) := by omega
   go_wp2
   go_quiet (fail)
   go_wp2
   go_roundw
   case rel => exact ⟨i + 1, _, by omega, by go_num, by first | rfl | exact World.drewN_drewN ..⟩
   case measure => simp [intOf]; omega
  ·obtain rfl : i = n := by omega
   go_wp2
   go_ret
   exact ⟨rfl, q, rfl⟩
end Go.Proofs.YtmncoldaemcnlaaGreatDoor
