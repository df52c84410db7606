/-
  The reference's FollowsFrom, the program's Follows, the law's sameInts.
-/
import Derived.Test.YtkkgdlfjblmbjaaGreatDoorRefSpread
import Derived.Deep.QuietTactic
import Derived.BigQuiet
namespace Go.Proofs.YtkkgdlfjblmbjaaGreatDoor
open Go.RowKit

/-- Literals that are assumed, one behind the other; none: one may not be. -/
def assumeGo (vars : Int) (tr : List Int) : List Int → Option (List Int)
  | [] => some tr
  | x :: xs => if badB vars x = true ∨ -x ∈ tr then none else if x ∈ tr then assumeGo vars tr xs else assumeGo vars (tr ++ [x]) xs
/-- (what is told, the clause that can't hold, the error). -/
def followF (vars : Int) (ls : List (List Int)) (a : List Int) : List Int × Int × Int :=
  match assumeGo vars [] a with
  | none => ([], 0, 1)
  | some tr => ((spreadR ls tr).1, (spreadR ls tr).2, 0)
theorem followF_none {vars : Int} {ls : List (List Int)} {a : List Int} (h : assumeGo vars [] a = none) : followF vars ls a = ([], 0, 1) := by unfold followF; rw [h]
theorem followF_some {vars : Int} {ls : List (List Int)} {a tr : List Int} (h : assumeGo vars [] a = some tr) : followF vars ls a = ((spreadR ls tr).1, (spreadR ls tr).2, 0) := by unfold followF; rw [h]
theorem badB_lit {vars x : Int} (h : badB vars x = false) (h1 : vars ≤ 24) : litOk x := by
  unfold badB at h
  have := of_decide_eq_false h
  unfold litOk
  omega
theorem badB_not {vars x : Int} (h : badB vars x = false) : x ≠ 0 ∧ x ≤ vars ∧ -vars ≤ x := by
  unfold badB at h
  have := of_decide_eq_false h
  omega
theorem badB_is {vars x : Int} (h : badB vars x = true) : x = 0 ∨ vars < x ∨ x < -vars := by
  unfold badB at h
  exact of_decide_eq_true h

set_option maxHeartbeats 1000000 in
theorem same_same (A A' : Option Addr) (n c n' c' : Nat) (zs : List Int) (w : World) (h : Ints w w.heap.size A n zs) (h' : Ints w w.heap.size A' n' zs) :
    Calls Tryz.prog 10 #[.slice A n c, .slice A' n' c'] w (AtPost w true) := by
  obtain rfl : n' = n := h'.1.symm.trans h.1
  have hn := h.le
  go_enter Tryz.func10, Tryz.ntmps10
  go_wp2
  go_loopw [5] (fun i wr => ∃ k : Nat, k ≤ n' ∧ i = .int .i64 k ∧ Below w.heap.size w wr) (fun i _ => n' - (intOf i).toNat)
  case atStart => exact ⟨0, Nat.zero_le _, rfl, Below.refl _ _⟩
  case round =>
    obtain ⟨k, hk, rfl, hb⟩ := hrel
    by_cases hlt : k < n'
    · obtain ⟨ad, rfl, hb1, hc1⟩ := h.at_ hlt
      obtain ⟨ad', rfl, hb2, hc2⟩ := h'.at_ hlt
      have e1 : wr.cell? (ad.add k) = some (.int .i64 (zs.getD k 0)) := (hb.cell (by rw [block_of_add]; exact hb1)).trans hc1
      have e2 : wr.cell? (ad'.add k) = some (.int .i64 (zs.getD k 0)) := (hb.cell (by rw [block_of_add]; exact hb2)).trans hc2
      clear hc1 hc2
      generalize zs.getD k 0 = x at e1 e2
      have hlt0 : (0 : Int) ≤ (k : Int) := by omega
      have hlt1 : (k : Int) < (n' : Int) := by omega
      go_wp2
      go_quiet (fail)
      go_wp2
      go_roundw
      case rel => exact ⟨k + 1, by omega, by go_num, below_drewN hb _⟩
      case measure => simp [intOf]; omega
    · go_wp2
      go_ret
      exact ⟨rfl, hb⟩

def FolPost (w : World) (r : List Int × Int × Int) (e : Ending) (w' : World) : Prop :=
  ∃ A n c, e = .returned (.tuple #[.slice A n c, .int .i64 r.2.1, .int .i64 r.2.2]) ∧ Ints w' w'.heap.size A n r.1 ∧ Below w.heap.size w w'

structure FolRel (vars : Int) (w : World) (asm : List Int) (k : Nat) (tr : List Int) (v : Value) (wr : World) : Prop where
  bel : Below w.heap.size w wr
  own : Own wr w.heap.size v tr
  cons : Cons tr
  go : assumeGo vars tr (asm.drop k) = assumeGo vars [] asm

end Go.Proofs.YtkkgdlfjblmbjaaGreatDoor
