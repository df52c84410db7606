/-
  A version's place among all: semver's number, caret, version; the document's num.
-/
import Derived.Test.YtmncoldaemcnlaaGreatDoorVerD
import Derived.Test.YtmncoldaemcnlaaGreatDoorRgText
namespace Go.Proofs.YtmncoldaemcnlaaGreatDoor
open Go.RowKit

/-- Parts that may be held. -/
def PartOk (f : Nat → Int) : Prop := ∀ j, j < 3 → 0 ≤ f j ∧ f j ≤ 1000
theorem partV_le {l : List UInt8} (h : partE l = 0) : 0 ≤ partV l ∧ partV l ≤ 999 := by
  unfold partE at h
  unfold partV
  cases e : numF l with
  | none => rw [e] at h; simp at h
  | some v =>
    rw [e] at h
    simp only at h
    split at h
    · cases h
    · split at h
      · cases h
      · simp only [Option.getD_some]
        omega
theorem verE_parts {s : ByteArray} (h : verE s = 0) : ∀ j, j < 3 → partE (dotB s j) = 0 := by
  unfold verE at h
  split at h
  · split at h
    · split at h
      · intro j hj
        rcases (show j = 0 ∨ j = 1 ∨ j = 2 by omega) with rfl | rfl | rfl <;> assumption
      · rename_i h9; exact absurd h h9
    · rename_i h9; exact absurd h h9
  · cases h
theorem verV_le {s : ByteArray} (h : verE s = 0) (j : Nat) (hj : j < 3) : 0 ≤ verV s j ∧ verV s j ≤ 999 := by
  rw [verV_ok h]
  exact partV_le (verE_parts h j hj)
def NumbP (n : Nat) (w : World) (e : Ending) (w' : World) : Prop := e = .returned (.int .i64 (n : Int)) ∧ Below w.heap.size w w'
theorem numV3_is {f : Nat → Int} (h : PartOk f) : (numV3 f : Int) = f 0 * 1000000 + f 1 * 1000 + f 2 := by
  have h0 := h 0 (by omega)
  have h1 := h 1 (by omega)
  have h2 := h 2 (by omega)
  unfold numV3
  omega
theorem numb_any (f : Nat → Int) (w : World) (h : PartOk f) : Calls Tryz.prog 112 #[.agg (verArr f)] w (NumbP (numV3 f) w) := by
  have h0 := h 0 (by omega)
  have h1 := h 1 (by omega)
  have h2 := h 2 (by omega)
  have hn := numV3_is h
  unfold NumbP
  rw [hn]
  unfold verArr
  clear hn h
  generalize f 0 = a at h0 ⊢
  generalize f 1 = b at h1 ⊢
  generalize f 2 = c at h2 ⊢
  go_enter Tryz.func112, Tryz.ntmps112
  go_wp2_with fail
  go_ret
  exact ⟨by first | rfl | (refine congrArg Ending.returned (congrArg (Value.int .i64) ?_); omega), (Below.refl w.heap.size w).alloc (Nat.le_refl _) _⟩
theorem refNum_any (f : Nat → Int) (w : World) (h : PartOk f) : Calls Tryz.prog 116 #[.agg (verArr f)] w (NumbP (numV3 f) w) := by
  have h0 := h 0 (by omega)
  have h1 := h 1 (by omega)
  have h2 := h 2 (by omega)
  have hn := numV3_is h
  unfold NumbP
  rw [hn]
  unfold verArr
  clear hn h
  generalize f 0 = a at h0 ⊢
  generalize f 1 = b at h1 ⊢
  generalize f 2 = c at h2 ⊢
  go_enter Tryz.func116, Tryz.ntmps116
  go_wp2_with fail
  go_ret
  exact ⟨by first | rfl | (refine congrArg Ending.returned (congrArg (Value.int .i64) ?_); omega), (Below.refl w.heap.size w).alloc (Nat.le_refl _) _⟩
def fun3 (a b c : Int) : Nat → Int := fun j => if j = 0 then a else if j = 1 then b else c
theorem fun3_ok {a b c : Int} (ha : 0 ≤ a ∧ a ≤ 1000) (hb : 0 ≤ b ∧ b ≤ 1000) (hc : 0 ≤ c ∧ c ≤ 1000) : PartOk (fun3 a b c) := fun j _ => by
  unfold fun3
  split
  · exact ha
  · split
    · exact hb
    · exact hc
theorem caret_any (f : Nat → Int) (w : World) (h : ∀ j, j < 3 → 0 ≤ f j ∧ f j ≤ 999) : Calls Tryz.prog 135 #[.agg (verArr f)] w (NumbP (caretN f) w) := by
  have h0 := h 0 (by omega)
  have h1 := h 1 (by omega)
  have h2 := h 2 (by omega)
  have e1 : numV3 (fun3 (f 0 + 1) 0 0) = ((f 0).toNat + 1) * 1000000 := by
    show (f 0 + 1).toNat * 1000000 + (0 : Int).toNat * 1000 + (0 : Int).toNat = _
    omega
  have e2 : numV3 (fun3 0 (f 1 + 1) 0) = ((f 1).toNat + 1) * 1000 := by
    show (0 : Int).toNat * 1000000 + (f 1 + 1).toNat * 1000 + (0 : Int).toNat = _
    omega
  have e3 : numV3 (fun3 0 0 (f 2 + 1)) = (f 2).toNat + 1 := by
    show (0 : Int).toNat * 1000000 + (0 : Int).toNat * 1000 + (f 2 + 1).toNat = _
    omega
  have e : NumbP (caretN f) w = NumbP (if 0 < f 0 then numV3 (fun3 (f 0 + 1) 0 0) else if 0 < f 1 then numV3 (fun3 0 (f 1 + 1) 0) else numV3 (fun3 0 0 (f 2 + 1))) w := by
    rw [e1, e2, e3]
    rfl
  rw [e]
  clear e e1 e2 e3 h
  unfold verArr
  generalize f 0 = a at h0 ⊢
  generalize f 1 = b at h1 ⊢
  generalize f 2 = c at h2 ⊢
  have n1 := Lib.hid fun W => numb_any (fun3 (a + 1) 0 0) W (fun3_ok (by omega) (by omega) (by omega))
  have n2 := Lib.hid fun W => numb_any (fun3 0 (b + 1) 0) W (fun3_ok (by omega) (by omega) (by omega))
  have n3 := Lib.hid fun W => numb_any (fun3 0 0 (c + 1)) W (fun3_ok (by omega) (by omega) (by omega))
  have ba := (Below.refl w.heap.size w).alloc (Nat.le_refl _) (.cells #[.int .i64 a, .int .i64 b, .int .i64 c] 33)
  by_cases ha : 0 < a
  · rw [if_pos ha]
    go_enter Tryz.func135, Tryz.ntmps135
    go_wp2_with (go_at_call 112; refine (n1.out _).mono ?_; rintro e w9 ⟨rfl, hb9⟩)
    go_ret
    exact ⟨rfl, verThen ba hb9⟩
  · rw [if_neg ha]
    by_cases hb : 0 < b
    · rw [if_pos hb]
      go_enter Tryz.func135, Tryz.ntmps135
      go_wp2_with (go_at_call 112; refine (n2.out _).mono ?_; rintro e w9 ⟨rfl, hb9⟩)
      go_ret
      exact ⟨rfl, verThen ba hb9⟩
    · rw [if_neg hb]
      go_enter Tryz.func135, Tryz.ntmps135
      go_wp2_with (go_at_call 112; refine (n3.out _).mono ?_; rintro e w9 ⟨rfl, hb9⟩)
      go_ret
      exact ⟨rfl, verThen ba hb9⟩
end Go.Proofs.YtmncoldaemcnlaaGreatDoor
