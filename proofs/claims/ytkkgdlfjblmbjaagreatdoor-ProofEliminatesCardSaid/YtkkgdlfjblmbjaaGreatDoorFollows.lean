/-
  The program's Follows.
-/
import Derived.Test.YtkkgdlfjblmbjaaGreatDoorFollow
namespace Go.Proofs.YtkkgdlfjblmbjaaGreatDoor
open Go.RowKit

theorem isErr_code {w : World} {c : Int} (h1 : 1 ≤ c) (h2 : c ≤ 13) : IsErr w (.iface 24 (.int .i64 c)) (c, -1) := .inr (.inl ⟨rfl, h1, h2, rfl⟩)

theorem firstBad_ok (vars : Int) : ∀ (ls : List (List Int)) (i : Nat), firstBad vars ls i = (0, -1) → ∀ k, k < ls.length → (ls.getD k []).length ≤ 48 ∧ (ls.getD k []).any (badB vars) = false := by
  intro ls
  induction ls with
  | nil => intro i _ k hk; exact absurd hk (Nat.not_lt_zero _)
  | cons c cs ih =>
    intro i h k hk
    unfold firstBad at h
    by_cases h1 : 48 < c.length
    · rw [if_pos h1] at h
      simp at h
    · rw [if_neg h1] at h
      by_cases h2 : c.any (badB vars) = true
      · rw [if_pos h2] at h
        simp at h
      · rw [if_neg h2] at h
        cases k with
        | zero => exact ⟨by simp; omega, by simpa using h2⟩
        | succ k => exact ih (i + 1) h k (by simpa using hk)
structure CheckOk (vars : Int) (ls : List (List Int)) : Prop where
  v0 : 0 ≤ vars
  v1 : vars ≤ 24
  many : ls.length ≤ 200
  rows : ∀ k, k < ls.length → (ls.getD k []).length ≤ 48 ∧ (ls.getD k []).any (badB vars) = false
theorem checkF_ok {vars : Int} {ls : List (List Int)} (h : checkF vars ls = (0, -1)) : CheckOk vars ls := by
  unfold checkF at h
  by_cases h1 : vars < 0 ∨ 24 < vars
  · rw [if_pos h1] at h; simp at h
  · rw [if_neg h1] at h
    by_cases h2 : 200 < ls.length
    · rw [if_pos h2] at h; simp at h
    · rw [if_neg h2] at h
      exact ⟨by omega, by omega, by omega, firstBad_ok vars ls 0 h⟩
theorem CheckOk.lits {vars : Int} {ls : List (List Int)} (h : CheckOk vars ls) : okRows ls := by
  intro k hk x hx
  have := List.any_eq_false.1 (h.rows k hk).2 x hx
  exact badB_lit (by simpa using this) h.v1

def lawF (vars : Int) (ls : List (List Int)) (a : List Int) : List Int × Int × (Int × Int) :=
  if checkF vars ls = (0, -1) then ((followF vars ls a).1, (followF vars ls a).2.1, if (followF vars ls a).2.2 = 0 then (0, -1) else ((followF vars ls a).2.2, -1)) else ([], 0, checkF vars ls)
theorem lawF_bad {vars : Int} {ls : List (List Int)} {a : List Int} (h : checkF vars ls ≠ (0, -1)) : lawF vars ls a = ([], 0, checkF vars ls) := by unfold lawF; rw [if_neg h]
theorem lawF_arg {vars : Int} {ls : List (List Int)} {a : List Int} (h : checkF vars ls = (0, -1)) (h2 : assumeGo vars [] a = none) : lawF vars ls a = ([], 0, (1, -1)) := by
  unfold lawF; rw [if_pos h, followF_none h2]; rfl
theorem lawF_some {vars : Int} {ls : List (List Int)} {a tr : List Int} (h : checkF vars ls = (0, -1)) (h2 : assumeGo vars [] a = some tr) : lawF vars ls a = ((spreadR ls tr).1, (spreadR ls tr).2, (0, -1)) := by
  unfold lawF; rw [if_pos h, followF_some h2]; rfl

def FolProgPost (w : World) (r : List Int × Int × (Int × Int)) (e : Ending) (w' : World) : Prop :=
  ∃ A n c v, e = .returned (.tuple #[.slice A n c, .int .i64 r.2.1, v]) ∧ Ints w' w'.heap.size A n r.1 ∧ IsErr w' v r.2.2 ∧ Below w.heap.size w w'

theorem stCells_nil : stCells [] (.slice none 0 0) = #[.int .i64 0, .int .i64 0, .int .i64 0, .int .i64 0, .int .i64 0, .int .i64 0, .int .i64 0, .int .i64 0, .int .i64 0, .int .i64 0, .int .i64 0, .int .i64 0, .int .i64 0, .int .i64 0, .int .i64 0, .int .i64 0, .int .i64 0, .int .i64 0, .int .i64 0, .int .i64 0, .int .i64 0, .int .i64 0, .int .i64 0, .int .i64 0, .slice none 0 0] := by
  unfold stCells litT
  rfl

end Go.Proofs.YtkkgdlfjblmbjaaGreatDoor
