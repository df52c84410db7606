/-
  Plain functions on lists of ints: what the small functions of the clauses compute. No program in sight.
-/
import Derived.Test.YtfbhmkpihmcegaaWords
namespace Go.Proofs.Ytfbhmkpihmcegaa

def badB (vars x : Int) : Bool := decide (x = 0 ∨ vars < x ∨ x < -vars)
def rightB (zs : List Int) : Bool := zs.all (fun x => !badB 24 x) && decide (zs.length ≤ 60)
theorem badB_t {v x : Int} (h : x = 0 ∨ v < x ∨ x < -v) : badB v x = true := by unfold badB; exact decide_eq_true h
theorem badB_f {v x : Int} (h : ¬ (x = 0 ∨ v < x ∨ x < -v)) : badB v x = false := by unfold badB; exact decide_eq_false h

/-- The first clause that may not be: (code, place); (0, -1): none. -/
def firstBad (vars : Int) : List (List Int) → Nat → Int × Int
  | [], _ => (0, -1)
  | c :: cs, i => if 48 < c.length then (4, (i : Int)) else if c.any (badB vars) then (2, (i : Int)) else firstBad vars cs (i + 1)
def checkF (vars : Int) (ls : List (List Int)) : Int × Int :=
  if vars < 0 ∨ 24 < vars then (2, -1) else if 200 < ls.length then (4, -1) else firstBad vars ls 0
theorem all_of_take {α : Type} (p : α → Bool) (l : List α) (k : Nat) (d : α) (hk : k < l.length) (h : (l.take k).all p = true) (hp : p (l.getD k d) = true) : (l.take (k + 1)).all p = true := by
  rw [take_snoc l k d hk]
  generalize l.getD k d = x at *; simp [List.all_append, h, hp]
theorem all_false_at {α : Type} (p : α → Bool) (l : List α) (k : Nat) (d : α) (hk : k < l.length) (hp : p (l.getD k d) = false) : l.all p = false := by
  rw [List.all_eq_false]
  refine ⟨l.getD k d, ?_, by rw [hp]; simp⟩
  rw [List.getD_eq_getElem?_getD, List.getElem?_eq_getElem hk]; exact List.getElem_mem hk
theorem any_true_at {α : Type} (p : α → Bool) (l : List α) (k : Nat) (d : α) (hk : k < l.length) (hp : p (l.getD k d) = true) : l.any p = true := by
  rw [List.any_eq_true]
  refine ⟨l.getD k d, ?_, hp⟩
  rw [List.getD_eq_getElem?_getD, List.getElem?_eq_getElem hk]; exact List.getElem_mem hk
theorem any_false_take {α : Type} (p : α → Bool) (l : List α) (k : Nat) (d : α) (hk : k < l.length) (h : (l.take k).any p = false) (hp : p (l.getD k d) = false) : (l.take (k + 1)).any p = false := by
  rw [take_snoc l k d hk]
  generalize l.getD k d = x at *; simp [List.any_append, h, hp]
theorem take_all {α : Type} (l : List α) (k : Nat) (h : l.length ≤ k) : l.take k = l := List.take_of_length_le h
theorem firstBad_nil (v : Int) (i : Nat) : firstBad v [] i = (0, -1) := rfl
theorem firstBad_long (v : Int) (ls : List (List Int)) (k : Nat) (hk : k < ls.length) (h : 48 < (ls.getD k []).length) : firstBad v (ls.drop k) k = (4, (k : Int)) := by
  rw [getD_cons_drop ls k [] hk, firstBad, if_pos h]
theorem firstBad_bad (v : Int) (ls : List (List Int)) (k : Nat) (hk : k < ls.length) (h : ¬ 48 < (ls.getD k []).length) (hb : (ls.getD k []).any (badB v) = true) : firstBad v (ls.drop k) k = (2, (k : Int)) := by
  rw [getD_cons_drop ls k [] hk, firstBad, if_neg h, if_pos hb]
theorem firstBad_next (v : Int) (ls : List (List Int)) (k : Nat) (hk : k < ls.length) (h : ¬ 48 < (ls.getD k []).length) (hb : (ls.getD k []).any (badB v) = false) : firstBad v (ls.drop k) k = firstBad v (ls.drop (k + 1)) (k + 1) := by
  rw [getD_cons_drop ls k [] hk, firstBad, if_neg h, if_neg (by rw [hb]; simp)]
theorem checkF_range {v : Int} (ls : List (List Int)) (h : v < 0 ∨ 24 < v) : checkF v ls = (2, -1) := by unfold checkF; rw [if_pos h]
theorem checkF_many {v : Int} {ls : List (List Int)} (h : ¬ (v < 0 ∨ 24 < v)) (hl : 200 < ls.length) : checkF v ls = (4, -1) := by unfold checkF; rw [if_neg h, if_pos hl]
theorem checkF_else {v : Int} {ls : List (List Int)} (h : ¬ (v < 0 ∨ 24 < v)) (hl : ¬ 200 < ls.length) : checkF v ls = firstBad v ls 0 := by unfold checkF; rw [if_neg h, if_neg hl]
end Go.Proofs.Ytfbhmkpihmcegaa
