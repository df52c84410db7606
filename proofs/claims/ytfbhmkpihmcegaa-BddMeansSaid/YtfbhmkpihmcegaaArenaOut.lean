/-
  What has been seen of an arena, as a list of handles. No program in sight.
-/
import Derived.Test.YtfbhmkpihmcegaaArenaTab
namespace Go.Proofs.Ytfbhmkpihmcegaa

section
variable {A : Ar} {l : List Int} {seen : List Bool} {todo : List Int}
theorem SeenI.mem (H : SeenI A l seen todo) {todo' : List Int} (h1 : ∀ x ∈ todo, x ∈ todo') (h2 : ∀ x ∈ todo', x ∈ todo) : SeenI A l seen todo' :=
  ⟨H.len, H.sound, fun x hx => H.todoR x (h2 x hx), fun x hx n e => (H.start x hx n e).imp id (h1 x), fun k n hk e m em => (H.low k n hk e m em).imp id (h1 _), fun k n hk e m em => (H.high k n hk e m em).imp id (h1 _)⟩
/-- The handles below m that were seen. -/
def outL (seen : List Bool) (m : Nat) : List Int := ((List.range m).filter fun k : Nat => seen.getD k false).map fun k : Nat => (k : Int) + 2
theorem outL_succ (seen : List Bool) (m : Nat) : outL seen (m + 1) = outL seen m ++ (if seen.getD m false = true then [(m : Int) + 2] else []) := by
  unfold outL
  rw [List.range_succ, List.filter_append, List.map_append]
  congr 1
  by_cases h : seen.getD m false = true
  · rw [if_pos h, List.filter_cons, if_pos h]; rfl
  · rw [if_neg h, List.filter_cons, if_neg h]; rfl
theorem outL_zero (seen : List Bool) : outL seen 0 = [] := rfl
theorem outL_more (seen : List Bool) (m d : Nat) : ∃ r, outL seen (m + d) = outL seen m ++ r := by
  induction d with
  | zero => exact ⟨[], by simp⟩
  | succ d ih =>
    obtain ⟨r, hr⟩ := ih
    exact ⟨r ++ (if seen.getD (m + d) false = true then [((m + d : Nat) : Int) + 2] else []), by rw [← Nat.add_assoc, outL_succ, hr, List.append_assoc]⟩
theorem outL_len (seen : List Bool) : (outL seen seen.length).length = seen.countP id := by
  have h1 : ∀ m, m ≤ seen.length → (outL seen m).length = (seen.take m).countP id := by
    intro m
    induction m with
    | zero => intro _; simp [outL]
    | succ m ih =>
      intro hm
      rw [outL_succ, List.length_append, ih (by omega), List.take_add_one, List.countP_append, getD_of (d := false) (by omega)]
      congr 1
      by_cases h : seen.getD m false = true
      · rw [if_pos h, h]; rfl
      · rw [if_neg h, Bool.eq_false_iff.2 h]; rfl
  have := h1 seen.length (Nat.le_refl _)
  rw [List.take_length] at this
  exact this
theorem outL_stop {m : Nat} (hm : m ≤ seen.length) (h : seen.countP id ≤ (outL seen m).length) : outL seen m = outL seen seen.length := by
  obtain ⟨r, hr⟩ := outL_more seen m (seen.length - m)
  rw [show m + (seen.length - m) = seen.length by omega] at hr
  have h1 := outL_len seen
  rw [hr, List.length_append] at h1
  have hn : r = [] := List.eq_nil_of_length_eq_zero (by omega)
  rw [hr, hn, List.append_nil]
theorem outL_go {m : Nat} (h : (outL seen m).length < seen.countP id) : m < seen.length := by
  rcases Nat.lt_or_ge m seen.length with h1 | h1
  · exact h1
  · obtain ⟨r, hr⟩ := outL_more seen seen.length (m - seen.length)
    rw [show seen.length + (m - seen.length) = m by omega] at hr
    have h2 := outL_len seen
    rw [hr, List.length_append] at h
    omega
open Classical in
theorem SeenI.out (H : SeenI A l seen []) : outL seen A.length = reachL A l := by
  unfold outL reachL
  congr 1
  apply List.filter_congr
  intro k _
  by_cases h : seen.getD k false = true
  · rw [h, decide_eq_true ((H.fine k).1 h)]
  · rw [Bool.eq_false_iff.2 h, decide_eq_false (fun e => h ((H.fine k).2 e))]
end
end Go.Proofs.Ytfbhmkpihmcegaa
