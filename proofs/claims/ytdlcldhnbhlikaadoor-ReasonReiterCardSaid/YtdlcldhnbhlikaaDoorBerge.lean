/-
  BERGE: the least sets that have something of each of some sets, set by set. No program in sight.
-/
import Derived.Test.YtdlcldhnbhlikaaDoorRefSets
namespace Go.Proofs.YtdlcldhnbhlikaaDoor

/-- Sets that have something of each of a list. -/
noncomputable def transL (vn : Nat) (l : List Nat) (x : Nat) : Bool := @decide (x < 2 ^ vn ∧ ∀ a ∈ l, a &&& x ≠ 0) (Classical.propDecidable _)
theorem transL_iff {vn : Nat} {l : List Nat} {x : Nat} : transL vn l x = true ↔ x < 2 ^ vn ∧ ∀ a ∈ l, a &&& x ≠ 0 := @decide_eq_true_iff _ (Classical.propDecidable _)
/-- The sets of one thing of a set, of its first k. -/
noncomputable def oneG (s k : Nat) (x : Nat) : Bool := @decide (∃ v, v < k ∧ s.testBit v = true ∧ x = 2 ^ v) (Classical.propDecidable _)
theorem oneG_iff {s k x : Nat} : oneG s k x = true ↔ ∃ v, v < k ∧ s.testBit v = true ∧ x = 2 ^ v := @decide_eq_true_iff _ (Classical.propDecidable _)
theorem oneG_zero (s : Nat) : oneG s 0 = fm0 := funext fun x => by
  rw [show fm0 x = false from rfl, Bool.eq_false_iff]
  intro h
  obtain ⟨v, hv, _⟩ := oneG_iff.1 h
  omega
theorem oneG_not {s k : Nat} (h : s.testBit k = false) : oneG s (k + 1) = oneG s k := funext fun x => by
  rw [Bool.eq_iff_iff, oneG_iff, oneG_iff]
  constructor
  · rintro ⟨v, h1, h2, h3⟩
    refine ⟨v, ?_, h2, h3⟩
    rcases Nat.lt_or_ge v k with e | e
    · exact e
    · obtain rfl : v = k := by omega
      rw [h] at h2; cases h2
  · rintro ⟨v, h1, h2, h3⟩
    exact ⟨v, by omega, h2, h3⟩
theorem oneG_put {s k : Nat} (h : s.testBit k = true) (x : Nat) : oneG s (k + 1) x = (oneG s k x || x == 2 ^ k) := by
  rw [Bool.eq_iff_iff, Bool.or_eq_true, oneG_iff, oneG_iff, beq_iff_eq]
  constructor
  · rintro ⟨v, h1, h2, h3⟩
    rcases Nat.lt_or_ge v k with e | e
    · exact .inl ⟨v, e, h2, h3⟩
    · obtain rfl : v = k := by omega
      exact .inr h3
  · rintro (⟨v, h1, h2, h3⟩ | h3)
    · exact ⟨v, by omega, h2, h3⟩
    · exact ⟨k, by omega, h, h3⟩
/-- Of a family, and of one of which each set has a part in the other, the least sets are the same. -/
theorem least_of {F G : FamB} (h1 : ∀ x, G x = true → F x = true) (h2 : ∀ x, F x = true → ∃ y, G y = true ∧ subN y x = true) : leastG G = leastG F := funext fun x => by
  rw [Bool.eq_iff_iff, leastG_iff, leastG_iff]
  constructor
  · rintro ⟨a, b⟩
    refine ⟨h1 x a, fun t ht hs => ?_⟩
    obtain ⟨y, hy, hyt⟩ := h2 t ht
    have := b y hy (sub_trans hyt hs)
    subst this
    have e1 := sub_le hyt
    have e2 := sub_le hs
    omega
  · rintro ⟨a, b⟩
    obtain ⟨y, hy, hyx⟩ := h2 x a
    have := b y (h1 y hy) hyx
    subst this
    exact ⟨hy, fun t ht hs => b t (h1 t ht) hs⟩
theorem and_ne {a x v : Nat} (h1 : a.testBit v = true) (h2 : x.testBit v = true) : a &&& x ≠ 0 := fun e => by
  have : (a &&& x).testBit v = true := by rw [Nat.testBit_and, h1, h2]; rfl
  rw [e] at this
  simp at this
theorem and_bit {a x : Nat} (h : a &&& x ≠ 0) : ∃ v, a.testBit v = true ∧ x.testBit v = true := by
  obtain ⟨v, hv⟩ := Nat.exists_testBit_of_ne_zero h
  rw [Nat.testBit_and, Bool.and_eq_true] at hv
  exact ⟨v, hv⟩
/-- No set yet: the empty one. -/
theorem berge_nil (vn : Nat) : leastG (transL vn []) = fm1 := funext fun x => by
  rw [Bool.eq_iff_iff, leastG_iff, show fm1 x = (x == 0) from rfl, beq_iff_eq]
  constructor
  · rintro ⟨_, h⟩
    exact (h 0 (transL_iff.2 ⟨Nat.two_pow_pos vn, fun a ha => by cases ha⟩) (subN_iff.2 fun y hy => by simp at hy)).symm
  · rintro rfl
    exact ⟨transL_iff.2 ⟨Nat.two_pow_pos vn, fun a ha => by cases ha⟩, fun t _ hs => by have := sub_le hs; omega⟩
/-- A set more. -/
theorem berge_snoc {vn s : Nat} {l : List Nat} (hs : s < 2 ^ vn) : leastG (joinG (leastG (transL vn l)) (oneG s vn)) = leastG (transL vn (l ++ [s])) := by
  refine least_of (fun x hx => ?_) fun x hx => ?_
  · obtain ⟨y, z, h1, h2, h3⟩ := joinG_iff.1 hx
    obtain ⟨v, hv, hb, rfl⟩ := oneG_iff.1 h2
    obtain ⟨hy, hh⟩ := transL_iff.1 (leastG_iff.1 h1).1
    subst h3
    refine transL_iff.2 ⟨Nat.or_lt_two_pow hy (Nat.pow_lt_pow_right (by decide) hv), fun a ha => ?_⟩
    rcases List.mem_append.1 ha with ha | ha
    · obtain ⟨w, hw1, hw2⟩ := and_bit (hh a ha)
      exact and_ne hw1 (by rw [Nat.testBit_or, hw2]; rfl)
    · rw [List.mem_singleton.1 ha]
      exact and_ne hb (by rw [Nat.testBit_or]; simp)
  · obtain ⟨hx1, hx2⟩ := transL_iff.1 hx
    obtain ⟨v, hv1, hv2⟩ := and_bit (hx2 s (List.mem_append_right _ (List.mem_singleton.2 rfl)))
    obtain ⟨m, hm1, hm2⟩ := least_ex (transL vn l) x x (Nat.le_refl _) (transL_iff.2 ⟨hx1, fun a ha => hx2 a (List.mem_append_left _ ha)⟩)
    have hv : v < vn := by
      rcases Nat.lt_or_ge v vn with e | e
      · exact e
      · rw [Nat.testBit_lt_two_pow (Nat.lt_of_lt_of_le hs (Nat.pow_le_pow_right (by decide) e))] at hv1; cases hv1
    refine ⟨m ||| 2 ^ v, joinG_iff.2 ⟨m, 2 ^ v, hm1, oneG_iff.2 ⟨v, hv, hv1, rfl⟩, rfl⟩, subN_iff.2 fun y hy => ?_⟩
    rw [Nat.testBit_or, Bool.or_eq_true] at hy
    rcases hy with hy | hy
    · exact subN_iff.1 hm2 y hy
    · rw [Nat.testBit_two_pow] at hy
      have : v = y := by simpa using hy
      subst this
      exact hv2
/-- The document's Hits. -/
noncomputable def transG (vn : Nat) (F : FamB) (x : Nat) : Bool := @decide (x < 2 ^ vn ∧ ∀ a, F a = true → a &&& x ≠ 0) (Classical.propDecidable _)
theorem transG_iff {vn : Nat} {F : FamB} {x : Nat} : transG vn F x = true ↔ x < 2 ^ vn ∧ ∀ a, F a = true → a &&& x ≠ 0 := @decide_eq_true_iff _ (Classical.propDecidable _)
theorem trans_sets {vn : Nat} {F : FamB} (hd : ∀ a, F a = true → a < 64) : transL vn (setsL F) = transG vn F := funext fun x => by
  rw [Bool.eq_iff_iff, transL_iff, transG_iff]
  have hm : ∀ a, a ∈ setsL F ↔ F a = true := fun a => by
    unfold setsL
    rw [List.mem_filter, List.mem_range]
    exact ⟨fun h => h.2, fun h => ⟨hd a h, h⟩⟩
  exact ⟨fun h => ⟨h.1, fun a ha => h.2 a ((hm a).2 ha)⟩, fun h => ⟨h.1, fun a ha => h.2 a ((hm a).1 ha)⟩⟩
/-! ### Few low nodes hang on one handle -/
def kidsA (A : Ar) (y : Int) : List Int := match gotA A y with | some d => [d.low, d.high] | none => []
def pathL (A : Ar) (h : Int) : Nat → List Int
  | 0 => [h]
  | j + 1 => (pathL A h j).flatMap (kidsA A)
theorem kids_len (A : Ar) (y : Int) : (kidsA A y).length ≤ 2 := by unfold kidsA; split <;> simp
theorem flat_len (A : Ar) : ∀ l : List Int, (l.flatMap (kidsA A)).length ≤ 2 * l.length
  | [] => by simp
  | a :: l => by
    have := flat_len A l
    have := kids_len A a
    rw [List.flatMap_cons, List.length_append, List.length_cons]
    omega
theorem path_len (A : Ar) (h : Int) : ∀ j, (pathL A h j).length ≤ 2 ^ j
  | 0 => by simp [pathL]
  | j + 1 => by
    have h1 := flat_len A (pathL A h j)
    have h2 := path_len A h j
    show ((pathL A h j).flatMap (kidsA A)).length ≤ _
    rw [Nat.pow_succ]
    omega
theorem reach_level {A : Ar} {h x : Int} (hw : WfA A) (r : ReachA A [h] x) : ∃ j : Nat, x ∈ pathL A h j ∧ topA A h + j ≤ topA A x := by
  have key : ∀ {y : Int} {d : Nd} (b : Bool), gotA A y = some d → (∃ j : Nat, y ∈ pathL A h j ∧ topA A h + j ≤ topA A y) → ∃ j : Nat, (if b then d.high else d.low) ∈ pathL A h j ∧ topA A h + j ≤ topA A (if b then d.high else d.low) := by
    intro y d b e ⟨j, h1, h2⟩
    have h3 := (hw.kid e b).1
    have h4 := top_some e
    refine ⟨j + 1, List.mem_flatMap.2 ⟨y, h1, ?_⟩, by omega⟩
    unfold kidsA
    rw [e]
    cases b <;> simp
  induction r with
  | base hm e => rw [List.mem_singleton.1 hm]; exact ⟨0, by simp [pathL], by omega⟩
  | low _ e _ ih => exact key false e ih
  | high _ e _ ih => exact key true e ih
theorem low3_sweep {A : Ar} {h : Int} (hw : WfA A) : low3 (sweepA A [h]) ≤ 7 := by
  unfold low3 numV
  have h1 : (atV (sweepA A [h]) fun x => decide (x < 3)).length ≤ (pathL A h 0 ++ (pathL A h 1 ++ pathL A h 2)).length := by
    refine inj_len (f := fun k : Nat => (k : Int) + 2) _ _ (List.nodup_range.filter _) (fun x _ y _ e => by omega) fun k hk => ?_
    obtain ⟨n, hn, hp⟩ := mem_atV.1 hk
    have hg : gotA (sweepA A [h]) ((k : Int) + 2) = some n := gotA_k.trans hn
    obtain ⟨hg1, hr⟩ := (sweep_got A [h] _ n).1 hg
    obtain ⟨j, hj, ht⟩ := reach_level hw hr
    have h2 := top_some hg1
    have h3 := (hw.topR h).1
    have h4 : n.var < 3 := by simpa using hp
    have hj2 : j = 0 ∨ j = 1 ∨ j = 2 := by omega
    rcases hj2 with rfl | rfl | rfl
    · exact List.mem_append_left _ hj
    · exact List.mem_append_right _ (List.mem_append_left _ hj)
    · exact List.mem_append_right _ (List.mem_append_right _ hj)
  have l0 := path_len A h 0
  have l1 := path_len A h 1
  have l2 := path_len A h 2
  rw [List.length_append, List.length_append] at h1
  simp only [Nat.pow_zero, Nat.pow_one] at l0 l1
  have : (2 : Nat) ^ 2 = 4 := by decide
  omega
end Go.Proofs.YtdlcldhnbhlikaaDoor
