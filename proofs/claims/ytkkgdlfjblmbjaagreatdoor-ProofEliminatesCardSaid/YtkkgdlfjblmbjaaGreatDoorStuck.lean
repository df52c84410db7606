/-
  Plain law: whether unit propagation ends in a clause that can't hold does not depend on its order: it does not, just if some set of literals holds all that is told and is stable ('stuck').
-/
import Derived.Test.YtkkgdlfjblmbjaaGreatDoorUnit
namespace Go.Proofs.YtkkgdlfjblmbjaaGreatDoor

def Stable (ls : List (List Int)) (T : List Int) : Prop := Cons T ∧ ∀ c ∈ ls, unitF T c = (0, true)
def stuck (ls : List (List Int)) (tr : List Int) : Prop := ∃ T, Stable ls T ∧ ∀ x ∈ tr, x ∈ T

theorem unitGo_skip (T : List Int) : ∀ (c : List Int) (left : Int), (left ≠ 0 → left ∉ T ∧ -left ∉ T) → unitGo T left c = (0, true) → (∀ x ∈ c, x ≠ 0) →
    (∃ y ∈ c, y ∈ T) ∨ ∃ y z, y ≠ z ∧ (y ∈ c ∨ y = left ∧ left ≠ 0) ∧ z ∈ c ∧ (y ∉ T ∧ -y ∉ T) ∧ z ∉ T ∧ -z ∉ T := by
  intro c
  induction c with
  | nil =>
    intro left _ h _
    unfold unitGo at h
    simp only [Prod.mk.injEq, decide_eq_true_eq] at h
    exact absurd h.1 h.2
  | cons x xs ih =>
    intro left hl h hz
    have hz' : ∀ y ∈ xs, y ≠ 0 := fun y hy => hz y (List.mem_cons_of_mem _ hy)
    unfold unitGo at h
    by_cases h1 : x ∈ T
    · exact .inl ⟨x, List.mem_cons_self .., h1⟩
    · rw [if_neg h1] at h
      by_cases h2 : -x ∈ T
      · rw [if_pos h2] at h
        rcases ih left hl h hz' with ⟨y, hy, hT⟩ | ⟨y, z, hne, hy, hzm, hu, hv⟩
        · exact .inl ⟨y, List.mem_cons_of_mem _ hy, hT⟩
        · exact .inr ⟨y, z, hne, hy.imp (List.mem_cons_of_mem _) id, List.mem_cons_of_mem _ hzm, hu, hv⟩
      · rw [if_neg h2] at h
        by_cases h3 : left ≠ 0 ∧ left ≠ x
        · exact .inr ⟨left, x, h3.2, .inr ⟨rfl, h3.1⟩, List.mem_cons_self .., hl h3.1, h1, h2⟩
        · rw [if_neg h3] at h
          rcases ih x (fun _ => ⟨h1, h2⟩) h hz' with ⟨y, hy, hT⟩ | ⟨y, z, hne, hy, hzm, hu, hv⟩
          · exact .inl ⟨y, List.mem_cons_of_mem _ hy, hT⟩
          · refine .inr ⟨y, z, hne, ?_, List.mem_cons_of_mem _ hzm, hu, hv⟩
            rcases hy with hy | ⟨hy, _⟩
            · exact .inl (List.mem_cons_of_mem _ hy)
            · exact .inl (hy ▸ List.mem_cons_self ..)

theorem unitGo_hit (tr : List Int) : ∀ (c : List Int) (left x : Int) (b : Bool), unitGo tr left c = (x, b) → (x, b) ≠ (0, true) → (∀ y ∈ c, y ≠ 0) →
    (∀ y ∈ c, y ∉ tr ∧ (-y ∈ tr ∨ y = x)) ∧ (left ≠ 0 → left = x) := by
  intro c
  induction c with
  | nil =>
    intro left x b h _ _
    unfold unitGo at h
    simp only [Prod.mk.injEq] at h
    exact ⟨fun y hy => absurd hy (by simp), fun _ => h.1⟩
  | cons a xs ih =>
    intro left x b h hne hz
    have hz' : ∀ y ∈ xs, y ≠ 0 := fun y hy => hz y (List.mem_cons_of_mem _ hy)
    unfold unitGo at h
    by_cases h1 : a ∈ tr
    · rw [if_pos h1] at h; exact absurd h.symm hne
    · rw [if_neg h1] at h
      by_cases h2 : -a ∈ tr
      · rw [if_pos h2] at h
        have := ih left x b h hne hz'
        refine ⟨fun y hy => ?_, this.2⟩
        rcases List.mem_cons.1 hy with e | hy
        · rw [e]; exact ⟨h1, .inl h2⟩
        · exact this.1 y hy
      · rw [if_neg h2] at h
        by_cases h3 : left ≠ 0 ∧ left ≠ a
        · rw [if_pos h3] at h; exact absurd h.symm hne
        · rw [if_neg h3] at h
          have := ih a x b h hne hz'
          have ha := this.2 (hz a (List.mem_cons_self ..))
          refine ⟨fun y hy => ?_, fun hl => ?_⟩
          · rcases List.mem_cons.1 hy with e | hy
            · rw [e]; exact ⟨h1, .inr ha⟩
            · exact this.1 y hy
          · by_cases e : left = a
            · exact e.trans ha
            · exact absurd ⟨hl, e⟩ h3

/-- What a clause tells under part of a stable set is in the set; and it can hold. -/
theorem told_in {T tr : List Int} (hT : Cons T) (hs : ∀ x ∈ tr, x ∈ T) {c : List Int} (hz : ∀ y ∈ c, y ≠ 0) (h : unitF T c = (0, true)) {x : Int} {b : Bool} (hu : unitF tr c = (x, b)) (hne : (x, b) ≠ (0, true)) : x ≠ 0 ∧ x ∈ T := by
  have h2 := (unitGo_hit tr c 0 x b hu hne hz).1
  have far : ∀ y ∈ c, -y ∉ T → y = x := fun y hy hn => (h2 y hy).2.resolve_left fun k => hn (hs _ k)
  rcases unitGo_skip T c 0 (fun h => absurd rfl h) h hz with ⟨y, hy, hyT⟩ | ⟨y, z, hyz, hy, hzm, hu1, hv⟩
  · have := far y hy (hT.no_both hyT)
    subst this
    exact ⟨hz _ hy, hyT⟩
  · have hy := hy.resolve_right fun k => k.2 rfl
    exact absurd ((far y hy hu1.2).trans (far z hzm hv.2).symm) hyz

theorem stuck_step {ls : List (List Int)} {tr : List Int} {c : List Int} (hc : c ∈ ls) (hz : ∀ y ∈ c, y ≠ 0) {x : Int} {b : Bool} (hu : unitF tr c = (x, b)) (hne : (x, b) ≠ (0, true)) : stuck ls tr ↔ x ≠ 0 ∧ stuck ls (tr ++ [x]) := by
  constructor
  · rintro ⟨T, hT, hs⟩
    have := told_in hT.1 hs hz (hT.2 c hc) hu hne
    refine ⟨this.1, T, hT, fun y hy => ?_⟩
    rcases List.mem_append.1 hy with hy | hy
    · exact hs y hy
    · rw [List.mem_singleton.1 hy]; exact this.2
  · rintro ⟨_, T, hT, hs⟩
    exact ⟨T, hT, fun y hy => hs y (List.mem_append.2 (.inl hy))⟩
theorem stuck_end {ls : List (List Int)} {tr : List Int} (hc : Cons tr) (h : ∀ c ∈ ls, unitF tr c = (0, true)) : stuck ls tr := ⟨tr, ⟨hc, h⟩, fun _ hx => hx⟩
theorem stuck_same {ls : List (List Int)} {tr tr' : List Int} (h : ∀ x, x ∈ tr ↔ x ∈ tr') : stuck ls tr ↔ stuck ls tr' :=
  ⟨fun ⟨T, hT, hs⟩ => ⟨T, hT, fun x hx => hs x ((h x).2 hx)⟩, fun ⟨T, hT, hs⟩ => ⟨T, hT, fun x hx => hs x ((h x).1 hx)⟩⟩

theorem scan_none {tr : List Int} : ∀ {ls : List (List Int)} {i : Nat}, scanF tr ls i = none → ∀ c ∈ ls, unitF tr c = (0, true) := by
  intro ls
  induction ls with
  | nil => intro i _ c hc; cases hc
  | cons a ls ih =>
    intro i h c hc
    unfold scanF at h
    by_cases h1 : unitF tr a = (0, true)
    · rw [if_pos h1] at h
      rcases List.mem_cons.1 hc with e | hc
      · rw [e]; exact h1
      · exact ih h c hc
    · rw [if_neg h1] at h; cases h
theorem scan_some {tr : List Int} : ∀ {ls : List (List Int)} {i k : Nat} {x : Int}, scanF tr ls i = some (k, x) → ∃ c ∈ ls, (unitF tr c).1 = x ∧ unitF tr c ≠ (0, true) := by
  intro ls
  induction ls with
  | nil => intro i k x h; cases h
  | cons a ls ih =>
    intro i k x h
    unfold scanF at h
    by_cases h1 : unitF tr a = (0, true)
    · rw [if_pos h1] at h
      obtain ⟨c, hc, h2⟩ := ih h
      exact ⟨c, List.mem_cons_of_mem _ hc, h2⟩
    · rw [if_neg h1] at h
      simp only [Option.some.injEq, Prod.mk.injEq] at h
      exact ⟨a, List.mem_cons_self .., h.2, h1⟩

def LitsOk (ls : List (List Int)) : Prop := ∀ c ∈ ls, ∀ x ∈ c, litOk x
theorem litOk_ne {x : Int} (h : litOk x) : x ≠ 0 := by rcases h with h | h <;> omega
theorem lits_rows {ls : List (List Int)} (h : okRows ls) : LitsOk ls := by
  intro c hc
  obtain ⟨k, hk, e⟩ := List.getElem_of_mem hc
  have := h k hk
  rw [List.getD_eq_getElem?_getD, List.getElem?_eq_getElem hk] at this
  rw [← e]
  exact this

theorem spreadF_stuck (ls : List (List Int)) (hok : LitsOk ls) : ∀ (f : Nat) (tr : List Int), Cons tr → 25 ≤ f + tr.length → ((spreadF f ls tr).2 < 0 ↔ stuck ls tr) := by
  intro f
  induction f with
  | zero => intro tr hc h; have := hc.len; omega
  | succ f ih =>
    intro tr hc h
    unfold spreadF
    rcases hs : scanF tr ls 0 with _ | ⟨i, x⟩
    · simp only
      exact ⟨fun _ => stuck_end hc (scan_none hs), fun _ => by omega⟩
    · simp only
      obtain ⟨c, hcm, hx, hne⟩ := scan_some hs
      have hz : ∀ y ∈ c, y ≠ 0 := fun y hy => litOk_ne (hok c hcm y hy)
      have hst := stuck_step hcm hz (x := (unitF tr c).1) (b := (unitF tr c).2) rfl hne
      rw [hx] at hst
      by_cases h0 : x = 0
      · rw [if_pos h0]
        refine ⟨fun h => ?_, fun h => absurd h0 (hst.1 h).1⟩
        simp only at h
        omega
      · rw [if_neg h0]
        have hcx : Cons (tr ++ [x]) := by
          rcases unit_three tr c (hok c hcm) with e | e | ⟨y, _, e, hl, h1, h2⟩
          · exact absurd e hne
          · rw [e] at hx; exact absurd hx.symm h0
          · rw [e] at hx
            simp only at hx
            subst hx
            exact hc.snoc hl h1 h2
        rw [ih (tr ++ [x]) hcx (by simp; omega), hst]
        exact ⟨fun h => ⟨h0, h⟩, fun h => h.2⟩
theorem spread_stuck {ls : List (List Int)} (hok : LitsOk ls) {tr : List Int} (hc : Cons tr) : (spreadR ls tr).2 < 0 ↔ stuck ls tr :=
  spreadF_stuck ls hok _ tr hc (by have := hc.len; omega)

/-! ### what 8.3 asks of one clause -/
def bothB (c : List Int) : Bool := c.any fun x => c.contains (-x)
open Classical in
noncomputable def showB (vars : Int) (ls : List (List Int)) (c : List Int) : Bool :=
  if c.any (badB vars) then false else if bothB c then true else decide (¬ stuck ls (c.map fun x => -x))
theorem showB_bad {vars : Int} {ls : List (List Int)} {c : List Int} (h : c.any (badB vars) = true) : showB vars ls c = false := by unfold showB; rw [if_pos h]
theorem showB_both {vars : Int} {ls : List (List Int)} {c : List Int} (h : c.any (badB vars) = false) (h2 : bothB c = true) : showB vars ls c = true := by unfold showB; rw [if_neg (by rw [h]; decide), if_pos h2]
theorem showB_t {vars : Int} {ls : List (List Int)} {c : List Int} (h : c.any (badB vars) = false) (h3 : ¬ stuck ls (c.map fun x => -x)) : showB vars ls c = true := by
  unfold showB; rw [if_neg (by rw [h]; decide)]; split
  · rfl
  · simp [h3]
theorem showB_f {vars : Int} {ls : List (List Int)} {c : List Int} (h2 : bothB c = false) (h3 : stuck ls (c.map fun x => -x)) : showB vars ls c = false := by
  unfold showB; split
  · rfl
  · rw [if_neg (by rw [h2]; decide)]; simp [h3]
theorem bothB_t {c : List Int} {x : Int} (h : x ∈ c) (h' : -x ∈ c) : bothB c = true := List.any_eq_true.2 ⟨x, h, List.contains_iff_mem.2 h'⟩
theorem bothB_f {c : List Int} (h : ∀ x ∈ c, -x ∉ c) : bothB c = false := by
  rw [bothB, List.any_eq_false]
  intro x hx
  rw [List.contains_iff_mem]
  exact h x hx

/-! ### what 8.3 tells -/
noncomputable def showsGo (vars : Int) : List (List Int) → List (List Int) → Nat → Option Nat
  | _, [], _ => none
  | ls, c :: cs, i => if showB vars ls c = true then showsGo vars (ls ++ [c]) cs (i + 1) else some i
/-- (does it show it; the number). -/
noncomputable def showsF (vars : Int) (ls ps : List (List Int)) : Bool × Int := match showsGo vars ls ps 0 with
  | some i => (false, i)
  | none => (decide (ps ≠ [] ∧ ps.getLastD [] = []), ps.length)
theorem showsGo_drop {vars : Int} {ls ps : List (List Int)} {k : Nat} (hk : k < ps.length) (h : showB vars (ls ++ ps.take k) (ps.getD k []) = true) :
    showsGo vars (ls ++ ps.take k) (ps.drop k) k = showsGo vars (ls ++ ps.take (k + 1)) (ps.drop (k + 1)) (k + 1) := by
  rw [getD_cons_drop ps k [] hk, showsGo, if_pos h, take_snoc ps k [] hk, List.append_assoc]
theorem showsGo_hit {vars : Int} {ls ps : List (List Int)} {k : Nat} (hk : k < ps.length) (h : showB vars (ls ++ ps.take k) (ps.getD k []) = false) :
    showsGo vars (ls ++ ps.take k) (ps.drop k) k = some k := by
  rw [getD_cons_drop ps k [] hk, showsGo, if_neg (by rw [h]; decide)]
theorem showsGo_end {vars : Int} {ls ps : List (List Int)} : showsGo vars (ls ++ ps.take ps.length) (ps.drop ps.length) ps.length = none := by
  rw [List.drop_length, showsGo]
end Go.Proofs.YtkkgdlfjblmbjaaGreatDoor
