/-
  The plain law of clauses in form; no program in sight.
-/
import Derived.Test.YtkkgdlfjblmbjaaGreatDoorStuck
import Derived.Test.YtkkgdlfjblmbjaaGreatDoorFollows
import Derived.Lib.SlicesCompact
import Derived.Lib.RowBridge
namespace Go.Proofs.YtkkgdlfjblmbjaaGreatDoor

def rank (x : Int) : Nat := 2 * x.natAbs + (if x < 0 then 1 else 0)
def beforeF (x y : Int) : Int := if x.natAbs = y.natAbs then y - x else (x.natAbs : Int) - y.natAbs
theorem before_rank (x y : Int) : beforeF x y < 0 ↔ rank x < rank y := by
  unfold beforeF rank
  split <;> split <;> split <;> omega
theorem rank_inj {x y : Int} (h : rank x = rank y) : x = y := by
  unfold rank at h
  split at h <;> split at h <;> omega
theorem rank_neg {x : Int} (h : 0 < x) : rank (-x) = rank x + 1 := by
  unfold rank
  rw [if_pos (by omega), if_neg (by omega)]
  omega

def Asc (l : List Int) : Prop := l.Pairwise (fun x y => rank x < rank y)
theorem asc_eq : ∀ (l m : List Int), Asc l → Asc m → (∀ x, x ∈ l ↔ x ∈ m) → l = m := by
  intro l
  induction l with
  | nil =>
    intro m _ _ h
    cases m with
    | nil => rfl
    | cons y ys => exact absurd ((h y).2 (List.mem_cons_self ..)) (by simp)
  | cons x xs ih =>
    intro m hl hm h
    cases m with
    | nil => exact absurd ((h x).1 (List.mem_cons_self ..)) (by simp)
    | cons y ys =>
      have hl1 := List.pairwise_cons.1 hl
      have hm1 := List.pairwise_cons.1 hm
      have e : x = y := by
        rcases List.mem_cons.1 ((h x).1 (List.mem_cons_self ..)) with e | hx
        · exact e
        · rcases List.mem_cons.1 ((h y).2 (List.mem_cons_self ..)) with e | hy
          · exact e.symm
          · have h1 := hm1.1 x hx
            have h2 := hl1.1 y hy
            omega
      subst e
      rw [ih ys hl1.2 hm1.2 fun z => ?_]
      constructor
      · intro hz
        rcases List.mem_cons.1 ((h z).1 (List.mem_cons_of_mem _ hz)) with e | hz'
        · subst e; have := hl1.1 z hz; omega
        · exact hz'
      · intro hz
        rcases List.mem_cons.1 ((h z).2 (List.mem_cons_of_mem _ hz)) with e | hz'
        · subst e; have := hm1.1 z hz; omega
        · exact hz'

def formOne (c : List Int) (v : Nat) : List Int := if (v : Int) ∈ c then [(v : Int)] else if -(v : Int) ∈ c then [-(v : Int)] else []
def formGo (c : List Int) : Nat → Nat → List Int
  | 0, _ => []
  | f + 1, v => formOne c v ++ formGo c f (v + 1)
noncomputable def formF (c : List Int) : List Int × Bool := if bothB c then ([], true) else (formGo c 24 1, false)
theorem formF_both {c : List Int} (h : bothB c = true) : formF c = ([], true) := by unfold formF; rw [if_pos h]
theorem formF_not {c : List Int} (h : bothB c = false) : formF c = (formGo c 24 1, false) := by unfold formF; rw [if_neg (by rw [h]; simp)]
theorem formOne_mem {c : List Int} {v : Nat} {x : Int} (h : x ∈ formOne c v) : x ∈ c ∧ x.natAbs = v := by
  unfold formOne at h
  split at h
  · rename_i hv; rw [List.mem_singleton.1 h]; exact ⟨hv, by omega⟩
  · split at h
    · rename_i hv; rw [List.mem_singleton.1 h]; exact ⟨hv, by omega⟩
    · cases h
theorem formGo_mem {c : List Int} : ∀ (f v : Nat) (x : Int), x ∈ formGo c f v → x ∈ c ∧ v ≤ x.natAbs ∧ x.natAbs < v + f := by
  intro f
  induction f with
  | zero => intro v x h; cases h
  | succ f ih =>
    intro v x h
    unfold formGo at h
    rcases List.mem_append.1 h with h | h
    · obtain ⟨h1, h2⟩ := formOne_mem h
      exact ⟨h1, by omega, by omega⟩
    · obtain ⟨h1, h2, h3⟩ := ih (v + 1) x h
      exact ⟨h1, by omega, by omega⟩
theorem mem_formGo {c : List Int} (hb : ∀ x ∈ c, -x ∉ c) : ∀ (f v : Nat) (x : Int), x ∈ c → v ≤ x.natAbs → x.natAbs < v + f → x ∈ formGo c f v := by
  intro f
  induction f with
  | zero => intro v x _ h1 h2; omega
  | succ f ih =>
    intro v x hx h1 h2
    unfold formGo
    by_cases hv : x.natAbs = v
    · refine List.mem_append.2 (.inl ?_)
      unfold formOne
      rcases Int.natAbs_eq x with e | e
      · rw [hv] at e
        rw [if_pos (e ▸ hx)]
        exact List.mem_singleton.2 e
      · rw [hv] at e
        have hn : (v : Int) ∉ c := fun h => hb x hx (by rw [e, Int.neg_neg]; exact h)
        rw [if_neg hn, if_pos (e ▸ hx)]
        exact List.mem_singleton.2 e
    · exact List.mem_append.2 (.inr (ih (v + 1) x hx (by omega) (by omega)))
theorem formOne_len (c : List Int) (v : Nat) : (formOne c v).length ≤ 1 := by
  unfold formOne; split
  · simp
  · split <;> simp
theorem formGo_len (c : List Int) : ∀ (f v : Nat), (formGo c f v).length ≤ f := by
  intro f
  induction f with
  | zero => intro v; exact Nat.le_refl _
  | succ f ih =>
    intro v
    unfold formGo
    have h1 := formOne_len c v
    have h2 := ih (v + 1)
    rw [List.length_append]; omega
theorem formGo_asc (c : List Int) : ∀ (f v : Nat), Asc (formGo c f v) := by
  intro f
  induction f with
  | zero => intro v; exact List.Pairwise.nil
  | succ f ih =>
    intro v
    unfold formGo Asc
    rw [List.pairwise_append]
    refine ⟨?_, ih (v + 1), fun a ha b hb => ?_⟩
    · unfold formOne
      split
      · exact List.pairwise_singleton _ _
      · split
        · exact List.pairwise_singleton _ _
        · exact List.Pairwise.nil
    · have h1 := (formOne_mem ha).2
      have h2 := (formGo_mem f (v + 1) b hb).2.1
      unfold rank
      split <;> split <;> omega

/-- Somewhere a literal stands behind its other side. -/
def adjAt (e : List Int) (i : Nat) : Prop := 1 ≤ i ∧ i < e.length ∧ e.getD i 0 = -(e.getD (i - 1) 0)
theorem getD_mem {e : List Int} {i : Nat} (h : i < e.length) : e.getD i 0 ∈ e := by
  rw [List.getD_eq_getElem?_getD, List.getElem?_eq_getElem h]; exact List.getElem_mem h
theorem asc_lt {e : List Int} (h : Asc e) {i j : Nat} (hij : i < j) (hj : j < e.length) : rank (e.getD i 0) < rank (e.getD j 0) := by
  rw [List.getD_eq_getElem?_getD, List.getD_eq_getElem?_getD, List.getElem?_eq_getElem hj, List.getElem?_eq_getElem (by omega)]
  exact List.pairwise_iff_getElem.1 h i j (by omega) hj hij
theorem adj_both {e : List Int} {i : Nat} (h : adjAt e i) : ∃ x ∈ e, -x ∈ e := by
  obtain ⟨h1, h2, h3⟩ := h
  exact ⟨e.getD (i - 1) 0, getD_mem (by omega), by rw [← h3]; exact getD_mem h2⟩
theorem at_of_mem {e : List Int} {x : Int} (h : x ∈ e) : ∃ i, i < e.length ∧ e.getD i 0 = x := by
  obtain ⟨i, hi, rfl⟩ := List.getElem_of_mem h
  exact ⟨i, hi, by rw [List.getD_eq_getElem?_getD, List.getElem?_eq_getElem hi]; rfl⟩
theorem both_adj' {e : List Int} (ha : Asc e) {x : Int} (hx : 0 < x) (h1 : x ∈ e) (h2 : -x ∈ e) : ∃ i, adjAt e i := by
  obtain ⟨p, hp, ep⟩ := at_of_mem h1
  obtain ⟨q, hq, eq⟩ := at_of_mem h2
  have hr := rank_neg hx
  have hpq : p < q := by
    rcases Nat.lt_trichotomy p q with h | h | h
    · exact h
    · subst h; rw [ep] at eq; omega
    · have := asc_lt ha h hp
      rw [ep, eq] at this; omega
  have hq1 : q = p + 1 := by
    rcases Nat.lt_or_ge (p + 1) q with h | h
    · have a1 := asc_lt ha (show p < p + 1 by omega) (by omega)
      have a2 := asc_lt ha h hq
      rw [ep] at a1
      rw [eq] at a2
      omega
    · omega
  subst hq1
  exact ⟨p + 1, by omega, hq, by rw [eq, Nat.add_sub_cancel, ep]⟩
theorem both_adj {e : List Int} (ha : Asc e) (h0 : (0 : Int) ∉ e) {x : Int} (h1 : x ∈ e) (h2 : -x ∈ e) : ∃ i, adjAt e i := by
  rcases Int.lt_trichotomy x 0 with h | h | h
  · exact both_adj' ha (x := -x) (by omega) h2 (by rw [Int.neg_neg]; exact h1)
  · subst h; exact absurd h1 h0
  · exact both_adj' ha h h1 h2

/-- Sorted, each once: the form. -/
theorem form_of {c e : List Int} (hok : ∀ x ∈ c, litOk x) (ha : Asc e) (hm : ∀ x, x ∈ e ↔ x ∈ c) (hn : ¬ ∃ i, adjAt e i) : formF c = (e, false) := by
  have h0 : (0 : Int) ∉ e := fun h => by rcases hok 0 ((hm 0).1 h) with h | h <;> omega
  have hb : ∀ x ∈ c, -x ∉ c := fun x hx h => hn (both_adj ha h0 ((hm x).2 hx) ((hm (-x)).2 h))
  rw [formF_not (bothB_f hb)]
  refine Prod.ext ?_ rfl
  refine asc_eq _ _ (formGo_asc c 24 1) ha fun x => ?_
  rw [hm]
  constructor
  · exact fun h => (formGo_mem 24 1 x h).1
  · intro h
    have := hok x h
    exact mem_formGo hb 24 1 x h (by rcases this with h | h <;> omega) (by rcases this with h | h <;> omega)
theorem form_both {c e : List Int} (hm : ∀ x, x ∈ e ↔ x ∈ c) {i : Nat} (h : adjAt e i) : formF c = ([], true) := by
  obtain ⟨x, h1, h2⟩ := adj_both h
  exact formF_both (bothB_t ((hm x).1 h1) ((hm (-x)).1 h2))

/-- What slices.Compact leaves of a sorted list. -/
theorem compact_up (d : Array Int) (hs : ∀ i j, i < j → j < d.size → rank d[i]! ≤ rank d[j]!) : ∀ m, m ≤ d.size →
    Asc (Lib.compactUpTo d m) ∧ (∀ x, x ∈ Lib.compactUpTo d m ↔ ∃ j, j < m ∧ d[j]! = x) := by
  intro m
  induction m with
  | zero => intro _; exact ⟨by simp [Lib.compactUpTo, Asc], by simp [Lib.compactUpTo]⟩
  | succ m ih =>
    intro hm
    obtain ⟨h1, h2⟩ := ih (by omega)
    rw [Lib.compactUpTo_succ]
    by_cases hk : Lib.keeps d m = true
    · rw [if_pos hk]
      refine ⟨?_, fun x => ?_⟩
      · unfold Asc
        rw [List.pairwise_append]
        refine ⟨h1, List.pairwise_singleton _ _, fun a ha b hb => ?_⟩
        obtain ⟨j, hj, rfl⟩ := (h2 a).1 ha
        rw [List.mem_singleton.1 hb]
        have hle := hs j m hj (by omega)
        rcases Nat.lt_or_ge (rank d[j]!) (rank d[m]!) with h | h
        · exact h
        · exfalso
          have hm1 : rank d[m - 1]! = rank d[m]! := by
            have a1 := hs (m - 1) m (by omega) (by omega)
            rcases Nat.lt_or_ge j (m - 1) with hj' | hj'
            · have := hs j (m - 1) hj' (by omega); omega
            · have : j = m - 1 := by omega
              subst this; omega
          have := rank_inj hm1
          rw [Lib.keeps_neg (by omega) this.symm] at hk
          cases hk
      · rw [List.mem_append, h2, List.mem_singleton]
        constructor
        · rintro (⟨j, hj, e⟩ | e)
          · exact ⟨j, by omega, e⟩
          · exact ⟨m, by omega, e.symm⟩
        · rintro ⟨j, hj, e⟩
          rcases Nat.lt_or_ge j m with h | h
          · exact .inl ⟨j, h, e⟩
          · have : j = m := by omega
            subst this; exact .inr e.symm
    · rw [if_neg hk, List.append_nil]
      have hm0 : 0 < m := by
        rcases Nat.eq_zero_or_pos m with h | h
        · subst h; exact absurd (Lib.keeps_lt_one d 0 (by omega)) hk
        · exact h
      have he : d[m]! = d[m - 1]! := by
        rcases Decidable.em (d[m]! = d[m - 1]!) with h | h
        · exact h
        · exact absurd (Lib.keeps_pos h) hk
      refine ⟨h1, fun x => ?_⟩
      rw [h2]
      constructor
      · rintro ⟨j, hj, e⟩; exact ⟨j, by omega, e⟩
      · rintro ⟨j, hj, e⟩
        rcases Nat.lt_or_ge j m with h | h
        · exact ⟨j, h, e⟩
        · have : j = m := by omega
          subst this
          exact ⟨j - 1, by omega, by rw [← he]; exact e⟩
theorem compact_asc {zs : List Int} (hs : ∀ i j, i < j → j < zs.length → rank (zs.getD i 0) ≤ rank (zs.getD j 0)) : Asc (Lib.compact zs) ∧ ∀ x, x ∈ Lib.compact zs ↔ x ∈ zs := by
  have hg : ∀ j, j < zs.length → zs.toArray[j]! = zs.getD j 0 := fun j hj => by
    rw [getElem!_pos zs.toArray j (by simpa using hj), List.getD_eq_getElem?_getD, List.getElem?_eq_getElem hj]; rfl
  obtain ⟨h1, h2⟩ := compact_up zs.toArray (fun i j hij hj => by
    have hj' : j < zs.length := by simpa using hj
    rw [hg i (by omega), hg j hj']; exact hs i j hij hj') zs.length (by simp)
  refine ⟨h1, fun x => ?_⟩
  unfold Lib.compact
  rw [h2]
  constructor
  · rintro ⟨j, hj, e⟩; rw [hg j hj] at e; rw [← e]; exact getD_mem hj
  · intro hx
    obtain ⟨j, hj, e⟩ := at_of_mem hx
    exact ⟨j, hj, by rw [hg j hj]; exact e⟩

/-- What follows from two: the clause, and an error's number. -/
noncomputable def resF (a b : List Int) (v : Int) : List Int × Int :=
  if v < 0 ∨ 24 ≤ v ∨ v + 1 ∉ a ∨ -v - 1 ∉ b then ([], 1) else
    if (formF (a.filter (fun x => x ≠ v + 1) ++ b.filter (fun x => x ≠ -v - 1))).2 then ([], 8) else ((formF (a.filter (fun x => x ≠ v + 1) ++ b.filter (fun x => x ≠ -v - 1))).1, 0)
end Go.Proofs.YtkkgdlfjblmbjaaGreatDoor
