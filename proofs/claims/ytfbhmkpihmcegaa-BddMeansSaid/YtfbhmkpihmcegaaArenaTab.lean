/-
  An arena's rows, as plain lists, and what is done with them. No program in sight.
-/
import Derived.Test.YtfbhmkpihmcegaaArenaLaw
namespace Go.Proofs.Ytfbhmkpihmcegaa

theorem find_some {α : Type} {p : α → Bool} {l : List α} {k : Nat} (h : l.findIdx? p = some k) : k < l.length ∧ (∀ x, l[k]? = some x → p x = true) ∧ ∀ j, j < k → ∀ x, l[j]? = some x → p x = false := by
  obtain ⟨hk, h1, h2⟩ := List.findIdx?_eq_some_iff_getElem.1 h
  refine ⟨hk, fun x hx => ?_, fun j hj x hx => ?_⟩
  · rw [List.getElem?_eq_getElem hk] at hx
    cases hx
    exact h1
  · rw [List.getElem?_eq_getElem (by omega)] at hx
    cases hx
    simpa using h2 j hj
theorem find_none {α : Type} {p : α → Bool} {l : List α} (h : l.findIdx? p = none) : ∀ x ∈ l, p x = false := by
  simpa using h
theorem getD_of {α : Type} {l : List α} {k : Nat} {d : α} (h : k < l.length) : l[k]? = some (l.getD k d) := by
  rw [List.getD_eq_getElem?_getD, List.getElem?_eq_getElem h]; rfl
theorem liesA_some {A : Ar} {n : Nd} {k : Nat} (h : liesA A n = some k) : A.getD k none = some n := by
  obtain ⟨h1, h2, _⟩ := find_some h
  simpa using h2 _ (getD_of (d := none) h1)
theorem liesA_none {A : Ar} {n : Nd} (h : liesA A n = none) (k : Nat) : A.getD k none ≠ some n := fun e => by
  have hk := gotA_len e
  have := find_none h _ (List.mem_of_getElem? (getD_of (d := none) hk))
  rw [e] at this
  simp at this
theorem freeA_some {A : Ar} {k : Nat} (h : freeA A = some k) : k < A.length ∧ A.getD k none = none := by
  obtain ⟨h1, h2, _⟩ := find_some h
  exact ⟨h1, by simpa using h2 _ (getD_of (d := none) h1)⟩

structure ArS (A : Ar) (ns : List Nd) (us : List Bool) : Prop where
  n : ns.length = A.length
  u : us.length = A.length
  is : ∀ k, A.getD k none = if us.getD k false = true then some (ns.getD k nd0) else none
/-- An arena's rows. -/
structure ArT (hs : Nd → Nat) (A : Ar) (ns : List Nd) (us : List Bool) (tab : List Int) : Prop where
  s : ArS A ns us
  len : tab.length = 2 * A.length + 1
  T : ∃ D, TabI hs ns tab D ∧ (∀ k, k ∈ D ↔ us.getD k false = true) ∧ D.length = cntA A
  wf : WfA A
section
variable {hs : Nd → Nat} {A : Ar} {ns : List Nd} {us : List Bool} {tab : List Int} {n : Nd} {i k : Nat}
theorem cntA_le (A : Ar) : cntA A ≤ A.length := List.countP_le_length
theorem ArT.zero (h : ArT hs A ns us tab) : ∃ z, z < tab.length ∧ tab.getD z 0 = 0 := by
  obtain ⟨D, hD, _, hc⟩ := h.T
  exact hD.zero (by rw [hc, h.len]; have := cntA_le A; omega)
theorem ArS.used (h : ArS A ns us) {m : Nd} : A.getD k none = some m ↔ us.getD k false = true ∧ ns.getD k nd0 = m := by
  rw [h.is k]
  by_cases hu : us.getD k false = true
  · rw [if_pos hu, Option.some.injEq]
    exact ⟨fun e => ⟨hu, e⟩, fun e => e.2⟩
  · rw [if_neg hu]
    exact ⟨fun e => (by cases e), fun e => absurd e.1 hu⟩
theorem ArS.got (h : ArS A ns us) {x : Int} {m : Nd} : gotA A x = some m ↔ 2 ≤ x ∧ us.getD (x - 2).toNat false = true ∧ ns.getD (x - 2).toNat nd0 = m := by
  unfold gotA
  by_cases hx : 2 ≤ x
  · rw [if_pos hx, h.used]; simp [hx]
  · rw [if_neg hx]; simp [hx]
theorem ArT.found (h : ArT hs A ns us tab) (hp : Place hs ns tab n i) (hl : liesA A n = some k) : tab.getD i 0 = (k : Int) + 2 := by
  obtain ⟨D, hD, hu, _⟩ := h.T
  obtain ⟨h1, h2⟩ := h.s.used.1 (liesA_some hl)
  exact hp.found hD ((hu k).2 h1) h2
theorem ArT.miss (h : ArT hs A ns us tab) (hp : Place hs ns tab n i) (hl : liesA A n = none) : tab.getD i 0 = 0 := by
  obtain ⟨D, hD, hu, _⟩ := h.T
  exact hp.none hD fun k hk e => liesA_none hl k (h.s.used.2 ⟨(hu k).1 hk, e⟩)
theorem gotA_set (hkl : k < A.length) {x : Int} : gotA (A.set k (some n)) x = if x = (k : Int) + 2 then some n else gotA A x := by
  unfold gotA
  by_cases hx : 2 ≤ x
  · rw [if_pos hx, if_pos hx, getD_set]
    by_cases he : x = (k : Int) + 2
    · rw [if_pos he, if_pos ⟨by omega, hkl⟩]
    · rw [if_neg he, if_neg (by omega)]
  · rw [if_neg hx, if_neg hx, if_neg (by omega)]
theorem countP_set_none {A : Ar} (hk : A.getD k none = none) (hkl : k < A.length) : cntA (A.set k (some n)) = cntA A + 1 := by
  unfold cntA
  induction A generalizing k with
  | nil => simp at hkl
  | cons a l ih =>
    cases k with
    | zero =>
      have ha : a = none := by simpa using hk
      rw [List.set_cons_zero, List.countP_cons_of_pos (by simp), List.countP_cons_of_neg (by simp [ha])]
    | succ k =>
      rw [List.set_cons_succ, List.countP_cons, List.countP_cons, ih (by simpa using hk) (by simpa using hkl)]
      omega
/-- A new node may lie there. -/
structure MayA (A : Ar) (n : Nd) : Prop where
  var : 0 ≤ n.var ∧ n.var < 24
  low : hasA A n.low = true ∧ n.var < topA A n.low
  high : hasA A n.high = true ∧ n.var < topA A n.high
theorem WfA.put (h : WfA A) (hm : MayA A n) (hl : liesA A n = none) (hk : A.getD k none = none) (hkl : k < A.length) : WfA (A.set k (some n)) := by
  have hg := fun x => gotA_set (n := n) hkl (x := x)
  have hno : ∀ x, hasA A x = true → x ≠ (k : Int) + 2 := fun x hx e => by
    subst e
    unfold hasA at hx
    rw [gotA_k, hk] at hx
    simp at hx
    omega
  have hh : ∀ x v, hasA A x = true ∧ v < topA A x → hasA (A.set k (some n)) x = true ∧ v < topA (A.set k (some n)) x := fun x v hx => by
    have hne := hno x hx.1
    unfold hasA topA at *
    rw [hg x, if_neg hne]
    exact hx
  refine ⟨fun x m e => ?_, fun x m e => ?_, fun x m e => ?_, fun x y m e1 e2 => ?_⟩
  · rw [hg x] at e
    split at e
    · cases e; exact hm.var
    · exact h.var x m e
  · rw [hg x] at e
    split at e
    · cases e; exact hh _ _ hm.low
    · exact hh _ _ (h.low x m e)
  · rw [hg x] at e
    split at e
    · cases e; exact hh _ _ hm.high
    · exact hh _ _ (h.high x m e)
  · have hlz : ∀ z, gotA A z = some n → False := fun z hz => by
      obtain ⟨q, _, _, hq⟩ := gotA_is hz
      exact liesA_none hl q hq
    rw [hg x] at e1
    rw [hg y] at e2
    by_cases hx : x = (k : Int) + 2 <;> by_cases hy : y = (k : Int) + 2
    · omega
    · rw [if_pos hx] at e1; rw [if_neg hy] at e2; cases e1; exact (hlz _ e2).elim
    · rw [if_neg hx] at e1; rw [if_pos hy] at e2; cases e2; exact (hlz _ e1).elim
    · rw [if_neg hx] at e1; rw [if_neg hy] at e2; exact h.once x y m e1 e2
/-- The rows behind a new node. -/
theorem ArT.put (h : ArT hs A ns us tab) (hm : MayA A n) (hl : liesA A n = none) (hk : freeA A = some k) (hp : Place hs ns tab n i) :
    ArT hs (A.set k (some n)) (ns.set k n) (us.set k true) (tab.set i ((k : Int) + 2)) := by
  obtain ⟨hkl, hkn⟩ := freeA_some hk
  obtain ⟨D, hD, hu, hc⟩ := h.T
  have hku : us.getD k false ≠ true := fun e => by
    have := h.s.is k
    rw [if_pos e, hkn] at this
    cases this
  have hkD : k ∉ D := fun hm' => hku ((hu k).1 hm')
  have hne : ∀ a ∈ D, (ns.set k n).getD a nd0 = ns.getD a nd0 := fun a ha => by
    rw [getD_set, if_neg (fun hc' => hkD (by rw [hc'.1]; exact ha))]
  have hkk : (ns.set k n).getD k nd0 = n := by rw [getD_set, if_pos ⟨rfl, by rw [h.s.n]; exact hkl⟩]
  have hD2 := hD.nodes (ns' := ns.set k n) (by rw [List.length_set]; exact Nat.le_refl _) hne
  have hmiss := h.miss hp hl
  have hp2 : Place hs (ns.set k n) tab n i := by
    obtain ⟨j, hij, hsk, hor⟩ := hp.is
    refine ⟨hp.lt, j, hij, ⟨fun e he => ?_⟩, .inl hmiss⟩
    obtain ⟨h1, h2⟩ := hsk.past e he
    refine ⟨h1, ?_⟩
    obtain ⟨q, hq, eq⟩ := hD.nz _ (Nat.mod_lt _ hD.pos) h1
    rw [eq, show ((q : Int) + 2 - 2).toNat = q by omega] at h2 ⊢
    rw [hne q hq]
    exact h2
  refine ⟨⟨by rw [List.length_set, List.length_set, h.s.n], by rw [List.length_set, List.length_set, h.s.u], fun a => ?_⟩, by rw [List.length_set, List.length_set, h.len], ⟨k :: D, hD2.put hp2 (fun a ha => ?_) (by rw [List.length_set, h.s.n]; exact hkl) hkk, fun a => ?_, ?_⟩, h.wf.put hm hl hkn hkl⟩
  · rw [getD_set, getD_set, getD_set, h.s.u, h.s.n]
    by_cases hc' : k = a ∧ k < A.length
    · rw [if_pos hc', if_pos hc', if_pos hc', if_pos rfl]
    · rw [if_neg hc', if_neg hc', if_neg hc']; exact h.s.is a
  · rw [hne a ha]
    exact fun e => liesA_none hl a (h.s.used.2 ⟨(hu a).1 ha, e⟩)
  · rw [getD_set, h.s.u]
    by_cases hc' : k = a ∧ k < A.length
    · rw [if_pos hc', hc'.1]; simp
    · rw [if_neg hc', List.mem_cons, hu a]
      constructor
      · rintro (e | e)
        · exact absurd ⟨e.symm, hkl⟩ hc'
        · exact e
      · exact .inr
  · rw [List.length_cons, hc, countP_set_none hkn hkl]
end

/-! ### behind a sweep -/
section
variable {hs : Nd → Nat} {A : Ar} {ns : List Nd} {us : List Bool} {l : List Int} {k : Nat}
open Classical in
theorem sweep_at (A : Ar) (l : List Int) (k : Nat) : (sweepA A l).getD k none = if ReachA A l ((k : Int) + 2) then A.getD k none else none := by
  unfold sweepA
  rw [List.getD_eq_getElem?_getD, List.getElem?_mapIdx, List.getD_eq_getElem?_getD]
  cases h : A[k]? with
  | none => simp
  | some o => simp
open Classical in
theorem sweep_got (A : Ar) (l : List Int) (x : Int) (n : Nd) : gotA (sweepA A l) x = some n ↔ gotA A x = some n ∧ ReachA A l x := by
  unfold gotA
  by_cases hx : 2 ≤ x
  · rw [if_pos hx, if_pos hx, sweep_at, show (((x - 2).toNat : Nat) : Int) + 2 = x by omega]
    by_cases hr : ReachA A l x
    · rw [if_pos hr]; simp [hr]
    · rw [if_neg hr]; simp [hr]
  · rw [if_neg hx, if_neg hx]; simp
theorem sweep_len (A : Ar) (l : List Int) : (sweepA A l).length = A.length := by unfold sweepA; simp
theorem WfA.sweep (h : WfA A) (l : List Int) : WfA (sweepA A l) := by
  have hch : ∀ v c, hasA A c = true ∧ v < topA A c → (∀ m, gotA A c = some m → ReachA A l c) → hasA (sweepA A l) c = true ∧ v < topA (sweepA A l) c := fun v c hc hr => by
    have e : gotA (sweepA A l) c = gotA A c := by
      cases hg : gotA A c with
      | none =>
        cases hg2 : gotA (sweepA A l) c with
        | none => rfl
        | some m => exact absurd ((sweep_got A l c m).1 hg2).1 (by rw [hg]; simp)
      | some m => exact (sweep_got A l c m).2 ⟨hg, hr m hg⟩
    unfold hasA topA at *
    rw [e]
    exact hc
  refine ⟨fun x n e => h.var x n ((sweep_got A l x n).1 e).1, fun x n e => ?_, fun x n e => ?_, fun x y n e1 e2 => h.once x y n ((sweep_got A l x n).1 e1).1 ((sweep_got A l y n).1 e2).1⟩
  · obtain ⟨h1, h2⟩ := (sweep_got A l x n).1 e
    exact hch _ _ (h.low x n h1) fun m em => .low h2 h1 em
  · obtain ⟨h1, h2⟩ := (sweep_got A l x n).1 e
    exact hch _ _ (h.high x n h1) fun m em => .high h2 h1 em
theorem sweep_sub (A : Ar) (l : List Int) {x : Int} (h : ReachA A l x) : gotA (sweepA A l) x = gotA A x := by
  obtain ⟨n, e⟩ := h.got
  rw [e]
  exact (sweep_got A l x n).2 ⟨e, h⟩
open Classical in
theorem mem_reachL {A : Ar} {l : List Int} {x : Int} : x ∈ reachL A l ↔ ReachA A l x := by
  unfold reachL
  rw [List.mem_map]
  constructor
  · rintro ⟨k, hk, rfl⟩
    rw [List.mem_filter] at hk
    exact of_decide_eq_true hk.2
  · intro h
    obtain ⟨n, e⟩ := h.got
    obtain ⟨k, ek, hk, _⟩ := gotA_is e
    refine ⟨k, ?_, ek.symm⟩
    rw [List.mem_filter]
    exact ⟨List.mem_range.2 hk, decide_eq_true (by rw [← ek]; exact h)⟩
open Classical in
theorem sweep_cnt (A : Ar) (l : List Int) : cntA (sweepA A l) = (reachL A l).length := by
  have h1 : ∀ (m : Nat), m ≤ A.length → ((sweepA A l).take m).countP (fun o => o.isSome) = ((List.range m).filter fun k : Nat => decide (ReachA A l ((k : Int) + 2))).length := by
    intro m
    induction m with
    | zero => intro _; simp
    | succ m ih =>
      intro hm
      have hl := sweep_len A l
      rw [List.take_add_one, List.countP_append, ih (by omega), List.range_succ, List.filter_append, List.length_append, getD_of (d := none) (by omega), sweep_at]
      congr 1
      by_cases hr : ReachA A l ((m : Int) + 2)
      · rw [if_pos hr]
        obtain ⟨n, e⟩ := hr.got
        rw [gotA_k] at e
        simp only [List.filter_cons, hr, decide_true, e]
        rfl
      · rw [if_neg hr]
        simp only [List.filter_cons, hr, decide_false]
        rfl
  have := h1 A.length (Nat.le_refl _)
  rw [← sweep_len A l, List.take_length, sweep_len] at this
  unfold cntA reachL
  rw [List.length_map]
  exact this
/-- The table behind the first j of the handles that stay. -/
theorem TabI.again (h : ArS A ns us) (hw : WfA A) {tab : List Int} {D : List Nat} {i : Nat} (hT : TabI hs ns tab D) (hD : ∀ a ∈ D, us.getD a false = true) (hk : us.getD k false = true) (hkD : k ∉ D) (hp : Place hs ns tab (ns.getD k nd0) i) : TabI hs ns (tab.set i ((k : Int) + 2)) (k :: D) := by
  have hkl : k < ns.length := by
    have := gotA_len (h.used.2 ⟨hk, rfl⟩)
    rw [h.n]; exact this
  refine hT.put hp (fun a ha e => ?_) hkl rfl
  have e1 := h.used.2 ⟨hD a ha, rfl⟩
  have e2 := h.used.2 ⟨hk, rfl⟩
  rw [← gotA_k] at e1 e2
  rw [e] at e1
  have := hw.once _ _ _ e1 e2
  exact hkD (by rw [show k = a by omega]; exact ha)
end
end Go.Proofs.Ytfbhmkpihmcegaa
