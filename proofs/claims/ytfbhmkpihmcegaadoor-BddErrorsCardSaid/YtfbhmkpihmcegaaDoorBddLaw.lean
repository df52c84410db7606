/-
  What a space of functions makes of its steps. No program in sight.
-/
import Derived.Test.YtfbhmkpihmcegaaDoorBddMk
namespace Go.Proofs.YtfbhmkpihmcegaaDoor

/-- So many entries may a step at a variable make. -/
def wc (t : Int) : Nat := if t ≤ 0 then 63 else if t = 1 then 31 else if t = 2 then 15 else if t = 3 then 7 else if t = 4 then 3 else if t = 5 then 1 else 0
theorem wc_le (t : Int) : wc t ≤ 63 := by unfold wc; repeat' split
                                          all_goals omega
theorem wc_half {t a : Int} (h0 : 0 ≤ t) (h6 : t < 6) (ha : t < a) : 2 * wc a + 1 ≤ wc t := by
  rcases (show t = 0 ∨ t = 1 ∨ t = 2 ∨ t = 3 ∨ t = 4 ∨ t = 5 by omega) with rfl | rfl | rfl | rfl | rfl | rfl
  all_goals
    unfold wc
    simp
    repeat' split
    all_goals omega
theorem wc_two {t a b : Int} (h0 : 0 ≤ t) (h6 : t < 6) (ha : t < a) (hb : t < b) : wc a + wc b + 1 ≤ wc t := by
  have h1 := wc_half h0 h6 ha
  have h2 := wc_half h0 h6 hb
  omega
/-- What a handle is, if a variable that stands at the top is false, or true. -/
def atA (A : Ar) (h v : Int) (b : Bool) : Int := match gotA A h with | some n => if n.var = v then (if b then n.high else n.low) else h | none => h
section
variable {A : Ar} {h x : Int} {vars t : Int} {v : Int → Bool}
theorem atA_none (e : gotA A h = none) (b : Bool) : atA A h t b = h := by unfold atA; rw [e]
theorem atA_is {n : Nd} (e : gotA A h = some n) (hv : n.var = t) (b : Bool) : atA A h t b = if b then n.high else n.low := by
  unfold atA; rw [e]; simp only; rw [if_pos hv]
theorem atA_not {n : Nd} (e : gotA A h = some n) (hv : n.var ≠ t) (b : Bool) : atA A h t b = h := by
  unfold atA; rw [e]; simp only; rw [if_neg hv]
theorem atA_fine (hw : WfA A) (p : hasA A h = true) (ht : t ≤ topA A h) (h24 : t < 24) (b : Bool) :
    hasA A (atA A h t b) = true ∧ t < topA A (atA A h t b) ∧ ∀ v, den A (atA A h t b) v = den A h (upd v t b) := by
  cases e : gotA A h with
  | none =>
    rw [atA_none e]
    refine ⟨p, by rw [top_none e]; exact h24, fun v => ?_⟩
    rw [den_none e, den_none e]
  | some n =>
    by_cases hv : n.var = t
    · rw [atA_is e hv]
      obtain ⟨h1, h2⟩ := hw.kid e b
      refine ⟨h2, by omega, fun v => ?_⟩
      have := den_kid (v := v) hw e b
      rw [hv] at this
      exact this
    · rw [atA_not e hv]
      have ht2 := top_some e
      exact ⟨p, by omega, fun v => (den_upd hw (by omega)).symm⟩
end
def iteF (A : Ar) (a b c : Int) (v : Int → Bool) : Bool := if den A a v then den A b v else den A c v
def min3 (a b c : Int) : Int := min (min a b) c
def topI (A : Ar) (a b c : Int) : Int := min3 (topA A a) (topA A b) (topA A c)
theorem min3_le (a b c : Int) : min3 a b c ≤ a ∧ min3 a b c ≤ b ∧ min3 a b c ≤ c := by unfold min3; omega
theorem min3_lt {t a b c : Int} (h1 : t < a) (h2 : t < b) (h3 : t < c) : t < min3 a b c := by unfold min3; omega
/-- All that a space remembers holds. -/
def CacheOk (A : Ar) (f : Int × Int × Int → Option Int) : Prop :=
  ∀ a b c h, f (a, b, c) = some h → hasA A a = true ∧ hasA A b = true ∧ hasA A c = true ∧ hasA A h = true ∧ topI A a b c ≤ topA A h ∧ ∀ v, den A h v = iteF A a b c v
section
variable {A A' : Ar} {vars : Int}
theorem iteF_ext (h : SpA A vars) (h' : SpA A' vars) (hx : ExtA A A') {a b c : Int} (pa : hasA A a = true) (pb : hasA A b = true) (pc : hasA A c = true) (v : Int → Bool) : iteF A' a b c v = iteF A a b c v := by
  unfold iteF
  rw [h.same h' hx pa, h.same h' hx pb, h.same h' hx pc]
theorem topI_ext (hx : ExtA A A') {a b c : Int} (pa : hasA A a = true) (pb : hasA A b = true) (pc : hasA A c = true) : topI A' a b c = topI A a b c := by
  unfold topI
  rw [hx.top pa, hx.top pb, hx.top pc]
theorem CacheOk.ext {f : Int × Int × Int → Option Int} (hc : CacheOk A f) (h : SpA A vars) (h' : SpA A' vars) (hx : ExtA A A') : CacheOk A' f := by
  intro a b c x e
  obtain ⟨p1, p2, p3, p4, p5, p6⟩ := hc a b c x e
  exact ⟨hx.has p1, hx.has p2, hx.has p3, hx.has p4, by rw [topI_ext hx p1 p2 p3, hx.top p4]; exact p5, fun v => by rw [h.same h' hx p4, iteF_ext h h' hx p1 p2 p3]; exact p6 v⟩
theorem CacheOk.none (A : Ar) : CacheOk A (fun _ => none) := fun _ _ _ _ e => by cases e
theorem CacheOk.put {f : Int × Int × Int → Option Int} (hc : CacheOk A f) {a b c h : Int} (p1 : hasA A a = true) (p2 : hasA A b = true) (p3 : hasA A c = true) (p4 : hasA A h = true) (p5 : topI A a b c ≤ topA A h) (p6 : ∀ v, den A h v = iteF A a b c v) :
    CacheOk A (fun y => if y = (a, b, c) then some h else f y) := by
  intro a' b' c' x e
  by_cases he : (a', b', c') = (a, b, c)
  · simp only [he, if_true] at e
    simp only [Prod.mk.injEq] at he
    obtain ⟨rfl, rfl, rfl⟩ := he
    cases e
    exact ⟨p1, p2, p3, p4, p5, p6⟩
  · simp only [he, if_false] at e
    exact hc a' b' c' x e
/-- What a half done setting of a variable remembers holds. -/
def DoneOk (A : Ar) (x : Int) (is : Bool) (f : Int → Option Int) : Prop := ∀ h k, f h = some k → hasA A h = true ∧ hasA A k = true ∧ topA A h ≤ topA A k ∧ ∀ v, den A k v = den A h (upd v x is)
theorem DoneOk.ext {f : Int → Option Int} {x : Int} {is : Bool} (hc : DoneOk A x is f) (h : SpA A vars) (h' : SpA A' vars) (hx : ExtA A A') : DoneOk A' x is f := by
  intro a k e
  obtain ⟨p1, p2, p3, p4⟩ := hc a k e
  exact ⟨hx.has p1, hx.has p2, by rw [hx.top p1, hx.top p2]; exact p3, fun v => by rw [h.same h' hx p2, h.same h' hx p1]; exact p4 v⟩
theorem DoneOk.none (A : Ar) (x : Int) (is : Bool) : DoneOk A x is (fun _ => none) := fun _ _ e => by cases e
theorem DoneOk.put {f : Int → Option Int} {x : Int} {is : Bool} (hc : DoneOk A x is f) {h k : Int} (p1 : hasA A h = true) (p2 : hasA A k = true) (p3 : topA A h ≤ topA A k) (p4 : ∀ v, den A k v = den A h (upd v x is)) :
    DoneOk A x is (fun y => if y = h then some k else f y) := by
  intro a k' e
  by_cases he : a = h
  · simp only [he, if_true] at e
    subst he
    cases e
    exact ⟨p1, p2, p3, p4⟩
  · simp only [he, if_false] at e
    exact hc a k' e
/-- Handles are small. -/
theorem SpA.small (h : SpA A vars) {x : Int} (p : hasA A x = true) : 0 ≤ x ∧ x < 4002 := by
  cases e : gotA A x with
  | none => rcases has_none p e with rfl | rfl <;> omega
  | some d =>
    obtain ⟨k, rfl, hk, _⟩ := gotA_is e
    have := h.len
    omega
theorem SpA.i64 (h : SpA A vars) {x : Int} (p : hasA A x = true) : I64 x := by
  have := h.small p
  unfold I64
  omega
theorem SpA.lt (h : SpA A vars) {x : Int} {d : Nd} (e : gotA A x = some d) : 0 ≤ d.var ∧ d.var < vars := ⟨(h.wf.var x d e).1, h.var x d e⟩
theorem SpA.got (h : SpA A vars) {x : Int} (p : hasA A x = true) (h0 : x ≠ 0) (h1 : x ≠ 1) : ∃ d, gotA A x = some d := by
  cases e : gotA A x with
  | none => rcases has_none p e with rfl | rfl <;> contradiction
  | some d => exact ⟨d, rfl⟩
/-- The two sides of a step at the variable on the top, joined. -/
theorem iteF_at (hw : WfA A) {a b c t : Int} (pa : hasA A a = true) (pb : hasA A b = true) (pc : hasA A c = true) (ta : t ≤ topA A a) (tb : t ≤ topA A b) (tc : t ≤ topA A c) (h24 : t < 24) (v : Int → Bool) :
    iteF A a b c v = if v t then iteF A (atA A a t true) (atA A b t true) (atA A c t true) v else iteF A (atA A a t false) (atA A b t false) (atA A c t false) v := by
  have hu : ∀ bb, v t = bb → upd v t bb = v := fun bb e => by
    funext y
    unfold upd
    by_cases hy : y = t
    · subst hy; rw [if_pos rfl]; exact e.symm
    · rw [if_neg hy]
  have key : ∀ bb, v t = bb → iteF A (atA A a t bb) (atA A b t bb) (atA A c t bb) v = iteF A a b c v := fun bb e => by
    unfold iteF
    rw [(atA_fine hw pa ta h24 bb).2.2, (atA_fine hw pb tb h24 bb).2.2, (atA_fine hw pc tc h24 bb).2.2, hu bb e]
  cases e : v t
  · rw [if_neg (by simp), key false e]
  · rw [if_pos rfl, key true e]
end
end Go.Proofs.YtfbhmkpihmcegaaDoor
