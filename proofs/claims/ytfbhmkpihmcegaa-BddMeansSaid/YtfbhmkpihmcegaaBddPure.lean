/-
  Functions as handles of an arena: what a handle is true of, and why like functions have like handles. No program in sight.
-/
import Derived.Test.YtfbhmkpihmcegaaArenaOut
namespace Go.Proofs.Ytfbhmkpihmcegaa

/-- Of which values (by variables) a handle is true. -/
def denN (A : Ar) (v : Int → Bool) : Nat → Int → Bool
  | 0, h => h == 1
  | n + 1, h => match gotA A h with | some d => denN A v n (if v d.var then d.high else d.low) | none => h == 1
def den (A : Ar) (h : Int) (v : Int → Bool) : Bool := denN A v 25 h
def upd (v : Int → Bool) (x : Int) (b : Bool) : Int → Bool := fun y => if y = x then b else v y
/-- How far a handle is from the ends. -/
def dep (A : Ar) (h : Int) : Nat := (24 - topA A h).toNat
/-- No node leads twice to the same. -/
def RedA (A : Ar) : Prop := ∀ h d, gotA A h = some d → d.low ≠ d.high
section
variable {A : Ar} {h k : Int} {d : Nd} {v u : Int → Bool}
theorem top_some (e : gotA A h = some d) : topA A h = d.var := by unfold topA; rw [e]
theorem top_none (e : gotA A h = none) : topA A h = 24 := by unfold topA; rw [e]
theorem WfA.dep (hw : WfA A) (e : gotA A h = some d) : 0 ≤ topA A h ∧ topA A h < 24 := by rw [top_some e]; exact hw.var _ _ e
theorem WfA.topR (hw : WfA A) (h : Int) : 0 ≤ topA A h ∧ topA A h ≤ 24 := by
  cases e : gotA A h with
  | none => rw [top_none e]; omega
  | some d => have := hw.dep e; omega
theorem denN_none (e : gotA A h = none) : ∀ n, denN A v n h = (h == 1)
  | 0 => rfl
  | n + 1 => by show (match gotA A h with | some d => _ | none => _) = _; rw [e]
theorem denN_some (e : gotA A h = some d) (n : Nat) : denN A v (n + 1) h = denN A v n (if v d.var then d.high else d.low) := by
  show (match gotA A h with | some d => _ | none => _) = _; rw [e]
theorem WfA.kid (hw : WfA A) (e : gotA A h = some d) (b : Bool) : d.var < topA A (if b then d.high else d.low) ∧ hasA A (if b then d.high else d.low) = true := by
  cases b
  · exact ⟨(hw.low _ _ e).2, (hw.low _ _ e).1⟩
  · exact ⟨(hw.high _ _ e).2, (hw.high _ _ e).1⟩
theorem denN_eq (hw : WfA A) : ∀ (n m : Nat) (h : Int), dep A h ≤ n → dep A h ≤ m → denN A v n h = denN A v m h := by
  intro n
  induction n with
  | zero =>
    intro m h h1 _
    have hn : gotA A h = none := by
      cases e : gotA A h with
      | none => rfl
      | some d => have := hw.dep e; unfold dep at h1; omega
    rw [denN_none hn, denN_none hn]
  | succ n ih =>
    intro m h h1 h2
    cases e : gotA A h with
    | none => rw [denN_none e, denN_none e]
    | some d =>
      have ht := hw.dep e
      have hk := (hw.kid e (v d.var)).1
      have he := top_some e
      unfold dep at h1 h2
      obtain ⟨m', rfl⟩ : ∃ m', m = m' + 1 := ⟨m - 1, by omega⟩
      rw [denN_some e, denN_some e]
      exact ih m' _ (by unfold dep; omega) (by unfold dep; omega)
theorem den_none (e : gotA A h = none) : den A h v = (h == 1) := denN_none e 25
theorem den_some (hw : WfA A) (e : gotA A h = some d) : den A h v = den A (if v d.var then d.high else d.low) v := by
  unfold den
  rw [denN_some e]
  have h1 := hw.dep e
  have hk := (hw.kid e (v d.var)).1
  have he := top_some e
  exact denN_eq hw _ _ _ (by unfold dep; omega) (by unfold dep; omega)
theorem den_dep (hw : WfA A) : ∀ (n : Nat) (h : Int), dep A h ≤ n → (∀ x, topA A h ≤ x → v x = u x) → den A h v = den A h u := by
  intro n
  induction n with
  | zero =>
    intro h h1 _
    have hn : gotA A h = none := by
      cases e : gotA A h with
      | none => rfl
      | some d => have := hw.dep e; unfold dep at h1; omega
    rw [den_none hn, den_none hn]
  | succ n ih =>
    intro h h1 hx
    cases e : gotA A h with
    | none => rw [den_none e, den_none e]
    | some d =>
      have ht := hw.dep e
      have hk := (hw.kid e (v d.var)).1
      have he := top_some e
      unfold dep at h1
      rw [den_some hw e, den_some hw e, ← hx d.var (by omega)]
      exact ih _ (by unfold dep; omega) (fun x hxx => hx x (by omega))
theorem den_upd (hw : WfA A) {x : Int} {b : Bool} (hx : x < topA A h) : den A h (upd v x b) = den A h v :=
  den_dep hw _ h (Nat.le_refl _) (fun y hy => by unfold upd; rw [if_neg (by omega)])
theorem upd_at (x : Int) (b : Bool) : upd v x b x = b := if_pos rfl
/-- What a node leads to, as what its handle is of a set variable. -/
theorem den_kid (hw : WfA A) (e : gotA A h = some d) (b : Bool) : den A (if b then d.high else d.low) v = den A h (upd v d.var b) := by
  rw [den_some hw e, upd_at, den_upd hw (hw.kid e b).1]
theorem has_none (h1 : hasA A h = true) (e : gotA A h = none) : h = 0 ∨ h = 1 := by
  unfold hasA at h1
  rw [e] at h1
  simp at h1
  exact h1
theorem has_some (e : gotA A h = some d) : hasA A h = true := by unfold hasA; rw [e]; simp
theorem has_ends : hasA A 0 = true ∧ hasA A 1 = true := ⟨rfl, by unfold hasA; simp⟩
/-- BRYANT: like functions have like handles. -/
theorem den_inj (hw : WfA A) (hr : RedA A) : ∀ (n : Nat) (h k : Int), dep A h ≤ n → dep A k ≤ n → hasA A h = true → hasA A k = true → (∀ v, den A h v = den A k v) → h = k := by
  have nn : ∀ h k : Int, gotA A h = none → gotA A k = none → hasA A h = true → hasA A k = true → (∀ v, den A h v = den A k v) → h = k := by
    intro h k e1 e2 p1 p2 hd
    have := hd (fun _ => false)
    rw [den_none e1, den_none e2] at this
    rcases has_none p1 e1 with rfl | rfl <;> rcases has_none p2 e2 with rfl | rfl <;> simp_all
  have one : ∀ (n : Nat) (h k : Int) (d : Nd), gotA A h = some d → topA A h < topA A k → dep A h ≤ n + 1 → (∀ v, den A h v = den A k v) →
      (∀ (h k : Int), dep A h ≤ n → dep A k ≤ n → hasA A h = true → hasA A k = true → (∀ v, den A h v = den A k v) → h = k) → False := by
    intro n h k d e hlt hn hd ih
    have ht := hw.dep e
    have he := top_some e
    have hl := hw.low _ _ e
    have hh := hw.high _ _ e
    unfold dep at hn
    refine hr h d e (ih d.low d.high (by unfold dep; omega) (by unfold dep; omega) hl.1 hh.1 (fun v => ?_))
    have a1 := den_kid (v := v) hw e false
    have a2 := den_kid (v := v) hw e true
    simp only [if_true, if_false, Bool.false_eq_true] at a1 a2
    rw [a1, a2, hd, hd, den_upd hw (by omega), den_upd hw (by omega)]
  intro n
  induction n with
  | zero =>
    intro h k h1 h2 p1 p2 hd
    have hn : ∀ h, dep A h ≤ 0 → gotA A h = none := fun h h1 => by
      cases e : gotA A h with
      | none => rfl
      | some d => have := hw.dep e; unfold dep at h1; omega
    exact nn h k (hn h h1) (hn k h2) p1 p2 hd
  | succ n ih =>
    intro h k h1 h2 p1 p2 hd
    rcases Int.lt_trichotomy (topA A h) (topA A k) with hlt | heq | hgt
    · cases e : gotA A h with
      | none => have := top_none e; have := hw.topR k; omega
      | some d => exact (one n h k d e hlt h1 hd ih).elim
    · cases e : gotA A h with
      | none =>
        cases e' : gotA A k with
        | none => exact nn h k e e' p1 p2 hd
        | some c => have := top_none e; have := hw.dep e'; omega
      | some d =>
        cases e' : gotA A k with
        | none => have := top_none e'; have := hw.dep e; omega
        | some c =>
          have he := top_some e
          have he' := top_some e'
          have ht := hw.dep e
          have hl := hw.low _ _ e
          have hh := hw.high _ _ e
          have hl' := hw.low _ _ e'
          have hh' := hw.high _ _ e'
          have hv : d.var = c.var := by omega
          unfold dep at h1 h2
          have b1 : d.low = c.low := ih _ _ (by unfold dep; omega) (by unfold dep; omega) hl.1 hl'.1 (fun v => by
            have a1 := den_kid (v := v) hw e false
            have a2 := den_kid (v := v) hw e' false
            simp only [if_false, Bool.false_eq_true] at a1 a2
            rw [a1, a2, hd, hv])
          have b2 : d.high = c.high := ih _ _ (by unfold dep; omega) (by unfold dep; omega) hh.1 hh'.1 (fun v => by
            have a1 := den_kid (v := v) hw e true
            have a2 := den_kid (v := v) hw e' true
            simp only [if_true] at a1 a2
            rw [a1, a2, hd, hv])
          have hdc : d = c := by
            obtain ⟨d1, d2, d3⟩ := d
            obtain ⟨c1, c2, c3⟩ := c
            simp only at hv b1 b2
            subst hv b1 b2
            rfl
          subst hdc
          exact hw.once h k d e e'
    · cases e : gotA A k with
      | none => have := top_none e; have := hw.topR h; omega
      | some d => exact (one n k h d e hgt h2 (fun v => (hd v).symm) ih).elim
end
/-- All of one arena lies in the other, as it does there. -/
def ExtA (A A' : Ar) : Prop := A'.length = A.length ∧ ∀ h d, gotA A h = some d → gotA A' h = some d
theorem ExtA.refl (A : Ar) : ExtA A A := ⟨rfl, fun _ _ e => e⟩
theorem ExtA.trans {A B C : Ar} (h1 : ExtA A B) (h2 : ExtA B C) : ExtA A C := ⟨h2.1.trans h1.1, fun h d e => h2.2 h d (h1.2 h d e)⟩
section
variable {A A' : Ar} {h : Int} {d : Nd} {v : Int → Bool}
theorem ExtA.got (hx : ExtA A A') (h1 : hasA A h = true) : gotA A' h = gotA A h := by
  cases e : gotA A h with
  | some d => exact hx.2 h d e
  | none =>
    have h2 : h < 2 := by rcases has_none h1 e with rfl | rfl <;> omega
    unfold gotA
    rw [if_neg (by omega)]
theorem ExtA.has (hx : ExtA A A') (h1 : hasA A h = true) : hasA A' h = true := by
  have := hx.got h1
  unfold hasA at *
  rw [this]
  exact h1
theorem ExtA.top (hx : ExtA A A') (h1 : hasA A h = true) : topA A' h = topA A h := by unfold topA; rw [hx.got h1]
theorem ExtA.den (hx : ExtA A A') (hw : WfA A) (hw' : WfA A') : ∀ (n : Nat) (h : Int), dep A h ≤ n → hasA A h = true → den A' h v = den A h v := by
  intro n
  induction n with
  | zero =>
    intro h h1 p
    have hn : gotA A h = none := by
      cases e : gotA A h with
      | none => rfl
      | some d => have := hw.dep e; unfold dep at h1; omega
    rw [den_none hn, den_none ((hx.got p).trans hn)]
  | succ n ih =>
    intro h h1 p
    cases e : gotA A h with
    | none => rw [den_none e, den_none ((hx.got p).trans e)]
    | some d =>
      have ht := hw.dep e
      have hk := hw.kid e (v d.var)
      have he := top_some e
      unfold dep at h1
      rw [den_some hw e, den_some hw' ((hx.got p).trans e)]
      exact ih _ (by unfold dep; omega) hk.2
theorem ExtA.same (hx : ExtA A A') (hw : WfA A) (hw' : WfA A') (p : hasA A h = true) : Go.Proofs.Ytfbhmkpihmcegaa.den A' h v = Go.Proofs.Ytfbhmkpihmcegaa.den A h v := hx.den hw hw' _ h (Nat.le_refl _) p
end
end Go.Proofs.Ytfbhmkpihmcegaa
