/-
  Families of sets as diagrams (Minato): which sets a handle has; two handles have the same just if they are the same. No program in sight.
-/
import Derived.Test.YtfbhmkpihmcegaaBddCnt
namespace Go.Proofs.Ytfbhmkpihmcegaa

/-- A set without thing v. -/
def clrN (s v : Nat) : Nat := s ^^^ (s &&& 2 ^ v)
def putN (s v : Nat) : Nat := s ||| 2 ^ v
theorem clr_bit (s v y : Nat) : (clrN s v).testBit y = (s.testBit y && !decide (v = y)) := by
  unfold clrN
  rw [Nat.testBit_xor, Nat.testBit_and, Nat.testBit_two_pow]
  cases s.testBit y <;> cases decide (v = y) <;> rfl
theorem put_bit (s v y : Nat) : (putN s v).testBit y = (s.testBit y || decide (v = y)) := by
  unfold putN
  rw [Nat.testBit_or, Nat.testBit_two_pow]
theorem clr_not {s v : Nat} (h : s.testBit v = false) : clrN s v = s := Nat.eq_of_testBit_eq fun y => by
  rw [clr_bit]
  by_cases e : v = y
  · subst e; simp [h]
  · simp [e]
theorem clr_put {s v : Nat} (h : s.testBit v = false) : clrN (putN s v) v = s := Nat.eq_of_testBit_eq fun y => by
  rw [clr_bit, put_bit]
  by_cases e : v = y
  · subst e; simp [h]
  · simp [e]
theorem put_clr {s v : Nat} (h : s.testBit v = true) : putN (clrN s v) v = s := Nat.eq_of_testBit_eq fun y => by
  rw [put_bit, clr_bit]
  by_cases e : v = y
  · subst e; simp [h]
  · simp [e]
def famN (A : Ar) : Nat → Int → Nat → Bool
  | 0, h, s => h == 1 && s == 0
  | n + 1, h, s => match gotA A h with
    | some d => if s.testBit d.var.toNat then famN A n d.high (clrN s d.var.toNat) else famN A n d.low s
    | none => h == 1 && s == 0
/-- Has a handle's family this set? -/
def fam (A : Ar) (h : Int) (s : Nat) : Bool := famN A 25 h s
/-- No node is there for nothing. -/
def RedZ (A : Ar) : Prop := ∀ h d, gotA A h = some d → d.high ≠ 0
section
variable {A : Ar} {h k : Int} {d : Nd} {s : Nat}
theorem famN_none (e : gotA A h = none) : ∀ n s, famN A n h s = (h == 1 && s == 0)
  | 0, s => rfl
  | n + 1, s => by show (match gotA A h with | some d => _ | none => _) = _; rw [e]
theorem famN_some (e : gotA A h = some d) (n s : Nat) : famN A (n + 1) h s = if s.testBit d.var.toNat then famN A n d.high (clrN s d.var.toNat) else famN A n d.low s := by
  show (match gotA A h with | some d => _ | none => _) = _; rw [e]
theorem famN_eq (hw : WfA A) : ∀ (n m : Nat) (h : Int) (s : Nat), dep A h ≤ n → dep A h ≤ m → famN A n h s = famN A m h s := by
  intro n
  induction n with
  | zero =>
    intro m h s h1 _
    have hn : gotA A h = none := by
      cases e : gotA A h with
      | none => rfl
      | some d => have := hw.dep e; unfold dep at h1; omega
    rw [famN_none hn, famN_none hn]
  | succ n ih =>
    intro m h s h1 h2
    cases e : gotA A h with
    | none => rw [famN_none e, famN_none e]
    | some d =>
      have ht := hw.dep e
      have hk0 := (hw.low _ _ e).2
      have hk1 := (hw.high _ _ e).2
      have he := top_some e
      unfold dep at h1 h2
      obtain ⟨m', rfl⟩ : ∃ m', m = m' + 1 := ⟨m - 1, by omega⟩
      rw [famN_some e, famN_some e, ih m' d.high _ (by unfold dep; omega) (by unfold dep; omega), ih m' d.low _ (by unfold dep; omega) (by unfold dep; omega)]
theorem fam_none (e : gotA A h = none) : fam A h s = (h == 1 && s == 0) := famN_none e 25 s
theorem fam_some (hw : WfA A) (e : gotA A h = some d) : fam A h s = if s.testBit d.var.toNat then fam A d.high (clrN s d.var.toNat) else fam A d.low s := by
  have h1 := hw.dep e
  have hk0 := (hw.low _ _ e).2
  have hk1 := (hw.high _ _ e).2
  have he := top_some e
  unfold fam
  rw [famN_some e, famN_eq hw 24 25 d.high _ (by unfold dep; omega) (by unfold dep; omega), famN_eq hw 24 25 d.low _ (by unfold dep; omega) (by unfold dep; omega)]
/-- A family's sets have no thing ahead of its top. -/
theorem fam_top (hw : WfA A) : ∀ (n : Nat) (h : Int) (s : Nat), dep A h ≤ n → fam A h s = true → ∀ y : Nat, (y : Int) < topA A h → s.testBit y = false := by
  intro n
  induction n with
  | zero =>
    intro h s h1 hf y _
    have hn : gotA A h = none := by
      cases e : gotA A h with
      | none => rfl
      | some d => have := hw.dep e; unfold dep at h1; omega
    rw [fam_none hn] at hf
    simp at hf
    rw [hf.2, Nat.zero_testBit]
  | succ n ih =>
    intro h s h1 hf y hy
    cases e : gotA A h with
    | none =>
      rw [fam_none e] at hf
      simp at hf
      rw [hf.2, Nat.zero_testBit]
    | some d =>
      have ht := hw.dep e
      have hk0 := (hw.low _ _ e).2
      have hk1 := (hw.high _ _ e).2
      have he := top_some e
      unfold dep at h1
      rw [fam_some hw e] at hf
      split at hf
      · have := ih d.high _ (by unfold dep; omega) hf y (by omega)
        rw [clr_bit] at this
        simpa [show ¬ d.var.toNat = y by omega] using this
      · exact ih d.low _ (by unfold dep; omega) hf y (by omega)
theorem fam_zero (s : Nat) : fam A 0 s = false := by
  have : gotA A 0 = none := by unfold gotA; rw [if_neg (by omega)]
  rw [fam_none this]
  rfl
theorem fam_one (s : Nat) : fam A 1 s = (s == 0) := by
  have : gotA A 1 = none := by unfold gotA; rw [if_neg (by omega)]
  rw [fam_none this]
  rfl
theorem end_two (hx : hasA A h = true) (hg : gotA A h = none) : h = 0 ∨ h = 1 := by
  unfold hasA at hx
  rw [hg] at hx
  simpa using hx
/-- Whatever is not none has a set. -/
theorem fam_ne (hw : WfA A) (hr : RedZ A) : ∀ (n : Nat) (h : Int), dep A h ≤ n → hasA A h = true → h ≠ 0 → ∃ s, fam A h s = true := by
  intro n
  induction n with
  | zero =>
    intro h h1 hh h0
    have hn : gotA A h = none := by
      cases e : gotA A h with
      | none => rfl
      | some d => have := hw.dep e; unfold dep at h1; omega
    rcases end_two hh hn with rfl | rfl
    · exact absurd rfl h0
    · exact ⟨0, by rw [fam_one]; rfl⟩
  | succ n ih =>
    intro h h1 hh h0
    cases e : gotA A h with
    | none =>
      rcases end_two hh e with rfl | rfl
      · exact absurd rfl h0
      · exact ⟨0, by rw [fam_one]; rfl⟩
    | some d =>
      have ht := hw.dep e
      have hk1 := hw.high _ _ e
      have he := top_some e
      unfold dep at h1
      obtain ⟨s, hs⟩ := ih d.high (by unfold dep; omega) hk1.1 (hr _ _ e)
      have hb := fam_top hw _ d.high s (Nat.le_refl _) hs d.var.toNat (by omega)
      refine ⟨putN s d.var.toNat, ?_⟩
      rw [fam_some hw e, if_pos (by rw [put_bit]; simp), clr_put hb]
      exact hs
/-- .. and one with its top. -/
theorem fam_has (hw : WfA A) (hr : RedZ A) (e : gotA A h = some d) : ∃ s, fam A h s = true ∧ s.testBit d.var.toNat = true := by
  have hk1 := hw.high _ _ e
  have ht := hw.dep e
  have he := top_some e
  obtain ⟨s, hs⟩ := fam_ne hw hr _ d.high (Nat.le_refl _) hk1.1 (hr _ _ e)
  have hb := fam_top hw _ d.high s (Nat.le_refl _) hs d.var.toNat (by omega)
  refine ⟨putN s d.var.toNat, ?_, by rw [put_bit]; simp⟩
  rw [fam_some hw e, if_pos (by rw [put_bit]; simp), clr_put hb]
  exact hs
/-- MINATO. -/
theorem fam_inj (hw : WfA A) (hr : RedZ A) : ∀ (n : Nat) (h k : Int), dep A h ≤ n → dep A k ≤ n → hasA A h = true → hasA A k = true → (∀ s, fam A h s = fam A k s) → h = k := by
  intro n
  induction n with
  | zero =>
    intro h k h1 k1 hh hk hf
    have hn : gotA A h = none := by
      cases e : gotA A h with
      | none => rfl
      | some d => have := hw.dep e; unfold dep at h1; omega
    have kn : gotA A k = none := by
      cases e : gotA A k with
      | none => rfl
      | some d => have := hw.dep e; unfold dep at k1; omega
    have := hf 0
    rcases end_two hh hn with rfl | rfl <;> rcases end_two hk kn with rfl | rfl
    · rfl
    · rw [fam_zero, fam_one] at this; cases this
    · rw [fam_zero, fam_one] at this; cases this
    · rfl
  | succ n ih =>
    intro h k h1 k1 hh hk hf
    have differ : ∀ (h k : Int) (d : Nd), gotA A h = some d → d.var < topA A k → ¬ ∀ s, fam A h s = fam A k s := by
      intro h k d e hlt hf
      have hd := hw.dep e
      have he := top_some e
      obtain ⟨s, hs, hb⟩ := fam_has hw hr e
      rw [hf] at hs
      have := fam_top hw _ k s (Nat.le_refl _) hs d.var.toNat (by omega)
      rw [this] at hb
      cases hb
    cases e : gotA A h with
    | none =>
      cases e' : gotA A k with
      | none =>
        have := hf 0
        rcases end_two hh e with rfl | rfl <;> rcases end_two hk e' with rfl | rfl
        · rfl
        · rw [fam_zero, fam_one] at this; cases this
        · rw [fam_zero, fam_one] at this; cases this
        · rfl
      | some d' =>
        have hd' := hw.dep e'
        have he' := top_some e'
        exact absurd (fun s => (hf s).symm) (differ k h d' e' (by rw [top_none e]; omega))
    | some d =>
      have hd := hw.dep e
      have he := top_some e
      cases e' : gotA A k with
      | none => exact absurd hf (differ h k d e (by rw [top_none e']; omega))
      | some d' =>
        have hd' := hw.dep e'
        have he' := top_some e'
        rcases Int.lt_trichotomy d.var d'.var with hlt | heq | hgt
        · exact absurd hf (differ h k d e (by omega))
        · have hk0 := hw.low _ _ e
          have hk1 := hw.high _ _ e
          have jk0 := hw.low _ _ e'
          have jk1 := hw.high _ _ e'
          unfold dep at h1 k1
          have none_of : ∀ (x : Int) (s : Nat), d.var < topA A x → s.testBit d.var.toNat = true → fam A x s = false := fun x s hx hb => by
            cases hf2 : fam A x s with
            | false => rfl
            | true =>
              have := fam_top hw _ x s (Nat.le_refl _) hf2 d.var.toNat (by omega)
              rw [this] at hb
              cases hb
          have hl : d.low = d'.low := by
            refine ih d.low d'.low (by unfold dep; omega) (by unfold dep; omega) hk0.1 jk0.1 fun s => ?_
            cases hb : s.testBit d.var.toNat with
            | true => rw [none_of _ s hk0.2 hb, none_of _ s (by omega) hb]
            | false =>
              have := hf s
              rw [fam_some hw e, fam_some hw e', ← heq, hb] at this
              simpa using this
          have hg : d.high = d'.high := by
            refine ih d.high d'.high (by unfold dep; omega) (by unfold dep; omega) hk1.1 jk1.1 fun s => ?_
            cases hb : s.testBit d.var.toNat with
            | true => rw [none_of _ s hk1.2 hb, none_of _ s (by omega) hb]
            | false =>
              have := hf (putN s d.var.toNat)
              rw [fam_some hw e, fam_some hw e', ← heq, if_pos (by rw [put_bit]; simp), if_pos (by rw [put_bit]; simp), clr_put hb] at this
              exact this
          have hdd : d = d' := by
            obtain ⟨a, b, c⟩ := d
            obtain ⟨a', b', c'⟩ := d'
            simp only at heq hl hg
            rw [heq, hl, hg]
          rw [hdd] at e
          exact hw.once h k d' e e'
        · exact absurd (fun s => (hf s).symm) (differ k h d' e' (by omega))
end
end Go.Proofs.Ytfbhmkpihmcegaa
