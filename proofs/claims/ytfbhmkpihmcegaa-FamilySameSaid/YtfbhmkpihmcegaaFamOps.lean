/-
  What the steps of families mean, thing by thing. No program in sight.
-/
import Derived.Test.YtfbhmkpihmcegaaFamMk
namespace Go.Proofs.Ytfbhmkpihmcegaa

/-- Those without a thing, and those with it, without it. -/
def atZ (A : Ar) (h v : Int) (b : Bool) : Int := match gotA A h with | some n => if n.var = v then (if b then n.high else n.low) else (if b then 0 else h) | none => if b then 0 else h
/-- Is every thing of t one of s? -/
def subN (t s : Nat) : Bool := t &&& s == t
theorem subN_iff {t s : Nat} : subN t s = true ↔ ∀ y, t.testBit y = true → s.testBit y = true := by
  unfold subN
  rw [beq_iff_eq]
  constructor
  · intro h y hy
    have := congrArg (fun x => x.testBit y) h
    simp only [Nat.testBit_and, hy, Bool.true_and] at this
    exact this
  · intro h
    refine Nat.eq_of_testBit_eq fun y => ?_
    rw [Nat.testBit_and]
    cases ht : t.testBit y
    · rfl
    · rw [h y ht]; rfl
section
variable {A : Ar} {h : Int} {v : Nat}
theorem atZ_none (e : gotA A h = none) (b : Bool) : atZ A h v b = if b then 0 else h := by unfold atZ; rw [e]
theorem atZ_is {n : Nd} (e : gotA A h = some n) (hv : n.var = (v : Int)) (b : Bool) : atZ A h v b = if b then n.high else n.low := by
  unfold atZ; rw [e]; simp only; rw [if_pos hv]
theorem atZ_not {n : Nd} (e : gotA A h = some n) (hv : n.var ≠ (v : Int)) (b : Bool) : atZ A h v b = if b then 0 else h := by
  unfold atZ; rw [e]; simp only; rw [if_neg hv]
theorem atZ_cases (h : Int) (v : Nat) : (∃ d, gotA A h = some d ∧ d.var = (v : Int) ∧ atZ A h v false = d.low ∧ atZ A h v true = d.high) ∨ (topA A h ≠ (v : Int) ∨ gotA A h = none) ∧ atZ A h v false = h ∧ atZ A h v true = 0 := by
  cases e : gotA A h with
  | none => exact .inr ⟨.inr rfl, atZ_none e false, atZ_none e true⟩
  | some d =>
    by_cases hv : d.var = (v : Int)
    · exact .inl ⟨d, rfl, hv, atZ_is e hv false, atZ_is e hv true⟩
    · exact .inr ⟨.inl (by rw [top_some e]; exact hv), atZ_not e hv false, atZ_not e hv true⟩
theorem atZ_has (hw : WfA A) (hh : hasA A h = true) (b : Bool) : hasA A (atZ A h v b) = true := by
  rcases atZ_cases (A := A) h v with ⟨d, e, _, e0, e1⟩ | ⟨_, e0, e1⟩
  · cases b
    · rw [e0]; exact (hw.low _ _ e).1
    · rw [e1]; exact (hw.high _ _ e).1
  · cases b
    · rw [e0]; exact hh
    · rw [e1]; exact has_ends.1
theorem atZ_top (hw : WfA A) (h24 : v < 24) (hv : (v : Int) ≤ topA A h) (b : Bool) : (v : Int) < topA A (atZ A h v b) := by
  rcases atZ_cases (A := A) h v with ⟨d, e, ev, e0, e1⟩ | ⟨hn, e0, e1⟩
  · cases b
    · rw [e0]; have := (hw.low _ _ e).2; omega
    · rw [e1]; have := (hw.high _ _ e).2; omega
  · have : topA A h ≠ (v : Int) := by
      rcases hn with hn | hn
      · exact hn
      · rw [top_none hn]; omega
    cases b
    · rw [e0]; omega
    · rw [e1, top_none (show gotA A 0 = none by unfold gotA; rw [if_neg (by omega)])]; omega
/-- A family, parted by a thing that is not behind its top. -/
theorem fam_part (hw : WfA A) (h24 : v < 24) (hv : (v : Int) ≤ topA A h) (s : Nat) : fam A h s = if s.testBit v then fam A (atZ A h v true) (clrN s v) else fam A (atZ A h v false) s := by
  rcases atZ_cases (A := A) h v with ⟨d, e, ev, e0, e1⟩ | ⟨hn, e0, e1⟩
  · rw [fam_some hw e, e0, e1, show d.var.toNat = v by omega]
  · have ht : topA A h ≠ (v : Int) := by
      rcases hn with hn | hn
      · exact hn
      · rw [top_none hn]; omega
    rw [e0, e1, fam_zero]
    split
    · rename_i hb
      cases hf : fam A h s with
      | false => rfl
      | true =>
        have := fam_top hw _ h s (Nat.le_refl _) hf v (by omega)
        rw [this] at hb
        cases hb
    · rfl
/-- Two families, thing by thing, by a law on what the one and the other have. -/
theorem nodeZ_two {A A' : Ar} {a b lo hi : Int} {g : Bool → Bool → Bool} (hw : WfA A) (h24 : v < 24) (ha : (v : Int) ≤ topA A a) (hb : (v : Int) ≤ topA A b)
    (hlo : ∀ s, fam A' lo s = g (fam A (atZ A a v false) s) (fam A (atZ A b v false) s)) (hhi : ∀ s, fam A' hi s = g (fam A (atZ A a v true) s) (fam A (atZ A b v true) s)) (s : Nat) :
    nodeZ A' ⟨(v : Int), lo, hi⟩ s = g (fam A a s) (fam A b s) := by
  unfold nodeZ
  simp only
  rw [show ((v : Int)).toNat = v by omega, fam_part hw h24 ha s, fam_part hw h24 hb s]
  split
  · rw [hhi]
  · rw [hlo]
end
/-- Each set of a together with each of b. -/
def joinP (A : Ar) (a b : Int) (s : Nat) : Prop := ∃ x y, fam A a x = true ∧ fam A b y = true ∧ x ||| y = s
/-- No set of b is a part of it. -/
def freeP (A : Ar) (b : Int) (s : Nat) : Prop := ∀ t, fam A b t = true → subN t s = false
section
variable {A : Ar} {a b : Int} {v : Nat}
theorem or_clr (x y v : Nat) : clrN (x ||| y) v = clrN x v ||| clrN y v := Nat.eq_of_testBit_eq fun z => by
  rw [clr_bit, Nat.testBit_or, Nat.testBit_or, clr_bit, clr_bit]
  cases x.testBit z <;> cases y.testBit z <;> cases decide (v = z) <;> rfl
theorem sub_clr {t s v : Nat} (hs : s.testBit v = true) : subN t s = subN (clrN t v) (clrN s v) := by
  rw [Bool.eq_iff_iff, subN_iff, subN_iff]
  constructor
  · intro h y hy
    rw [clr_bit] at hy ⊢
    rw [Bool.and_eq_true] at hy ⊢
    exact ⟨h y hy.1, hy.2⟩
  · intro h y hy
    by_cases e : v = y
    · subst e; exact hs
    · have := h y (by rw [clr_bit, hy]; simp [e])
      rw [clr_bit, Bool.and_eq_true] at this
      exact this.1
theorem sub_not {t s v : Nat} (hs : s.testBit v = false) (h : subN t s = true) : t.testBit v = false := by
  cases ht : t.testBit v with
  | false => rfl
  | true => have := subN_iff.1 h v ht; rw [hs] at this; cases this
/-- Join, parted. -/
theorem join_part (hw : WfA A) (h24 : v < 24) (ha : (v : Int) ≤ topA A a) (hb : (v : Int) ≤ topA A b) (s : Nat) : joinP A a b s ↔
    if s.testBit v then (joinP A (atZ A a v true) (atZ A b v true) (clrN s v) ∨ joinP A (atZ A a v true) (atZ A b v false) (clrN s v) ∨ joinP A (atZ A a v false) (atZ A b v true) (clrN s v))
    else joinP A (atZ A a v false) (atZ A b v false) s := by
  have nb : ∀ (h : Int) (x : Nat) (b : Bool), (v : Int) ≤ topA A h → fam A (atZ A h v b) x = true → x.testBit v = false := fun h x b hh hf => fam_top hw _ _ x (Nat.le_refl _) hf v (atZ_top hw h24 hh b)
  constructor
  · rintro ⟨x, y, hx, hy, rfl⟩
    rw [fam_part hw h24 ha] at hx
    rw [fam_part hw h24 hb] at hy
    rw [Nat.testBit_or]
    cases bx : x.testBit v <;> cases by' : y.testBit v <;> rw [bx] at hx <;> rw [by'] at hy <;> simp only [Bool.or_true, Bool.or_false, Bool.false_eq_true, if_true, if_false] at hx hy ⊢
    · exact ⟨x, y, hx, hy, rfl⟩
    · exact .inr (.inr ⟨x, clrN y v, hx, hy, by rw [or_clr, clr_not bx]⟩)
    · exact .inr (.inl ⟨clrN x v, y, hx, hy, by rw [or_clr, clr_not by']⟩)
    · exact .inl ⟨clrN x v, clrN y v, hx, hy, by rw [or_clr]⟩
  · have up : ∀ (h : Int) (x : Nat), (v : Int) ≤ topA A h → fam A (atZ A h v true) x = true → fam A h (putN x v) = true := fun h x hh hf => by
      rw [fam_part hw h24 hh, if_pos (by rw [put_bit]; simp), clr_put (nb h x true hh hf)]
      exact hf
    have dn : ∀ (h : Int) (x : Nat), (v : Int) ≤ topA A h → fam A (atZ A h v false) x = true → fam A h x = true := fun h x hh hf => by
      rw [fam_part hw h24 hh, if_neg (by rw [nb h x false hh hf]; simp)]
      exact hf
    have e3 : ∀ x y s : Nat, s.testBit v = true → x ||| y = clrN s v → ∀ p q : Nat, (p = x ∨ p = putN x v) → (q = y ∨ q = putN y v) → (p = putN x v ∨ q = putN y v) → p ||| q = s := fun x y s hs hxy p q hp hq hpq => Nat.eq_of_testBit_eq fun z => by
      have hz := congrArg (fun t => t.testBit z) hxy
      simp only [Nat.testBit_or, clr_bit] at hz
      rw [Nat.testBit_or]
      by_cases e : v = z
      · subst e
        rw [hs]
        rcases hpq with rfl | rfl <;> rw [put_bit] <;> simp
      · simp only [e, decide_false, Bool.not_false, Bool.and_true] at hz
        rcases hp with rfl | rfl <;> rcases hq with rfl | rfl <;> first | exact hz | (simp only [put_bit, e, decide_false, Bool.or_false]; exact hz)
    split
    · rename_i hs
      rintro (⟨x, y, hx, hy, he⟩ | ⟨x, y, hx, hy, he⟩ | ⟨x, y, hx, hy, he⟩)
      · exact ⟨_, _, up a x ha hx, up b y hb hy, e3 x y s hs he _ _ (.inr rfl) (.inr rfl) (.inl rfl)⟩
      · exact ⟨_, _, up a x ha hx, dn b y hb hy, e3 x y s hs he _ _ (.inr rfl) (.inl rfl) (.inl rfl)⟩
      · exact ⟨_, _, dn a x ha hx, up b y hb hy, e3 x y s hs he _ _ (.inl rfl) (.inr rfl) (.inr rfl)⟩
    · rintro ⟨x, y, hx, hy, he⟩
      exact ⟨x, y, dn a x ha hx, dn b y hb hy, he⟩
/-- Of which no set of b is a part, parted. -/
theorem free_part (hw : WfA A) (h24 : v < 24) (hb : (v : Int) ≤ topA A b) (s : Nat) : freeP A b s ↔ if s.testBit v then freeP A (atZ A b v false) (clrN s v) ∧ freeP A (atZ A b v true) (clrN s v) else freeP A (atZ A b v false) s := by
  have nb : ∀ (x : Nat) (c : Bool), fam A (atZ A b v c) x = true → x.testBit v = false := fun x c hf => fam_top hw _ _ x (Nat.le_refl _) hf v (atZ_top hw h24 hb c)
  have up : ∀ (x : Nat), fam A (atZ A b v true) x = true → fam A b (putN x v) = true := fun x hf => by
    rw [fam_part hw h24 hb, if_pos (by rw [put_bit]; simp), clr_put (nb x true hf)]
    exact hf
  have dn : ∀ (x : Nat), fam A (atZ A b v false) x = true → fam A b x = true := fun x hf => by
    rw [fam_part hw h24 hb, if_neg (by rw [nb x false hf]; simp)]
    exact hf
  constructor
  · intro h
    split
    · rename_i hs
      refine ⟨fun t ht => ?_, fun t ht => ?_⟩
      · have := h t (dn t ht)
        rw [sub_clr hs, clr_not (nb t false ht)] at this
        exact this
      · have := h _ (up t ht)
        rw [sub_clr hs, clr_put (nb t true ht)] at this
        exact this
    · exact fun t ht => h t (dn t ht)
  · intro h t ht
    rw [fam_part hw h24 hb] at ht
    split at h
    · rename_i hs
      rw [sub_clr hs]
      split at ht
      · exact h.2 _ ht
      · rename_i hb'
        rw [clr_not (by simpa using hb')]
        exact h.1 _ ht
    · rename_i hs
      cases hsub : subN t s with
      | false => rfl
      | true =>
        have h0 := sub_not (by simpa using hs) hsub
        rw [if_neg (by rw [h0]; simp)] at ht
        rw [h t ht] at hsub
        cases hsub
end
end Go.Proofs.Ytfbhmkpihmcegaa
