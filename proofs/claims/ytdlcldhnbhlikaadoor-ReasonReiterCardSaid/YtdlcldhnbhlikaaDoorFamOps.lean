/-
  Families of sets as diagrams (Minato): which sets a handle has; two handles have the same just if they are the same. No program in sight. What one more node, and a sweep, make of an arena of families. No program in sight. What the steps of families mean, thing by thing. No program in sight.
-/
import Derived.Test.YtdlcldhnbhlikaaDoorBddCnt
import Derived.Test.YtdlcldhnbhlikaaDoorBddLaw
namespace Go.Proofs.YtdlcldhnbhlikaaDoor

/-- A set without thing v. -/
def clrN (s v : Nat) : Nat := s ^^^ (s &&& 2 ^ v)
def putN (s v : Nat) : Nat := s ||| 2 ^ v
theorem clr_bit (s v y : Nat) : (clrN s v).testBit y = (s.testBit y && !decide (v = y)) := by
  unfold clrN
  rw [Nat.testBit_xor, Nat.testBit_and, Nat.testBit_two_pow]
  cases s.testBit y <;> cases decide (v = y) <;> rfl
theorem put_bit (s v y : Nat) : (putN s v).testBit y = (s.testBit y || decide (v = y)) := by
  unfold putN
  rw [Nat.testBit_or, Nat.testBit_two_pow]
theorem clr_not {s v : Nat} (h : s.testBit v = false) : clrN s v = s := Nat.eq_of_testBit_eq fun y => by
  rw [clr_bit]
  by_cases e : v = y
  · subst e; simp [h]
  · simp [e]
theorem clr_put {s v : Nat} (h : s.testBit v = false) : clrN (putN s v) v = s := Nat.eq_of_testBit_eq fun y => by
  rw [clr_bit, put_bit]
  by_cases e : v = y
  · subst e; simp [h]
  · simp [e]
theorem put_clr {s v : Nat} (h : s.testBit v = true) : putN (clrN s v) v = s := Nat.eq_of_testBit_eq fun y => by
  rw [put_bit, clr_bit]
  by_cases e : v = y
  · subst e; simp [h]
  · simp [e]
def famN (A : Ar) : Nat → Int → Nat → Bool
  | 0, h, s => h == 1 && s == 0
  | n + 1, h, s => match gotA A h with
    | some d => if s.testBit d.var.toNat then famN A n d.high (clrN s d.var.toNat) else famN A n d.low s
    | none => h == 1 && s == 0
/-- Has a handle's family this set? -/
def fam (A : Ar) (h : Int) (s : Nat) : Bool := famN A 25 h s
/-- No node is there for nothing. -/
def RedZ (A : Ar) : Prop := ∀ h d, gotA A h = some d → d.high ≠ 0
section
variable {A : Ar} {h k : Int} {d : Nd} {s : Nat}
theorem famN_none (e : gotA A h = none) : ∀ n s, famN A n h s = (h == 1 && s == 0)
  | 0, s => rfl
  | n + 1, s => by show (match gotA A h with | some d => _ | none => _) = _; rw [e]
theorem famN_some (e : gotA A h = some d) (n s : Nat) : famN A (n + 1) h s = if s.testBit d.var.toNat then famN A n d.high (clrN s d.var.toNat) else famN A n d.low s := by
  show (match gotA A h with | some d => _ | none => _) = _; rw [e]
theorem famN_eq (hw : WfA A) : ∀ (n m : Nat) (h : Int) (s : Nat), dep A h ≤ n → dep A h ≤ m → famN A n h s = famN A m h s := by
  intro n
  induction n with
  | zero =>
    intro m h s h1 _
    have hn : gotA A h = none := by
      cases e : gotA A h with
      | none => rfl
      | some d => have := hw.dep e; unfold dep at h1; omega
    rw [famN_none hn, famN_none hn]
  | succ n ih =>
    intro m h s h1 h2
    cases e : gotA A h with
    | none => rw [famN_none e, famN_none e]
    | some d =>
      have ht := hw.dep e
      have hk0 := (hw.low _ _ e).2
      have hk1 := (hw.high _ _ e).2
      have he := top_some e
      unfold dep at h1 h2
      obtain ⟨m', rfl⟩ : ∃ m', m = m' + 1 := ⟨m - 1, by omega⟩
      rw [famN_some e, famN_some e, ih m' d.high _ (by unfold dep; omega) (by unfold dep; omega), ih m' d.low _ (by unfold dep; omega) (by unfold dep; omega)]
theorem fam_none (e : gotA A h = none) : fam A h s = (h == 1 && s == 0) := famN_none e 25 s
theorem fam_some (hw : WfA A) (e : gotA A h = some d) : fam A h s = if s.testBit d.var.toNat then fam A d.high (clrN s d.var.toNat) else fam A d.low s := by
  have h1 := hw.dep e
  have hk0 := (hw.low _ _ e).2
  have hk1 := (hw.high _ _ e).2
  have he := top_some e
  unfold fam
  rw [famN_some e, famN_eq hw 24 25 d.high _ (by unfold dep; omega) (by unfold dep; omega), famN_eq hw 24 25 d.low _ (by unfold dep; omega) (by unfold dep; omega)]
/-- A family's sets have no thing ahead of its top. -/
theorem fam_top (hw : WfA A) : ∀ (n : Nat) (h : Int) (s : Nat), dep A h ≤ n → fam A h s = true → ∀ y : Nat, (y : Int) < topA A h → s.testBit y = false := by
  intro n
  induction n with
  | zero =>
    intro h s h1 hf y _
    have hn : gotA A h = none := by
      cases e : gotA A h with
      | none => rfl
      | some d => have := hw.dep e; unfold dep at h1; omega
    rw [fam_none hn] at hf
    simp at hf
    rw [hf.2, Nat.zero_testBit]
  | succ n ih =>
    intro h s h1 hf y hy
    cases e : gotA A h with
    | none =>
      rw [fam_none e] at hf
      simp at hf
      rw [hf.2, Nat.zero_testBit]
    | some d =>
      have ht := hw.dep e
      have hk0 := (hw.low _ _ e).2
      have hk1 := (hw.high _ _ e).2
      have he := top_some e
      unfold dep at h1
      rw [fam_some hw e] at hf
      split at hf
      · have := ih d.high _ (by unfold dep; omega) hf y (by omega)
        rw [clr_bit] at this
        simpa [show ¬ d.var.toNat = y by omega] using this
      · exact ih d.low _ (by unfold dep; omega) hf y (by omega)
theorem fam_zero (s : Nat) : fam A 0 s = false := by
  have : gotA A 0 = none := by unfold gotA; rw [if_neg (by omega)]
  rw [fam_none this]
  rfl
theorem fam_one (s : Nat) : fam A 1 s = (s == 0) := by
  have : gotA A 1 = none := by unfold gotA; rw [if_neg (by omega)]
  rw [fam_none this]
  rfl
theorem end_two (hx : hasA A h = true) (hg : gotA A h = none) : h = 0 ∨ h = 1 := by
  unfold hasA at hx
  rw [hg] at hx
  simpa using hx
/-- Whatever is not none has a set. -/
theorem fam_ne (hw : WfA A) (hr : RedZ A) : ∀ (n : Nat) (h : Int), dep A h ≤ n → hasA A h = true → h ≠ 0 → ∃ s, fam A h s = true := by
  intro n
  induction n with
  | zero =>
    intro h h1 hh h0
    have hn : gotA A h = none := by
      cases e : gotA A h with
      | none => rfl
      | some d => have := hw.dep e; unfold dep at h1; omega
    rcases end_two hh hn with rfl | rfl
    · exact absurd rfl h0
    · exact ⟨0, by rw [fam_one]; rfl⟩
  | succ n ih =>
    intro h h1 hh h0
    cases e : gotA A h with
    | none =>
      rcases end_two hh e with rfl | rfl
      · exact absurd rfl h0
      · exact ⟨0, by rw [fam_one]; rfl⟩
    | some d =>
      have ht := hw.dep e
      have hk1 := hw.high _ _ e
      have he := top_some e
      unfold dep at h1
      obtain ⟨s, hs⟩ := ih d.high (by unfold dep; omega) hk1.1 (hr _ _ e)
      have hb := fam_top hw _ d.high s (Nat.le_refl _) hs d.var.toNat (by omega)
      refine ⟨putN s d.var.toNat, ?_⟩
      rw [fam_some hw e, if_pos (by rw [put_bit]; simp), clr_put hb]
      exact hs
/-- .. and one with its top. -/
theorem fam_has (hw : WfA A) (hr : RedZ A) (e : gotA A h = some d) : ∃ s, fam A h s = true ∧ s.testBit d.var.toNat = true := by
  have hk1 := hw.high _ _ e
  have ht := hw.dep e
  have he := top_some e
  obtain ⟨s, hs⟩ := fam_ne hw hr _ d.high (Nat.le_refl _) hk1.1 (hr _ _ e)
  have hb := fam_top hw _ d.high s (Nat.le_refl _) hs d.var.toNat (by omega)
  refine ⟨putN s d.var.toNat, ?_, by rw [put_bit]; simp⟩
  rw [fam_some hw e, if_pos (by rw [put_bit]; simp), clr_put hb]
  exact hs
/-- MINATO. -/
theorem fam_inj (hw : WfA A) (hr : RedZ A) : ∀ (n : Nat) (h k : Int), dep A h ≤ n → dep A k ≤ n → hasA A h = true → hasA A k = true → (∀ s, fam A h s = fam A k s) → h = k := by
  intro n
  induction n with
  | zero =>
    intro h k h1 k1 hh hk hf
    have hn : gotA A h = none := by
      cases e : gotA A h with
      | none => rfl
      | some d => have := hw.dep e; unfold dep at h1; omega
    have kn : gotA A k = none := by
      cases e : gotA A k with
      | none => rfl
      | some d => have := hw.dep e; unfold dep at k1; omega
    have := hf 0
    rcases end_two hh hn with rfl | rfl <;> rcases end_two hk kn with rfl | rfl
    · rfl
    · rw [fam_zero, fam_one] at this; cases this
    · rw [fam_zero, fam_one] at this; cases this
    · rfl
  | succ n ih =>
    intro h k h1 k1 hh hk hf
    have differ : ∀ (h k : Int) (d : Nd), gotA A h = some d → d.var < topA A k → ¬ ∀ s, fam A h s = fam A k s := by
      intro h k d e hlt hf
      have hd := hw.dep e
      have he := top_some e
      obtain ⟨s, hs, hb⟩ := fam_has hw hr e
      rw [hf] at hs
      have := fam_top hw _ k s (Nat.le_refl _) hs d.var.toNat (by omega)
      rw [this] at hb
      cases hb
    cases e : gotA A h with
    | none =>
      cases e' : gotA A k with
      | none =>
        have := hf 0
        rcases end_two hh e with rfl | rfl <;> rcases end_two hk e' with rfl | rfl
        · rfl
        · rw [fam_zero, fam_one] at this; cases this
        · rw [fam_zero, fam_one] at this; cases this
        · rfl
      | some d' =>
        have hd' := hw.dep e'
        have he' := top_some e'
        exact absurd (fun s => (hf s).symm) (differ k h d' e' (by rw [top_none e]; omega))
    | some d =>
      have hd := hw.dep e
      have he := top_some e
      cases e' : gotA A k with
      | none => exact absurd hf (differ h k d e (by rw [top_none e']; omega))
      | some d' =>
        have hd' := hw.dep e'
        have he' := top_some e'
        rcases Int.lt_trichotomy d.var d'.var with hlt | heq | hgt
        · exact absurd hf (differ h k d e (by omega))
        · have hk0 := hw.low _ _ e
          have hk1 := hw.high _ _ e
          have jk0 := hw.low _ _ e'
          have jk1 := hw.high _ _ e'
          unfold dep at h1 k1
          have none_of : ∀ (x : Int) (s : Nat), d.var < topA A x → s.testBit d.var.toNat = true → fam A x s = false := fun x s hx hb => by
            cases hf2 : fam A x s with
            | false => rfl
            | true =>
              have := fam_top hw _ x s (Nat.le_refl _) hf2 d.var.toNat (by omega)
              rw [this] at hb
              cases hb
          have hl : d.low = d'.low := by
            refine ih d.low d'.low (by unfold dep; omega) (by unfold dep; omega) hk0.1 jk0.1 fun s => ?_
            cases hb : s.testBit d.var.toNat with
            | true => rw [none_of _ s hk0.2 hb, none_of _ s (by omega) hb]
            | false =>
              have := hf s
              rw [fam_some hw e, fam_some hw e', ← heq, hb] at this
              simpa using this
          have hg : d.high = d'.high := by
            refine ih d.high d'.high (by unfold dep; omega) (by unfold dep; omega) hk1.1 jk1.1 fun s => ?_
            cases hb : s.testBit d.var.toNat with
            | true => rw [none_of _ s hk1.2 hb, none_of _ s (by omega) hb]
            | false =>
              have := hf (putN s d.var.toNat)
              rw [fam_some hw e, fam_some hw e', ← heq, if_pos (by rw [put_bit]; simp), if_pos (by rw [put_bit]; simp), clr_put hb] at this
              exact this
          have hdd : d = d' := by
            obtain ⟨a, b, c⟩ := d
            obtain ⟨a', b', c'⟩ := d'
            simp only at heq hl hg
            rw [heq, hl, hg]
          rw [hdd] at e
          exact hw.once h k d' e e'
        · exact absurd (fun s => (hf s).symm) (differ k h d' e' (by omega))
end
end Go.Proofs.YtdlcldhnbhlikaaDoor
namespace Go.Proofs.YtdlcldhnbhlikaaDoor

/-- An arena of families of so many things. -/
structure SpZ (A : Ar) (things : Int) : Prop where
  wf : WfA A
  red : RedZ A
  var : VarA A things
  len : A.length = 4000
/-- A step from one arena to another that has all of it, and this handle. -/
structure StpZ (A A' : Ar) (things : Int) (c : Nat) (t h : Int) (f : Nat → Bool) : Prop where
  sp : SpZ A' things
  ext : ExtA A A'
  few : low3 A' ≤ low3 A + c
  has : hasA A' h = true
  top : t ≤ topA A' h
  fam : ∀ s, fam A' h s = f s
section
variable {A A' : Ar} {h : Int}
theorem ExtA.famE (hx : ExtA A A') (hw : WfA A) (hw' : WfA A') : ∀ (n : Nat) (h : Int) (s : Nat), dep A h ≤ n → hasA A h = true → fam A' h s = fam A h s := by
  intro n
  induction n with
  | zero =>
    intro h s h1 p
    have hn : gotA A h = none := by
      cases e : gotA A h with
      | none => rfl
      | some d => have := hw.dep e; unfold dep at h1; omega
    rw [fam_none hn, fam_none ((hx.got p).trans hn)]
  | succ n ih =>
    intro h s h1 p
    cases e : gotA A h with
    | none => rw [fam_none e, fam_none ((hx.got p).trans e)]
    | some d =>
      have ht := hw.dep e
      have hk0 := hw.low _ _ e
      have hk1 := hw.high _ _ e
      have he := top_some e
      unfold dep at h1
      rw [fam_some hw e, fam_some hw' ((hx.got p).trans e), ih d.high _ (by unfold dep; omega) hk1.1, ih d.low _ (by unfold dep; omega) hk0.1]
end
theorem SpZ.same {A A' : Ar} {things things' : Int} (h : SpZ A things) (h' : SpZ A' things') (hx : ExtA A A') {x : Int} (p : hasA A x = true) (s : Nat) : fam A' x s = fam A x s := hx.famE h.wf h'.wf _ x s (Nat.le_refl _) p
/-- What a node is of. -/
def nodeZ (A : Ar) (n : Nd) (s : Nat) : Bool := if s.testBit n.var.toNat then fam A n.high (clrN s n.var.toNat) else fam A n.low s
theorem mkz_ok {A : Ar} {things : Int} {n : Nd} (h : SpZ A things) (h6 : things ≤ 6) (hl : low3 A + (if n.var < 3 then 1 else 0) ≤ 2000) (hm : MayA A n) (hv : n.var < things) (hne : n.high ≠ 0) :
    makeE A n = 0 ∧ StpZ A (makeA A n) things (if n.var < 3 then 1 else 0) n.var (makeH A n) (nodeZ A n) := by
  have fin : ∀ A', SpZ A' things → ExtA A A' → low3 A' ≤ low3 A + (if n.var < 3 then 1 else 0) → ∀ x, gotA A' x = some n → StpZ A A' things (if n.var < 3 then 1 else 0) n.var x (nodeZ A n) := by
    intro A' h' hx hf x e
    refine ⟨h', hx, hf, has_some e, by rw [top_some e]; exact Int.le_refl _, fun s => ?_⟩
    rw [fam_some h'.wf e]
    unfold nodeZ
    rw [h.same h' hx hm.low.1, h.same h' hx hm.high.1]
  cases hl1 : liesA A n with
  | some k =>
    obtain ⟨e1, e2, e3⟩ := make_lies hm hl1
    rw [e2, e3]
    exact ⟨e1, fin A h (.refl A) (Nat.le_add_right _ _) _ (gotA_k.trans (liesA_some hl1))⟩
  | none =>
    cases hf : freeA A with
    | none =>
      have a1 := free_full hf
      have a2 := cnt_le h.wf (fun x d e => by have := h.var x d e; omega)
      have a3 := h.len
      split at hl <;> omega
    | some k =>
      obtain ⟨e1, e2, e3⟩ := make_new hm hl1 hf
      obtain ⟨hk, hkn⟩ := freeA_some hf
      rw [e2, e3]
      have hg := fun x => gotA_set (n := n) hk (x := x)
      have hx : ExtA A (A.set k (some n)) := ⟨List.length_set, fun x d e => by
        rw [hg x, if_neg]
        · exact e
        · rintro rfl
          rw [gotA_k, hkn] at e
          cases e⟩
      refine ⟨e1, fin _ ⟨h.wf.put hm hl1 hkn hk, fun x d e => ?_, fun x d e => ?_, by rw [List.length_set]; exact h.len⟩ hx (low3_set hk) _ (by rw [hg, if_pos rfl])⟩
      · rw [hg x] at e
        split at e
        · cases e; exact hne
        · exact h.red x d e
      · rw [hg x] at e
        split at e
        · cases e; exact hv
        · exact h.var x d e
theorem SpZ.sweep {A : Ar} {things : Int} (h : SpZ A things) (l : List Int) : SpZ (sweepA A l) things :=
  ⟨h.wf.sweep l, fun x d e => h.red x d ((sweep_ext A l).2 x d e), fun x d e => h.var x d ((sweep_ext A l).2 x d e), (sweep_len A l).trans h.len⟩
theorem sweep_fam {A : Ar} {things : Int} {l : List Int} {x : Int} (h : SpZ A things) (hx : x ∈ l) (p : hasA A x = true) (s : Nat) : fam (sweepA A l) x s = fam A x s :=
  ((h.sweep l).same h (sweep_ext A l) (sweep_has hx p) s).symm
/-- Where nothing has the thing there is no node. -/
theorem nodeZ_low {A : Ar} {things t lo : Int} (h : SpZ A things) (ht : t < topA A lo) (h0 : 0 ≤ t) (s : Nat) : nodeZ A ⟨t, lo, 0⟩ s = fam A lo s := by
  unfold nodeZ
  simp only
  split
  · rename_i hb
    rw [fam_zero]
    cases hf : fam A lo s with
    | false => rfl
    | true =>
      have := fam_top h.wf _ lo s (Nat.le_refl _) hf t.toNat (by omega)
      rw [this] at hb
      cases hb
  · rfl
end Go.Proofs.YtdlcldhnbhlikaaDoor
namespace Go.Proofs.YtdlcldhnbhlikaaDoor

/-- Those without a thing, and those with it, without it. -/
def atZ (A : Ar) (h v : Int) (b : Bool) : Int := match gotA A h with | some n => if n.var = v then (if b then n.high else n.low) else (if b then 0 else h) | none => if b then 0 else h
/-- Is every thing of t one of s? -/
def subN (t s : Nat) : Bool := t &&& s == t
theorem subN_iff {t s : Nat} : subN t s = true ↔ ∀ y, t.testBit y = true → s.testBit y = true := by
  unfold subN
  rw [beq_iff_eq]
  constructor
  · intro h y hy
    have := congrArg (fun x => x.testBit y) h
    simp only [Nat.testBit_and, hy, Bool.true_and] at this
    exact this
  · intro h
    refine Nat.eq_of_testBit_eq fun y => ?_
    rw [Nat.testBit_and]
    cases ht : t.testBit y
    · rfl
    · rw [h y ht]; rfl
section
variable {A : Ar} {h : Int} {v : Nat}
theorem atZ_none (e : gotA A h = none) (b : Bool) : atZ A h v b = if b then 0 else h := by unfold atZ; rw [e]
theorem atZ_is {n : Nd} (e : gotA A h = some n) (hv : n.var = (v : Int)) (b : Bool) : atZ A h v b = if b then n.high else n.low := by
  unfold atZ; rw [e]; simp only; rw [if_pos hv]
theorem atZ_not {n : Nd} (e : gotA A h = some n) (hv : n.var ≠ (v : Int)) (b : Bool) : atZ A h v b = if b then 0 else h := by
  unfold atZ; rw [e]; simp only; rw [if_neg hv]
theorem atZ_cases (h : Int) (v : Nat) : (∃ d, gotA A h = some d ∧ d.var = (v : Int) ∧ atZ A h v false = d.low ∧ atZ A h v true = d.high) ∨ (topA A h ≠ (v : Int) ∨ gotA A h = none) ∧ atZ A h v false = h ∧ atZ A h v true = 0 := by
  cases e : gotA A h with
  | none => exact .inr ⟨.inr rfl, atZ_none e false, atZ_none e true⟩
  | some d =>
    by_cases hv : d.var = (v : Int)
    · exact .inl ⟨d, rfl, hv, atZ_is e hv false, atZ_is e hv true⟩
    · exact .inr ⟨.inl (by rw [top_some e]; exact hv), atZ_not e hv false, atZ_not e hv true⟩
theorem atZ_has (hw : WfA A) (hh : hasA A h = true) (b : Bool) : hasA A (atZ A h v b) = true := by
  rcases atZ_cases (A := A) h v with ⟨d, e, _, e0, e1⟩ | ⟨_, e0, e1⟩
  · cases b
    · rw [e0]; exact (hw.low _ _ e).1
    · rw [e1]; exact (hw.high _ _ e).1
  · cases b
    · rw [e0]; exact hh
    · rw [e1]; exact has_ends.1
theorem atZ_top (hw : WfA A) (h24 : v < 24) (hv : (v : Int) ≤ topA A h) (b : Bool) : (v : Int) < topA A (atZ A h v b) := by
  rcases atZ_cases (A := A) h v with ⟨d, e, ev, e0, e1⟩ | ⟨hn, e0, e1⟩
  · cases b
    · rw [e0]; have := (hw.low _ _ e).2; omega
    · rw [e1]; have := (hw.high _ _ e).2; omega
  · have : topA A h ≠ (v : Int) := by
      rcases hn with hn | hn
      · exact hn
      · rw [top_none hn]; omega
    cases b
    · rw [e0]; omega
    · rw [e1, top_none (show gotA A 0 = none by unfold gotA; rw [if_neg (by omega)])]; omega
/-- A family, parted by a thing that is not behind its top. -/
theorem fam_part (hw : WfA A) (h24 : v < 24) (hv : (v : Int) ≤ topA A h) (s : Nat) : fam A h s = if s.testBit v then fam A (atZ A h v true) (clrN s v) else fam A (atZ A h v false) s := by
  rcases atZ_cases (A := A) h v with ⟨d, e, ev, e0, e1⟩ | ⟨hn, e0, e1⟩
  · rw [fam_some hw e, e0, e1, show d.var.toNat = v by omega]
  · have ht : topA A h ≠ (v : Int) := by
      rcases hn with hn | hn
      · exact hn
      · rw [top_none hn]; omega
    rw [e0, e1, fam_zero]
    split
    · rename_i hb
      cases hf : fam A h s with
      | false => rfl
      | true =>
        have := fam_top hw _ h s (Nat.le_refl _) hf v (by omega)
        rw [this] at hb
        cases hb
    · rfl
/-- Two families, thing by thing, by a law on what the one and the other have. -/
theorem nodeZ_two {A A' : Ar} {a b lo hi : Int} {g : Bool → Bool → Bool} (hw : WfA A) (h24 : v < 24) (ha : (v : Int) ≤ topA A a) (hb : (v : Int) ≤ topA A b)
    (hlo : ∀ s, fam A' lo s = g (fam A (atZ A a v false) s) (fam A (atZ A b v false) s)) (hhi : ∀ s, fam A' hi s = g (fam A (atZ A a v true) s) (fam A (atZ A b v true) s)) (s : Nat) :
    nodeZ A' ⟨(v : Int), lo, hi⟩ s = g (fam A a s) (fam A b s) := by
  unfold nodeZ
  simp only
  rw [show ((v : Int)).toNat = v by omega, fam_part hw h24 ha s, fam_part hw h24 hb s]
  split
  · rw [hhi]
  · rw [hlo]
end
/-- Each set of a together with each of b. -/
def joinP (A : Ar) (a b : Int) (s : Nat) : Prop := ∃ x y, fam A a x = true ∧ fam A b y = true ∧ x ||| y = s
/-- No set of b is a part of it. -/
def freeP (A : Ar) (b : Int) (s : Nat) : Prop := ∀ t, fam A b t = true → subN t s = false
section
variable {A : Ar} {a b : Int} {v : Nat}
theorem or_clr (x y v : Nat) : clrN (x ||| y) v = clrN x v ||| clrN y v := Nat.eq_of_testBit_eq fun z => by
  rw [clr_bit, Nat.testBit_or, Nat.testBit_or, clr_bit, clr_bit]
  cases x.testBit z <;> cases y.testBit z <;> cases decide (v = z) <;> rfl
theorem sub_clr {t s v : Nat} (hs : s.testBit v = true) : subN t s = subN (clrN t v) (clrN s v) := by
  rw [Bool.eq_iff_iff, subN_iff, subN_iff]
  constructor
  · intro h y hy
    rw [clr_bit] at hy ⊢
    rw [Bool.and_eq_true] at hy ⊢
    exact ⟨h y hy.1, hy.2⟩
  · intro h y hy
    by_cases e : v = y
    · subst e; exact hs
    · have := h y (by rw [clr_bit, hy]; simp [e])
      rw [clr_bit, Bool.and_eq_true] at this
      exact this.1
theorem sub_not {t s v : Nat} (hs : s.testBit v = false) (h : subN t s = true) : t.testBit v = false := by
  cases ht : t.testBit v with
  | false => rfl
  | true => have := subN_iff.1 h v ht; rw [hs] at this; cases this
/-- Join, parted. -/
theorem join_part (hw : WfA A) (h24 : v < 24) (ha : (v : Int) ≤ topA A a) (hb : (v : Int) ≤ topA A b) (s : Nat) : joinP A a b s ↔
    if s.testBit v then (joinP A (atZ A a v true) (atZ A b v true) (clrN s v) ∨ joinP A (atZ A a v true) (atZ A b v false) (clrN s v) ∨ joinP A (atZ A a v false) (atZ A b v true) (clrN s v))
    else joinP A (atZ A a v false) (atZ A b v false) s := by
  have nb : ∀ (h : Int) (x : Nat) (b : Bool), (v : Int) ≤ topA A h → fam A (atZ A h v b) x = true → x.testBit v = false := fun h x b hh hf => fam_top hw _ _ x (Nat.le_refl _) hf v (atZ_top hw h24 hh b)
  constructor
  · rintro ⟨x, y, hx, hy, rfl⟩
    rw [fam_part hw h24 ha] at hx
    rw [fam_part hw h24 hb] at hy
    rw [Nat.testBit_or]
    cases bx : x.testBit v <;> cases by' : y.testBit v <;> rw [bx] at hx <;> rw [by'] at hy <;> simp only [Bool.or_true, Bool.or_false, Bool.false_eq_true, if_true, if_false] at hx hy ⊢
    · exact ⟨x, y, hx, hy, rfl⟩
    · exact .inr (.inr ⟨x, clrN y v, hx, hy, by rw [or_clr, clr_not bx]⟩)
    · exact .inr (.inl ⟨clrN x v, y, hx, hy, by rw [or_clr, clr_not by']⟩)
    · exact .inl ⟨clrN x v, clrN y v, hx, hy, by rw [or_clr]⟩
  · have up : ∀ (h : Int) (x : Nat), (v : Int) ≤ topA A h → fam A (atZ A h v true) x = true → fam A h (putN x v) = true := fun h x hh hf => by
      rw [fam_part hw h24 hh, if_pos (by rw [put_bit]; simp), clr_put (nb h x true hh hf)]
      exact hf
    have dn : ∀ (h : Int) (x : Nat), (v : Int) ≤ topA A h → fam A (atZ A h v false) x = true → fam A h x = true := fun h x hh hf => by
      rw [fam_part hw h24 hh, if_neg (by rw [nb h x false hh hf]; simp)]
      exact hf
    have e3 : ∀ x y s : Nat, s.testBit v = true → x ||| y = clrN s v → ∀ p q : Nat, (p = x ∨ p = putN x v) → (q = y ∨ q = putN y v) → (p = putN x v ∨ q = putN y v) → p ||| q = s := fun x y s hs hxy p q hp hq hpq => Nat.eq_of_testBit_eq fun z => by
      have hz := congrArg (fun t => t.testBit z) hxy
      simp only [Nat.testBit_or, clr_bit] at hz
      rw [Nat.testBit_or]
      by_cases e : v = z
      · subst e
        rw [hs]
        rcases hpq with rfl | rfl <;> rw [put_bit] <;> simp
      · simp only [e, decide_false, Bool.not_false, Bool.and_true] at hz
        rcases hp with rfl | rfl <;> rcases hq with rfl | rfl <;> first | exact hz | (simp only [put_bit, e, decide_false, Bool.or_false]; exact hz)
    split
    · rename_i hs
      rintro (⟨x, y, hx, hy, he⟩ | ⟨x, y, hx, hy, he⟩ | ⟨x, y, hx, hy, he⟩)
      · exact ⟨_, _, up a x ha hx, up b y hb hy, e3 x y s hs he _ _ (.inr rfl) (.inr rfl) (.inl rfl)⟩
      · exact ⟨_, _, up a x ha hx, dn b y hb hy, e3 x y s hs he _ _ (.inr rfl) (.inl rfl) (.inl rfl)⟩
      · exact ⟨_, _, dn a x ha hx, up b y hb hy, e3 x y s hs he _ _ (.inl rfl) (.inr rfl) (.inr rfl)⟩
    · rintro ⟨x, y, hx, hy, he⟩
      exact ⟨x, y, dn a x ha hx, dn b y hb hy, he⟩
/-- Of which no set of b is a part, parted. -/
theorem free_part (hw : WfA A) (h24 : v < 24) (hb : (v : Int) ≤ topA A b) (s : Nat) : freeP A b s ↔ if s.testBit v then freeP A (atZ A b v false) (clrN s v) ∧ freeP A (atZ A b v true) (clrN s v) else freeP A (atZ A b v false) s := by
  have nb : ∀ (x : Nat) (c : Bool), fam A (atZ A b v c) x = true → x.testBit v = false := fun x c hf => fam_top hw _ _ x (Nat.le_refl _) hf v (atZ_top hw h24 hb c)
  have up : ∀ (x : Nat), fam A (atZ A b v true) x = true → fam A b (putN x v) = true := fun x hf => by
    rw [fam_part hw h24 hb, if_pos (by rw [put_bit]; simp), clr_put (nb x true hf)]
    exact hf
  have dn : ∀ (x : Nat), fam A (atZ A b v false) x = true → fam A b x = true := fun x hf => by
    rw [fam_part hw h24 hb, if_neg (by rw [nb x false hf]; simp)]
    exact hf
  constructor
  · intro h
    split
    · rename_i hs
      refine ⟨fun t ht => ?_, fun t ht => ?_⟩
      · have := h t (dn t ht)
        rw [sub_clr hs, clr_not (nb t false ht)] at this
        exact this
      · have := h _ (up t ht)
        rw [sub_clr hs, clr_put (nb t true ht)] at this
        exact this
    · exact fun t ht => h t (dn t ht)
  · intro h t ht
    rw [fam_part hw h24 hb] at ht
    split at h
    · rename_i hs
      rw [sub_clr hs]
      split at ht
      · exact h.2 _ ht
      · rename_i hb'
        rw [clr_not (by simpa using hb')]
        exact h.1 _ ht
    · rename_i hs
      cases hsub : subN t s with
      | false => rfl
      | true =>
        have h0 := sub_not (by simpa using hs) hsub
        rw [if_neg (by rw [h0]; simp)] at ht
        rw [h t ht] at hsub
        cases hsub
end
end Go.Proofs.YtdlcldhnbhlikaaDoor
