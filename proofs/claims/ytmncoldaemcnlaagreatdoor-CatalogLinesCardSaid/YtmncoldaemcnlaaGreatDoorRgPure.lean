/-
  Ranges of versions: spans that rise and don't touch, and the places at which being in one turns. No program in sight.
-/
import Derived.Test.YtmncoldaemcnlaaGreatDoorArenaOut
namespace Go.Proofs.YtmncoldaemcnlaaGreatDoor

def endR : Nat := 1000000000
/-- Spans that rise, and don't touch, from lo on. -/
def CanF : Nat → List (Nat × Nat) → Prop
  | _, [] => True
  | lo, s :: r => lo ≤ s.1 ∧ s.1 < s.2 ∧ s.2 ≤ endR ∧ CanF (s.2 + 1) r
/-- What spans have. -/
def setS (l : List (Nat × Nat)) (n : Nat) : Bool := l.any fun s => decide (s.1 ≤ n) && decide (n < s.2)
theorem setS_nil (n : Nat) : setS [] n = false := rfl
theorem setS_cons (s : Nat × Nat) (l : List (Nat × Nat)) (n : Nat) : setS (s :: l) n = ((decide (s.1 ≤ n) && decide (n < s.2)) || setS l n) := rfl
theorem setS_app (a b : List (Nat × Nat)) (n : Nat) : setS (a ++ b) n = (setS a n || setS b n) := by unfold setS; rw [List.any_append]
theorem CanF.lower {lo lo' : Nat} {l : List (Nat × Nat)} (h : CanF lo l) (hl : lo' ≤ lo) : CanF lo' l := by
  cases l with
  | nil => trivial
  | cons s r => exact ⟨Nat.le_trans hl h.1, h.2⟩
theorem CanF.before : ∀ {lo n : Nat} {l : List (Nat × Nat)}, CanF lo l → n < lo → setS l n = false
  | _, _, [], _, _ => rfl
  | lo, n, s :: r, h, hn => by
    rw [setS_cons, CanF.before h.2.2.2 (by have := h.1; have := h.2.1; omega)]
    have := h.1
    simp
    omega
theorem CanF.all : ∀ {lo : Nat} {l : List (Nat × Nat)}, CanF lo l → ∀ s ∈ l, lo ≤ s.1 ∧ s.1 < s.2 ∧ s.2 ≤ endR
  | _, [], _, s, hs => by cases hs
  | lo, x :: r, h, s, hs => by
    rcases List.mem_cons.1 hs with e | e
    · rw [e]; exact ⟨h.1, h.2.1, h.2.2.1⟩
    · have := CanF.all h.2.2.2 s e
      have h1 := h.1
      have h2 := h.2.1
      exact ⟨by omega, this.2⟩
/-- Spans that have the same are alike. -/
theorem can_same : ∀ (l l' : List (Nat × Nat)) (lo : Nat), CanF lo l → CanF lo l' → (∀ n, lo ≤ n → n < endR → setS l n = setS l' n) → l = l'
  | [], [], _, _, _, _ => rfl
  | [], s :: r, lo, _, h', h => by
    have := h s.1 h'.1 (by have := h'.2.1; have := h'.2.2.1; omega)
    rw [setS_nil, setS_cons] at this
    have h2 := h'.2.1
    simp at this
    omega
  | s :: r, [], lo, h', _, h => by
    have := h s.1 h'.1 (by have := h'.2.1; have := h'.2.2.1; omega)
    rw [setS_nil, setS_cons] at this
    have h2 := h'.2.1
    simp at this
    omega
  | s :: r, s' :: r', lo, h1, h2, h => by
    obtain ⟨a1, a2, a3, a4⟩ := h1
    obtain ⟨b1, b2, b3, b4⟩ := h2
    have e1 : s.1 = s'.1 := by
      rcases Nat.lt_trichotomy s.1 s'.1 with hlt | he | hlt
      · have := h s.1 a1 (by omega)
        rw [setS_cons, setS_cons, b4.before (show s.1 < s'.2 + 1 by omega), decide_eq_true (Nat.le_refl s.1), decide_eq_true a2, decide_eq_false (show ¬ s'.1 ≤ s.1 by omega)] at this
        simp at this
      · exact he
      · have := h s'.1 b1 (by omega)
        rw [setS_cons, setS_cons, a4.before (show s'.1 < s.2 + 1 by omega), decide_eq_true (Nat.le_refl s'.1), decide_eq_true b2, decide_eq_false (show ¬ s.1 ≤ s'.1 by omega)] at this
        simp at this
    have e2 : s.2 = s'.2 := by
      rcases Nat.lt_trichotomy s.2 s'.2 with hlt | he | hlt
      · have := h s.2 (by omega) (by omega)
        rw [setS_cons, setS_cons, a4.before (Nat.lt_succ_self _), decide_eq_false (Nat.lt_irrefl s.2), decide_eq_true (show s'.1 ≤ s.2 by omega), decide_eq_true hlt] at this
        simp at this
      · exact he
      · have := h s'.2 (by omega) (by omega)
        rw [setS_cons, setS_cons, b4.before (Nat.lt_succ_self _), decide_eq_false (Nat.lt_irrefl s'.2), decide_eq_true (show s.1 ≤ s'.2 by omega), decide_eq_true hlt] at this
        simp at this
    have e : s = s' := Prod.ext e1 e2
    subst e
    rw [can_same r r' (s.2 + 1) a4 b4 fun n hn hlt => by
      have := h n (by omega) hlt
      rw [setS_cons, setS_cons, decide_eq_false (show ¬ n < s.2 by omega)] at this
      simpa using this]
/-! ### Spans put together where they touch -/
def mgR : Nat × Nat → List (Nat × Nat) → List (Nat × Nat)
  | c, [] => [c]
  | c, s :: r => if s.1 ≤ c.2 then mgR (c.1, max c.2 s.2) r else c :: mgR s r
theorem mgR_nil (c : Nat × Nat) : mgR c [] = [c] := rfl
theorem mgR_in {c s : Nat × Nat} (r : List (Nat × Nat)) (h : s.1 ≤ c.2) : mgR c (s :: r) = mgR (c.1, max c.2 s.2) r := by rw [mgR]; exact if_pos h
theorem mgR_out {c s : Nat × Nat} (r : List (Nat × Nat)) (h : ¬ s.1 ≤ c.2) : mgR c (s :: r) = c :: mgR s r := by rw [mgR]; exact if_neg h
def RiseS (l : List (Nat × Nat)) : Prop := l.Pairwise fun a b => a.1 ≤ b.1
theorem mg_spec : ∀ (r : List (Nat × Nat)) (c : Nat × Nat) (lo : Nat), RiseS (c :: r) → (∀ s ∈ c :: r, s.1 < s.2 ∧ s.2 ≤ endR) → lo ≤ c.1 → CanF lo (mgR c r) ∧ ∀ n, setS (mgR c r) n = setS (c :: r) n
  | [], c, lo, _, h2, h3 => ⟨⟨h3, (h2 c (by simp)).1, (h2 c (by simp)).2, trivial⟩, fun n => rfl⟩
  | s :: r, c, lo, h1, h2, h3 => by
    have hc := h2 c (by simp)
    have hs := h2 s (by simp)
    have h1' := List.pairwise_cons.1 h1
    have h1'' := List.pairwise_cons.1 h1'.2
    have hcs : c.1 ≤ s.1 := h1'.1 s (by simp)
    by_cases h : s.1 ≤ c.2
    · rw [mgR_in r h]
      obtain ⟨a1, a2⟩ := mg_spec r (c.1, max c.2 s.2) lo (List.pairwise_cons.2 ⟨fun x hx => h1'.1 x (List.mem_cons_of_mem _ hx), h1''.2⟩) (fun x hx => by
        rcases List.mem_cons.1 hx with e | e
        · subst e
          simp only
          omega
        · exact h2 x (List.mem_cons_of_mem _ (List.mem_cons_of_mem _ e))) h3
      refine ⟨a1, fun n => ?_⟩
      rw [a2, setS_cons, setS_cons, setS_cons, ← Bool.or_assoc]
      congr 1
      rw [Bool.eq_iff_iff]
      simp
      omega
    · rw [mgR_out r h]
      obtain ⟨a1, a2⟩ := mg_spec r s (c.2 + 1) h1'.2 (fun x hx => h2 x (List.mem_cons_of_mem _ hx)) (by omega)
      exact ⟨⟨h3, hc.1, hc.2, a1⟩, fun n => by rw [setS_cons, a2, setS_cons c]⟩
/-- What is left of spans when those without a version are struck. -/
def fullS (l : List (Nat × Nat)) : List (Nat × Nat) := l.filter fun s => decide (s.1 < s.2)
theorem full_set (l : List (Nat × Nat)) (n : Nat) : setS (fullS l) n = setS l n := by
  induction l with
  | nil => rfl
  | cons s r ih =>
    unfold fullS at ih ⊢
    rw [List.filter_cons]
    by_cases h : s.1 < s.2
    · rw [if_pos (by simpa using h), setS_cons, setS_cons, ih]
    · rw [if_neg (by simpa using h), ih, setS_cons]
      have : (decide (s.1 ≤ n) && decide (n < s.2)) = false := by simp; omega
      rw [this, Bool.false_or]
theorem set_perm {l l' : List (Nat × Nat)} (h : l.Perm l') (n : Nat) : setS l n = setS l' n := by
  unfold setS
  rw [Bool.eq_iff_iff, List.any_eq_true, List.any_eq_true]
  exact ⟨fun ⟨x, hx, hp⟩ => ⟨x, h.mem_iff.1 hx, hp⟩, fun ⟨x, hx, hp⟩ => ⟨x, h.mem_iff.2 hx, hp⟩⟩
/-- Sorted spans, put together. -/
def madeS : List (Nat × Nat) → List (Nat × Nat)
  | [] => []
  | c :: r => mgR c r
theorem made_spec (l k : List (Nat × Nat)) (hp : k.Perm (fullS l)) (hs : RiseS k) (he : ∀ s ∈ l, s.2 ≤ endR) : CanF 0 (madeS k) ∧ ∀ n, setS (madeS k) n = setS l n := by
  have hk : ∀ s ∈ k, s.1 < s.2 ∧ s.2 ≤ endR := fun s h => by
    have := hp.mem_iff.1 h
    unfold fullS at this
    rw [List.mem_filter] at this
    exact ⟨by simpa using this.2, he s this.1⟩
  have hset : ∀ n, setS k n = setS l n := fun n => (set_perm hp n).trans (full_set l n)
  cases k with
  | nil => exact ⟨trivial, hset⟩
  | cons c r =>
    obtain ⟨a1, a2⟩ := mg_spec r c 0 hs hk (Nat.zero_le _)
    exact ⟨a1, fun n => (a2 n).trans (hset n)⟩
/-! ### What spans haven't -/
def notL : Nat → List (Nat × Nat) → List (Nat × Nat)
  | a, [] => [(a, endR)]
  | a, s :: r => (a, s.1) :: notL s.2 r
theorem notL_set : ∀ (l : List (Nat × Nat)) (a lo : Nat), CanF lo l → a ≤ lo → ∀ n, a ≤ n → n < endR → setS (notL a l) n = !setS l n
  | [], a, lo, _, _, n, h1, h2 => by
    show setS [(a, endR)] n = _
    rw [setS_cons, setS_nil, decide_eq_true h1, decide_eq_true h2]
    rfl
  | s :: r, a, lo, h, hl, n, h1, h2 => by
    obtain ⟨b1, b2, b3, b4⟩ := h
    show setS ((a, s.1) :: notL s.2 r) n = _
    rw [setS_cons, setS_cons]
    by_cases h3 : s.2 ≤ n
    · rw [notL_set r s.2 (s.2 + 1) b4 (Nat.le_succ _) n h3 h2, decide_eq_false (show ¬ n < (a, s.1).2 by simp only; omega), decide_eq_false (show ¬ n < s.2 by omega)]
      simp
    · have e : setS (notL s.2 r) n = false := by
        have key : ∀ (l : List (Nat × Nat)) (a lo : Nat), CanF lo l → a ≤ lo → n < a → setS (notL a l) n = false := by
          intro l
          induction l with
          | nil =>
            intro a lo _ _ hn
            show setS [(a, endR)] n = false
            rw [setS_cons, setS_nil, decide_eq_false (show ¬ (a, endR).1 ≤ n by simp only; omega)]
            rfl
          | cons x r ih =>
            intro a lo hc ha hn
            obtain ⟨c1, c2, c3, c4⟩ := hc
            show setS ((a, x.1) :: notL x.2 r) n = false
            rw [setS_cons, ih x.2 (x.2 + 1) c4 (Nat.le_succ _) (by omega), decide_eq_false (show ¬ (a, x.1).1 ≤ n by simp only; omega)]
            rfl
        exact key r s.2 (s.2 + 1) b4 (Nat.le_succ _) (by omega)
      rw [e, b4.before (show n < s.2 + 1 by omega), decide_eq_true (show (a, s.1).1 ≤ n from h1), decide_eq_true (show n < s.2 by omega)]
      by_cases h4 : s.1 ≤ n
      · rw [decide_eq_false (show ¬ n < (a, s.1).2 by simp only; omega), decide_eq_true h4]; rfl
      · rw [decide_eq_true (show n < (a, s.1).2 by simp only; omega), decide_eq_false h4]; rfl
theorem notL_end : ∀ (l : List (Nat × Nat)) (a lo : Nat), CanF lo l → ∀ s ∈ notL a l, s.2 ≤ endR
  | [], a, _, _, s, hs => by
    rw [show notL a [] = [(a, endR)] from rfl, List.mem_singleton] at hs
    rw [hs]; exact Nat.le_refl _
  | x :: r, a, _, h, s, hs => by
    rcases List.mem_cons.1 hs with e | e
    · rw [e]; have := h.2.1; have := h.2.2.1; simp only; omega
    · exact notL_end r x.2 _ h.2.2.2 s e
/-! ### Places at which being in it turns -/
def flat (l : List (Nat × Nat)) : List Nat := l.flatMap fun s => [s.1, s.2]
theorem flat_cons (s : Nat × Nat) (l : List (Nat × Nat)) : flat (s :: l) = s.1 :: s.2 :: flat l := rfl
def inF (r : List Nat) (n : Nat) : Bool := decide (r.countP (fun x => decide (x ≤ n)) % 2 = 1)
theorem flat_from : ∀ {lo : Nat} {l : List (Nat × Nat)}, CanF lo l → ∀ x ∈ flat l, lo ≤ x ∧ x ≤ endR
  | _, [], _, x, hx => by cases hx
  | lo, s :: r, h, x, hx => by
    obtain ⟨a1, a2, a3, a4⟩ := h
    rw [flat_cons] at hx
    rcases List.mem_cons.1 hx with e | hx
    · rw [e]; omega
    · rcases List.mem_cons.1 hx with e | hx
      · rw [e]; omega
      · have := flat_from a4 x hx
        omega
theorem flat_rise : ∀ {lo : Nat} {l : List (Nat × Nat)}, CanF lo l → (flat l).Pairwise (· < ·)
  | _, [], _ => List.Pairwise.nil
  | lo, s :: r, h => by
    obtain ⟨a1, a2, a3, a4⟩ := h
    rw [flat_cons]
    refine List.pairwise_cons.2 ⟨fun x hx => ?_, List.pairwise_cons.2 ⟨fun x hx => ?_, flat_rise a4⟩⟩
    · rcases List.mem_cons.1 hx with e | hx
      · rw [e]; exact a2
      · have := (flat_from a4 x hx).1; omega
    · have := (flat_from a4 x hx).1; omega
theorem in_flat : ∀ {lo : Nat} {l : List (Nat × Nat)}, CanF lo l → ∀ n, inF (flat l) n = setS l n
  | _, [], _, n => rfl
  | lo, s :: r, h, n => by
    obtain ⟨a1, a2, a3, a4⟩ := h
    have ih := in_flat a4 n
    unfold inF at ih ⊢
    rw [flat_cons, List.countP_cons, List.countP_cons, setS_cons, ← ih]
    by_cases h2 : s.2 ≤ n
    · rw [decide_eq_true h2, decide_eq_true (show s.1 ≤ n by omega), decide_eq_false (show ¬ n < s.2 by omega)]
      rw [Bool.eq_iff_iff]
      simp
      omega
    · have hz : (flat r).countP (fun x => decide (x ≤ n)) = 0 := by
        rw [List.countP_eq_zero]
        intro x hx
        have := (flat_from a4 x hx).1
        simp
        omega
      rw [hz, decide_eq_false h2]
      by_cases h1 : s.1 ≤ n
      · rw [decide_eq_true h1, decide_eq_true (show n < s.2 by omega)]; rfl
      · rw [decide_eq_false h1]; rfl
/-! ### What a rule makes, place by place -/
def turns (p : Nat → Bool) : Bool → List Nat → List Nat
  | _, [] => []
  | is, n :: r => if p n = is then turns p is r else n :: turns p (p n) r
def Stp (p : Nat → Bool) : Bool → Nat → List Nat → Prop
  | is, lo, [] => is = false ∧ endR ≤ lo
  | is, lo, x :: r => lo ≤ x ∧ x ≤ endR ∧ (∀ m, lo ≤ m → m < x → p m = is) ∧ Stp p (p x) x r
theorem turns_spec (p : Nat → Bool) : ∀ (xs : List Nat) (lo : Nat),
    (Stp p false lo xs → ∃ l, turns p false xs = flat l ∧ CanF lo l ∧ ∀ m, lo ≤ m → m < endR → setS l m = p m) ∧
    (Stp p true lo xs → ∃ t l, turns p true xs = t :: flat l ∧ lo ≤ t ∧ t ≤ endR ∧ p t = false ∧ CanF (t + 1) l ∧ (∀ m, lo ≤ m → m < t → p m = true) ∧ ∀ m, t ≤ m → m < endR → setS l m = p m)
  | [], lo => ⟨fun h => ⟨[], rfl, trivial, fun m h1 h2 => by have := h.2; omega⟩, fun h => by cases h.1⟩
  | x :: r, lo => by
    obtain ⟨ihF, ihT⟩ := turns_spec p r x
    refine ⟨fun h => ?_, fun h => ?_⟩
    · obtain ⟨a1, a2, a3, a4⟩ := h
      rw [turns]
      cases e : p x with
      | false =>
        rw [if_pos rfl]
        rw [e] at a4
        obtain ⟨l, b1, b2, b3⟩ := ihF a4
        refine ⟨l, b1, b2.lower a1, fun m h1 h2 => ?_⟩
        rcases Nat.lt_or_ge m x with h3 | h3
        · rw [b2.before h3, a3 m h1 h3]
        · exact b3 m h3 h2
      | true =>
        rw [if_neg (by simp)]
        rw [e] at a4
        obtain ⟨t, l, b1, b2, b3, b4, b5, b6, b7⟩ := ihT a4
        have hxt : x < t := by
          rcases Nat.lt_or_ge x t with h3 | h3
          · exact h3
          · have : x = t := by omega
            rw [this, b4] at e
            cases e
        refine ⟨(x, t) :: l, by rw [b1, flat_cons], ⟨a1, hxt, b3, b5⟩, fun m h1 h2 => ?_⟩
        rw [setS_cons]
        rcases Nat.lt_or_ge m x with h3 | h3
        · rw [decide_eq_false (show ¬ (x, t).1 ≤ m by simp only; omega), b5.before (show m < t + 1 by omega), a3 m h1 h3]; rfl
        · rcases Nat.lt_or_ge m t with h4 | h4
          · rw [decide_eq_true (show (x, t).1 ≤ m from h3), decide_eq_true (show m < (x, t).2 from h4), b6 m h3 h4]; rfl
          · rw [decide_eq_false (show ¬ m < (x, t).2 by simp only; omega), b7 m h4 h2, Bool.and_false, Bool.false_or]
    · obtain ⟨a1, a2, a3, a4⟩ := h
      rw [turns]
      cases e : p x with
      | true =>
        rw [if_pos rfl]
        rw [e] at a4
        obtain ⟨t, l, b1, b2, b3, b4, b5, b6, b7⟩ := ihT a4
        refine ⟨t, l, b1, Nat.le_trans a1 b2, b3, b4, b5, fun m h1 h2 => ?_, b7⟩
        rcases Nat.lt_or_ge m x with h3 | h3
        · exact a3 m h1 h3
        · exact b6 m h3 h2
      | false =>
        rw [if_neg (by simp)]
        rw [e] at a4
        obtain ⟨l, b1, b2, b3⟩ := ihF a4
        refine ⟨x, l, by rw [b1], a1, a2, e, ?_, a3, b3⟩
        cases l with
        | nil => trivial
        | cons s r2 =>
          refine ⟨?_, b2.2⟩
          rcases Nat.lt_or_ge x s.1 with h3 | h3
          · exact h3
          · have hx : s.1 = x := Nat.le_antisymm h3 b2.1
            have := b3 x (Nat.le_refl _) (by have := b2.2.1; have := b2.2.2.1; omega)
            rw [setS_cons, e, decide_eq_true (show s.1 ≤ x by omega), decide_eq_true (show x < s.2 by have := b2.2.1; omega)] at this
            cases this
/-- A function that turns only at places of a rising list. -/
theorem stp_of (p : Nat → Bool) (all : List Nat) (hp : ∀ x m, x ≤ m → (∀ z ∈ all, z ≤ x ∨ m < z) → p m = p x) (he : p endR = false) (hE : endR ∈ all) (hA : ∀ z ∈ all, z ≤ endR) :
    ∀ (xs : List Nat) (x0 : Nat), xs.Pairwise (· ≤ ·) → (∀ x ∈ xs, x0 ≤ x) → (∀ x ∈ xs, x ∈ all) → (∀ z ∈ all, z ≤ x0 ∨ z ∈ xs) → x0 ∈ all → Stp p (p x0) x0 xs
  | [], x0, _, _, _, h4, h5 => by
    have : x0 = endR := by
      rcases h4 endR hE with h | h
      · exact Nat.le_antisymm (hA x0 h5) h
      · cases h
    rw [this]
    exact ⟨he, Nat.le_refl _⟩
  | x :: r, x0, h1, h2, h3, h4, h5 => by
    have hx := h3 x (by simp)
    have h1' := List.pairwise_cons.1 h1
    refine ⟨h2 x (by simp), hA x hx, fun m hm1 hm2 => hp x0 m hm1 fun z hz => ?_, stp_of p all hp he hE hA r x h1'.2 h1'.1 (fun y hy => h3 y (List.mem_cons_of_mem _ hy)) (fun z hz => ?_) hx⟩
    · rcases h4 z hz with h | h
      · exact .inl h
      · rcases List.mem_cons.1 h with e | e
        · right; omega
        · right; have := h1'.1 z e; omega
    · rcases h4 z hz with h | h
      · left; have := h2 x (by simp); omega
      · rcases List.mem_cons.1 h with e | e
        · left; omega
        · exact .inr e
/-- What the document's mix makes: of any rising list of the places of both, 0 and the end. -/
def mixP (g : Bool → Bool → Bool) (a b : List Nat) (n : Nat) : Bool := decide (n < endR) && g (inF a n) (inF b n)
theorem inF_gap {r : List Nat} {x m : Nat} (hx : x ≤ m) (h : ∀ z ∈ r, z ≤ x ∨ m < z) : inF r m = inF r x := by
  unfold inF
  have : r.countP (fun z => decide (z ≤ m)) = r.countP (fun z => decide (z ≤ x)) := List.countP_congr fun z hz => by
    rcases h z hz with h | h
    · simp; omega
    · simp; omega
  rw [this]
theorem mix_spec (g : Bool → Bool → Bool) (a b : List (Nat × Nat)) (ha : CanF 0 a) (hb : CanF 0 b) (all : List Nat) (hs : all.Pairwise (· ≤ ·)) (hp : all.Perm ([0, endR] ++ flat a ++ flat b)) :
    ∃ l, turns (mixP g (flat a) (flat b)) false all = flat l ∧ CanF 0 l ∧ ∀ m, m < endR → setS l m = g (setS a m) (setS b m) := by
  have hm : ∀ z, z ∈ all ↔ z = 0 ∨ z = endR ∨ z ∈ flat a ∨ z ∈ flat b := fun z => by rw [hp.mem_iff]; simp
  have hA : ∀ z ∈ all, z ≤ endR := fun z hz => by
    rcases (hm z).1 hz with e | e | e | e
    · omega
    · omega
    · exact (flat_from ha z e).2
    · exact (flat_from hb z e).2
  have hgap : ∀ x m, x ≤ m → (∀ z ∈ all, z ≤ x ∨ m < z) → mixP g (flat a) (flat b) m = mixP g (flat a) (flat b) x := fun x m hx h => by
    unfold mixP
    rw [inF_gap (r := flat a) hx fun z hz => h z ((hm z).2 (.inr (.inr (.inl hz)))), inF_gap (r := flat b) hx fun z hz => h z ((hm z).2 (.inr (.inr (.inr hz))))]
    congr 1
    rcases h endR ((hm _).2 (.inr (.inl rfl))) with h2 | h2
    · rw [decide_eq_false (by omega), decide_eq_false (by omega)]
    · rw [decide_eq_true h2, decide_eq_true (by omega)]
  have hend : mixP g (flat a) (flat b) endR = false := by unfold mixP; rw [decide_eq_false (Nat.lt_irrefl _)]; rfl
  cases all with
  | nil => exact absurd ((hm 0).2 (.inl rfl)) (by simp)
  | cons x r =>
    have hs' := List.pairwise_cons.1 hs
    have hx0 : x = 0 := by
      rcases List.mem_cons.1 ((hm 0).2 (.inl rfl)) with e | e
      · exact e.symm
      · have := hs'.1 0 e; omega
    subst hx0
    have hst : Stp (mixP g (flat a) (flat b)) false 0 (0 :: r) := ⟨Nat.le_refl _, Nat.zero_le _, fun m _ h => absurd h (Nat.not_lt_zero m),
      stp_of _ (0 :: r) hgap hend ((hm _).2 (.inr (.inl rfl))) hA r 0 hs'.2 hs'.1 (fun y hy => List.mem_cons_of_mem _ hy) (fun z hz => by
        rcases List.mem_cons.1 hz with e | e
        · left; omega
        · exact .inr e) (by simp)⟩
    obtain ⟨l, h1, h2, h3⟩ := (turns_spec _ _ 0).1 hst
    refine ⟨l, h1, h2, fun m hm2 => ?_⟩
    rw [h3 m (Nat.zero_le _) hm2]
    unfold mixP
    rw [decide_eq_true hm2, Bool.true_and, in_flat ha, in_flat hb]
/-- Spans, and the places that tell them: alike if they have the same. -/
theorem flat_inj : ∀ (l l' : List (Nat × Nat)), flat l = flat l' → l = l'
  | [], [], _ => rfl
  | [], s :: r, h => by rw [flat_cons] at h; cases h
  | s :: r, [], h => by rw [flat_cons] at h; cases h
  | s :: r, s' :: r', h => by
    rw [flat_cons, flat_cons] at h
    obtain ⟨e1, h⟩ := List.cons.inj h
    obtain ⟨e2, h⟩ := List.cons.inj h
    rw [flat_inj r r' h, Prod.ext e1 e2]
theorem flat_len (l : List (Nat × Nat)) : (flat l).length = 2 * l.length := by
  induction l with
  | nil => rfl
  | cons s r ih => rw [flat_cons, List.length_cons, List.length_cons, ih, List.length_cons]; omega
end Go.Proofs.YtmncoldaemcnlaaGreatDoor
