/-
  What is done with an arena, as plain lists: handles, errors, what handles lead to. No program in sight.
-/
import Derived.Test.YtfbhmkpihmcegaaArenaPure
namespace Go.Proofs.Ytfbhmkpihmcegaa

/-- Handles from 2 on: what lies at each. -/
abbrev Ar := List (Option Nd)
def gotA (A : Ar) (h : Int) : Option Nd := if 2 ≤ h then A.getD (h - 2).toNat none else none
def hasA (A : Ar) (h : Int) : Bool := h == 0 || (h == 1 || (gotA A h).isSome)
def topA (A : Ar) (h : Int) : Int := match gotA A h with | some n => n.var | none => 24
def cntA (A : Ar) : Nat := A.countP (fun o => o.isSome)
def liesA (A : Ar) (n : Nd) : Option Nat := A.findIdx? (fun o => o == some n)
def freeA (A : Ar) : Option Nat := A.findIdx? (fun o => o.isNone)
theorem gotA_k {A : Ar} {k : Nat} : gotA A ((k : Int) + 2) = A.getD k none := by
  unfold gotA
  rw [if_pos (by omega), show ((k : Int) + 2 - 2).toNat = k by omega]
theorem gotA_is {A : Ar} {h : Int} {n : Nd} (e : gotA A h = some n) : ∃ k : Nat, h = (k : Int) + 2 ∧ k < A.length ∧ A.getD k none = some n := by
  unfold gotA at e
  by_cases h2 : 2 ≤ h
  · rw [if_pos h2] at e
    refine ⟨(h - 2).toNat, by omega, ?_, e⟩
    rcases Nat.lt_or_ge (h - 2).toNat A.length with hl | hl
    · exact hl
    · rw [List.getD_eq_getElem?_getD, List.getElem?_eq_none hl] at e
      cases e
  · rw [if_neg h2] at e
    cases e
theorem gotA_len {A : Ar} {k : Nat} {n : Nd} (e : A.getD k none = some n) : k < A.length := by
  rcases Nat.lt_or_ge k A.length with hl | hl
  · exact hl
  · rw [List.getD_eq_getElem?_getD, List.getElem?_eq_none hl] at e
    cases e
/-- Each node may lie there, and lies there once. -/
structure WfA (A : Ar) : Prop where
  var : ∀ h n, gotA A h = some n → 0 ≤ n.var ∧ n.var < 24
  low : ∀ h n, gotA A h = some n → hasA A n.low = true ∧ n.var < topA A n.low
  high : ∀ h n, gotA A h = some n → hasA A n.high = true ∧ n.var < topA A n.high
  once : ∀ h h' n, gotA A h = some n → gotA A h' = some n → h = h'

/-- The error of a new node; 0: none. -/
def makeE (A : Ar) (n : Nd) : Int :=
  if ¬ (0 ≤ n.var ∧ n.var < 24) then 2 else if ¬ (hasA A n.low = true ∧ hasA A n.high = true) then 7
  else if topA A n.low ≤ n.var ∨ topA A n.high ≤ n.var then 10 else match liesA A n with | some _ => 0 | none => match freeA A with | some _ => 0 | none => 12
def makeH (A : Ar) (n : Nd) : Int :=
  if makeE A n ≠ 0 then 0 else match liesA A n with | some k => (k : Int) + 2 | none => match freeA A with | some k => (k : Int) + 2 | none => 0
def makeA (A : Ar) (n : Nd) : Ar :=
  if makeE A n ≠ 0 then A else match liesA A n with | some _ => A | none => match freeA A with | some k => A.set k (some n) | none => A

/-- What some handles lead to. -/
inductive ReachA (A : Ar) (l : List Int) : Int → Prop
  | base {h : Int} {n : Nd} : h ∈ l → gotA A h = some n → ReachA A l h
  | low {h : Int} {n m : Nd} : ReachA A l h → gotA A h = some n → gotA A n.low = some m → ReachA A l n.low
  | high {h : Int} {n m : Nd} : ReachA A l h → gotA A h = some n → gotA A n.high = some m → ReachA A l n.high
theorem ReachA.got {A : Ar} {l : List Int} {h : Int} (r : ReachA A l h) : ∃ n, gotA A h = some n := by
  cases r with
  | base _ e => exact ⟨_, e⟩
  | low _ _ e => exact ⟨_, e⟩
  | high _ _ e => exact ⟨_, e⟩
open Classical in
noncomputable def reachL (A : Ar) (l : List Int) : List Int := ((List.range A.length).filter fun k : Nat => decide (ReachA A l ((k : Int) + 2))).map fun k : Nat => (k : Int) + 2
open Classical in
noncomputable def sweepA (A : Ar) (l : List Int) : Ar := A.mapIdx fun k o => if ReachA A l ((k : Int) + 2) then o else none

/-- Where a walk through an arena stands. -/
structure SeenI (A : Ar) (l : List Int) (seen : List Bool) (todo : List Int) : Prop where
  len : seen.length = A.length
  sound : ∀ k : Nat, seen.getD k false = true → ReachA A l ((k : Int) + 2)
  todoR : ∀ h ∈ todo, ∀ n, gotA A h = some n → ReachA A l h
  start : ∀ h ∈ l, ∀ n, gotA A h = some n → seen.getD (h - 2).toNat false = true ∨ h ∈ todo
  low : ∀ (k : Nat) n, seen.getD k false = true → gotA A ((k : Int) + 2) = some n → ∀ m, gotA A n.low = some m → seen.getD (n.low - 2).toNat false = true ∨ n.low ∈ todo
  high : ∀ (k : Nat) n, seen.getD k false = true → gotA A ((k : Int) + 2) = some n → ∀ m, gotA A n.high = some m → seen.getD (n.high - 2).toNat false = true ∨ n.high ∈ todo
section
variable {A : Ar} {l : List Int} {seen : List Bool} {todo : List Int} {h : Int}
theorem seen_start (A : Ar) (l : List Int) : SeenI A l (List.replicate A.length false) l := by
  have hf : ∀ k, (List.replicate A.length false).getD k false = false := fun k => by
    rw [List.getD_eq_getElem?_getD]
    by_cases h : k < A.length
    · rw [List.getElem?_eq_getElem (by simpa using h)]; simp
    · rw [List.getElem?_eq_none (by simpa using h)]; rfl
  refine ⟨by simp, fun k h => ?_, fun h hm n e => .base hm e, fun h hm _ _ => .inr hm, fun k n h => ?_, fun k n h => ?_⟩ <;>
    (rw [hf] at h; cases h)
theorem mem_snoc {α : Type} {l : List α} {a x : α} (h : x ∈ l ++ [a]) : x ∈ l ∨ x = a := by simpa using h
theorem SeenI.skip (H : SeenI A l seen (todo ++ [h])) (hs : ∀ n, gotA A h = some n → seen.getD (h - 2).toNat false = true) : SeenI A l seen todo := by
  refine ⟨H.len, H.sound, fun x hx => H.todoR x (List.mem_append_left _ hx), fun x hx n e => ?_, fun k n hk e m em => ?_, fun k n hk e m em => ?_⟩
  · rcases H.start x hx n e with h1 | h1
    · exact .inl h1
    · rcases mem_snoc h1 with h2 | h2
      · exact .inr h2
      · subst h2; exact .inl (hs n e)
  · rcases H.low k n hk e m em with h1 | h1
    · exact .inl h1
    · rcases mem_snoc h1 with h2 | h2
      · exact .inr h2
      · rw [h2] at em ⊢; exact .inl (hs m em)
  · rcases H.high k n hk e m em with h1 | h1
    · exact .inl h1
    · rcases mem_snoc h1 with h2 | h2
      · exact .inr h2
      · rw [h2] at em ⊢; exact .inl (hs m em)
theorem set_true {seen : List Bool} {i j : Nat} (h : seen.getD j false = true) : (seen.set i true).getD j false = true := by
  rw [getD_set]
  split
  · rfl
  · exact h
theorem SeenI.mark (H : SeenI A l seen (todo ++ [h])) {n : Nd} (hn : gotA A h = some n) : SeenI A l (seen.set (h - 2).toNat true) (todo ++ [n.low, n.high]) := by
  have hR := H.todoR h (by simp) n hn
  obtain ⟨k0, e0, hk0, _⟩ := gotA_is hn
  have ek : (h - 2).toNat = k0 := by omega
  rw [ek]
  have hset : (seen.set k0 true).getD k0 false = true := by rw [getD_set, if_pos ⟨rfl, by rw [H.len]; exact hk0⟩]
  have hold : ∀ k, (seen.set k0 true).getD k false = true → k = k0 ∨ seen.getD k false = true := fun k hk => by
    rw [getD_set] at hk
    by_cases hc : k0 = k ∧ k0 < seen.length
    · exact .inl hc.1.symm
    · rw [if_neg hc] at hk; exact .inr hk
  have hgo : ∀ x : Int, ∀ m, gotA A x = some m → (seen.getD (x - 2).toNat false = true ∨ x ∈ todo ++ [h]) → (seen.set k0 true).getD (x - 2).toNat false = true ∨ x ∈ todo ++ [n.low, n.high] := fun x m _ hx => by
    rcases hx with h1 | h1
    · exact .inl (set_true h1)
    · rcases mem_snoc h1 with h2 | h2
      · exact .inr (List.mem_append_left _ h2)
      · subst h2; rw [ek]; exact .inl hset
  refine ⟨by rw [List.length_set, H.len], fun k hk => ?_, fun x hx m em => ?_, fun x hx m em => hgo x m em (H.start x hx m em), fun k m hk em q eq => ?_, fun k m hk em q eq => ?_⟩
  · rcases hold k hk with e | e
    · rw [e, ← e0]; exact hR
    · exact H.sound k e
  · rcases List.mem_append.1 hx with hx | hx
    · exact H.todoR x (List.mem_append_left _ hx) m em
    · simp only [List.mem_cons, List.not_mem_nil, or_false] at hx
      rcases hx with e | e
      · subst e; exact .low hR hn em
      · subst e; exact .high hR hn em
  · rcases hold k hk with e | e
    · rw [e, ← e0, hn] at em
      cases em
      exact .inr (by simp)
    · exact hgo _ q eq (H.low k m e em q eq)
  · rcases hold k hk with e | e
    · rw [e, ← e0, hn] at em
      cases em
      exact .inr (by simp)
    · exact hgo _ q eq (H.high k m e em q eq)
theorem SeenI.fine (H : SeenI A l seen []) (k : Nat) : seen.getD k false = true ↔ ReachA A l ((k : Int) + 2) := by
  refine ⟨H.sound k, fun r => ?_⟩
  have key : ∀ x : Int, ReachA A l x → seen.getD (x - 2).toNat false = true := by
    intro x r
    induction r with
    | base hm e => exact (H.start _ hm _ e).resolve_right List.not_mem_nil
    | @low h n m r e em ih =>
      obtain ⟨k, ek, _, _⟩ := gotA_is e
      rw [ek, show ((k : Int) + 2 - 2).toNat = k by omega] at ih
      exact (H.low k n ih (by rw [← ek]; exact e) m em).resolve_right List.not_mem_nil
    | @high h n m r e em ih =>
      obtain ⟨k, ek, _, _⟩ := gotA_is e
      rw [ek, show ((k : Int) + 2 - 2).toNat = k by omega] at ih
      exact (H.high k n ih (by rw [← ek]; exact e) m em).resolve_right List.not_mem_nil
  have := key _ r
  rwa [show ((k : Int) + 2 - 2).toNat = k by omega] at this
end
end Go.Proofs.Ytfbhmkpihmcegaa
