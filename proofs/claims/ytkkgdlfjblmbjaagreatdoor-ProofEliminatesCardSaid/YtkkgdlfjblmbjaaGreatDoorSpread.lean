/-
  Plain law: what follows from literals. 'unitF' is what a clause tells under literals that are told (the program's way); 'leftF' is the reference's way; they tell the same.
-/
import Derived.Test.YtkkgdlfjblmbjaaGreatDoorSpec
namespace Go.Proofs.YtkkgdlfjblmbjaaGreatDoor

def litT (tr : List Int) (x : Int) : Int := if x ∈ tr then 1 else if -x ∈ tr then -1 else 0
theorem litT_mem {tr : List Int} {x : Int} (h : x ∈ tr) : litT tr x = 1 := by unfold litT; rw [if_pos h]
theorem litT_neg {tr : List Int} {x : Int} (h : x ∉ tr) (h' : -x ∈ tr) : litT tr x = -1 := by unfold litT; rw [if_neg h, if_pos h']
theorem litT_none {tr : List Int} {x : Int} (h : x ∉ tr) (h' : -x ∉ tr) : litT tr x = 0 := by unfold litT; rw [if_neg h, if_neg h']

/-- What is told: literals of at most 24 variables, of each variable one at most. -/
def Cons (tr : List Int) : Prop := (∀ x ∈ tr, (1 ≤ x ∧ x ≤ 24) ∨ (-24 ≤ x ∧ x ≤ -1)) ∧ tr.Pairwise (fun x y => x.natAbs ≠ y.natAbs)
theorem Cons.nil : Cons [] := ⟨by simp, List.Pairwise.nil⟩
theorem Cons.no_both {tr : List Int} (h : Cons tr) {x : Int} (hx : x ∈ tr) : -x ∉ tr := by
  intro hn
  have h0 : x ≠ 0 := by rcases h.1 x hx with h | h <;> omega
  have hne : x ≠ -x := by omega
  have hp := h.2
  have key : ∀ l : List Int, l.Pairwise (fun x y => x.natAbs ≠ y.natAbs) → x ∈ l → -x ∈ l → False := by
    intro l
    induction l with
    | nil => intro _ h _; cases h
    | cons a l ih =>
      intro hp h1 h2
      rw [List.pairwise_cons] at hp
      rcases List.mem_cons.1 h1 with e1 | h1
      · rcases List.mem_cons.1 h2 with e2 | h2
        · omega
        · exact hp.1 _ h2 (by omega)
      · rcases List.mem_cons.1 h2 with e2 | h2
        · exact hp.1 _ h1 (by omega)
        · exact ih hp.2 h1 h2
  exact key tr hp hx hn
theorem Cons.snoc {tr : List Int} (h : Cons tr) {x : Int} (hx : (1 ≤ x ∧ x ≤ 24) ∨ (-24 ≤ x ∧ x ≤ -1)) (h1 : x ∉ tr) (h2 : -x ∉ tr) : Cons (tr ++ [x]) := by
  refine ⟨fun y hy => ?_, ?_⟩
  · rcases List.mem_append.1 hy with hy | hy
    · exact h.1 y hy
    · rw [List.mem_singleton.1 hy]; exact hx
  · rw [List.pairwise_append]
    refine ⟨h.2, List.pairwise_singleton _ _, fun a ha b hb => ?_⟩
    rw [List.mem_singleton.1 hb]
    intro e
    rcases Int.natAbs_eq_natAbs_iff.1 e with e | e
    · exact h1 (e ▸ ha)
    · exact h2 (by rw [← e]; exact ha)
theorem nodup_le (m : Nat) : ∀ l : List Nat, l.Nodup → (∀ x ∈ l, x < m) → l.length ≤ m := by
  induction m with
  | zero =>
    intro l _ h
    cases l with
    | nil => exact Nat.le_refl _
    | cons a l => exact absurd (h a (List.mem_cons_self ..)) (Nat.not_lt_zero _)
  | succ m ih =>
    intro l hn h
    have h1 := ih (l.erase m) (hn.erase m) fun x hx => by
      have := hn.mem_erase_iff.1 hx
      have := h x this.2
      omega
    by_cases hm : m ∈ l
    · rw [List.length_erase_of_mem hm] at h1
      omega
    · rw [List.erase_of_not_mem hm] at h1
      omega
theorem Cons.len {tr : List Int} (h : Cons tr) : tr.length ≤ 24 := by
  have hn : (tr.map (fun x => x.natAbs - 1)).Nodup := by
    rw [List.Nodup, List.pairwise_map]
    refine h.2.imp_of_mem fun {a b} ha hb hab e => hab ?_
    rcases h.1 a ha with h1 | h1 <;> rcases h.1 b hb with h2 | h2 <;> omega
  have := nodup_le 24 _ hn fun x hx => by
    obtain ⟨a, ha, rfl⟩ := List.mem_map.1 hx
    rcases h.1 a ha with h1 | h1 <;> omega
  simpa using this

/-- The program's unit. -/
def unitGo (tr : List Int) (left : Int) : List Int → Int × Bool
  | [] => (left, decide (left ≠ 0))
  | x :: xs => if x ∈ tr then (0, true) else if -x ∈ tr then unitGo tr left xs else if left ≠ 0 ∧ left ≠ x then (0, true) else unitGo tr x xs
def unitF (tr c : List Int) : Int × Bool := unitGo tr 0 c

/-- The reference's way through a clause: does it hold; what is left, each once. -/
def leftGo (tr : List Int) (hl : Bool × List Int) : List Int → Bool × List Int
  | [] => hl
  | x :: xs => leftGo tr (if x ∈ tr then (true, hl.2) else if -x ∉ tr ∧ x ∉ hl.2 then (hl.1, hl.2 ++ [x]) else hl) xs
def leftF (tr c : List Int) : Bool × List Int := leftGo tr (false, []) c

theorem leftGo_mono (tr : List Int) : ∀ (c : List Int) (hl : Bool × List Int), (hl.1 = true → (leftGo tr hl c).1 = true) ∧ hl.2.length ≤ (leftGo tr hl c).2.length := by
  intro c
  induction c with
  | nil => intro hl; exact ⟨id, Nat.le_refl _⟩
  | cons x xs ih =>
    intro hl
    unfold leftGo
    have := ih (if x ∈ tr then (true, hl.2) else if -x ∉ tr ∧ x ∉ hl.2 then (hl.1, hl.2 ++ [x]) else hl)
    refine ⟨fun h => this.1 ?_, Nat.le_trans ?_ this.2⟩
    · split
      · rfl
      · split <;> exact h
    · split
      · exact Nat.le_refl _
      · split
        · simp
        · exact Nat.le_refl _

theorem leftGo_ok (tr : List Int) (P : Int → Prop) (x : Int) (hl : Bool × List Int) (hP : P x) (h1 : hl.2.Nodup) (h2 : ∀ y ∈ hl.2, P y) :
    (leftGo tr hl [x]).2.Nodup ∧ ∀ y ∈ (leftGo tr hl [x]).2, P y := by
  unfold leftGo leftGo
  split
  · exact ⟨h1, h2⟩
  · split
    · rename_i h
      refine ⟨?_, fun y hy => ?_⟩
      · rw [List.Nodup, List.pairwise_append]
        refine ⟨h1, List.pairwise_singleton _ _, fun a ha b hb => ?_⟩
        rw [List.mem_singleton.1 hb]
        intro e
        exact h.2 (e ▸ ha)
      · rcases List.mem_append.1 hy with hy | hy
        · exact h2 y hy
        · rw [List.mem_singleton.1 hy]; exact hP
    · exact ⟨h1, h2⟩
theorem lits_len (l : List Int) (h1 : l.Nodup) (h2 : ∀ y ∈ l, (1 ≤ y ∧ y ≤ 24) ∨ (-24 ≤ y ∧ y ≤ -1)) : l.length ≤ 49 := by
  have hn : (l.map (fun x => (x + 24).toNat)).Nodup := by
    rw [List.Nodup, List.pairwise_map]
    refine h1.imp_of_mem fun {a b} ha hb hab e => hab ?_
    rcases h2 a ha with h | h <;> rcases h2 b hb with h' | h' <;> omega
  have := nodup_le 49 _ hn fun x hx => by
    obtain ⟨a, ha, rfl⟩ := List.mem_map.1 hx
    rcases h2 a ha with h | h <;> omega
  simpa using this
theorem leftGo_one (tr : List Int) (hl : Bool × List Int) (x : Int) : leftGo tr hl [x] = (if x ∈ tr then (true, hl.2) else if -x ∉ tr ∧ x ∉ hl.2 then (hl.1, hl.2 ++ [x]) else hl) := rfl
theorem leftGo_step (tr : List Int) (hl : Bool × List Int) (x : Int) (xs : List Int) : leftGo tr hl (x :: xs) = leftGo tr (leftGo tr hl [x]) xs := rfl
/-- The two ways tell the same: either it holds or two are left; or nothing is left; or just one is. -/
theorem unit_left (tr : List Int) : ∀ (c : List Int) (left : Int) (l : List Int), (left = 0 ∧ l = [] ∨ left ≠ 0 ∧ l = [left]) → (∀ x ∈ c, x ≠ 0) →
    (unitGo tr left c = (0, true) ∧ ((leftGo tr (false, l) c).1 = true ∨ 1 < (leftGo tr (false, l) c).2.length)) ∨
    (unitGo tr left c = (0, false) ∧ (leftGo tr (false, l) c) = (false, [])) ∨
    (∃ x, x ≠ 0 ∧ unitGo tr left c = (x, true) ∧ (leftGo tr (false, l) c) = (false, [x])) := by
  intro c
  induction c with
  | nil =>
    intro left l h _
    rcases h with ⟨rfl, rfl⟩ | ⟨h, rfl⟩
    · exact .inr (.inl ⟨rfl, rfl⟩)
    · exact .inr (.inr ⟨left, h, by simp [unitGo, h], rfl⟩)
  | cons x xs ih =>
    intro left l h hc
    have hx : x ≠ 0 := hc x (List.mem_cons_self ..)
    have hxs : ∀ y ∈ xs, y ≠ 0 := fun y hy => hc y (List.mem_cons_of_mem _ hy)
    unfold unitGo leftGo
    by_cases h1 : x ∈ tr
    · rw [if_pos h1, if_pos h1]
      exact .inl ⟨rfl, .inl ((leftGo_mono tr xs (true, l)).1 rfl)⟩
    · rw [if_neg h1, if_neg h1]
      by_cases h2 : -x ∈ tr
      · rw [if_pos h2, if_neg (fun hh => hh.1 h2)]
        exact ih left l h hxs
      · rw [if_neg h2]
        rcases h with ⟨rfl, rfl⟩ | ⟨h, rfl⟩
        · rw [if_neg (by omega), if_pos ⟨h2, by simp⟩]
          exact ih x [x] (.inr ⟨hx, rfl⟩) hxs
        · by_cases h3 : left = x
          · subst h3
            rw [if_neg (by omega), if_neg (fun hh => hh.2 (List.mem_singleton.2 rfl))]
            exact ih left [left] (.inr ⟨h, rfl⟩) hxs
          · rw [if_pos ⟨h, h3⟩, if_pos ⟨h2, fun hh => h3 (List.mem_singleton.1 hh).symm⟩]
            refine .inl ⟨rfl, .inr (Nat.lt_of_lt_of_le ?_ (leftGo_mono tr xs (false, [left] ++ [x])).2)⟩
            simp

theorem unitGo_mem (tr : List Int) : ∀ (c : List Int) (left x : Int), unitGo tr left c = (x, true) → x ≠ 0 → x = left ∨ (x ∈ c ∧ x ∉ tr ∧ -x ∉ tr) := by
  intro c
  induction c with
  | nil => intro left x h _; simp [unitGo] at h; exact .inl h.1.symm
  | cons y ys ih =>
    intro left x h hx
    unfold unitGo at h
    by_cases h1 : y ∈ tr
    · rw [if_pos h1] at h; simp at h; exact absurd h.symm hx
    · rw [if_neg h1] at h
      by_cases h2 : -y ∈ tr
      · rw [if_pos h2] at h
        rcases ih left x h hx with e | ⟨e, e2⟩
        · exact .inl e
        · exact .inr ⟨List.mem_cons_of_mem _ e, e2⟩
      · rw [if_neg h2] at h
        split at h
        · simp at h; exact absurd h.symm hx
        · rcases ih y x h hx with e | ⟨e, e2⟩
          · subst e; exact .inr ⟨List.mem_cons_self .., h1, h2⟩
          · exact .inr ⟨List.mem_cons_of_mem _ e, e2⟩

/-- The first clause, from number i on, that tells something: (its number, the literal; 0: it can't hold). -/
def scanF (tr : List Int) : List (List Int) → Nat → Option (Nat × Int)
  | [], _ => none
  | c :: cs, i => if unitF tr c = (0, true) then scanF tr cs (i + 1) else some (i, (unitF tr c).1)
/-- All that follows; the number of a clause that can't hold (-1). -/
def spreadF : Nat → List (List Int) → List Int → List Int × Int
  | 0, _, tr => (tr, -1)
  | f + 1, ls, tr => match scanF tr ls 0 with
    | none => (tr, -1)
    | some (i, x) => if x = 0 then (tr, i) else spreadF f ls (tr ++ [x])
def spreadR (ls : List (List Int)) (tr : List Int) : List Int × Int := spreadF (25 - tr.length) ls tr

def OkLits (ls : List (List Int)) : Prop := ∀ c ∈ ls, ∀ x ∈ c, (1 ≤ x ∧ x ≤ 24) ∨ (-24 ≤ x ∧ x ≤ -1)
theorem scanF_none (tr : List Int) (ls : List (List Int)) (i k : Nat) (h : ls.length ≤ k) : scanF tr (ls.drop k) i = none := by rw [List.drop_eq_nil_of_le h]; rfl
theorem scanF_skip (tr : List Int) (ls : List (List Int)) (k : Nat) (hk : k < ls.length) (h : unitF tr (ls.getD k []) = (0, true)) : scanF tr (ls.drop k) k = scanF tr (ls.drop (k + 1)) (k + 1) := by
  rw [getD_cons_drop ls k [] hk, scanF, if_pos h]
theorem scanF_hit (tr : List Int) (ls : List (List Int)) (k : Nat) (hk : k < ls.length) (x : Int) (b : Bool) (h : unitF tr (ls.getD k []) = (x, b)) (hn : (x, b) ≠ (0, true)) : scanF tr (ls.drop k) k = some (k, x) := by
  rw [getD_cons_drop ls k [] hk, scanF, if_neg (by rw [h]; exact hn), h]
theorem spread_none {ls : List (List Int)} {tr : List Int} (hc : Cons tr) (h : scanF tr ls 0 = none) : spreadR ls tr = (tr, -1) := by
  have := hc.len
  unfold spreadR
  rw [show 25 - tr.length = (24 - tr.length) + 1 by omega, spreadF, h]
theorem spread_bad {ls : List (List Int)} {tr : List Int} (hc : Cons tr) {i : Nat} (h : scanF tr ls 0 = some (i, 0)) : spreadR ls tr = (tr, (i : Int)) := by
  have := hc.len
  unfold spreadR
  rw [show 25 - tr.length = (24 - tr.length) + 1 by omega, spreadF, h]
  simp
theorem spread_unit {ls : List (List Int)} {tr : List Int} (hc : Cons tr) {i : Nat} {x : Int} (h : scanF tr ls 0 = some (i, x)) (hx : x ≠ 0) : spreadR ls tr = spreadR ls (tr ++ [x]) := by
  have := hc.len
  unfold spreadR
  rw [show 25 - tr.length = (24 - tr.length) + 1 by omega, spreadF, h]
  simp only [if_neg hx, List.length_append, List.length_singleton]
  congr 1
  omega
end Go.Proofs.YtkkgdlfjblmbjaaGreatDoor
