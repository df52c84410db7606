/-
  What a range's text tells; how a range is told. No program in sight.
-/
import Derived.Test.YtmncoldaemcnlaaGreatDoorRgPure
import Derived.Test.YtmncoldaemcnlaaGreatDoorPcs
import Derived.Test.YtmncoldaemcnlaaGreatDoorVerB
namespace Go.Proofs.YtmncoldaemcnlaaGreatDoor

open Classical in
/-- The spans that have just what F has. -/
noncomputable def canOf (F : Nat → Bool) : List (Nat × Nat) := if h : ∃ l, CanF 0 l ∧ ∀ m, m < endR → setS l m = F m then h.choose else []
theorem canOf_eq {F : Nat → Bool} {l : List (Nat × Nat)} (h1 : CanF 0 l) (h2 : ∀ m, m < endR → setS l m = F m) : canOf F = l := by
  have h : ∃ l, CanF 0 l ∧ ∀ m, m < endR → setS l m = F m := ⟨l, h1, h2⟩
  unfold canOf
  rw [dif_pos h]
  have hc := h.choose_spec
  exact can_same _ _ 0 hc.1 h1 fun n _ hn => (hc.2 n hn).trans (h2 n hn).symm
noncomputable def orC (a b : List (Nat × Nat)) : List (Nat × Nat) := canOf fun m => setS a m || setS b m
noncomputable def andC (a b : List (Nat × Nat)) : List (Nat × Nat) := canOf fun m => setS a m && setS b m
noncomputable def notC (a : List (Nat × Nat)) : List (Nat × Nat) := canOf fun m => !setS a m
theorem can_ex (l : List (Nat × Nat)) (he : ∀ s ∈ l, s.2 ≤ endR) : ∃ l', CanF 0 l' ∧ ∀ n, setS l' n = setS l n := by
  refine ⟨_, made_spec l ((fullS l).mergeSort fun a b => decide (a.1 ≤ b.1)) (List.mergeSort_perm _ _) ?_ he⟩
  have h := List.pairwise_mergeSort (le := fun a b : Nat × Nat => decide (a.1 ≤ b.1)) (fun a b c h1 h2 => by simp at *; omega) (fun a b => by simp; omega) (fullS l)
  exact h.imp fun h => by simpa using h
theorem can_end {l : List (Nat × Nat)} (h : CanF 0 l) : ∀ s ∈ l, s.2 ≤ endR := fun s hs => (h.all s hs).2.2
theorem can_len : ∀ {lo : Nat} {l : List (Nat × Nat)}, CanF lo l → l.length ≤ endR
  | _, [], _ => Nat.zero_le _
  | lo, s :: r, h => by
    have key : ∀ (l : List (Nat × Nat)) (lo : Nat), CanF lo l → l = [] ∨ lo + l.length ≤ endR := by
      intro l
      induction l with
      | nil => intro lo _; exact .inl rfl
      | cons s r ih =>
        intro lo h
        obtain ⟨h1, h2, h3, h4⟩ := h
        rcases ih _ h4 with h5 | h5
        · subst h5; right; simp; omega
        · right; simp at h5 ⊢; omega
    rcases key _ _ h with h | h
    · cases h
    · omega
theorem or_spec {a b : List (Nat × Nat)} (ha : CanF 0 a) (hb : CanF 0 b) : CanF 0 (orC a b) ∧ ∀ n, n < endR → setS (orC a b) n = (setS a n || setS b n) := by
  obtain ⟨l, h1, h2⟩ := can_ex (a ++ b) (fun s hs => by rcases List.mem_append.1 hs with h | h; · exact can_end ha s h
                                                        · exact can_end hb s h)
  have h3 : orC a b = l := canOf_eq h1 fun n _ => by rw [h2, setS_app]
  rw [h3]
  exact ⟨h1, fun n _ => by rw [h2, setS_app]⟩
theorem not_spec {a : List (Nat × Nat)} (ha : CanF 0 a) : CanF 0 (notC a) ∧ ∀ n, n < endR → setS (notC a) n = !setS a n := by
  obtain ⟨l, h1, h2⟩ := can_ex (notL 0 a) (notL_end a 0 0 ha)
  have h4 : ∀ n, n < endR → setS l n = !setS a n := fun n hn => by rw [h2, notL_set a 0 0 ha (Nat.le_refl _) n (Nat.zero_le _) hn]
  have h3 : notC a = l := canOf_eq h1 h4
  rw [h3]
  exact ⟨h1, h4⟩
theorem and_is {a b : List (Nat × Nat)} (ha : CanF 0 a) (hb : CanF 0 b) : andC a b = notC (orC (notC a) (notC b)) := by
  have n1 := not_spec ha
  have n2 := not_spec hb
  have o := or_spec n1.1 n2.1
  have n3 := not_spec o.1
  refine canOf_eq n3.1 fun n hn => ?_
  rw [n3.2 n hn, o.2 n hn, n1.2 n hn, n2.2 n hn]
  cases setS a n <;> cases setS b n <;> rfl
theorem and_spec {a b : List (Nat × Nat)} (ha : CanF 0 a) (hb : CanF 0 b) : CanF 0 (andC a b) ∧ ∀ n, n < endR → setS (andC a b) n = (setS a n && setS b n) := by
  have n1 := not_spec ha
  have n2 := not_spec hb
  have o := or_spec n1.1 n2.1
  have n3 := not_spec o.1
  rw [and_is ha hb]
  refine ⟨n3.1, fun n hn => ?_⟩
  rw [n3.2 n hn, o.2 n hn, n1.2 n hn, n2.2 n hn]
  cases setS a n <;> cases setS b n <;> rfl
def rowC (f t : Nat) : List (Nat × Nat) := if f < t then [(f, t)] else []
theorem row_can {f t : Nat} (h : t ≤ endR) : CanF 0 (rowC f t) := by
  unfold rowC
  split
  · rename_i h1
    exact ⟨Nat.zero_le _, h1, h, trivial⟩
  · trivial
theorem row_flat (f t : Nat) : flat (rowC f t) = if f < t then [f, t] else [] := by
  unfold rowC
  split
  · rfl
  · rfl
def anyC : List (Nat × Nat) := [(0, endR)]
theorem any_can : CanF 0 anyC := ⟨Nat.zero_le _, by decide, Nat.le_refl _, trivial⟩
/-! ### A word -/
def isOp (c : UInt8) : Bool := c == 61 || c == 33 || c == 60 || c == 62 || c == 94 || c == 126
def opL (s : List UInt8) : List UInt8 := s.takeWhile isOp
def restL (s : List UInt8) : List UInt8 := s.dropWhile isOp
theorem op_rest (s : List UInt8) : opL s ++ restL s = s := List.takeWhile_append_dropWhile
def baL (l : List UInt8) : ByteArray := ⟨l.toArray⟩
/-- A version's place among all. -/
def numV3 (f : Nat → Int) : Nat := (f 0).toNat * 1000000 + (f 1).toNat * 1000 + (f 2).toNat
/-- The first one that is too new for '^'. -/
def caretN (f : Nat → Int) : Nat := if 0 < f 0 then ((f 0).toNat + 1) * 1000000 else if 0 < f 1 then ((f 1).toNat + 1) * 1000 else (f 2).toNat + 1
def tildeN (f : Nat → Int) : Nat := (f 0).toNat * 1000000 + ((f 1).toNat + 1) * 1000
def anyW : List UInt8 := [97, 110, 121]
def noneW : List UInt8 := [110, 111, 110, 101]
/-- How an operator's text counts. -/
def opK (o : List UInt8) : Nat :=
  if o = [] ∨ o = [61] then 1 else if o = [33] then 2 else if o = [60] then 3 else if o = [60, 61] then 4 else if o = [62] then 5 else if o = [62, 61] then 6 else if o = [126] then 7 else if o = [94] then 8 else 0
/-- A word's fault, 0: none. -/
def wordE (s : List UInt8) : Int :=
  if s = anyW ∨ s = noneW then 0 else if verE (baL (restL s)) ≠ 0 then verE (baL (restL s)) else if opK (opL s) = 0 then 3 else 0
/-- What a word has. -/
noncomputable def opC (k : Nat) (f : Nat → Int) : List (Nat × Nat) :=
  if k = 1 then rowC (numV3 f) (numV3 f + 1) else if k = 2 then notC (rowC (numV3 f) (numV3 f + 1)) else if k = 3 then rowC 0 (numV3 f) else if k = 4 then rowC 0 (numV3 f + 1)
  else if k = 5 then rowC (numV3 f + 1) endR else if k = 6 then rowC (numV3 f) endR else if k = 7 then rowC (numV3 f) (tildeN f) else rowC (numV3 f) (caretN f)
noncomputable def wordC (s : List UInt8) : List (Nat × Nat) := if s = anyW then anyC else if s = noneW then [] else opC (opK (opL s)) (verV (baL (restL s)))
/-! ### Words, pieces -/
/-- Words from the place at on: the fault and where, or what they have, and whether there is one. -/
noncomputable def resW : List (List UInt8) → Nat → List (Nat × Nat) → Bool → (Int × Nat) ⊕ (List (Nat × Nat) × Bool)
  | [], _, acc, sm => .inr (acc, sm)
  | x :: ws, a, acc, sm => if x = [] then resW ws (a + 1) acc sm else if wordE x ≠ 0 then .inl (wordE x, a) else resW ws (a + x.length + 1) (andC acc (wordC x)) true
theorem resW_nil (a : Nat) (acc : List (Nat × Nat)) (sm : Bool) : resW [] a acc sm = .inr (acc, sm) := rfl
theorem resW_empty (ws : List (List UInt8)) (a : Nat) (acc : List (Nat × Nat)) (sm : Bool) : resW ([] :: ws) a acc sm = resW ws (a + 1) acc sm := by rw [resW]; exact if_pos rfl
theorem resW_bad {x : List UInt8} (ws : List (List UInt8)) (a : Nat) (acc : List (Nat × Nat)) (sm : Bool) (h : x ≠ []) (he : wordE x ≠ 0) : resW (x :: ws) a acc sm = .inl (wordE x, a) := by rw [resW, if_neg h]; exact if_pos he
theorem resW_good {x : List UInt8} (ws : List (List UInt8)) (a : Nat) (acc : List (Nat × Nat)) (sm : Bool) (h : x ≠ []) (he : wordE x = 0) : resW (x :: ws) a acc sm = resW ws (a + x.length + 1) (andC acc (wordC x)) true := by rw [resW, if_neg h]; exact if_neg (by simpa using he)
/-- Pieces. -/
noncomputable def resT : List ByteArray → Nat → List (Nat × Nat) → (Int × Nat) ⊕ List (Nat × Nat)
  | [], _, out => .inr out
  | p :: ps, a, out => match resW (pcL 32 p) a anyC false with
    | .inl f => .inl f
    | .inr (acc, sm) => if sm then resT ps (a + p.size + 2) (orC out acc) else .inl (3, a + p.size)
theorem resT_nil (a : Nat) (out : List (Nat × Nat)) : resT [] a out = .inr out := rfl
theorem resT_bad {p : ByteArray} (ps : List ByteArray) {a : Nat} (out : List (Nat × Nat)) {f : Int × Nat} (h : resW (pcL 32 p) a anyC false = .inl f) : resT (p :: ps) a out = .inl f := by rw [resT, h]
theorem resT_none {p : ByteArray} (ps : List ByteArray) {a : Nat} (out : List (Nat × Nat)) {acc : List (Nat × Nat)} (h : resW (pcL 32 p) a anyC false = .inr (acc, false)) : resT (p :: ps) a out = .inl (3, a + p.size) := by rw [resT, h]; exact if_neg (by decide)
theorem resT_good {p : ByteArray} (ps : List ByteArray) {a : Nat} (out : List (Nat × Nat)) {acc : List (Nat × Nat)} (h : resW (pcL 32 p) a anyC false = .inr (acc, true)) : resT (p :: ps) a out = resT ps (a + p.size + 2) (orC out acc) := by rw [resT, h]; exact if_pos rfl
def barS : ByteArray := ⟨#[124, 124]⟩
def barL (s : ByteArray) : List ByteArray := Lib.splitB barS 0 (Lib.countB s barS) s
noncomputable def rangeR (s : ByteArray) : (Int × Nat) ⊕ List (Nat × Nat) := resT (barL s) 0 []
/-! ### A range, told -/
def verN (n : Nat) : Nat → Int := fun j => if j = 0 then (n / 1000000 : Nat) else if j = 1 then (n / 1000 % 1000 : Nat) else (n % 1000 : Nat)
def verT (n : Nat) : List UInt8 := verL (verN n 0) (verN n 1) (verN n 2)
def spanT (s : Nat × Nat) : List UInt8 :=
  if s.2 = s.1 + 1 then verT s.1 else if 0 < s.1 then (if s.2 < endR then [62, 61] ++ verT s.1 ++ [32, 60] ++ verT s.2 else [62, 61] ++ verT s.1) else if s.2 < endR then [60] ++ verT s.2 else anyW
def rangeT (l : List (Nat × Nat)) : List UInt8 := if l = [] then noneW else Lib.join (l.map spanT) [32, 124, 124, 32]
end Go.Proofs.YtmncoldaemcnlaaGreatDoor
