/-
  A catalog's line: what it tells. No program in sight.
-/
import Derived.Test.YtmncoldaemcnlaaGreatDoorRgText
import Derived.Test.YtmncoldaemcnlaaGreatDoorVerB
import Derived.Lib.CutLaws
import Derived.Lib.SlicesS
namespace Go.Proofs.YtmncoldaemcnlaaGreatDoor

/-- A text up to the first blank. -/
def wordS (s : ByteArray) : ByteArray := ⟨(Lib.cut s.data.toList [32]).1.toArray⟩
/-- What is behind it. -/
def tailS (s : ByteArray) : ByteArray := ⟨(Lib.cut s.data.toList [32]).2.1.toArray⟩
theorem blank_hit {s : ByteArray} {i : Nat} (h : Lib.indexByte s.data.toList 32 = i) : wordS s = s.extract 0 i ∧ tailS s = s.extract (i + 1) s.size := by
  have h' : Lib.indexB s ⟨#[32]⟩ = i := (Lib.index_one s.data.toList 32).trans h
  exact ⟨(Lib.cutB_hit s ⟨#[32]⟩ i h').1, (Lib.cutB_hit s ⟨#[32]⟩ i h').2.1⟩
theorem blank_miss {s : ByteArray} (h : Lib.indexByte s.data.toList 32 = -1) : wordS s = s ∧ tailS s = ByteArray.empty := by
  have h' : Lib.indexB s ⟨#[32]⟩ = -1 := (Lib.index_one s.data.toList 32).trans h
  exact ⟨(Lib.cutB_miss s ⟨#[32]⟩ h').1, (Lib.cutB_miss s ⟨#[32]⟩ h').2.1⟩
theorem blank_or (s : ByteArray) : Lib.indexByte s.data.toList 32 = -1 ∨ ∃ i : Nat, Lib.indexByte s.data.toList 32 = i ∧ i < s.size := by
  rcases Lib.indexB_cases s ⟨#[32]⟩ with h | ⟨i, h, hi⟩
  · exact .inl ((Lib.index_one s.data.toList 32).symm.trans h)
  · exact .inr ⟨i, (Lib.index_one s.data.toList 32).symm.trans h, by have : (⟨#[32]⟩ : ByteArray).size = 1 := rfl; omega⟩
theorem wordS_size (s : ByteArray) : (wordS s).size ≤ s.size := by
  rcases blank_or s with h | ⟨i, h, hi⟩
  · rw [(blank_miss h).1]; exact Nat.le_refl _
  · rw [(blank_hit h).1, ByteArray.size_extract]; omega
theorem tailS_size (s : ByteArray) : (tailS s).size ≤ s.size := by
  rcases blank_or s with h | ⟨i, h, hi⟩
  · rw [(blank_miss h).2]; exact Nat.zero_le _
  · rw [(blank_hit h).2, ByteArray.size_extract]; omega
/-! ### Kinds -/
def kindB : List ByteArray := [⟨#[]⟩, ⟨#[112, 97, 99, 107, 97, 103, 101]⟩, ⟨#[110, 101, 101, 100, 115]⟩, ⟨#[99, 108, 97, 115, 104, 101, 115]⟩, ⟨#[114, 111, 111, 116]⟩]
/-- A kind's number, 0: there is none. -/
def kindK (w : ByteArray) : Nat := if w = kindB[1] then 1 else if w = kindB[2] then 2 else if w = kindB[3] then 3 else if w = kindB[4] then 4 else 0
theorem kindK_le (w : ByteArray) : kindK w ≤ 4 := by unfold kindK; repeat' split
                                                     all_goals omega
theorem kind_idx (w : ByteArray) : (1 ≤ Lib.idxOfS kindB w ∧ Lib.idxOfS kindB w = (kindK w : Int) ∧ 1 ≤ kindK w) ∨ (Lib.idxOfS kindB w < 1 ∧ kindK w = 0) := by
  unfold kindK
  split
  · rename_i h; subst h; exact .inl (by decide +kernel)
  · split
    · rename_i h; subst h; exact .inl (by decide +kernel)
    · split
      · rename_i h; subst h; exact .inl (by decide +kernel)
      · split
        · rename_i h; subst h; exact .inl (by decide +kernel)
        · rename_i h1 h2 h3 h4
          refine .inr ⟨?_, rfl⟩
          by_cases h0 : w = ⟨#[]⟩
          · subst h0; decide +kernel
          · show Lib.idxFromS kindB w 0 < 1
            unfold kindB at h1 h2 h3 h4 ⊢
            unfold Lib.idxFromS
            rw [if_neg (fun e => h0 e.symm)]
            unfold Lib.idxFromS
            rw [if_neg (fun e => h1 e.symm)]
            unfold Lib.idxFromS
            rw [if_neg (fun e => h2 e.symm)]
            unfold Lib.idxFromS
            rw [if_neg (fun e => h3 e.symm)]
            unfold Lib.idxFromS
            rw [if_neg (fun e => h4 e.symm)]
            show (-1 : Int) < 1
            decide
/-- The document's loop: a kind's text is the word just if its number is the word's kind. -/
theorem kind_is (w : ByteArray) (k : Nat) (h1 : 1 ≤ k) (h4 : k ≤ 4) : kindB.getD k ByteArray.empty = w ↔ kindK w = k := by
  have e : k = 1 ∨ k = 2 ∨ k = 3 ∨ k = 4 := by omega
  constructor
  · rintro rfl
    rcases e with rfl | rfl | rfl | rfl <;> decide +kernel
  · intro h
    unfold kindK at h
    split at h
    · rename_i hw; subst hw; subst h; rfl
    · split at h
      · rename_i hw; subst hw; subst h; rfl
      · split at h
        · rename_i hw; subst hw; subst h; rfl
        · split at h
          · rename_i hw; subst hw; subst h; rfl
          · omega
/-! ### Lines -/
/-- What a range's text tells, of any length. -/
noncomputable def rgR (s : ByteArray) : (Int × Int) ⊕ List (Nat × Nat) :=
  if 1000 < s.size then .inl (4, -1) else match rangeR s with
  | .inl q => .inl (q.1, (q.2 : Int))
  | .inr l => .inr l
/-- What a line tells. -/
structure LnR where
  k : Int
  name : ByteArray
  ver : Nat → Int
  other : ByteArray
  rg : List (Nat × Nat)
/-- Behind a line's version. -/
noncomputable def lineR2 (k : Nat) (name : ByteArray) (ver : Nat → Int) (r : ByteArray) : (Int × Int) ⊕ LnR :=
  if k = 1 then (if r = ByteArray.empty then .inr ⟨1, name, ver, ByteArray.empty, []⟩ else .inl (3, -1))
  else match rgR (tailS r) with
  | .inl f => .inl f
  | .inr l => .inr ⟨k, name, ver, wordS r, l⟩
noncomputable def lineR (s : ByteArray) : (Int × Int) ⊕ LnR :=
  let k := kindK (wordS s)
  let name := wordS (tailS s)
  let r := tailS (tailS s)
  if k = 0 then .inl (3, -1)
  else if k = 4 then (match rgR r with
    | .inl f => .inl f
    | .inr l => .inr ⟨4, name, fun _ => 0, ByteArray.empty, l⟩)
  else if verE (wordS r) ≠ 0 then .inl (verE (wordS r), -1)
  else lineR2 k name (verV (wordS r)) (tailS r)
end Go.Proofs.YtmncoldaemcnlaaGreatDoor
