/-
  Numbers told with blanks between: told differently just if they differ; no program in sight.
-/
import Derived.Lib.ItoaMem
import Derived.Lib.Join
import Derived.Lib.ItoaLen
namespace Go.Proofs.YtpghgfenafhhbaaDoor

theorem dec_mem : ∀ (u : Nat) (d : UInt8), d ∈ Lib.decDigits u → 48 ≤ d.toNat ∧ d.toNat ≤ 57 := by
  intro u
  induction u using Nat.strongRecOn with
  | ind u ih =>
    intro d hd
    rw [Lib.decDigits] at hd
    split at hd
    · rename_i h
      rw [List.mem_singleton.1 hd, UInt8.toNat_ofNat']
      omega
    · rename_i h
      rcases List.mem_append.1 hd with hd | hd
      · exact ih (u / 10) (by omega) d hd
      · rw [List.mem_singleton.1 hd, UInt8.toNat_ofNat']
        omega
theorem dec_ne (u : Nat) : Lib.decDigits u ≠ [] := by
  rw [Lib.decDigits]
  split
  · simp
  · simp
def decVal (l : List UInt8) : Nat := l.foldl (fun a d => 10 * a + (d.toNat - 48)) 0
theorem dec_val : ∀ u : Nat, decVal (Lib.decDigits u) = u := by
  intro u
  induction u using Nat.strongRecOn with
  | ind u ih =>
    rw [Lib.decDigits]
    split
    · rename_i h
      simp only [decVal, List.foldl_cons, List.foldl_nil, UInt8.toNat_ofNat']
      omega
    · rename_i h
      have := ih (u / 10) (by omega)
      unfold decVal at this ⊢
      rw [List.foldl_append, this]
      simp only [List.foldl_cons, List.foldl_nil, UInt8.toNat_ofNat']
      omega
theorem dec_inj {u v : Nat} (h : Lib.decDigits u = Lib.decDigits v) : u = v := by rw [← dec_val u, ← dec_val v, h]
theorem dec_head (u : Nat) (r : List UInt8) : Lib.decDigits u ≠ 45 :: r := by
  intro h
  have := dec_mem u 45 (by rw [h]; exact List.mem_cons_self ..)
  exact absurd this.1 (by decide)
theorem itoa_inj {n m : Int} (h : Lib.itoa n = Lib.itoa m) : n = m := by
  unfold Lib.itoa at h
  split at h
  · split at h
    · have := dec_inj (List.cons.inj h).2
      omega
    · exact absurd h.symm (dec_head _ _)
  · split at h
    · exact absurd h (dec_head _ _)
    · have := dec_inj h
      omega
theorem itoa_ne (n : Int) : Lib.itoa n ≠ [] := by
  unfold Lib.itoa
  split
  · simp
  · exact dec_ne _
theorem itoa_blank (n : Int) : ∀ d ∈ Lib.itoa n, d ≠ 32 := by
  intro d hd
  unfold Lib.itoa at hd
  have h9 : ∀ u : Nat, d ∈ Lib.decDigits u → d ≠ 32 := fun u h e => by
    have := dec_mem u d h
    rw [e] at this
    exact absurd this.1 (by decide)
  split at hd
  · rcases List.mem_cons.1 hd with e | h
    · rw [e]; decide
    · exact h9 _ h
  · exact h9 _ hd

def textF (zs : List Int) : List UInt8 := Lib.join (zs.map Lib.itoa) [32]
theorem text_nil : textF [] = [] := rfl
theorem text_cons (x : Int) (r : List Int) : textF (x :: r) = Lib.itoa x ++ (if r = [] then [] else 32 :: textF r) := by
  cases r with
  | nil => simp [textF, Lib.join_one]
  | cons y r =>
    unfold textF
    rw [List.map_cons, Lib.join_cons, List.map_cons, Lib.join_cons, if_neg (by simp)]
    simp [Lib.joinTail]
theorem split_blank {a b : List UInt8} {r s : List UInt8} (ha : ∀ d ∈ a, d ≠ 32) (hb : ∀ d ∈ b, d ≠ 32) (hr : r = [] ∨ ∃ t, r = 32 :: t) (hs : s = [] ∨ ∃ t, s = 32 :: t) (h : a ++ r = b ++ s) : a = b ∧ r = s := by
  induction a generalizing b with
  | nil =>
    cases b with
    | nil => exact ⟨rfl, h⟩
    | cons y b =>
      exfalso
      simp only [List.nil_append, List.cons_append] at h
      rcases hr with e | ⟨t, e⟩
      · rw [e] at h; cases h
      · rw [e] at h; exact hb y (List.mem_cons_self ..) (List.cons.inj h).1.symm
  | cons x a ih =>
    cases b with
    | nil =>
      exfalso
      simp only [List.nil_append, List.cons_append] at h
      rcases hs with e | ⟨t, e⟩
      · rw [e] at h; cases h
      · rw [e] at h; exact ha x (List.mem_cons_self ..) (List.cons.inj h).1
    | cons y b =>
      simp only [List.cons_append] at h
      obtain ⟨e1, e2⟩ := List.cons.inj h
      obtain ⟨h1, h2⟩ := ih (fun d hd => ha d (List.mem_cons_of_mem _ hd)) (fun d hd => hb d (List.mem_cons_of_mem _ hd)) e2
      exact ⟨by rw [e1, h1], h2⟩
theorem text_inj : ∀ (a b : List Int), textF a = textF b → a = b := by
  have key : ∀ (r : List Int), (if r = [] then [] else 32 :: textF r : List UInt8) = [] ∨ ∃ t, (if r = [] then [] else 32 :: textF r : List UInt8) = 32 :: t := by
    intro r
    split
    · exact .inl rfl
    · exact .inr ⟨_, rfl⟩
  intro a
  induction a with
  | nil =>
    intro b h
    cases b with
    | nil => rfl
    | cons y b =>
      rw [text_nil, text_cons] at h
      exact absurd (List.append_eq_nil_iff.1 h.symm).1 (itoa_ne y)
  | cons x a ih =>
    intro b h
    cases b with
    | nil =>
      rw [text_nil, text_cons] at h
      exact absurd (List.append_eq_nil_iff.1 h).1 (itoa_ne x)
    | cons y b =>
      rw [text_cons, text_cons] at h
      obtain ⟨h1, h2⟩ := split_blank (itoa_blank x) (itoa_blank y) (key a) (key b) h
      rw [itoa_inj h1]
      congr 1
      by_cases ea : a = []
      · by_cases eb : b = []
        · rw [ea, eb]
        · rw [if_pos ea, if_neg eb] at h2; cases h2
      · by_cases eb : b = []
        · rw [if_neg ea, if_pos eb] at h2; cases h2
        · rw [if_neg ea, if_neg eb] at h2
          exact ih b (List.cons.inj h2).2
/-- How long it is at most. -/
theorem textF_len : ∀ (zs : List Int), (∀ z ∈ zs, -9223372036854775808 ≤ z ∧ z ≤ 9223372036854775807) → (textF zs).length ≤ 22 * zs.length := by
  intro zs
  induction zs with
  | nil => intro _; exact Nat.le_refl _
  | cons x r ih =>
    intro h
    have h1 := Lib.itoa_length_le x (h x (List.mem_cons_self ..)).1 (h x (List.mem_cons_self ..)).2
    have h2 := ih (fun z hz => h z (List.mem_cons_of_mem _ hz))
    rw [text_cons, List.length_append, List.length_cons]
    split
    · simp; omega
    · rw [List.length_cons]; omega
end Go.Proofs.YtpghgfenafhhbaaDoor
