/-
  A part of the proof: RulePure, OrdPure. Conditions: none.
-/
import Derived.Test.YtmncoldaemcnlaaGreatDoorOrCatIdx
namespace Go.Proofs.YtmncoldaemcnlaaGreatDoor
open Classical
def nmA (its : List ItR) (i : Nat) : ByteArray := (its.getD i (ByteArray.empty, 0, 0, 0)).1
def TwA (its : List ItR) (set i k : Nat) : Prop := i ≠ k ∧ i < its.length ∧ k < its.length ∧ set.testBit i = true ∧ set.testBit k = true ∧ nmA its i = nmA its k
def Twin (its : List ItR) (set : Nat) : Prop := ∃ i k, TwA its set i k
theorem nmA_at {its : List ItR} {i : Nat} (h : i < its.length) : nmA its i = its[i].1 := by
 unfold nmA
 rw [List.getD_eq_getElem?_getD, List.getElem?_eq_getElem h]
 rfl
theorem TwA.symm {its : List ItR} {set i k : Nat} (h : TwA its set i k) : TwA its set k i := ⟨Ne.symm h.1, h.2.2.1, h.2.1, h.2.2.2.2.1, h.2.2.2.1, h.2.2.2.2.2.symm⟩
theorem no_twin {its : List ItR} {set : Nat} (h : ∀ i k, k < i → i < its.length → ¬ TwA its set i k) : ¬ Twin its set := by
 rintro ⟨i, k, ht⟩
 rcases Nat.lt_trichotomy i k with h1 | h1 | h1
 ·exact h k i h1 ht.2.2.1 ht.symm
 ·exact ht.1 h1
 ·exact h i k h1 ht.2.1 ht
def anyB (set : Nat) (zs : List Int) : Bool := zs.any fun z => set.testBit z.toNat
def inB (set : Nat) (z : Int) : Bool := set.testBit z.toNat
def BadL (its : List ItR) (set : Nat) (x : LnR) : Prop :=
 (x.k = 2 ∧ inB set (posN its (itL x)) = true ∧ anyB set (amF x.other x.rg its 0) = false) ∨ (x.k = 3 ∧ inB set (posN its (itL x)) = true ∧ anyB set (amF x.other x.rg its 0) = true) ∨ (x.k = 4 ∧ anyB set (amF x.name x.rg its 0) = false)
noncomputable def fitL (its : List ItR) (set : Nat) : List LnR → Nat → Bool × Int
 | [], _ => (true, -1)
 | x :: r, i => if BadL its set x then (false, (i : Int)) else fitL its set r (i + 1)
noncomputable def fitsF (its : List ItR) (ls : List LnR) (set : Nat) : Bool × Int := if set >>> its.length ≠ 0 then (false, -2) else if Twin its set then (false, -2) else fitL its set ls 0
theorem fitL_hit {its : List ItR} {set : Nat} {x : LnR} {r : List LnR} {i : Nat} (h : BadL its set x) : fitL its set (x :: r) i = (false, (i : Int)) := by rw [fitL, if_pos h]
theorem fitL_miss {its : List ItR} {set : Nat} {x : LnR} {r : List LnR} {i : Nat} (h : ¬ BadL its set x) : fitL its set (x :: r) i = fitL its set r (i + 1) := by rw [fitL, if_neg h]
theorem fitL_step {its : List ItR} {set : Nat} {ls : List LnR} {p : Bool × Int} {i : Nat} (hi : i < ls.length) (h : fitL its set (ls.drop i) i = p) : (BadL its set ls[i] → p = (false, (i : Int))) ∧ (¬ BadL its set ls[i] → fitL its set (ls.drop (i + 1)) (i + 1) = p) := by
 rw [List.drop_eq_getElem_cons hi] at h
 exact ⟨fun e => by rw [fitL_hit e] at h; exact h.symm, fun e => by rw [fitL_miss e] at h; exact h⟩
theorem passB_in : ∀ (its : List ItR) (ls : List LnR) (i : Nat), (passB its ls i).1 = 0 → ∀ x ∈ ls, x.k = 2 ∨ x.k = 3 → itL x ∈ its
 | _, [], _, _, _, hx, _ => absurd hx List.not_mem_nil
 | its, y :: r, i, h, x, hx, hk => by
  rw [passB] at h
  split at h
  ·simp at h
  ·rename_i h0
   rcases List.mem_cons.1 hx with rfl | hx
   ·exact Classical.byContradiction fun c => h0 ⟨hk, c⟩
   ·exact passB_in its r (i + 1) h x hx hk
theorem itemsF_perm (ls : List LnR) : (itemsF ls).Perm (onesL ls) := (srtI_spec _).2
theorem catR_in {ls : List LnR} {its : List ItR} (h : catR ls = .inr its) : ∀ x ∈ ls, x.k = 2 ∨ x.k = 3 → itL x ∈ itemsF ls := by
 intro x hx hk
 have e := (catR_ok h).1
 unfold catR at h
 split at h
 ·cases h
 ·split at h
  ·cases h
  ·rename_i its' h1
   split at h
   ·rename_i hb
    injection h with h
    subst h
    rw [(itemsF_perm ls).mem_iff, ← e]
    exact passB_in _ ls 0 hb x hx hk
   ·cases h
theorem catR_few {ls : List LnR} {its : List ItR} (h : catR ls = .inr its) : (itemsF ls).length ≤ 24 ∧ (itemsF ls).Nodup := by
 obtain ⟨e, h1, h2, _⟩ := catR_ok h
 rw [(itemsF_perm ls).length_eq, ← e]
 exact ⟨h1, (itemsF_perm ls).nodup_iff.2 (by rw [← e]; exact h2)⟩
theorem bad_one {its : List ItR} {set : Nat} {x : LnR} (h2 : x.k ≠ 2) (h3 : x.k ≠ 3) (h4 : x.k ≠ 4) : ¬ BadL its set x := by
 rintro (h | h | h)
 ·exact h2 h.1
 ·exact h3 h.1
 ·exact h4 h.1
theorem bad_root {its : List ItR} {set : Nat} {x : LnR} (h : x.k = 4) : BadL its set x ↔ anyB set (amF x.name x.rg its 0) = false := by
 unfold BadL
 rw [h]
 simp
theorem bad_needs {its : List ItR} {set : Nat} {x : LnR} (h : x.k = 2) : BadL its set x ↔ inB set (posN its (itL x)) = true ∧ anyB set (amF x.other x.rg its 0) = false := by
 unfold BadL
 rw [h]
 simp
theorem bad_clash {its : List ItR} {set : Nat} {x : LnR} (h : x.k = 3) : BadL its set x ↔ inB set (posN its (itL x)) = true ∧ anyB set (amF x.other x.rg its 0) = true := by
 unfold BadL
 rw [h]
 simp
theorem fits_far {its : List ItR} {ls : List LnR} {set : Nat} (h : set >>> its.length ≠ 0) : fitsF its ls set = (false, -2) := by unfold fitsF; rw [if_pos h]
theorem fits_twin {its : List ItR} {ls : List LnR} {set i k : Nat} (h : TwA its set i k) : fitsF its ls set = (false, -2) := by
 unfold fitsF
 by_cases h0 : set >>> its.length ≠ 0
 ·rw [if_pos h0]
 ·rw [if_neg h0, if_pos ⟨i, k, h⟩]
theorem fits_lines {its : List ItR} {ls : List LnR} {set : Nat} (h0 : set >>> its.length = 0) (h : ¬ Twin its set) : fitsF its ls set = fitL its set ls 0 := by
 unfold fitsF
 rw [if_neg (by simpa using h0), if_neg h]
theorem anyB_snoc (set : Nat) (zs : List Int) {j : Nat} (h : j < zs.length) : anyB set (zs.take (j + 1)) = (anyB set (zs.take j) || set.testBit (zs[j]).toNat) := by
 unfold anyB
 rw [List.take_succ_eq_append_getElem h, List.any_append]
 simp
theorem shr_pos (set n : Nat) : (set >>> n ≠ 0 → (set : Int) / 2 ^ n > 0) ∧ (set >>> n = 0 → (set : Int) / 2 ^ n = 0) := by
 have e : ((set : Int) / 2 ^ n) = ((set >>> n : Nat) : Int) := by rw [Nat.shiftRight_eq_div_pow]; norm_cast
 rw [e]
 generalize set >>> n = m
 exact ⟨fun h => by omega, fun h => by rw [h]; rfl⟩
theorem amF_range (nm : ByteArray) (rg : List (Nat × Nat)) : ∀ (its : List ItR) (i : Nat), ∀ z ∈ amF nm rg its i, (i : Int) ≤ z ∧ z < (i : Int) + its.length
 | [], _, _, hz => absurd hz List.not_mem_nil
 | a :: r, i, z, hz => by
  have ih := amF_range nm rg r (i + 1)
  unfold amF at hz
  rw [List.length_cons]
  split at hz
  ·rcases List.mem_cons.1 hz with rfl | hz
   ·omega
   ·have := ih z hz; omega
  ·have := ih z hz; omega
theorem amF_len (nm : ByteArray) (rg : List (Nat × Nat)) : ∀ (its : List ItR) (i : Nat), (amF nm rg its i).length ≤ its.length
 | [], _ => Nat.le_refl _
 | a :: r, i => by
  have ih := amF_len nm rg r (i + 1)
  unfold amF
  rw [List.length_cons]
  split
  ·rw [List.length_cons]; omega
  ·omega
end Go.Proofs.YtmncoldaemcnlaaGreatDoor
namespace Go.Proofs.YtmncoldaemcnlaaGreatDoor
open Classical
end Go.Proofs.YtmncoldaemcnlaaGreatDoor
namespace Go.Proofs.YtmncoldaemcnlaaGreatDoor
open Classical
def natI (l : List Nat) : List Int := l.map fun (k : Nat) => (k : Int)
theorem natI_snoc (l : List Nat) (k : Nat) : natI (l ++ [k]) = natI l ++ [(k : Int)] := by unfold natI; rw [List.map_append]; rfl
theorem natI_len (l : List Nat) : (natI l).length = l.length := List.length_map ..
def NeedL (its : List ItR) (i k : Nat) (x : LnR) : Prop := x.k = 2 ∧ i ≠ k ∧ posN its (itL x) = (i : Int) ∧ (k : Int) ∈ amF x.other x.rg its 0
def NeedP (its : List ItR) (ls : List LnR) (i k : Nat) : Prop := ∃ x ∈ ls, NeedL its i k x
noncomputable def rdK (its : List ItR) (ls : List LnR) (set : Nat) (out : List Nat) (i : Nat) : Nat → Bool
 | 0 => true
 | k + 1 => rdK its ls set out i k && (!set.testBit k || decide (k ∈ out) || !decide (NeedP its ls i k))
noncomputable def toC (set : Nat) (out : List Nat) (i : Nat) : Bool := set.testBit i && !decide (i ∈ out)
noncomputable def rdB (its : List ItR) (ls : List LnR) (set : Nat) (out : List Nat) (i : Nat) : Bool := toC set out i && rdK its ls set out i its.length
def frF (p : Nat → Bool) : Nat → Nat → Int
 | _, 0 => -1
 | i, f + 1 => if p i = true then (i : Int) else frF p (i + 1) f
def anF (p : Nat → Bool) : Nat → Nat → Bool
 | _, 0 => false
 | i, f + 1 => p i || anF p (i + 1) f
noncomputable def ordF (its : List ItR) (ls : List LnR) (set : Nat) : Nat → List Nat → List Nat × Int
 | 0, out => (out, 0)
 | f + 1, out => if anF (toC set out) 0 its.length = false then (out, 0) else if frF (rdB its ls set out) 0 its.length < 0 then ([], 11) else ordF its ls set f (out ++ [(frF (rdB its ls set out) 0 its.length).toNat])
noncomputable def orderF (its : List ItR) (ls : List LnR) (set : Nat) : List Nat × Int := if (fitsF its ls set).1 = false then ([], 13) else ordF its ls set its.length []
theorem frF_spec (p : Nat → Bool) : ∀ f i, (frF p i f = -1 ∧ ∀ j, i ≤ j → j < i + f → p j = false) ∨ ∃ j : Nat, frF p i f = (j : Int) ∧ i ≤ j ∧ j < i + f ∧ p j = true ∧ ∀ k, i ≤ k → k < j → p k = false
 | 0, i => .inl ⟨rfl, fun j h1 h2 => by omega⟩
 | f + 1, i => by
  unfold frF
  by_cases h : p i = true
  ·rw [if_pos h]
   exact .inr ⟨i, rfl, Nat.le_refl _, by omega, h, fun k h1 h2 => by omega⟩
  ·rw [if_neg h]
   have hn : p i = false := by simpa using h
   rcases frF_spec p f (i + 1) with ⟨h1, h2⟩ | ⟨j, h1, h2, h3, h4, h5⟩
   ·refine .inl ⟨h1, fun j h3 h4 => ?_⟩
    rcases Nat.eq_or_lt_of_le h3 with rfl | h5
    ·exact hn
    ·exact h2 j h5 (by omega)
   ·refine .inr ⟨j, h1, by omega, by omega, h4, fun k h6 h7 => ?_⟩
    rcases Nat.eq_or_lt_of_le h6 with rfl | h8
    ·exact hn
    ·exact h5 k h8 h7
theorem anF_spec (p : Nat → Bool) : ∀ f i, anF p i f = true ↔ ∃ j, i ≤ j ∧ j < i + f ∧ p j = true
 | 0, i => by unfold anF; exact ⟨fun h => (by cases h), fun ⟨j, h1, h2, _⟩ => (by omega)⟩
 | f + 1, i => by
  unfold anF
  rw [Bool.or_eq_true, anF_spec p f (i + 1)]
  constructor
  ·rintro (h | ⟨j, h1, h2, h3⟩)
   ·exact ⟨i, Nat.le_refl _, by omega, h⟩
   ·exact ⟨j, by omega, by omega, h3⟩
  ·rintro ⟨j, h1, h2, h3⟩
   rcases Nat.eq_or_lt_of_le h1 with rfl | h4
   ·exact .inl h3
   ·exact .inr ⟨j, h4, by omega, h3⟩
theorem rdK_iff {its : List ItR} {ls : List LnR} {set : Nat} {out : List Nat} {i : Nat} : ∀ n, rdK its ls set out i n = true ↔ ∀ k, k < n → set.testBit k = true → k ∉ out → ¬ NeedP its ls i k
 | 0 => ⟨fun _ k h => absurd h (Nat.not_lt_zero _), fun _ => rfl⟩
 | n + 1 => by
  unfold rdK
  rw [Bool.and_eq_true, rdK_iff n]
  constructor
  ·rintro ⟨h1, h2⟩ k hk hb ho hn
   rcases Nat.lt_or_ge k n with h3 | h3
   ·exact h1 k h3 hb ho hn
   ·obtain rfl : k = n := by omega
    rw [hb, decide_eq_false ho, decide_eq_true hn] at h2
    cases h2
  ·intro h
   refine ⟨fun k hk => h k (by omega), ?_⟩
   cases hb : set.testBit n with
   | false => rfl
   | true =>
    by_cases ho : n ∈ out
    ·rw [decide_eq_true ho]; rfl
    ·rw [decide_eq_false ho, decide_eq_false (h n (by omega) hb ho)]; rfl
theorem nx_toC {its : List ItR} {ls : List LnR} {set : Nat} {out : List Nat} (h : ¬ frF (rdB its ls set out) 0 its.length < 0) : ∃ i : Nat, frF (rdB its ls set out) 0 its.length = (i : Int) ∧ i < its.length ∧ set.testBit i = true ∧ i ∉ out := by
 rcases frF_spec (rdB its ls set out) its.length 0 with ⟨h1, _⟩ | ⟨j, h1, _, h3, h4, _⟩
 ·omega
 ·refine ⟨j, h1, by omega, ?_⟩
  unfold rdB toC at h4
  simp only [Bool.and_eq_true, Bool.not_eq_true', decide_eq_false_iff_not] at h4
  exact ⟨h4.1.1, h4.1.2⟩
theorem nodup_fewN (m : Nat) : ∀ l : List Nat, l.Nodup → (∀ x ∈ l, x < m) → l.length ≤ m := by
 induction m with
 | zero =>
  intro l _ h
  cases l with
  | nil => exact Nat.le_refl _
  | cons a l => exact absurd (h a (List.mem_cons_self ..)) (Nat.not_lt_zero _)
 | succ m ih =>
  intro l hn h
  have h1 := ih (l.erase m) (hn.erase m) fun x hx => by
   have := hn.mem_erase_iff.1 hx
   have := h x this.2
   omega
  by_cases hm : m ∈ l
  ·rw [List.length_erase_of_mem hm] at h1
   omega
  ·rw [List.erase_of_not_mem hm] at h1
   omega
structure OrdI (n set : Nat) (out : List Nat) : Prop where
 nd : out.Nodup
 inn : ∀ k ∈ out, k < n ∧ set.testBit k = true
theorem ordI_nil (n set : Nat) : OrdI n set [] := ⟨List.nodup_nil, fun _ h => absurd h List.not_mem_nil⟩
theorem OrdI.snoc {n set : Nat} {out : List Nat} {i : Nat} (h : OrdI n set out) (h1 : i < n) (h2 : set.testBit i = true) (h3 : i ∉ out) : OrdI n set (out ++ [i]) := by
 refine ⟨?_, fun k hk => ?_⟩
 ·rw [List.nodup_append]
  exact ⟨h.nd, by simp, fun a ha b hb e => h3 (by rw [List.mem_singleton.1 hb] at e; exact e ▸ ha)⟩
 ·rcases List.mem_append.1 hk with hk | hk
  ·exact h.inn k hk
  ·rw [List.mem_singleton.1 hk]; exact ⟨h1, h2⟩
theorem OrdI.len {n set : Nat} {out : List Nat} (h : OrdI n set out) : out.length ≤ n := by
 exact nodup_fewN n out h.nd fun k hk => (h.inn k hk).1
theorem OrdI.more {n set : Nat} {out : List Nat} {i : Nat} (h : OrdI n set out) (h1 : i < n) (h2 : set.testBit i = true) (h3 : i ∉ out) : out.length < n := by
 have := (h.snoc h1 h2 h3).len
 simp at this
 omega
theorem ordF_done {its : List ItR} {ls : List LnR} {set f : Nat} {out : List Nat} (h : anF (toC set out) 0 its.length = false) : ordF its ls set f out = (out, 0) := by
 cases f with
 | zero => rfl
 | succ f => unfold ordF; rw [if_pos h]
theorem ordF_cycle {its : List ItR} {ls : List LnR} {set f : Nat} {out : List Nat} (h : anF (toC set out) 0 its.length = true) (hn : frF (rdB its ls set out) 0 its.length < 0) : ordF its ls set (f + 1) out = ([], 11) := by
 unfold ordF
 rw [if_neg (by rw [h]; exact fun e => by cases e), if_pos hn]
theorem ordF_next {its : List ItR} {ls : List LnR} {set f : Nat} {out : List Nat} {i : Nat} (h : anF (toC set out) 0 its.length = true) (hn : frF (rdB its ls set out) 0 its.length = (i : Int)) : ordF its ls set (f + 1) out = ordF its ls set f (out ++ [i]) := by
 conv => lhs; unfold ordF
 rw [if_neg (by rw [h]; exact fun e => by cases e), if_neg (by omega), hn]
 rfl
theorem ordF_in {its : List ItR} {ls : List LnR} {set : Nat} : ∀ (f : Nat) (out : List Nat), OrdI its.length set out → ∀ k ∈ (ordF its ls set f out).1, k < its.length
 | 0, out, h, k, hk => (h.inn k hk).1
 | f + 1, out, h, k, hk => by
  by_cases h1 : anF (toC set out) 0 its.length = false
  ·rw [ordF_done h1] at hk
   exact (h.inn k hk).1
  ·have h1 : anF (toC set out) 0 its.length = true := by simpa using h1
   by_cases h2 : frF (rdB its ls set out) 0 its.length < 0
   ·rw [ordF_cycle h1 h2] at hk
    exact absurd hk List.not_mem_nil
   ·obtain ⟨i, e, h3, h4, h5⟩ := nx_toC h2
    rw [ordF_next h1 e] at hk
    exact ordF_in f _ (h.snoc h3 h4 h5) k hk
theorem ordF_len {its : List ItR} {ls : List LnR} {set : Nat} : ∀ (f : Nat) (out : List Nat), OrdI its.length set out → (ordF its ls set f out).1.length ≤ its.length
 | 0, out, h => h.len
 | f + 1, out, h => by
  by_cases h1 : anF (toC set out) 0 its.length = false
  ·rw [ordF_done h1]
   exact h.len
  ·have h1 : anF (toC set out) 0 its.length = true := by simpa using h1
   by_cases h2 : frF (rdB its ls set out) 0 its.length < 0
   ·rw [ordF_cycle h1 h2]
    exact Nat.zero_le _
   ·obtain ⟨i, e, h3, h4, h5⟩ := nx_toC h2
    rw [ordF_next h1 e]
    exact ordF_len f _ (h.snoc h3 h4 h5)
theorem orderF_in {its : List ItR} {ls : List LnR} {set : Nat} : (∀ k ∈ (orderF its ls set).1, k < its.length) ∧ (orderF its ls set).1.length ≤ its.length := by
 unfold orderF
 split
 ·exact ⟨fun _ h => absurd h List.not_mem_nil, Nat.zero_le _⟩
 ·exact ⟨ordF_in _ _ (ordI_nil _ _), ordF_len _ _ (ordI_nil _ _)⟩
noncomputable def ldX (its : List ItR) (set i : Nat) (x : LnR) : List Int := if x.k = 2 ∧ posN its (itL x) = (i : Int) ∧ set.testBit i = true then (amF x.other x.rg its 0).filter fun z => set.testBit z.toNat && decide (z ≠ (i : Int)) else []
noncomputable def ldR (its : List ItR) (set i : Nat) (ls : List LnR) : List Int := ls.flatMap (ldX its set i)
theorem ldR_mem {its : List ItR} {ls : List LnR} {set i : Nat} (hi : set.testBit i = true) (z : Int) : z ∈ ldR its set i ls ↔ ∃ k : Nat, z = (k : Int) ∧ k < its.length ∧ set.testBit k = true ∧ NeedP its ls i k := by
 unfold ldR
 rw [List.mem_flatMap]
 constructor
 ·rintro ⟨x, hx, hz⟩
  unfold ldX at hz
  split at hz
  ·rename_i hc
   rw [List.mem_filter, Bool.and_eq_true, decide_eq_true_eq] at hz
   have hr := amF_range x.other x.rg its 0 z hz.1
   obtain ⟨k, rfl⟩ : ∃ k : Nat, z = (k : Int) := ⟨z.toNat, by omega⟩
   exact ⟨k, rfl, by omega, hz.2.1, x, hx, hc.1, fun e => hz.2.2 (by rw [e]), hc.2.1, hz.1⟩
  ·exact absurd hz List.not_mem_nil
 ·rintro ⟨k, rfl, _, hb, x, hx, h1, h2, h3, h4⟩
  refine ⟨x, hx, ?_⟩
  unfold ldX
  rw [if_pos ⟨h1, h3, hi⟩, List.mem_filter, Bool.and_eq_true, decide_eq_true_eq]
  exact ⟨h4, hb, fun e => h2 (by omega)⟩
theorem ldR_len (its : List ItR) (set i : Nat) : ∀ ls : List LnR, (ldR its set i ls).length ≤ its.length * ls.length
 | [] => Nat.zero_le _
 | x :: r => by
  have ih := ldR_len its set i r
  have h1 : (ldX its set i x).length ≤ its.length := by
   unfold ldX
   split
   ·exact Nat.le_trans (List.length_filter_le _ _) (amF_len _ _ _ _)
   ·exact Nat.zero_le _
  unfold ldR at ih ⊢
  rw [List.flatMap_cons, List.length_append, List.length_cons, Nat.mul_succ]
  omega
theorem rdB_ld {its : List ItR} {ls : List LnR} {set done : Nat} {out : List Nat} {i : Nat} (hb : set.testBit i = true) (ho : i ∉ out) (hd : ∀ k, done.testBit k = decide (k ∈ out)) : rdB its ls set out i = !((ldR its set i ls).any fun z => !done.testBit z.toNat) := by
 unfold rdB toC
 rw [hb, decide_eq_false ho]
 have e : rdK its ls set out i its.length = !((ldR its set i ls).any fun z => !done.testBit z.toNat) := by
  rw [Bool.eq_iff_iff, rdK_iff, Bool.not_eq_true', List.any_eq_false]
  constructor
  ·intro h z hz
   obtain ⟨k, rfl, h1, h2, h3⟩ := (ldR_mem hb z).1 hz
   rw [show ((k : Int)).toNat = k from rfl, hd]
   by_cases h4 : k ∈ out
   ·simp [h4]
   ·exact absurd h3 (h k h1 h2 h4)
  ·intro h k h1 h2 h3 h4
   have := h (k : Int) ((ldR_mem hb _).2 ⟨k, rfl, h1, h2, h4⟩)
   rw [show ((k : Int)).toNat = k from rfl, hd] at this
   simp [h3] at this
 rw [e]
 rfl
theorem left_done {n set done : Nat} {out : List Nat} (h : OrdI n set out) (hs : set < 2 ^ n) (hd : ∀ k, done.testBit k = decide (k ∈ out)) : anF (toC set out) 0 n = decide (done ≠ set) := by
 rw [Bool.eq_iff_iff, anF_spec, decide_eq_true_eq]
 constructor
 ·rintro ⟨j, _, _, h3⟩ e
  unfold toC at h3
  rw [Bool.and_eq_true, Bool.not_eq_true', decide_eq_false_iff_not] at h3
  have := hd j
  rw [e, h3.1, decide_eq_false h3.2] at this
  cases this
 ·intro hne
  refine Classical.byContradiction fun hc => hne (Nat.eq_of_testBit_eq fun k => ?_)
  rw [hd]
  by_cases hk : k ∈ out
  ·rw [decide_eq_true hk, (h.inn k hk).2]
  ·rw [decide_eq_false hk]
   cases hb : set.testBit k with
   | false => rfl
   | true =>
    refine absurd ⟨k, Nat.zero_le _, ?_, ?_⟩ hc
    ·refine Classical.byContradiction fun h9 => ?_
     have : set.testBit k = false := Nat.testBit_lt_two_pow (Nat.lt_of_lt_of_le hs (Nat.pow_le_pow_right (by omega) (by omega)))
     rw [this] at hb
     cases hb
    ·unfold toC
     rw [hb, decide_eq_false hk]
     rfl
theorem done_snoc {done : Nat} {out : List Nat} {i : Nat} (hd : ∀ k, done.testBit k = decide (k ∈ out)) : ∀ k, (done ||| 1 <<< i).testBit k = decide (k ∈ out ++ [i]) := by
 intro k
 rw [Nat.testBit_or, hd, Nat.one_shiftLeft, Nat.testBit_two_pow]
 by_cases h1 : k ∈ out
 ·simp [h1]
 ·by_cases h2 : i = k
  ·simp [h2]
  ·simp [h1, h2, Ne.symm h2]
def goF (to : Nat) (a : List Nat) : List Nat := a.reverse.filter fun k => !to.testBit k
def comeF (frm : Nat) (b : List Nat) : List Nat := b.filter fun k => !frm.testBit k
def stepsI (a b : List Nat) : List Int := a.map (fun (k : Nat) => -((k : Int) + 1)) ++ b.map fun (k : Nat) => (k : Int) + 1
noncomputable def changeF (its : List ItR) (ls : List LnR) (frm to : Nat) : List Int × Int :=
 if (orderF its ls frm).2 ≠ 0 then ([], (orderF its ls frm).2) else if (orderF its ls to).2 ≠ 0 then ([], (orderF its ls to).2)
 else (stepsI (goF to (orderF its ls frm).1) (comeF frm (orderF its ls to).1), 0)
end Go.Proofs.YtmncoldaemcnlaaGreatDoor
