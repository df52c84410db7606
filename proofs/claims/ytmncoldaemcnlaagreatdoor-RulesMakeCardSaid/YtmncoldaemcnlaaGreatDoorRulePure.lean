/-
  Whether an installation keeps to a catalog: the plain law. No program in sight. A catalog's clauses, and from which lines they come: the plain law. No program in sight.
-/
import Derived.Test.YtmncoldaemcnlaaGreatDoorCatIdx
namespace Go.Proofs.YtmncoldaemcnlaaGreatDoor
open Classical

def nmA (its : List ItR) (i : Nat) : ByteArray := (its.getD i (ByteArray.empty, 0, 0, 0)).1
/-- Two items of one package that are there. -/
def TwA (its : List ItR) (set i k : Nat) : Prop := i ≠ k ∧ i < its.length ∧ k < its.length ∧ set.testBit i = true ∧ set.testBit k = true ∧ nmA its i = nmA its k
/-- Two versions of one package. -/
def Twin (its : List ItR) (set : Nat) : Prop := ∃ i k, TwA its set i k
theorem nmA_at {its : List ItR} {i : Nat} (h : i < its.length) : nmA its i = its[i].1 := by
  unfold nmA
  rw [List.getD_eq_getElem?_getD, List.getElem?_eq_getElem h]
  rfl
theorem TwA.symm {its : List ItR} {set i k : Nat} (h : TwA its set i k) : TwA its set k i := ⟨Ne.symm h.1, h.2.2.1, h.2.1, h.2.2.2.2.1, h.2.2.2.1, h.2.2.2.2.2.symm⟩
theorem no_twin {its : List ItR} {set : Nat} (h : ∀ i k, k < i → i < its.length → ¬ TwA its set i k) : ¬ Twin its set := by
  rintro ⟨i, k, ht⟩
  rcases Nat.lt_trichotomy i k with h1 | h1 | h1
  · exact h k i h1 ht.2.2.1 ht.symm
  · exact ht.1 h1
  · exact h i k h1 ht.2.1 ht
/-- One of some numbers is there. -/
def anyB (set : Nat) (zs : List Int) : Bool := zs.any fun z => set.testBit z.toNat
/-- An item is there. -/
def inB (set : Nat) (z : Int) : Bool := set.testBit z.toNat
/-- A line that is not kept. -/
def BadL (its : List ItR) (set : Nat) (x : LnR) : Prop :=
  (x.k = 2 ∧ inB set (posN its (itL x)) = true ∧ anyB set (amF x.other x.rg its 0) = false) ∨ (x.k = 3 ∧ inB set (posN its (itL x)) = true ∧ anyB set (amF x.other x.rg its 0) = true) ∨ (x.k = 4 ∧ anyB set (amF x.name x.rg its 0) = false)
noncomputable def fitL (its : List ItR) (set : Nat) : List LnR → Nat → Bool × Int
  | [], _ => (true, -1)
  | x :: r, i => if BadL its set x then (false, (i : Int)) else fitL its set r (i + 1)
/-- Does an installation keep to a catalog, to which line doesn't it? -/
noncomputable def fitsF (its : List ItR) (ls : List LnR) (set : Nat) : Bool × Int := if set >>> its.length ≠ 0 then (false, -2) else if Twin its set then (false, -2) else fitL its set ls 0
theorem fitL_hit {its : List ItR} {set : Nat} {x : LnR} {r : List LnR} {i : Nat} (h : BadL its set x) : fitL its set (x :: r) i = (false, (i : Int)) := by rw [fitL, if_pos h]
theorem fitL_miss {its : List ItR} {set : Nat} {x : LnR} {r : List LnR} {i : Nat} (h : ¬ BadL its set x) : fitL its set (x :: r) i = fitL its set r (i + 1) := by rw [fitL, if_neg h]
theorem fitL_step {its : List ItR} {set : Nat} {ls : List LnR} {p : Bool × Int} {i : Nat} (hi : i < ls.length) (h : fitL its set (ls.drop i) i = p) : (BadL its set ls[i] → p = (false, (i : Int))) ∧ (¬ BadL its set ls[i] → fitL its set (ls.drop (i + 1)) (i + 1) = p) := by
  rw [List.drop_eq_getElem_cons hi] at h
  exact ⟨fun e => by rw [fitL_hit e] at h; exact h.symm, fun e => by rw [fitL_miss e] at h; exact h⟩
theorem passB_in : ∀ (its : List ItR) (ls : List LnR) (i : Nat), (passB its ls i).1 = 0 → ∀ x ∈ ls, x.k = 2 ∨ x.k = 3 → itL x ∈ its
  | _, [], _, _, _, hx, _ => absurd hx List.not_mem_nil
  | its, y :: r, i, h, x, hx, hk => by
    rw [passB] at h
    split at h
    · simp at h
    · rename_i h0
      rcases List.mem_cons.1 hx with rfl | hx
      · exact Classical.byContradiction fun c => h0 ⟨hk, c⟩
      · exact passB_in its r (i + 1) h x hx hk
theorem itemsF_perm (ls : List LnR) : (itemsF ls).Perm (onesL ls) := (srtI_spec _).2
/-- What needs, or clashes, is there. -/
theorem catR_in {ls : List LnR} {its : List ItR} (h : catR ls = .inr its) : ∀ x ∈ ls, x.k = 2 ∨ x.k = 3 → itL x ∈ itemsF ls := by
  intro x hx hk
  have e := (catR_ok h).1
  unfold catR at h
  split at h
  · cases h
  · split at h
    · cases h
    · rename_i its' h1
      split at h
      · rename_i hb
        injection h with h
        subst h
        rw [(itemsF_perm ls).mem_iff, ← e]
        exact passB_in _ ls 0 hb x hx hk
      · cases h
theorem catR_few {ls : List LnR} {its : List ItR} (h : catR ls = .inr its) : (itemsF ls).length ≤ 24 ∧ (itemsF ls).Nodup := by
  obtain ⟨e, h1, h2, _⟩ := catR_ok h
  rw [(itemsF_perm ls).length_eq, ← e]
  exact ⟨h1, (itemsF_perm ls).nodup_iff.2 (by rw [← e]; exact h2)⟩
def nmL (x : LnR) : ByteArray := if x.k = 4 then x.name else x.other
theorem bad_one {its : List ItR} {set : Nat} {x : LnR} (h2 : x.k ≠ 2) (h3 : x.k ≠ 3) (h4 : x.k ≠ 4) : ¬ BadL its set x := by
  rintro (h | h | h)
  · exact h2 h.1
  · exact h3 h.1
  · exact h4 h.1
theorem bad_root {its : List ItR} {set : Nat} {x : LnR} (h : x.k = 4) : BadL its set x ↔ anyB set (amF x.name x.rg its 0) = false := by
  unfold BadL
  rw [h]
  simp
theorem bad_needs {its : List ItR} {set : Nat} {x : LnR} (h : x.k = 2) : BadL its set x ↔ inB set (posN its (itL x)) = true ∧ anyB set (amF x.other x.rg its 0) = false := by
  unfold BadL
  rw [h]
  simp
theorem bad_clash {its : List ItR} {set : Nat} {x : LnR} (h : x.k = 3) : BadL its set x ↔ inB set (posN its (itL x)) = true ∧ anyB set (amF x.other x.rg its 0) = true := by
  unfold BadL
  rw [h]
  simp
theorem fits_far {its : List ItR} {ls : List LnR} {set : Nat} (h : set >>> its.length ≠ 0) : fitsF its ls set = (false, -2) := by unfold fitsF; rw [if_pos h]
theorem fits_twin {its : List ItR} {ls : List LnR} {set i k : Nat} (h : TwA its set i k) : fitsF its ls set = (false, -2) := by
  unfold fitsF
  by_cases h0 : set >>> its.length ≠ 0
  · rw [if_pos h0]
  · rw [if_neg h0, if_pos ⟨i, k, h⟩]
theorem fits_lines {its : List ItR} {ls : List LnR} {set : Nat} (h0 : set >>> its.length = 0) (h : ¬ Twin its set) : fitsF its ls set = fitL its set ls 0 := by
  unfold fitsF
  rw [if_neg (by simpa using h0), if_neg h]
theorem anyB_snoc (set : Nat) (zs : List Int) {j : Nat} (h : j < zs.length) : anyB set (zs.take (j + 1)) = (anyB set (zs.take j) || set.testBit (zs[j]).toNat) := by
  unfold anyB
  rw [List.take_succ_eq_append_getElem h, List.any_append]
  simp
theorem shr_pos (set n : Nat) : (set >>> n ≠ 0 → (set : Int) / 2 ^ n > 0) ∧ (set >>> n = 0 → (set : Int) / 2 ^ n = 0) := by
  have e : ((set : Int) / 2 ^ n) = ((set >>> n : Nat) : Int) := by rw [Nat.shiftRight_eq_div_pow]; norm_cast
  rw [e]
  generalize set >>> n = m
  exact ⟨fun h => by omega, fun h => by rw [h]; rfl⟩
theorem amF_range (nm : ByteArray) (rg : List (Nat × Nat)) : ∀ (its : List ItR) (i : Nat), ∀ z ∈ amF nm rg its i, (i : Int) ≤ z ∧ z < (i : Int) + its.length
  | [], _, _, hz => absurd hz List.not_mem_nil
  | a :: r, i, z, hz => by
    have ih := amF_range nm rg r (i + 1)
    unfold amF at hz
    rw [List.length_cons]
    split at hz
    · rcases List.mem_cons.1 hz with rfl | hz
      · omega
      · have := ih z hz; omega
    · have := ih z hz; omega
theorem amF_len (nm : ByteArray) (rg : List (Nat × Nat)) : ∀ (its : List ItR) (i : Nat), (amF nm rg its i).length ≤ its.length
  | [], _ => Nat.le_refl _
  | a :: r, i => by
    have ih := amF_len nm rg r (i + 1)
    unfold amF
    rw [List.length_cons]
    split
    · rw [List.length_cons]; omega
    · omega
end Go.Proofs.YtmncoldaemcnlaaGreatDoor
namespace Go.Proofs.YtmncoldaemcnlaaGreatDoor
open Classical

/-- A clause, and the line that it comes from. -/
abbrev RuR := List Int × Int
/-- Of the items ahead of the k-th one those with its name. -/
noncomputable def twinR (nm : ByteArray) (k : Nat) : List ItR → Nat → List RuR
  | [], _ => []
  | a :: r, i => if a.1 = nm then ([-(i : Int) - 1, -(k : Int) - 1], -1) :: twinR nm k r (i + 1) else twinR nm k r (i + 1)
noncomputable def twinsR (its : List ItR) : List ItR → Nat → List RuR
  | [], _ => []
  | b :: r, k => twinR b.1 k (its.take k) 0 ++ twinsR its r (k + 1)
def upF (zs : List Int) : List Int := zs.map (· + 1)
/-- A line's clauses. -/
noncomputable def ruL (its : List ItR) (x : LnR) (n : Nat) : List RuR :=
  if x.k = 4 then [(upF (amF x.name x.rg its 0), (n : Int))]
  else if x.k = 2 then [(-(posN its (itL x) + 1) :: upF (amF x.other x.rg its 0), (n : Int))]
  else if x.k = 3 then (amF x.other x.rg its 0).map fun z => ([-(posN its (itL x) + 1), -z - 1], (n : Int))
  else []
noncomputable def rusL (its : List ItR) : List LnR → Nat → List RuR
  | [], _ => []
  | x :: r, n => ruL its x n ++ rusL its r (n + 1)
/-- All of them. -/
noncomputable def rulesF (its : List ItR) (ls : List LnR) : List RuR := twinsR its its 0 ++ rusL its ls 0
/-- Of some lines alone. -/
def onlyF (ru : List RuR) (bs : List Bool) : List (List Int) := (ru.filter fun c => decide (c.2 < 0) || bs.getD c.2.toNat false).map (·.1)
theorem twinR_step {nm : ByteArray} {k i : Nat} {l : List ItR} {out all : List RuR} (h : i < l.length) (hp : out ++ twinR nm k (l.drop i) i = all) :
    (l[i].1 = nm → (out ++ [([-(i : Int) - 1, -(k : Int) - 1], -1)]) ++ twinR nm k (l.drop (i + 1)) (i + 1) = all) ∧ (l[i].1 ≠ nm → out ++ twinR nm k (l.drop (i + 1)) (i + 1) = all) := by
  rw [List.drop_eq_getElem_cons h, twinR] at hp
  refine ⟨fun hc => ?_, fun hc => ?_⟩
  · rw [if_pos hc] at hp
    rw [← hp, List.append_assoc]
    rfl
  · rw [if_neg hc] at hp
    exact hp
theorem twinsR_step {its : List ItR} {k : Nat} {out all : List RuR} (h : k < its.length) (hp : out ++ twinsR its (its.drop k) k = all) :
    (out ++ twinR its[k].1 k (its.take k) 0) ++ twinsR its (its.drop (k + 1)) (k + 1) = all := by
  rw [List.drop_eq_getElem_cons h, twinsR] at hp
  rw [← hp, List.append_assoc]
theorem rusL_step {its : List ItR} {ls : List LnR} {n : Nat} {out all : List RuR} (h : n < ls.length) (hp : out ++ rusL its (ls.drop n) n = all) :
    (out ++ ruL its ls[n] n) ++ rusL its (ls.drop (n + 1)) (n + 1) = all := by
  rw [List.drop_eq_getElem_cons h, rusL] at hp
  rw [← hp, List.append_assoc]
theorem twinR_len (nm : ByteArray) (k : Nat) : ∀ (l : List ItR) (i : Nat), (twinR nm k l i).length ≤ l.length
  | [], _ => Nat.le_refl _
  | a :: r, i => by
    have ih := twinR_len nm k r (i + 1)
    unfold twinR
    rw [List.length_cons]
    split
    · rw [List.length_cons]; omega
    · omega
theorem twinsR_len (its : List ItR) : ∀ (l : List ItR) (k : Nat), (twinsR its l k).length ≤ l.length * its.length
  | [], _ => Nat.zero_le _
  | b :: r, k => by
    have ih := twinsR_len its r (k + 1)
    have h := twinR_len b.1 k (its.take k) 0
    have h2 : (its.take k).length ≤ its.length := by rw [List.length_take]; omega
    unfold twinsR
    rw [List.length_append, List.length_cons, Nat.succ_mul]
    omega
theorem ruL_len (its : List ItR) (x : LnR) (n : Nat) : (ruL its x n).length ≤ its.length + 1 := by
  unfold ruL
  have h := amF_len x.other x.rg its 0
  repeat' split
  all_goals simp
  all_goals omega
theorem rusL_len (its : List ItR) : ∀ (l : List LnR) (n : Nat), (rusL its l n).length ≤ l.length * (its.length + 1)
  | [], _ => Nat.zero_le _
  | x :: r, n => by
    have ih := rusL_len its r (n + 1)
    have h := ruL_len its x n
    unfold rusL
    rw [List.length_append, List.length_cons, Nat.succ_mul]
    omega
theorem ruL_root {its : List ItR} {x : LnR} (h : x.k = 4) (n : Nat) : ruL its x n = [(upF (amF x.name x.rg its 0), (n : Int))] := by unfold ruL; rw [if_pos h]
theorem ruL_needs {its : List ItR} {x : LnR} (h : x.k = 2) (n : Nat) : ruL its x n = [(-(posN its (itL x) + 1) :: upF (amF x.other x.rg its 0), (n : Int))] := by unfold ruL; rw [if_neg (by omega), if_pos h]
theorem ruL_clash {its : List ItR} {x : LnR} (h : x.k = 3) (n : Nat) : ruL its x n = (amF x.other x.rg its 0).map fun z => ([-(posN its (itL x) + 1), -z - 1], (n : Int)) := by unfold ruL; rw [if_neg (by omega), if_neg (by omega), if_pos h]
theorem ruL_none {its : List ItR} {x : LnR} (h2 : x.k ≠ 2) (h3 : x.k ≠ 3) (h4 : x.k ≠ 4) (n : Nat) : ruL its x n = [] := by unfold ruL; rw [if_neg h4, if_neg h2, if_neg h3]
end Go.Proofs.YtmncoldaemcnlaaGreatDoor
