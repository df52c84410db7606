/-
  The document's mix of two ranges.
-/
import Derived.Test.YtbmmkhehejoidaaGreatDoorRefRg
namespace Go.Proofs.YtbmmkhehejoidaaGreatDoor
open Go.RowKit

/-- n, put behind all that are not greater. -/
def insI (zs : List Int) (n : Int) : List Int := zs.takeWhile (fun z => decide (z ≤ n)) ++ n :: zs.dropWhile (fun z => decide (z ≤ n))
def RiseI (zs : List Int) : Prop := zs.Pairwise (· ≤ ·)
theorem ins_perm (zs : List Int) (n : Int) : (insI zs n).Perm (n :: zs) := by
  unfold insI
  refine List.perm_middle.trans ?_
  rw [List.takeWhile_append_dropWhile]
theorem ins_rise {zs : List Int} (h : RiseI zs) (n : Int) : RiseI (insI zs n) := by
  induction zs with
  | nil => simp [insI, RiseI]
  | cons a r ih =>
    have hr : RiseI r := (List.pairwise_cons.1 h).2
    have ha := (List.pairwise_cons.1 h).1
    by_cases e : a ≤ n
    · have e1 : insI (a :: r) n = a :: insI r n := by simp [insI, e]
      rw [e1]
      refine List.pairwise_cons.2 ⟨fun x hx => ?_, ih hr⟩
      rcases List.mem_cons.1 ((ins_perm r n).mem_iff.1 hx) with rfl | hx
      · exact e
      · exact ha x hx
    · have e1 : insI (a :: r) n = n :: a :: r := by simp [insI, e]
      rw [e1]
      refine List.pairwise_cons.2 ⟨fun x hx => ?_, h⟩
      rcases List.mem_cons.1 hx with rfl | hx
      · omega
      · have := ha x hx; omega
/-- Where it goes: all from i on are greater, the one ahead of i isn't. -/
theorem ins_at {zs : List Int} {n : Int} {i : Nat} (h : RiseI zs) (hi : i ≤ zs.length) (h1 : ∀ j, i ≤ j → j < zs.length → n < zs.getD j 0) (h2 : i = 0 ∨ zs.getD (i - 1) 0 ≤ n) : insI zs n = zs.take i ++ n :: zs.drop i := by
  have ht : ∀ x ∈ zs.take i, decide (x ≤ n) = true := by
    intro x hx
    rcases h2 with rfl | h2
    · simp at hx
    · obtain ⟨j, hj, rfl⟩ := List.getElem_of_mem hx
      have hj2 : j < i := by simp at hj; omega
      rw [List.getD_eq_getElem?_getD, List.getElem?_eq_getElem (by omega)] at h2
      simp only [Option.getD_some] at h2
      have : zs[j] ≤ zs[i - 1] := by
        rcases Nat.lt_or_ge j (i - 1) with h3 | h3
        · exact (List.pairwise_iff_getElem.1 h) j (i - 1) (by omega) (by omega) h3
        · have : j = i - 1 := by omega
          subst this
          exact Int.le_refl _
      simp
      omega
  have hd : ∀ x r, zs.drop i = x :: r → ¬ x ≤ n := by
    intro x r e
    have hil : i < zs.length := by
      rcases Nat.lt_or_ge i zs.length with h3 | h3
      · exact h3
      · rw [List.drop_eq_nil_of_le h3] at e; cases e
    have := h1 i (Nat.le_refl _) hil
    rw [List.drop_eq_getElem_cons hil] at e
    injection e with e _
    rw [List.getD_eq_getElem?_getD, List.getElem?_eq_getElem hil] at this
    simp only [Option.getD_some] at this
    omega
  unfold insI
  have e : zs = zs.take i ++ zs.drop i := (List.take_append_drop i zs).symm
  conv => lhs; rw [e]
  rw [List.takeWhile_append_of_pos ht, List.dropWhile_append_of_pos ht]
  cases hq : zs.drop i with
  | nil => simp
  | cons x r =>
    have := hd x r hq
    rw [List.takeWhile_cons_of_neg (by simpa using this), List.dropWhile_cons_of_neg (by simpa using this), List.append_nil]
theorem Blk.setCells2 {g : Nat} {t : TypeId} : ∀ (vs : List Value) (o : Nat) (w : World) (cs : Array Value), Blk w g t cs → o + vs.length ≤ cs.size →
    ∃ cs', Blk (w.setCells g o vs) g t cs' ∧ cs'.size = cs.size ∧ (∀ j, j < o → cs'[j]? = cs[j]?) ∧ ∀ j, j < vs.length → cs'[o + j]? = vs[j]?
  | [], o, w, cs, h, _ => ⟨cs, h, rfl, fun _ _ => rfl, fun j hj => absurd hj (Nat.not_lt_zero _)⟩
  | v :: r, o, w, cs, h, hl => by
    obtain ⟨cs', hk, hs, h1, h2⟩ := Blk.setCells2 r (o + 1) _ _ (h.set_ o v) (by simp at hl ⊢; omega)
    refine ⟨cs', hk, by simpa using hs, fun j hj => ?_, fun j hj => ?_⟩
    · rw [h1 j (by omega), Array.getElem?_setIfInBounds, if_neg (by omega)]
    · cases j with
      | zero =>
        rw [Nat.add_zero, h1 o (by omega), Array.getElem?_setIfInBounds, if_pos rfl, if_pos (by simp at hl; omega)]
        rfl
      | succ j =>
        have := h2 j (by simpa using hj)
        rw [show o + (j + 1) = o + 1 + j by omega, this]
        rfl
theorem grown_setCells (g : Nat) : ∀ (vs : List Value) (o : Nat) (w : World), w.grownBy (w.setCells g o vs) (some g)
  | [], o, w => ⟨rfl, rfl, rfl, Nat.le_refl _, fun _ _ _ => rfl⟩
  | v :: r, o, w => by
    have g1 : w.grownBy (w.setCell ⟨g, o, none⟩ v) (some g) := only_setCell ⟨rfl, rfl, rfl, Nat.le_refl _, fun _ _ _ => rfl⟩ (.inl rfl) v
    have g2 := grown_setCells g r (o + 1) (w.setCell ⟨g, o, none⟩ v)
    exact ⟨g2.os.trans g1.os, g2.tape.trans g1.tape, g2.output.trans g1.output, Nat.le_trans g1.size g2.size, fun i hi hne => (g2.block i (Nat.lt_of_lt_of_le hi g1.size) hne).trans (g1.block i hi hne)⟩
/-- The row behind append, copy, store. -/
theorem OwnI.insert {w : World} {base g cap : Nat} {zs : List Int} (h : OwnI w base (.slice (some ⟨g, 0, none⟩) (zs.length + 1) cap) (zs ++ [0])) {i : Nat} (hi : i ≤ zs.length) (n : Int) :
    OwnI ((w.setCells g (i + 1) (intsV (zs.drop i))).setCell ⟨g, i, none⟩ (.int .i64 n)) base (.slice (some ⟨g, 0, none⟩) (zs.length + 1) cap) (zs.take i ++ n :: zs.drop i) := by
  have hll : (zs.take i ++ n :: zs.drop i).length = zs.length + 1 := by simp; omega
  rcases h.2 with ⟨h9, _⟩ | ⟨g', cap', cur, e, hg, hgc, hle, hcm, hcs, hct⟩
  · cases h9
  · injection e with e1 _ e2
    injection e1 with e1
    injection e1 with e1
    subst e1 e2
    have hk : Blk w g 3 cur := hgc
    rw [List.length_append, List.length_singleton] at hle hct
    obtain ⟨cs', hk', hs', h1, h2⟩ := Blk.setCells2 (intsV (zs.drop i)) (i + 1) w cur hk (by unfold intsV; simp; omega)
    have hcur : ∀ j, j < zs.length → cur[j]? = some (.int .i64 (zs.getD j 0)) := fun j hj => by
      have h3 := congrArg (fun z : List Value => z[j]?) hct
      simp only [List.getElem?_take_of_lt (show j < (zs.length + 1) * 1 by omega), Array.getElem?_toList] at h3
      rw [h3, intsV_at (by simp; omega), List.getD_eq_getElem?_getD, List.getElem?_append_left hj, List.getD_eq_getElem?_getD]
    unfold OwnI
    rw [hll]
    refine ⟨by unfold intsV; simp; omega, .inr ⟨g, cap, _, rfl, hg, hk'.set_ i (.int .i64 n), hle, hcm, by simpa [hs'] using hcs, ?_⟩⟩
    apply List.ext_getElem?
    intro j
    by_cases hj : j < zs.length + 1
    · rw [List.getElem?_take_of_lt (by omega), Array.getElem?_toList, Array.getElem?_setIfInBounds, intsV_at (by omega)]
      by_cases e1 : i = j
      · subst e1
        rw [if_pos rfl, if_pos (by omega), List.getD_eq_getElem?_getD, List.getElem?_append_right (by simp; omega)]
        simp [Nat.min_eq_left hi]
      · rw [if_neg e1]
        rcases Nat.lt_or_ge j i with h3 | h3
        · rw [h1 j (by omega), hcur j (by omega), List.getD_eq_getElem?_getD, List.getD_eq_getElem?_getD, List.getElem?_append_left (by simp; omega), List.getElem?_take_of_lt h3]
        · obtain ⟨q, rfl⟩ : ∃ q, j = i + 1 + q := ⟨j - (i + 1), by omega⟩
          rw [h2 q (by unfold intsV; simp; omega), intsV_at (by simp; omega), List.getD_eq_getElem?_getD, List.getD_eq_getElem?_getD, List.getElem?_append_right (by simp; omega)]
          simp [Nat.min_eq_left hi, show i + 1 + q - i = q + 1 by omega]
    · rw [List.getElem?_eq_none (by simp; omega), List.getElem?_eq_none (by unfold intsV; simp; omega)]
end Go.Proofs.YtbmmkhehejoidaaGreatDoor
