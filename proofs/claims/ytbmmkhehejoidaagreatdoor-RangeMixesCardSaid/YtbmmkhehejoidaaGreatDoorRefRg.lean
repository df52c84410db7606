/-
  The document's ranges: row, In, the rules.
-/
import Derived.Test.YtbmmkhehejoidaaGreatDoorRgText
import Derived.Test.YtbmmkhehejoidaaGreatDoorOwnIs
namespace Go.Proofs.YtbmmkhehejoidaaGreatDoor
open Go.RowKit

def flatI (l : List (Nat × Nat)) : List Int := (flat l).map fun x : Nat => (x : Int)
theorem flatI_len (l : List (Nat × Nat)) : (flatI l).length = (flat l).length := by unfold flatI; simp
/-- A call hands back a document's range. -/
def RrP (w : World) (l : List (Nat × Nat)) (e : Ending) (w' : World) : Prop := ∃ v, e = .returned v ∧ OwnI w' w.heap.size v (flatI l) ∧ Below w.heap.size w w'
theorem ownI_pair (w : World) (base : Nat) (hb : base ≤ w.heap.size) (a b : Int) : OwnI (w.alloc (.cells #[.int .i64 a, .int .i64 b] 3)) base (.slice (some ⟨w.heap.size, 0, none⟩) 2 2) [a, b] :=
  ⟨rfl, .inr ⟨w.heap.size, 2, #[.int .i64 a, .int .i64 b], rfl, hb, Blk.new w _ _, Nat.le_refl _, by simp [maxLen], rfl, rfl⟩⟩
theorem row_any (f t : Nat) (w : World) : Calls Tryz.prog 23 #[.int .i64 (f : Int), .int .i64 (t : Int)] w (RrP w (rowC f t)) := by
  by_cases h : f < t
  · have hz : ¬ (t : Int) ≤ (f : Int) := by omega
    have hfl : flatI (rowC f t) = [(f : Int), (t : Int)] := by unfold flatI; rw [row_flat, if_pos h]; rfl
    have HO := hide (ownI_pair w w.heap.size (Nat.le_refl _) (f : Int) (t : Int))
    rw [← hfl] at HO
    clear hfl
    go_enter Tryz.func23, Tryz.ntmps23
    go_wp2_with fail
    go_ret
    exact ⟨_, rfl, HO.out, (Below.refl w.heap.size w).alloc (Nat.le_refl _) _⟩
  · have hz : (t : Int) ≤ (f : Int) := by omega
    have hfl : flatI (rowC f t) = [] := by unfold flatI; rw [row_flat, if_neg h]; rfl
    have HO := hide (show OwnI w w.heap.size (.slice none 0 0) (flatI (rowC f t)) by rw [hfl]; exact ownI_nil _ _)
    clear hfl
    go_enter Tryz.func23, Tryz.ntmps23
    go_wp2_with fail
    go_ret
    exact ⟨_, rfl, HO.out, Below.refl _ _⟩
theorem count_prefix {r : List Nat} {n k : Nat} (hr : r.Pairwise (· < ·)) (hk : k ≤ r.length) (h1 : ∀ j, (hj : j < k) → r.getD j 0 ≤ n) (h2 : k = r.length ∨ n < r.getD k 0) : r.countP (fun x => decide (x ≤ n)) = k := by
  have e : r = r.take k ++ r.drop k := (List.take_append_drop k r).symm
  have a : (r.take k).countP (fun x => decide (x ≤ n)) = k := by
    rw [List.countP_eq_length.2]
    · simp; omega
    · intro x hx
      obtain ⟨j, hj, rfl⟩ := List.getElem_of_mem hx
      have hj2 : j < k := by simp at hj; omega
      have := h1 j hj2
      rw [List.getD_eq_getElem?_getD, List.getElem?_eq_getElem (by omega)] at this
      simpa using this
  have b : (r.drop k).countP (fun x => decide (x ≤ n)) = 0 := by
    rw [List.countP_eq_zero]
    intro x hx
    rcases h2 with rfl | h2
    · simp at hx
    · have hkl : k < r.length := by
        rcases Nat.lt_or_ge k r.length with h | h
        · exact h
        · rw [List.drop_eq_nil_of_le h] at hx; cases hx
      rw [List.getD_eq_getElem?_getD, List.getElem?_eq_getElem hkl] at h2
      rw [List.drop_eq_getElem_cons hkl] at hx
      rcases List.mem_cons.1 hx with rfl | hx
      · simp at h2 ⊢; omega
      · have hp := hr
        rw [e, List.drop_eq_getElem_cons hkl, List.pairwise_append] at hp
        have := (List.pairwise_cons.1 hp.2.1).1 x hx
        simp at h2 ⊢; omega
  conv => lhs; rw [e]
  rw [List.countP_append, a, b, Nat.add_zero]
theorem par_is (C : Nat) : ((C : Int) % 2 == 1) = decide (C % 2 = 1) := by
  by_cases h : C % 2 = 1
  · rw [decide_eq_true h]; exact beq_iff_eq.2 (by omega)
  · rw [decide_eq_false h]; exact beq_eq_false_iff_ne.2 (by omega)
def InP (l : List (Nat × Nat)) (n : Nat) (w : World) (e : Ending) (w' : World) : Prop := e = .returned (.bool (setS l n)) ∧ w' = w
set_option maxRecDepth 100000 in
theorem in_any (v : Value) (l : List (Nat × Nat)) (n : Nat) (w : World) (h : OwnI w 0 v (flatI l)) (hl : CanF 0 l) : Calls Tryz.prog 44 #[v, .int .i64 (n : Int)] w (InP l n w) := by
  have hlen := flatI_len l
  have hrise := Lib.hid (flat_rise hl)
  have hin := in_flat hl n
  have hget : ∀ j, j < (flat l).length → (flatI l).getD j 0 = ((flat l).getD j 0 : Nat) := fun j hj => by
    unfold flatI
    rw [List.getD_eq_getElem?_getD, List.getElem?_map, List.getD_eq_getElem?_getD, List.getElem?_eq_getElem hj]
    rfl
  have HG := Lib.hid hget
  obtain ⟨A, c, rfl⟩ := h.len
  have HR := hide h.row
  unfold InP
  rw [← hin]
  unfold inF
  clear hin hl hget
  have hsz : (flat l).length ≤ 9223372036854775807 := by
    rcases h.2 with ⟨_, h0⟩ | ⟨g, cap, cur, _, _, _, h1, h2, _⟩
    · omega
    · simp only [maxLen] at h2; omega
  clear h
  rw [hlen] at HR ⊢
  generalize flat l = r at hrise HG HR hsz ⊢
  generalize hC : r.countP (fun x => decide (x ≤ n)) = C
  have HC := Lib.hid hC
  clear hC hlen
  go_enter Tryz.func44, Tryz.ntmps44
  go_wp2_with fail
  go_loopw [5] (fun v5 wr => ∃ k : Nat, k ≤ r.length ∧ v5 = .int .i64 k ∧ wr = w ∧ Hid (∀ j, (hj : j < k) → r.getD j 0 ≤ n)) (fun v5 _ => r.length - (intOf v5).toNat)
  case atStart => exact ⟨0, Nat.zero_le _, rfl, rfl, hide (fun j hj => absurd hj (Nat.not_lt_zero _))⟩
  case round =>
    obtain ⟨k, hk, rfl, hw, HK⟩ := hrel
    subst hw
    by_cases hlt : k < r.length
    · have hltz : (k : Int) < (r.length : Int) := by omega
      obtain ⟨ad, u, rfl, _, e1, e2⟩ := HR.out.2.at_ hlt
      rw [intsV_at (by rw [HR.out.1]; exact hlt), HG.out k hlt] at e1
      injection e1 with e1
      subst e1
      by_cases hle : r.getD k 0 ≤ n
      · have hlez : ((r.getD k 0 : Nat) : Int) ≤ (n : Int) := by omega
        have HK2 := hide (show ∀ j, (hj : j < k + 1) → r.getD j 0 ≤ n from fun j hj => by
          rcases Nat.lt_or_ge j k with h | h
          · exact HK.out j h
          · obtain rfl : j = k := by omega
            exact hle)
        generalize r.getD k 0 = y at e2 hlez
        go_wp2_with fail
        go_round
        case rel => exact ⟨k + 1, by omega, by go_num, trivial, HK2⟩
        case measure => simp [intOf]; omega
      · have hlez : ¬ ((r.getD k 0 : Nat) : Int) ≤ (n : Int) := by omega
        have hc := count_prefix hrise.out hk HK.out (.inr (by omega))
        generalize r.getD k 0 = y at e2 hlez
        obtain rfl : C = k := HC.out.symm.trans hc
        go_wp2_with fail
        go_ret
        exact ⟨ret_bool (par_is _), rfl⟩
    · obtain rfl : k = r.length := by omega
      have hltz : ¬ (r.length : Int) < (r.length : Int) := by omega
      have hc := count_prefix hrise.out hk HK.out (.inl rfl)
      obtain rfl : C = r.length := HC.out.symm.trans hc
      go_wp2_with fail
      go_ret
      exact ⟨ret_bool (par_is _), rfl⟩
end Go.Proofs.YtbmmkhehejoidaaGreatDoor
