/-
  The reference's has; the state of literals that are told: is, set.
-/
import Derived.Test.YtkkgdlfjblmbjaaGreatDoorHolds
import Derived.Test.YtkkgdlfjblmbjaaGreatDoorSpread
import Derived.Test.YtkkgdlfjblmbjaaGreatDoorOwn
namespace Go.Proofs.YtkkgdlfjblmbjaaGreatDoor
open Go.RowKit

set_option maxHeartbeats 400000 in
theorem has_any (x : Int) (A : Option Addr) (n c : Nat) (zs : List Int) (w : World) (h : Ints w w.heap.size A n zs) :
    Calls Tryz.prog 13 #[.slice A n c, .int .i64 x] w fun e w' => e = .returned (.bool (decide (x ∈ zs))) ∧ w = w' := by
  have hn := h.le
  have hlen := Lib.hid h.len
  go_enter Tryz.func13, Tryz.ntmps13
  go_wp2
  go_loop [6, 9] (fun _ i => ∃ k : Nat, k ≤ n ∧ i = .int .i64 k ∧ Hid (x ∉ zs.take k)) (fun _ i => n - (intOf i).toNat)
  case atStart => exact ⟨0, Nat.zero_le _, rfl, Lib.hid (by simp)⟩
  case round =>
    obtain ⟨k, hk, rfl, hd⟩ := hrel
    by_cases hlt : k < n
    · obtain ⟨ad, rfl, hb, hc⟩ := h.at_ hlt
      have hkl := Lib.hid (show k < zs.length by rw [hlen.out]; exact hlt)
      obtain ⟨y, hy⟩ : ∃ y, zs.getD k 0 = y := ⟨_, rfl⟩
      rw [hy] at hc
      have HY := Lib.hid hy
      clear hy
      by_cases e : x = y
      · have hm := Lib.hid (show x ∈ zs by
          rw [e, ← HY.out, List.getD_eq_getElem?_getD, List.getElem?_eq_getElem hkl.out]; exact List.getElem_mem hkl.out)
        have he : (x == y) = true := beq_iff_eq.2 e
        clear e
        go_wp2
        go_ret
        exact ⟨ret_bool (decide_eq_true hm.out).symm, rfl⟩
      · have he : (x == y) = false := beq_eq_false_iff_ne.2 e
        have HE := Lib.hid e
        clear e
        go_wp2
        go_round
        case rel => exact ⟨k + 1, by omega, by go_num, Lib.hid (by rw [take_snoc zs k 0 hkl.out, HY.out]; simp; exact ⟨hd.out, HE.out⟩)⟩
        case measure => simp [intOf]; omega
    · go_wp2
      go_ret
      exact ⟨ret_bool (by rw [take_all zs k (by have := hlen.out; omega)] at hd; exact (decide_eq_false hd.out).symm), rfl⟩

def stCells (tr : List Int) (v : Value) : Array Value := ((List.range 24).map (fun i : Nat => Value.int .i64 (litT tr (i + 1))) ++ [v]).toArray
theorem stCells_at (tr : List Int) (v : Value) (i : Nat) (h : i < 24) : (stCells tr v)[i]? = some (.int .i64 (litT tr (i + 1))) := by
  unfold stCells
  simp [List.getElem?_append, h]
theorem stCells_last (tr : List Int) (v : Value) : (stCells tr v)[24]? = some v := by
  unfold stCells
  simp


theorem litT_flip {tr : List Int} (hc : Cons tr) (x : Int) : litT tr (-x) = -(litT tr x) := by
  unfold litT
  by_cases h1 : x ∈ tr
  · have h2 := hc.no_both h1
    rw [if_pos h1, if_neg h2, if_pos (by rw [Int.neg_neg]; exact h1)]
  · rw [if_neg h1]
    by_cases h2 : -x ∈ tr
    · rw [if_pos h2, if_pos h2]; rfl
    · rw [if_neg h2, if_neg h2, Int.neg_neg, if_neg h1]; rfl
theorem litT_bd (tr : List Int) (x : Int) : -1 ≤ litT tr x ∧ litT tr x ≤ 1 := by
  unfold litT
  split
  · omega
  · split <;> omega

theorem litT_snoc (tr : List Int) (x y : Int) : litT (tr ++ [x]) y = if y = x then 1 else if y ∈ tr then 1 else if -y = x then -1 else litT tr y := by
  unfold litT
  by_cases h0 : y = x
  · subst h0; simp
  · by_cases h1 : y ∈ tr
    · simp [h0, h1]
    · by_cases h2 : -y = x
      · simp [h0, h1, h2]
      · simp [h0, h1, h2]

theorem stCells_set (tr : List Int) (x : Int) (v v' : Value) (i : Nat) (u : Int) (hi : i < 24) (h1 : x ∉ tr) (h2 : -x ∉ tr) (hx : (x = (i : Int) + 1 ∧ u = 1) ∨ (x = -((i : Int) + 1) ∧ u = -1)) :
    ((stCells tr v).setIfInBounds i (.int .i64 u)).setIfInBounds 24 v' = stCells (tr ++ [x]) v' := by
  apply Array.ext_getElem?
  intro j
  have hs : (stCells tr v).size = 25 := by simp [stCells]
  by_cases hj24 : 24 = j
  · subst hj24
    rw [stCells_last, Array.getElem?_setIfInBounds_self_of_lt (by simp [hs])]
  · rw [Array.getElem?_setIfInBounds, if_neg hj24, Array.getElem?_setIfInBounds]
    by_cases hj : j < 24
    · rw [stCells_at _ _ j hj]
      by_cases hij : i = j
      · subst hij
        rw [if_pos rfl, if_pos (by omega), stCells_at _ _ i hi]
        rcases hx with ⟨rfl, rfl⟩ | ⟨rfl, rfl⟩
        · rw [litT_snoc, if_pos rfl]
        · rw [litT_snoc, if_neg (by omega), if_neg (by intro hm; exact h2 (by rw [Int.neg_neg]; exact hm)), if_pos rfl]
      · rw [if_neg hij, stCells_at _ _ j hj, litT_snoc]
        have e1 : ((j : Int) + 1) ≠ x := by rcases hx with ⟨rfl, _⟩ | ⟨rfl, _⟩ <;> omega
        have e2 : -((j : Int) + 1) ≠ x := by rcases hx with ⟨rfl, _⟩ | ⟨rfl, _⟩ <;> omega
        rw [if_neg e1, if_neg e2]
        by_cases hm : ((j : Int) + 1) ∈ tr
        · rw [if_pos hm, litT_mem hm]
        · rw [if_neg hm]
    · have hs' : (stCells (tr ++ [x]) v').size = 25 := by simp [stCells]
      rw [if_neg (by omega), Array.getElem?_eq_none (by omega), Array.getElem?_eq_none (by omega)]

theorem World.size_alloc' (w : World) (o : Obj) : (w.alloc o).heap.size = w.heap.size + 1 := by simp
theorem size_setCell (w : World) (p : Addr) (u : Value) : (w.setCell p u).heap.size = w.heap.size := by simp [World.setCell]

end Go.Proofs.YtkkgdlfjblmbjaaGreatDoor
