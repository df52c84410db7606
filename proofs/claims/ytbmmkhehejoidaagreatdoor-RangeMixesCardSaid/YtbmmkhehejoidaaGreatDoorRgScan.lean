/-
  A piece's words, byte by byte. No program in sight.
-/
import Derived.Test.YtbmmkhehejoidaaGreatDoorRgText
namespace Go.Proofs.YtbmmkhehejoidaaGreatDoor

/-- The pieces between single bytes, plainly. -/
def spW (c : UInt8) : List UInt8 → List (List UInt8)
  | [] => [[]]
  | b :: l => if b = c then [] :: spW c l else match spW c l with
    | [] => [[b]]
    | x :: r => (b :: x) :: r
theorem spW_ne (c : UInt8) (l : List UInt8) : ∃ x r, spW c l = x :: r := by
  cases l with
  | nil => exact ⟨_, _, rfl⟩
  | cons b l =>
    unfold spW
    split
    · exact ⟨_, _, rfl⟩
    · split
      · exact ⟨_, _, rfl⟩
      · exact ⟨_, _, rfl⟩
theorem spW_app {c : UInt8} : ∀ {x : List UInt8} (l : List UInt8), c ∉ x → spW c (x ++ c :: l) = x :: spW c l
  | [], l, _ => by simp [spW]
  | b :: x, l, h => by
    have hb : b ≠ c := fun e => h (by simp [e])
    have ih := spW_app (x := x) l (fun e => h (List.mem_cons_of_mem _ e))
    rw [List.cons_append, spW, if_neg hb, ih]
theorem spW_one {c : UInt8} : ∀ {x : List UInt8}, c ∉ x → spW c x = [x]
  | [], _ => rfl
  | b :: x, h => by
    have hb : b ≠ c := fun e => h (by simp [e])
    rw [spW, if_neg hb, spW_one (x := x) (fun e => h (List.mem_cons_of_mem _ e))]
theorem split_spW (c : UInt8) : ∀ (k : Nat) (l : List UInt8), Lib.count l [c] = k → Lib.splitK [c] 0 k l = spW c l
  | 0, l, h => by
    rw [Lib.count_one] at h
    have hc : c ∉ l := List.count_eq_zero.1 h
    rw [spW_one hc]
    rfl
  | k + 1, l, h => by
    unfold Lib.splitK
    by_cases e : (Lib.index l [c] == -1) = true
    · rw [Lib.count_miss (beq_iff_eq.1 e)] at h
      omega
    · rw [if_neg e]
      have hge := Lib.index_ge l [c]
      have hne : Lib.index l [c] ≠ -1 := fun e3 => e (beq_iff_eq.2 e3)
      obtain ⟨i, hi⟩ : ∃ i : Nat, Lib.index l [c] = (i : Int) := ⟨(Lib.index l [c]).toNat, by omega⟩
      obtain ⟨h1, h2⟩ := byte_at c l i (by rw [← Lib.index_one]; exact hi)
      have h3 := Lib.count_hit (sub := [c]) (by simp) hi
      rw [show [c].length = 1 from rfl] at h3
      have ih := split_spW c k (l.drop (i + 1)) (by omega)
      rw [hi, Int.toNat_natCast, Nat.add_zero, show [c].length = 1 from rfl, ih]
      conv => rhs; rw [h2]
      rw [spW_app _ h1]
theorem pcL_spW (c : UInt8) (s : ByteArray) : pcL c s = spW c s.data.toList := by
  rw [pcL_is]
  exact split_spW c _ _ rfl
/-- A blank. -/
theorem resW_blank (l : List UInt8) (a : Nat) (acc : List (Nat × Nat)) (sm : Bool) : resW (spW 32 (32 :: l)) a acc sm = resW (spW 32 l) (a + 1) acc sm := by
  rw [spW, if_pos rfl, resW_empty]
/-- The end. -/
theorem resW_end (a : Nat) (acc : List (Nat × Nat)) (sm : Bool) : resW (spW 32 []) a acc sm = .inr (acc, sm) := by
  rw [spW, resW_empty, resW_nil]
/-- A word that is at fault. -/
theorem resW_fault {x : List UInt8} (l : List UInt8) (a : Nat) (acc : List (Nat × Nat)) (sm : Bool) (hx : 32 ∉ x) (h0 : x ≠ []) (hl : l = [] ∨ ∃ r, l = 32 :: r) (he : wordE x ≠ 0) : resW (spW 32 (x ++ l)) a acc sm = .inl (wordE x, a) := by
  rcases hl with rfl | ⟨r, rfl⟩
  · rw [List.append_nil, spW_one hx, resW_bad _ _ _ _ h0 he]
  · rw [spW_app r hx, resW_bad _ _ _ _ h0 he]
/-- A word. -/
theorem resW_word {x : List UInt8} (l : List UInt8) (a : Nat) (acc : List (Nat × Nat)) (sm : Bool) (hx : 32 ∉ x) (h0 : x ≠ []) (hl : l = [] ∨ ∃ r, l = 32 :: r) (he : wordE x = 0) : resW (spW 32 (x ++ l)) a acc sm = resW (spW 32 l) (a + x.length) (andC acc (wordC x)) true := by
  rcases hl with rfl | ⟨r, rfl⟩
  · rw [List.append_nil, spW_one hx, resW_good _ _ _ _ h0 he, resW_nil, resW_end]
  · rw [spW_app r hx, resW_good _ _ _ _ h0 he, resW_blank]
end Go.Proofs.YtbmmkhehejoidaaGreatDoor
