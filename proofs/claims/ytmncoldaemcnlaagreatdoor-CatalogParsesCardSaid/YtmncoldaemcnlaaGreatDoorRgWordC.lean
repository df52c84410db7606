/-
  A piece's words, byte by byte. No program in sight. strings.Split between any texts, in memory. What a word has is rising spans that don't touch. No program in sight.
-/
import Derived.Test.YtmncoldaemcnlaaGreatDoorRgText
import Derived.Test.YtmncoldaemcnlaaGreatDoorSpWord2
namespace Go.Proofs.YtmncoldaemcnlaaGreatDoor

/-- The pieces between single bytes, plainly. -/
def spW (c : UInt8) : List UInt8 → List (List UInt8)
  | [] => [[]]
  | b :: l => if b = c then [] :: spW c l else match spW c l with
    | [] => [[b]]
    | x :: r => (b :: x) :: r
theorem spW_ne (c : UInt8) (l : List UInt8) : ∃ x r, spW c l = x :: r := by
  cases l with
  | nil => exact ⟨_, _, rfl⟩
  | cons b l =>
    unfold spW
    split
    · exact ⟨_, _, rfl⟩
    · split
      · exact ⟨_, _, rfl⟩
      · exact ⟨_, _, rfl⟩
theorem spW_app {c : UInt8} : ∀ {x : List UInt8} (l : List UInt8), c ∉ x → spW c (x ++ c :: l) = x :: spW c l
  | [], l, _ => by simp [spW]
  | b :: x, l, h => by
    have hb : b ≠ c := fun e => h (by simp [e])
    have ih := spW_app (x := x) l (fun e => h (List.mem_cons_of_mem _ e))
    rw [List.cons_append, spW, if_neg hb, ih]
theorem spW_one {c : UInt8} : ∀ {x : List UInt8}, c ∉ x → spW c x = [x]
  | [], _ => rfl
  | b :: x, h => by
    have hb : b ≠ c := fun e => h (by simp [e])
    rw [spW, if_neg hb, spW_one (x := x) (fun e => h (List.mem_cons_of_mem _ e))]
theorem split_spW (c : UInt8) : ∀ (k : Nat) (l : List UInt8), Lib.count l [c] = k → Lib.splitK [c] 0 k l = spW c l
  | 0, l, h => by
    rw [Lib.count_one] at h
    have hc : c ∉ l := List.count_eq_zero.1 h
    rw [spW_one hc]
    rfl
  | k + 1, l, h => by
    unfold Lib.splitK
    by_cases e : (Lib.index l [c] == -1) = true
    · rw [Lib.count_miss (beq_iff_eq.1 e)] at h
      omega
    · rw [if_neg e]
      have hge := Lib.index_ge l [c]
      have hne : Lib.index l [c] ≠ -1 := fun e3 => e (beq_iff_eq.2 e3)
      obtain ⟨i, hi⟩ : ∃ i : Nat, Lib.index l [c] = (i : Int) := ⟨(Lib.index l [c]).toNat, by omega⟩
      obtain ⟨h1, h2⟩ := byte_at c l i (by rw [← Lib.index_one]; exact hi)
      have h3 := Lib.count_hit (sub := [c]) (by simp) hi
      rw [show [c].length = 1 from rfl] at h3
      have ih := split_spW c k (l.drop (i + 1)) (by omega)
      rw [hi, Int.toNat_natCast, Nat.add_zero, show [c].length = 1 from rfl, ih]
      conv => rhs; rw [h2]
      rw [spW_app _ h1]
theorem pcL_spW (c : UInt8) (s : ByteArray) : pcL c s = spW c s.data.toList := by
  rw [pcL_is]
  exact split_spW c _ _ rfl
/-- A blank. -/
theorem resW_blank (l : List UInt8) (a : Nat) (acc : List (Nat × Nat)) (sm : Bool) : resW (spW 32 (32 :: l)) a acc sm = resW (spW 32 l) (a + 1) acc sm := by
  rw [spW, if_pos rfl, resW_empty]
/-- The end. -/
theorem resW_end (a : Nat) (acc : List (Nat × Nat)) (sm : Bool) : resW (spW 32 []) a acc sm = .inr (acc, sm) := by
  rw [spW, resW_empty, resW_nil]
/-- A word that is at fault. -/
theorem resW_fault {x : List UInt8} (l : List UInt8) (a : Nat) (acc : List (Nat × Nat)) (sm : Bool) (hx : 32 ∉ x) (h0 : x ≠ []) (hl : l = [] ∨ ∃ r, l = 32 :: r) (he : wordE x ≠ 0) : resW (spW 32 (x ++ l)) a acc sm = .inl (wordE x, a) := by
  rcases hl with rfl | ⟨r, rfl⟩
  · rw [List.append_nil, spW_one hx, resW_bad _ _ _ _ h0 he]
  · rw [spW_app r hx, resW_bad _ _ _ _ h0 he]
/-- A word. -/
theorem resW_word {x : List UInt8} (l : List UInt8) (a : Nat) (acc : List (Nat × Nat)) (sm : Bool) (hx : 32 ∉ x) (h0 : x ≠ []) (hl : l = [] ∨ ∃ r, l = 32 :: r) (he : wordE x = 0) : resW (spW 32 (x ++ l)) a acc sm = resW (spW 32 l) (a + x.length) (andC acc (wordC x)) true := by
  rcases hl with rfl | ⟨r, rfl⟩
  · rw [List.append_nil, spW_one hx, resW_good _ _ _ _ h0 he, resW_nil, resW_end]
  · rw [spW_app r hx, resW_good _ _ _ _ h0 he, resW_blank]
end Go.Proofs.YtmncoldaemcnlaaGreatDoor
namespace Go.Proofs.YtmncoldaemcnlaaGreatDoor
open Go.RowKit

/-- A row of texts. -/
structure StrR (w : World) (b : Nat) (ws : List ByteArray) : Prop where
  lt : b < w.heap.size
  at_ : ∀ j, j < ws.length → w.cell? ⟨b, j, none⟩ = some (.string (ws.getD j ⟨#[]⟩))
theorem StrR.below {w w' : World} {b : Nat} {ws : List ByteArray} (h : StrR w b ws) (hb : Below w.heap.size w w') : StrR w' b ws :=
  ⟨Nat.lt_of_lt_of_le h.lt hb.size, fun j hj => (hb.cell (p := ⟨b, j, none⟩) h.lt).trans (h.at_ j hj)⟩
theorem strR_blk {w : World} {b : Nat} {ws : List ByteArray} (h : Blk w b 9 (ws.map Value.string).toArray) : StrR w b ws := by
  refine ⟨h.lt, fun j hj => (h.cell j).trans ?_⟩
  rw [List.getElem?_toArray, List.getElem?_map, List.getD_eq_getElem?_getD, List.getElem?_eq_getElem hj]
  rfl
def SplP (ws : List ByteArray) (w : World) (e : Ending) (w' : World) : Prop := e = .returned (.slice (some ⟨w.heap.size, 0, none⟩) ws.length ws.length) ∧ StrR w' w.heap.size ws ∧ Below w.heap.size w w'
theorem splitAt_any (s sep : ByteArray) (w : World) (hG : GlobV w) (hs : s.size ≤ 21000) (h1 : 1 ≤ sep.size) : Calls Tryz.prog 83 #[.string s, .string sep] w (SplP (Lib.splitB sep 0 (Lib.countB s sep) s) w) := by
  obtain ⟨m, hm⟩ := hG.mx
  refine (Tryz.strings_Split s sep m w (by omega) hm h1).mono ?_
  rintro e w' ⟨rfl, rfl⟩
  have hl : (Lib.splitB sep 0 (Lib.countB s sep) s).length = Lib.countB s sep + 1 := Lib.splitB_all sep h1 0 _ s rfl
  exact ⟨by rw [hl], strR_blk (Blk.new w 9 _), (Below.refl _ _).alloc (Nat.le_refl _) _⟩
theorem bars_any (s : ByteArray) (w : World) (hG : GlobV w) (hs : s.size ≤ 21000) : Calls Tryz.prog 83 #[.string s, .string ⟨#[124, 124]⟩] w (SplP (barL s) w) := splitAt_any s ⟨#[124, 124]⟩ w hG hs (by decide)
theorem blanks_any (s : ByteArray) (w : World) (hG : GlobV w) (hs : s.size ≤ 21000) : Calls Tryz.prog 83 #[.string s, .string ⟨#[32]⟩] w (SplP (pcs 32 s) w) := splitAt_any s ⟨#[32]⟩ w hG hs (by decide)
/-- Pieces are no longer than the text. -/
theorem splitB_le (sep : ByteArray) : ∀ (k : Nat) (s p : ByteArray), p ∈ Lib.splitB sep 0 k s → p.size ≤ s.size := piece_size sep
theorem bar_le {s p : ByteArray} (h : p ∈ barL s) : p.size ≤ s.size := piece_size _ _ s p h
end Go.Proofs.YtmncoldaemcnlaaGreatDoor
namespace Go.Proofs.YtmncoldaemcnlaaGreatDoor

theorem num_le {f : Nat → Int} (h : ∀ j, j < 3 → 0 ≤ f j ∧ f j ≤ 999) : numV3 f + 1 ≤ endR ∧ caretN f ≤ endR ∧ tildeN f ≤ endR := by
  have h0 := h 0 (by omega)
  have h1 := h 1 (by omega)
  have h2 := h 2 (by omega)
  unfold endR
  refine ⟨?_, ?_, ?_⟩
  · unfold numV3
    omega
  · unfold caretN
    repeat' split
    all_goals omega
  · unfold tildeN
    omega
theorem opC_can (k : Nat) {f : Nat → Int} (h : ∀ j, j < 3 → 0 ≤ f j ∧ f j ≤ 999) : CanF 0 (opC k f) := by
  obtain ⟨hn, hc, ht⟩ := num_le h
  unfold opC
  split
  · exact row_can hn
  · split
    · exact (not_spec (row_can hn)).1
    · split
      · exact row_can (by omega)
      · split
        · exact row_can hn
        · split
          · exact row_can (Nat.le_refl _)
          · split
            · exact row_can (Nat.le_refl _)
            · split
              · exact row_can ht
              · exact row_can hc
theorem wordC_can {s : List UInt8} (h : wordE s = 0) : CanF 0 (wordC s) := by
  unfold wordC
  by_cases h1 : s = anyW
  · rw [if_pos h1]; exact any_can
  · rw [if_neg h1]
    by_cases h2 : s = noneW
    · rw [if_pos h2]; trivial
    · rw [if_neg h2]
      have hv : verE (baL (restL s)) = 0 := by
        unfold wordE at h
        rw [if_neg (fun h => h.elim h1 h2)] at h
        by_cases e : verE (baL (restL s)) = 0
        · exact e
        · rw [if_pos e] at h; exact absurd h e
      exact opC_can _ (verV_le hv)
theorem resW_can : ∀ (ws : List (List UInt8)) (a : Nat) (acc : List (Nat × Nat)) (sm : Bool) (l : List (Nat × Nat)) (s2 : Bool), CanF 0 acc → resW ws a acc sm = .inr (l, s2) → CanF 0 l
  | [], a, acc, sm, l, s2, h, e => by
    rw [resW_nil] at e
    injection e with e
    injection e with e _
    rw [← e]; exact h
  | x :: ws, a, acc, sm, l, s2, h, e => by
    by_cases h0 : x = []
    · subst h0
      rw [resW_empty] at e
      exact resW_can ws _ acc sm l s2 h e
    · by_cases he : wordE x = 0
      · rw [resW_good _ _ _ _ h0 he] at e
        exact resW_can ws _ _ true l s2 (and_spec h (wordC_can he)).1 e
      · rw [resW_bad _ _ _ _ h0 he] at e
        cases e
end Go.Proofs.YtmncoldaemcnlaaGreatDoor
