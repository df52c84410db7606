/-
  A version's parts and its text. No program in sight. A text's pieces between single bytes. No program in sight.
-/
import Derived.Lib.ParseIntBTie
import Derived.Lib.Replace
import Derived.Lib.IndexBytes
import Derived.Test.YtmncoldaemcnlaaGreatDoorTold
import Derived.Lib.SplitLaws
import Derived.Lib.Join
namespace Go.Proofs.YtmncoldaemcnlaaGreatDoor

/-! ### The text -/
theorem indexByte_sep {c : UInt8} : ∀ {a b : List UInt8}, (∀ d ∈ a, d ≠ c) → Lib.indexByte (a ++ c :: b) c = (a.length : Int)
  | [], b, _ => by simp [Lib.indexByte]
  | x :: a, b, h => by
    have hx : (x == c) = false := by simpa using h x (List.mem_cons_self ..)
    have ih := indexByte_sep (a := a) (b := b) fun d hd => h d (List.mem_cons_of_mem _ hd)
    rw [List.cons_append, Lib.indexByte, hx, ih]
    have hne : (((a.length : Nat) : Int) == -1) = false := by rw [beq_eq_false_iff_ne]; omega
    simp [hne]
theorem replaceK_sep {c : UInt8} {n a b : List UInt8} (k : Nat) (ha : ∀ d ∈ a, d ≠ c) : Lib.replaceK [c] n (k + 1) (a ++ c :: b) = a ++ n ++ Lib.replaceK [c] n k b := by
  rw [Lib.replaceK_hit [c] n k _ a.length (by rw [Lib.index_one]; exact indexByte_sep ha)]
  simp
theorem replace_two {x y z : List UInt8} (hx : ∀ d ∈ x, d ≠ 32) (hy : ∀ d ∈ y, d ≠ 32) (hz : ∀ d ∈ z, d ≠ 32) : Lib.replaceAll (x ++ 32 :: (y ++ 32 :: z)) [32] [46] = x ++ 46 :: (y ++ 46 :: z) := by
  have c0 : ∀ {l : List UInt8}, (∀ d ∈ l, d ≠ 32) → l.count 32 = 0 := fun h => List.count_eq_zero.2 fun hm => h _ hm rfl
  have e : Lib.count (x ++ 32 :: (y ++ 32 :: z)) [32] = 2 := by
    rw [Lib.count_one, List.count_append, c0 hx, List.count_cons_self, List.count_append, c0 hy, List.count_cons_self, c0 hz]
  unfold Lib.replaceAll Lib.replace Lib.replaceNum
  rw [if_neg (by decide), if_pos (.inl (by decide)), e, replaceK_sep 1 hx, replaceK_sep 0 hy]
  simp [Lib.replaceK]
def verL (x y z : Int) : List UInt8 := Lib.itoa x ++ 46 :: (Lib.itoa y ++ 46 :: Lib.itoa z)
theorem text_three (x y z : Int) : textF [x, y, z] = Lib.itoa x ++ 32 :: (Lib.itoa y ++ 32 :: Lib.itoa z) := by
  rw [text_cons, text_cons, text_cons]
  simp
theorem verL_of (x y z : Int) : Lib.replaceAll (textF [x, y, z]) [32] [46] = verL x y z := by
  rw [text_three, replace_two (itoa_blank x) (itoa_blank y) (itoa_blank z)]
  rfl
theorem count_three (x y z : Int) : Lib.count (textF [x, y, z]) [32] = 2 := by
  have c0 : ∀ {l : List UInt8}, (∀ d ∈ l, d ≠ 32) → l.count 32 = 0 := fun h => List.count_eq_zero.2 fun hm => h _ hm rfl
  rw [text_three, Lib.count_one, List.count_append, c0 (itoa_blank x), List.count_cons_self, List.count_append, c0 (itoa_blank y), List.count_cons_self, c0 (itoa_blank z)]
/-! ### A part -/
/-- The number that a text is, if it is told the same. -/
def numF (l : List UInt8) : Option Int := match Lib.atoiAll l with | .ok v => if Lib.itoa v = l then some v else none | _ => none
theorem numF_ok {l : List UInt8} {v : Int} (h : Lib.atoiAll l = .ok v) : numF l = if Lib.itoa v = l then some v else none := by unfold numF; rw [h]
theorem numF_range {l : List UInt8} (h : Lib.atoiAll l = .range) : numF l = none := by unfold numF; rw [h]
/-- A part's fault (ErrForm, ErrRange), 0: none. -/
def partE (l : List UInt8) : Int := match numF l with | some v => if v < 0 then 3 else if 999 < v then 2 else 0 | none => 3
def partV (l : List UInt8) : Int := (numF l).getD 0
/-! ### Older or newer -/
def cmpF : List Int → List Int → Int
  | x :: r, y :: s => if x < y then -1 else if y < x then 1 else cmpF r s
  | _, _ => 0
end Go.Proofs.YtmncoldaemcnlaaGreatDoor
namespace Go.Proofs.YtmncoldaemcnlaaGreatDoor

/-! ### Pieces between single bytes -/
theorem byte_at (c : UInt8) : ∀ (l : List UInt8) (i : Nat), Lib.indexByte l c = (i : Int) → c ∉ l.take i ∧ l = l.take i ++ c :: l.drop (i + 1)
  | [], i, h => by
    unfold Lib.indexByte at h
    omega
  | b :: l, i, h => by
    unfold Lib.indexByte at h
    by_cases e : (b == c) = true
    · rw [if_pos e] at h
      obtain rfl : i = 0 := by omega
      rw [beq_iff_eq.1 e]
      simp
    · rw [if_neg e] at h
      by_cases e2 : (Lib.indexByte l c == -1) = true
      · rw [if_pos e2] at h
        omega
      · rw [if_neg e2] at h
        have hge := Lib.indexByte_ge l c
        have hne : Lib.indexByte l c ≠ -1 := fun e3 => e2 (beq_iff_eq.2 e3)
        obtain ⟨j, rfl⟩ : ∃ j, i = j + 1 := ⟨i - 1, by omega⟩
        obtain ⟨h1, h2⟩ := byte_at c l j (by omega)
        refine ⟨?_, ?_⟩
        · rw [List.take_succ_cons]
          intro hc
          rcases List.mem_cons.1 hc with e3 | e3
          · exact e (beq_iff_eq.2 e3.symm)
          · exact h1 e3
        · rw [List.take_succ_cons, List.drop_succ_cons, List.cons_append, ← h2]
theorem split1_cons (c : UInt8) (k : Nat) (s : List UInt8) : ∃ p t, Lib.splitK [c] 0 k s = p :: t := by
  cases k with
  | zero => exact ⟨_, _, rfl⟩
  | succ k =>
    unfold Lib.splitK
    split
    · exact ⟨_, _, rfl⟩
    · exact ⟨_, _, rfl⟩
theorem tail_cons (sep p : List UInt8) (t : List (List UInt8)) : Lib.joinTail sep (p :: t) = sep ++ Lib.join (p :: t) sep := by
  rw [Lib.join_cons]
  unfold Lib.joinTail
  simp
/-- The pieces, joined. -/
theorem join_split1 (c : UInt8) : ∀ (k : Nat) (s : List UInt8), Lib.join (Lib.splitK [c] 0 k s) [c] = s
  | 0, s => Lib.join_one _ _
  | k + 1, s => by
    unfold Lib.splitK
    by_cases e : (Lib.index s [c] == -1) = true
    · rw [if_pos e]
      exact Lib.join_one _ _
    · rw [if_neg e]
      have hge := Lib.index_ge s [c]
      have hne : Lib.index s [c] ≠ -1 := fun e3 => e (beq_iff_eq.2 e3)
      obtain ⟨i, hi⟩ : ∃ i : Nat, Lib.index s [c] = (i : Int) := ⟨(Lib.index s [c]).toNat, by omega⟩
      have hb := (byte_at c s i (by rw [← Lib.index_one]; exact hi)).2
      have ih := join_split1 c k (s.drop (i + 1))
      rw [hi, Int.toNat_natCast, Nat.add_zero, show [c].length = 1 from rfl]
      obtain ⟨p, t, e2⟩ := split1_cons c k (s.drop (i + 1))
      rw [e2] at ih ⊢
      rw [Lib.join_cons, tail_cons, ih]
      exact hb.symm
/-- The first piece. -/
theorem split1_head (c : UInt8) : ∀ (k : Nat) (s : List UInt8), 2 ≤ (Lib.splitK [c] 0 k s).length → ∃ p t r, Lib.splitK [c] 0 k s = p :: t ∧ c ∉ p ∧ s = p ++ c :: r
  | 0, s, h => by
    unfold Lib.splitK at h
    simp at h
  | k + 1, s, h => by
    unfold Lib.splitK at h ⊢
    by_cases e : (Lib.index s [c] == -1) = true
    · rw [if_pos e] at h
      simp at h
    · rw [if_neg e]
      have hge := Lib.index_ge s [c]
      have hne : Lib.index s [c] ≠ -1 := fun e3 => e (beq_iff_eq.2 e3)
      obtain ⟨i, hi⟩ : ∃ i : Nat, Lib.index s [c] = (i : Int) := ⟨(Lib.index s [c]).toNat, by omega⟩
      obtain ⟨h1, h2⟩ := byte_at c s i (by rw [← Lib.index_one]; exact hi)
      rw [hi, Int.toNat_natCast, Nat.add_zero]
      exact ⟨_, _, _, rfl, h1, h2⟩
def pcs (c : UInt8) (s : ByteArray) : List ByteArray := Lib.splitB ⟨#[c]⟩ 0 (Lib.countB s ⟨#[c]⟩) s
/-- .. as bytes. -/
def pcL (c : UInt8) (s : ByteArray) : List (List UInt8) := (pcs c s).map (·.data.toList)
theorem pcL_is (c : UInt8) (s : ByteArray) : pcL c s = Lib.splitK [c] 0 (Lib.countB s ⟨#[c]⟩) s.data.toList := Lib.splitB_data ⟨#[c]⟩ 0 _ s
theorem pcs_len (c : UInt8) (s : ByteArray) : (pcs c s).length = Lib.countB s ⟨#[c]⟩ + 1 := Lib.splitB_all ⟨#[c]⟩ (by show 1 ≤ 1; omega) 0 _ s rfl
theorem pcL_len (c : UInt8) (s : ByteArray) : (pcL c s).length = (pcs c s).length := by unfold pcL; simp
theorem pcL_join (c : UInt8) (s : ByteArray) : Lib.join (pcL c s) [c] = s.data.toList := by rw [pcL_is]; exact join_split1 c _ _
theorem pcL_head (c : UInt8) (s : ByteArray) (h : 2 ≤ (pcs c s).length) : ∃ p t r, pcL c s = p :: t ∧ c ∉ p ∧ s.data.toList = p ++ c :: r := by
  rw [pcL_is]
  exact split1_head c _ _ (by rw [← pcL_is, pcL_len]; exact h)
theorem lens_cons (x : List UInt8) (r : List (List UInt8)) : Lib.lens (x :: r) = x.length + Lib.lens r := by unfold Lib.lens; simp
theorem lens_many : ∀ (m : Nat) (r : List (List UInt8)), m ≤ r.length → (∀ j, j < m → 5 ≤ (r.getD j []).length) → 5 * m ≤ Lib.lens r
  | 0, r, _, _ => by omega
  | m + 1, [], h, _ => by simp at h
  | m + 1, x :: r, h, hj => by
    have h0 := hj 0 (by omega)
    have ih := lens_many m r (by simpa using h) fun j hjm => by
      have := hj (j + 1) (by omega)
      simpa using this
    rw [lens_cons]
    simp at h0
    omega
/-- So many lines want so many bytes. -/
theorem lines_few (c : UInt8) (s : ByteArray) (m : Nat) (h : m < (pcs c s).length) (hj : ∀ j, j < m → 5 ≤ ((pcL c s).getD (j + 1) []).length) : 6 * m ≤ s.size := by
  have h1 := pcL_join c s
  have h2 := pcL_len c s
  cases e : pcL c s with
  | nil => rw [e] at h2; simp at h2; omega
  | cons x r =>
    rw [e] at h1 h2 hj
    have h3 := Lib.join_length x r [c]
    rw [h1, lens_cons] at h3
    have h4 := lens_many m r (by simp at h2; omega) fun j hjm => by
      have := hj j hjm
      simpa using this
    have h5 : s.data.toList.length = s.size := rfl
    simp at h2 h3
    omega
theorem piece_le (c : UInt8) (s : ByteArray) {p : ByteArray} (h : p ∈ pcs c s) : p.size ≤ s.size := by
  have key : ∀ (k : Nat) (s p : ByteArray), p ∈ Lib.splitB ⟨#[c]⟩ 0 k s → p.size ≤ s.size := by
    intro k
    induction k with
    | zero => intro s p h; rw [Lib.splitB_zero] at h; rw [List.mem_singleton.1 h]; exact Nat.le_refl _
    | succ k ih =>
      intro s p h
      rw [Lib.splitB] at h
      split at h
      · rw [List.mem_singleton.1 h]; exact Nat.le_refl _
      · rcases List.mem_cons.1 h with e | e
        · rw [e, ByteArray.size_extract]; omega
        · have := ih _ p e
          rw [ByteArray.size_extract] at this
          omega
  exact key _ _ _ h
/-- A piece, by its number. -/
def pcP (c : UInt8) (s : ByteArray) (j : Nat) : ByteArray := (pcs c s).getD j ⟨#[]⟩
theorem pcP_size (c : UInt8) (s : ByteArray) (j : Nat) : (pcP c s j).size ≤ s.size := by
  unfold pcP
  rcases Nat.lt_or_ge j (pcs c s).length with h | h
  · rw [List.getD_eq_getElem?_getD, List.getElem?_eq_getElem h]
    exact piece_le c s (List.getElem_mem h)
  · rw [List.getD_eq_getElem?_getD, List.getElem?_eq_none h]
    exact Nat.zero_le _
theorem pcL_at (c : UInt8) (s : ByteArray) {j : Nat} (h : j < (pcs c s).length) : (pcL c s).getD j [] = (pcP c s j).data.toList := by
  unfold pcL pcP
  rw [List.getD_eq_getElem?_getD, List.getElem?_map, List.getD_eq_getElem?_getD, List.getElem?_eq_getElem h]
  rfl
end Go.Proofs.YtmncoldaemcnlaaGreatDoor
