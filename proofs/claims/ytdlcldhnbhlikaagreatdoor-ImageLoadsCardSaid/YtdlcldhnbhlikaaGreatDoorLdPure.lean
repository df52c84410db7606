/-
  A diagram's bytes, read: lines and words; nodes made one by one; how many there are. No program in sight.
-/
import Derived.Test.YtdlcldhnbhlikaaGreatDoorImgTx
import Derived.Lib.SplitLaws
import Derived.Lib.IndexBytes
import Derived.Lib.Join
namespace Go.Proofs.YtdlcldhnbhlikaaGreatDoor
open Go.RowKit

/-! ### Pieces between single bytes -/
theorem byte_at (c : UInt8) : ∀ (l : List UInt8) (i : Nat), Lib.indexByte l c = (i : Int) → c ∉ l.take i ∧ l = l.take i ++ c :: l.drop (i + 1)
  | [], i, h => by
    unfold Lib.indexByte at h
    omega
  | b :: l, i, h => by
    unfold Lib.indexByte at h
    by_cases e : (b == c) = true
    · rw [if_pos e] at h
      obtain rfl : i = 0 := by omega
      rw [beq_iff_eq.1 e]
      simp
    · rw [if_neg e] at h
      by_cases e2 : (Lib.indexByte l c == -1) = true
      · rw [if_pos e2] at h
        omega
      · rw [if_neg e2] at h
        have hge := Lib.indexByte_ge l c
        have hne : Lib.indexByte l c ≠ -1 := fun e3 => e2 (beq_iff_eq.2 e3)
        obtain ⟨j, rfl⟩ : ∃ j, i = j + 1 := ⟨i - 1, by omega⟩
        obtain ⟨h1, h2⟩ := byte_at c l j (by omega)
        refine ⟨?_, ?_⟩
        · rw [List.take_succ_cons]
          intro hc
          rcases List.mem_cons.1 hc with e3 | e3
          · exact e (beq_iff_eq.2 e3.symm)
          · exact h1 e3
        · rw [List.take_succ_cons, List.drop_succ_cons, List.cons_append, ← h2]
theorem split1_cons (c : UInt8) (k : Nat) (s : List UInt8) : ∃ p t, Lib.splitK [c] 0 k s = p :: t := by
  cases k with
  | zero => exact ⟨_, _, rfl⟩
  | succ k =>
    unfold Lib.splitK
    split
    · exact ⟨_, _, rfl⟩
    · exact ⟨_, _, rfl⟩
theorem tail_cons (sep p : List UInt8) (t : List (List UInt8)) : Lib.joinTail sep (p :: t) = sep ++ Lib.join (p :: t) sep := by
  rw [Lib.join_cons]
  unfold Lib.joinTail
  simp
/-- The pieces, joined. -/
theorem join_split1 (c : UInt8) : ∀ (k : Nat) (s : List UInt8), Lib.join (Lib.splitK [c] 0 k s) [c] = s
  | 0, s => Lib.join_one _ _
  | k + 1, s => by
    unfold Lib.splitK
    by_cases e : (Lib.index s [c] == -1) = true
    · rw [if_pos e]
      exact Lib.join_one _ _
    · rw [if_neg e]
      have hge := Lib.index_ge s [c]
      have hne : Lib.index s [c] ≠ -1 := fun e3 => e (beq_iff_eq.2 e3)
      obtain ⟨i, hi⟩ : ∃ i : Nat, Lib.index s [c] = (i : Int) := ⟨(Lib.index s [c]).toNat, by omega⟩
      have hb := (byte_at c s i (by rw [← Lib.index_one]; exact hi)).2
      have ih := join_split1 c k (s.drop (i + 1))
      rw [hi, Int.toNat_natCast, Nat.add_zero, show [c].length = 1 from rfl]
      obtain ⟨p, t, e2⟩ := split1_cons c k (s.drop (i + 1))
      rw [e2] at ih ⊢
      rw [Lib.join_cons, tail_cons, ih]
      exact hb.symm
/-- The first piece. -/
theorem split1_head (c : UInt8) : ∀ (k : Nat) (s : List UInt8), 2 ≤ (Lib.splitK [c] 0 k s).length → ∃ p t r, Lib.splitK [c] 0 k s = p :: t ∧ c ∉ p ∧ s = p ++ c :: r
  | 0, s, h => by
    unfold Lib.splitK at h
    simp at h
  | k + 1, s, h => by
    unfold Lib.splitK at h ⊢
    by_cases e : (Lib.index s [c] == -1) = true
    · rw [if_pos e] at h
      simp at h
    · rw [if_neg e]
      have hge := Lib.index_ge s [c]
      have hne : Lib.index s [c] ≠ -1 := fun e3 => e (beq_iff_eq.2 e3)
      obtain ⟨i, hi⟩ : ∃ i : Nat, Lib.index s [c] = (i : Int) := ⟨(Lib.index s [c]).toNat, by omega⟩
      obtain ⟨h1, h2⟩ := byte_at c s i (by rw [← Lib.index_one]; exact hi)
      rw [hi, Int.toNat_natCast, Nat.add_zero]
      exact ⟨_, _, _, rfl, h1, h2⟩
def pcs (c : UInt8) (s : ByteArray) : List ByteArray := Lib.splitB ⟨#[c]⟩ 0 (Lib.countB s ⟨#[c]⟩) s
/-- .. as bytes. -/
def pcL (c : UInt8) (s : ByteArray) : List (List UInt8) := (pcs c s).map (·.data.toList)
theorem pcL_is (c : UInt8) (s : ByteArray) : pcL c s = Lib.splitK [c] 0 (Lib.countB s ⟨#[c]⟩) s.data.toList := Lib.splitB_data ⟨#[c]⟩ 0 _ s
theorem pcs_len (c : UInt8) (s : ByteArray) : (pcs c s).length = Lib.countB s ⟨#[c]⟩ + 1 := Lib.splitB_all ⟨#[c]⟩ (by show 1 ≤ 1; omega) 0 _ s rfl
theorem pcL_len (c : UInt8) (s : ByteArray) : (pcL c s).length = (pcs c s).length := by unfold pcL; simp
theorem pcL_join (c : UInt8) (s : ByteArray) : Lib.join (pcL c s) [c] = s.data.toList := by rw [pcL_is]; exact join_split1 c _ _
theorem pcL_head (c : UInt8) (s : ByteArray) (h : 2 ≤ (pcs c s).length) : ∃ p t r, pcL c s = p :: t ∧ c ∉ p ∧ s.data.toList = p ++ c :: r := by
  rw [pcL_is]
  exact split1_head c _ _ (by rw [← pcL_is, pcL_len]; exact h)
theorem lens_cons (x : List UInt8) (r : List (List UInt8)) : Lib.lens (x :: r) = x.length + Lib.lens r := by unfold Lib.lens; simp
theorem lens_many : ∀ (m : Nat) (r : List (List UInt8)), m ≤ r.length → (∀ j, j < m → 5 ≤ (r.getD j []).length) → 5 * m ≤ Lib.lens r
  | 0, r, _, _ => by omega
  | m + 1, [], h, _ => by simp at h
  | m + 1, x :: r, h, hj => by
    have h0 := hj 0 (by omega)
    have ih := lens_many m r (by simpa using h) fun j hjm => by
      have := hj (j + 1) (by omega)
      simpa using this
    rw [lens_cons]
    simp at h0
    omega
/-- So many lines want so many bytes. -/
theorem lines_few (c : UInt8) (s : ByteArray) (m : Nat) (h : m < (pcs c s).length) (hj : ∀ j, j < m → 5 ≤ ((pcL c s).getD (j + 1) []).length) : 6 * m ≤ s.size := by
  have h1 := pcL_join c s
  have h2 := pcL_len c s
  cases e : pcL c s with
  | nil => rw [e] at h2; simp at h2; omega
  | cons x r =>
    rw [e] at h1 h2 hj
    have h3 := Lib.join_length x r [c]
    rw [h1, lens_cons] at h3
    have h4 := lens_many m r (by simp at h2; omega) fun j hjm => by
      have := hj j hjm
      simpa using this
    have h5 : s.data.toList.length = s.size := rfl
    simp at h2 h3
    omega
theorem piece_le (c : UInt8) (s : ByteArray) {p : ByteArray} (h : p ∈ pcs c s) : p.size ≤ s.size := by
  have key : ∀ (k : Nat) (s p : ByteArray), p ∈ Lib.splitB ⟨#[c]⟩ 0 k s → p.size ≤ s.size := by
    intro k
    induction k with
    | zero => intro s p h; rw [Lib.splitB_zero] at h; rw [List.mem_singleton.1 h]; exact Nat.le_refl _
    | succ k ih =>
      intro s p h
      rw [Lib.splitB] at h
      split at h
      · rw [List.mem_singleton.1 h]; exact Nat.le_refl _
      · rcases List.mem_cons.1 h with e | e
        · rw [e, ByteArray.size_extract]; omega
        · have := ih _ p e
          rw [ByteArray.size_extract] at this
          omega
  exact key _ _ _ h
/-- A piece, by its number. -/
def pcP (c : UInt8) (s : ByteArray) (j : Nat) : ByteArray := (pcs c s).getD j ⟨#[]⟩
theorem pcP_size (c : UInt8) (s : ByteArray) (j : Nat) : (pcP c s j).size ≤ s.size := by
  unfold pcP
  rcases Nat.lt_or_ge j (pcs c s).length with h | h
  · rw [List.getD_eq_getElem?_getD, List.getElem?_eq_getElem h]
    exact piece_le c s (List.getElem_mem h)
  · rw [List.getD_eq_getElem?_getD, List.getElem?_eq_none h]
    exact Nat.zero_le _
theorem pcL_at (c : UInt8) (s : ByteArray) {j : Nat} (h : j < (pcs c s).length) : (pcL c s).getD j [] = (pcP c s j).data.toList := by
  unfold pcL pcP
  rw [List.getD_eq_getElem?_getD, List.getElem?_map, List.getD_eq_getElem?_getD, List.getElem?_eq_getElem h]
  rfl
/-! ### Words that are numbers -/
theorem text_join (zs : List Int) : Lib.join (zs.map Lib.itoa) [32] = textF zs := rfl
/-- Words behind the first. -/
theorem words_line {s : ByteArray} {w0 : List UInt8} {zs : List Int} (h : pcL 32 s = w0 :: zs.map Lib.itoa) (h0 : zs ≠ []) : s.data.toList = w0 ++ 32 :: textF zs := by
  rw [← pcL_join 32 s, h, Lib.join_cons]
  cases zs with
  | nil => exact absurd rfl h0
  | cons z r => rw [List.map_cons, tail_cons]; rfl
theorem words_all {s : ByteArray} {zs : List Int} (h : pcL 32 s = zs.map Lib.itoa) : s.data.toList = textF zs := by rw [← pcL_join 32 s, h, text_join]
theorem itoa_pos (n : Int) : 1 ≤ (Lib.itoa n).length := by
  cases e : Lib.itoa n with
  | nil => exact absurd e (itoa_ne n)
  | cons a l => simp
theorem text3_pos (a b c : Int) : 5 ≤ (textF [a, b, c]).length := by
  have h1 := itoa_pos a
  have h2 := itoa_pos b
  have h3 := itoa_pos c
  rw [text_cons, text_cons, text_cons]
  simp
  omega
theorem itoa_line (n : Int) : ∀ d ∈ Lib.itoa n, d ≠ 10 := by
  intro d hd
  unfold Lib.itoa at hd
  have h9 : ∀ u : Nat, d ∈ Lib.decDigits u → d ≠ 10 := fun u h e => by
    have := dec_mem u d h
    rw [e] at this
    exact absurd this.1 (by decide)
  split at hd
  · rcases List.mem_cons.1 hd with e | h
    · rw [e]; decide
    · exact h9 _ h
  · exact h9 _ hd
theorem text3_line (a b c : Int) : (10 : UInt8) ∉ textF [a, b, c] := by
  rw [text_cons, text_cons, text_cons]
  simp
  refine ⟨fun h => itoa_line a 10 h rfl, fun h => itoa_line b 10 h rfl, fun h => itoa_line c 10 h rfl⟩
theorem first_eq (c : UInt8) : ∀ (p q r t : List UInt8), c ∉ p → c ∉ q → p ++ c :: r = q ++ c :: t → p = q
  | [], [], _, _, _, _, _ => rfl
  | [], y :: q, _, _, _, hq, h => by
    simp only [List.nil_append, List.cons_append] at h
    exact absurd (by rw [(List.cons.inj h).1]; exact List.mem_cons_self ..) hq
  | x :: p, [], _, _, hp, _, h => by
    simp only [List.nil_append, List.cons_append] at h
    exact absurd (by rw [← (List.cons.inj h).1]; exact List.mem_cons_self ..) hp
  | x :: p, y :: q, r, t, hp, hq, h => by
    simp only [List.cons_append] at h
    obtain ⟨e1, e2⟩ := List.cons.inj h
    rw [e1, first_eq c p q r t (fun h => hp (List.mem_cons_of_mem _ h)) (fun h => hq (List.mem_cons_of_mem _ h)) e2]
/-- What an image's first line tells. -/
theorem head_read {A : Ar} {vn x a b c : Int} {r : List UInt8} (h : imgT A vn x = ([115, 112, 97, 99, 101] ++ 32 :: textF [a, b, c]) ++ 10 :: r) : b = ((imgA A x []).length : Int) := by
  have h2 : imgT A vn x = ([115, 112, 97, 99, 101] ++ 32 :: textF [vn, ((imgA A x []).length : Int), (numI (imgA A x []) x : Int)]) ++ 10 :: (bodyL A (imgA A x []) ++ tailI (allI A vn x)) := by
    unfold imgT
    generalize tailI (allI A vn x) = tz
    unfold allI headI
    simp
  have hn : ∀ a b c : Int, (10 : UInt8) ∉ [115, 112, 97, 99, 101] ++ 32 :: textF [a, b, c] := fun a b c hc => by
    rcases List.mem_append.1 hc with hc | hc
    · revert hc; decide
    · rcases List.mem_cons.1 hc with hc | hc
      · exact absurd hc (by decide)
      · exact text3_line a b c hc
  have h3 := first_eq 10 _ _ _ _ (hn _ _ _) (hn _ _ _) (h.symm.trans h2)
  have h4 := List.append_cancel_left h3
  have h5 := text_inj _ _ (List.cons.inj h4).2
  injection h5 with _ h6
  injection h6
/-! ### Nodes -/
section
variable {A : Ar} {n : Nd}
theorem free_all (h : freeA A = none) : cntA A = A.length := by
  unfold freeA at h
  unfold cntA
  rw [List.countP_eq_length]
  rw [List.findIdx?_eq_none_iff] at h
  intro o ho
  have := h o ho
  cases o with
  | none => cases this
  | some _ => rfl
theorem make_codes (A : Ar) (n : Nd) : makeE A n = 0 ∨ makeE A n = 2 ∨ makeE A n = 7 ∨ makeE A n = 10 ∨ (makeE A n = 12 ∧ cntA A = A.length) := by
  by_cases h1 : 0 ≤ n.var ∧ n.var < 24
  · by_cases h2 : hasA A n.low = true ∧ hasA A n.high = true
    · by_cases h3 : topA A n.low ≤ n.var ∨ topA A n.high ≤ n.var
      · exact .inr (.inr (.inr (.inl (makeE_top h1 h2 h3))))
      · have hm := mayA_of h1 h2 h3
        cases hl : liesA A n with
        | some k => exact .inl (make_lies hm hl).1
        | none =>
          cases hf : freeA A with
          | some k => exact .inl (make_new hm hl hf).1
          | none => exact .inr (.inr (.inr (.inr ⟨make_full hm hl hf, free_all hf⟩)))
    · exact .inr (.inr (.inl (makeE_has h1 h2)))
  · exact .inr (.inl (makeE_var h1))
/-- A node that is made. -/
theorem make_step (hw : WfA A) (h : makeE A n = 0) : WfA (makeA A n) ∧ hasA (makeA A n) (makeH A n) = true ∧ (∀ x, hasA A x = true → hasA (makeA A n) x = true) ∧ cntA (makeA A n) ≤ cntA A + 1 ∧ (makeA A n).length = A.length := by
  by_cases h1 : 0 ≤ n.var ∧ n.var < 24
  · by_cases h2 : hasA A n.low = true ∧ hasA A n.high = true
    · by_cases h3 : topA A n.low ≤ n.var ∨ topA A n.high ≤ n.var
      · rw [makeE_top h1 h2 h3] at h
        exact absurd h (by decide)
      · have hm := mayA_of h1 h2 h3
        cases hl : liesA A n with
        | some k =>
          obtain ⟨_, e1, e2⟩ := make_lies hm hl
          rw [e1, e2]
          exact ⟨hw, has_some (gotA_k.trans (liesA_some hl)), fun _ hx => hx, Nat.le_succ _, rfl⟩
        | none =>
          cases hf : freeA A with
          | none =>
            rw [make_full hm hl hf] at h
            exact absurd h (by decide)
          | some k =>
            obtain ⟨_, e1, e2⟩ := make_new hm hl hf
            obtain ⟨hk, hk0⟩ := freeA_some hf
            have hg := fun x => gotA_set (n := n) hk (x := x)
            rw [e1, e2]
            refine ⟨hw.put hm hl hk0 hk, has_some (d := n) (by rw [hg, if_pos rfl]), fun x hx => ?_, Nat.le_of_eq (countP_set_none hk0 hk), List.length_set ..⟩
            cases e : gotA A x with
            | none =>
              rcases has_none hx e with r | r
              · rw [r]; exact has_ends.1
              · rw [r]; exact has_ends.2
            | some d =>
              obtain ⟨j, rfl, hj, hjd⟩ := gotA_is e
              refine has_some (d := d) ?_
              rw [hg, if_neg (fun e3 => by
                have : j = k := by omega
                rw [this, hk0] at hjd
                cases hjd)]
              exact e
    · rw [makeE_has h1 h2] at h
      exact absurd h (by decide)
  · rw [makeE_var h1] at h
    exact absurd h (by decide)
/-- What is written is what is reached. -/
theorem reach_up {h k y : Int} {d : Nd} (e : gotA A h = some d) (hk : k = d.low ∨ k = d.high) (r : ReachA A [k] y) : ReachA A [h] y := by
  induction r with
  | base hm e2 =>
    rw [List.mem_singleton.1 hm] at e2 ⊢
    rcases hk with rfl | rfl
    · exact .low (.base (List.mem_singleton.2 rfl) e) e e2
    · exact .high (.base (List.mem_singleton.2 rfl) e) e e2
  | low _ e1 e2 ih => exact .low ih e1 e2
  | high _ e1 e2 ih => exact .high ih e1 e2
theorem img_reach (hw : WfA A) : ∀ (m : Nat) (h : Int) (ks : List Int), dep A h ≤ m → ∀ y, y ∈ imgA A h ks → y ∈ ks ∨ ReachA A [h] y := by
  intro m
  induction m with
  | zero =>
    intro h ks hd y hy
    have e : gotA A h = none := by
      cases e : gotA A h with
      | none => rfl
      | some d => have := hw.dep e; unfold dep at hd; omega
    rw [img_none e] at hy
    exact .inl hy
  | succ m ih =>
    intro h ks hd y hy
    cases e : gotA A h with
    | none =>
      rw [img_none e] at hy
      exact .inl hy
    | some d =>
      by_cases hm : h ∈ ks
      · rw [img_in e hm] at hy
        exact .inl hy
      · have h1 := (hw.kid e false).1
        have h2 := (hw.kid e true).1
        have h3 := top_some e
        have h4 := hw.dep e
        simp only [Bool.false_eq_true, if_false, if_true] at h1 h2
        rw [img_new hw e hm] at hy
        rcases List.mem_append.1 hy with hy | hy
        · rcases ih d.high _ (by unfold dep at hd ⊢; omega) y hy with hy | hy
          · rcases ih d.low _ (by unfold dep at hd ⊢; omega) y hy with hy | hy
            · exact .inl hy
            · exact .inr (reach_up e (.inl rfl) hy)
          · exact .inr (reach_up e (.inr rfl) hy)
        · rw [List.mem_singleton.1 hy]
          exact .inr (.base (List.mem_singleton.2 rfl) e)
theorem in_node {ks : List Int} {x : Int} {d : Nd} (h : inI ks x) (e : gotA A x = some d) : x ∈ ks := by
  have := node_two e
  rcases h with h | h | h
  · omega
  · omega
  · exact h
theorem reach_img {ks : List Int} {h y : Int} (hk : KsOk A ks) (hi : inI ks h) (r : ReachA A [h] y) : y ∈ ks := by
  induction r with
  | base hm e =>
    rw [List.mem_singleton.1 hm] at e ⊢
    exact in_node hi e
  | low _ e1 e2 ih =>
    obtain ⟨d, e3, h1, _⟩ := hk.got _ ih
    rw [e1] at e3
    cases e3
    exact in_node h1 e2
  | high _ e1 e2 ih =>
    obtain ⟨d, e3, _, h1⟩ := hk.got _ ih
    rw [e1] at e3
    cases e3
    exact in_node h1 e2
/-- How many. -/
theorem img_count (hw : WfA A) {h : Int} (hp : hasA A h = true) : (imgA A h []).length = (reachL A [h]).length := by
  obtain ⟨h1, h2, _⟩ := img_ok hw _ h [] (Nat.le_refl _) hp (ksOk_nil A)
  refine Nat.le_antisymm (inj_len (f := id) _ _ h1.nd (fun _ _ _ _ e => e) fun x hx => ?_) (inj_len (f := id) _ _ (reach_nodup _) (fun _ _ _ _ e => e) fun x hx => ?_)
  · rcases img_reach hw _ h [] (Nat.le_refl _) x hx with r | r
    · cases r
    · exact mem_reachL.2 r
  · exact reach_img h1 h2 (mem_reachL.1 hx)
theorem img_cnt (hw : WfA A) {h : Int} (hp : hasA A h = true) : (imgA A h []).length ≤ cntA A := by
  obtain ⟨h1, _⟩ := img_ok hw _ h [] (Nat.le_refl _) hp (ksOk_nil A)
  rw [cnt_numV]
  unfold numV
  refine inj_len (f := fun k : Int => (k - 2).toNat) _ _ h1.nd (fun a ha b hb e => ?_) fun x hx => ?_
  · obtain ⟨_, e1, _⟩ := h1.got a ha
    obtain ⟨_, e2, _⟩ := h1.got b hb
    have := node_two e1
    have := node_two e2
    omega
  · obtain ⟨d, e1, _⟩ := h1.got x hx
    obtain ⟨k, rfl, _, hk⟩ := gotA_is e1
    exact mem_atV.2 ⟨d, by rw [show ((k : Int) + 2 - 2).toNat = k by omega]; exact hk, rfl⟩
end
end Go.Proofs.YtdlcldhnbhlikaaGreatDoor
