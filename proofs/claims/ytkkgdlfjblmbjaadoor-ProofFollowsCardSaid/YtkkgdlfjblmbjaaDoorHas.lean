/-
  The reference's has; the state of literals that are told: is, set.
-/
import Derived.Test.YtkkgdlfjblmbjaaDoorHolds
import Derived.Test.YtkkgdlfjblmbjaaDoorSpread
import Derived.Test.YtkkgdlfjblmbjaaDoorOwn
namespace Go.Proofs.YtkkgdlfjblmbjaaDoor
open Go.RowKit

set_option maxHeartbeats 400000 in
theorem has_any (x : Int) (A : Option Addr) (n c : Nat) (zs : List Int) (w : World) (h : Ints w w.heap.size A n zs) :
    Calls Tryd.prog 44 #[.slice A n c, .int .i64 x] w fun e w' => e = .returned (.bool (decide (x ∈ zs))) ∧ w = w' := by
  have hn := h.le
  have hlen := Lib.hid h.len
  go_enter Tryd.func44, Tryd.ntmps44
  go_wp2
  go_loop [6, 9] (fun _ i => ∃ k : Nat, k ≤ n ∧ i = .int .i64 k ∧ Hid (x ∉ zs.take k)) (fun _ i => n - (intOf i).toNat)
  case atStart => exact ⟨0, Nat.zero_le _, rfl, Lib.hid (by simp)⟩
  case round =>
    obtain ⟨k, hk, rfl, hd⟩ := hrel
    by_cases hlt : k < n
    · obtain ⟨ad, rfl, hb, hc⟩ := h.at_ hlt
      have hkl := Lib.hid (show k < zs.length by rw [hlen.out]; exact hlt)
      obtain ⟨y, hy⟩ : ∃ y, zs.getD k 0 = y := ⟨_, rfl⟩
      rw [hy] at hc
      have HY := Lib.hid hy
      clear hy
      by_cases e : x = y
      · have hm := Lib.hid (show x ∈ zs by
          rw [e, ← HY.out, List.getD_eq_getElem?_getD, List.getElem?_eq_getElem hkl.out]; exact List.getElem_mem hkl.out)
        have he : (x == y) = true := beq_iff_eq.2 e
        clear e
        go_wp2
        go_ret
        exact ⟨ret_bool (decide_eq_true hm.out).symm, rfl⟩
      · have he : (x == y) = false := beq_eq_false_iff_ne.2 e
        have HE := Lib.hid e
        clear e
        go_wp2
        go_round
        case rel => exact ⟨k + 1, by omega, by go_num, Lib.hid (by rw [take_snoc zs k 0 hkl.out, HY.out]; simp; exact ⟨hd.out, HE.out⟩)⟩
        case measure => simp [intOf]; omega
    · go_wp2
      go_ret
      exact ⟨ret_bool (by rw [take_all zs k (by have := hlen.out; omega)] at hd; exact (decide_eq_false hd.out).symm), rfl⟩

def stCells (tr : List Int) (v : Value) : Array Value := ((List.range 24).map (fun i : Nat => Value.int .i64 (litT tr (i + 1))) ++ [v]).toArray
theorem stCells_at (tr : List Int) (v : Value) (i : Nat) (h : i < 24) : (stCells tr v)[i]? = some (.int .i64 (litT tr (i + 1))) := by
  unfold stCells
  simp [List.getElem?_append, h]
theorem stCells_last (tr : List Int) (v : Value) : (stCells tr v)[24]? = some v := by
  unfold stCells
  simp


theorem litT_flip {tr : List Int} (hc : Cons tr) (x : Int) : litT tr (-x) = -(litT tr x) := by
  unfold litT
  by_cases h1 : x ∈ tr
  · have h2 := hc.no_both h1
    rw [if_pos h1, if_neg h2, if_pos (by rw [Int.neg_neg]; exact h1)]
  · rw [if_neg h1]
    by_cases h2 : -x ∈ tr
    · rw [if_pos h2, if_pos h2]; rfl
    · rw [if_neg h2, if_neg h2, Int.neg_neg, if_neg h1]; rfl
theorem litT_bd (tr : List Int) (x : Int) : -1 ≤ litT tr x ∧ litT tr x ≤ 1 := by
  unfold litT
  split
  · omega
  · split <;> omega

theorem is_any (x : Int) (b : Nat) (tr : List Int) (v : Value) (w : World) (h : Blk w b 91 (stCells tr v)) (hc : Cons tr) (hx : (1 ≤ x ∧ x ≤ 24) ∨ (-24 ≤ x ∧ x ≤ -1)) :
    Calls Tryd.prog 46 #[.pointer (some ⟨b, 0, none⟩), .int .i64 x] w fun e w' => e = .returned (.int .i64 (litT tr x)) ∧ w = w' := by
  rcases hx with hx | hx
  · obtain ⟨i, rfl⟩ : ∃ i : Nat, x = (i : Int) + 1 := ⟨(x - 1).toNat, by omega⟩
    have hi : i < 24 := by omega
    have hcell : w.cell? ⟨b, i, none⟩ = some (.int .i64 (litT tr (i + 1))) := (h.cell i).trans (stCells_at tr v i hi)
    generalize litT tr ((i : Int) + 1) = y at hcell
    go_enter Tryd.func46, Tryd.ntmps46
    go_wp2
    go_ret
    exact ⟨rfl, rfl⟩
  · obtain ⟨i, rfl⟩ : ∃ i : Nat, x = -((i : Int) + 1) := ⟨(-x - 1).toNat, by omega⟩
    have hi : i < 24 := by omega
    have hcell : w.cell? ⟨b, i, none⟩ = some (.int .i64 (litT tr (i + 1))) := (h.cell i).trans (stCells_at tr v i hi)
    have hb := litT_bd tr (i + 1)
    have HF := Lib.hid (litT_flip hc (i + 1))
    generalize litT tr ((i : Int) + 1) = y at hcell HF hb
    go_enter Tryd.func46, Tryd.ntmps46
    go_wp2
    go_ret
    exact ⟨ret_int HF.out.symm, rfl⟩

/-- The state at block b: literals tr are told; its trail v is a row of the call's own; the blocks of S are others. -/
structure St (w : World) (S : Nat → Prop) (b base : Nat) (v : Value) (tr : List Int) : Prop where
  cons : Cons tr
  blk : Blk w b 91 (stCells tr v)
  own : Own w base v tr
  prot : ∀ i, S i → i < w.heap.size ∧ i ≠ b ∧ v.ownBlock ≠ some i
  base : base ≤ w.heap.size
/-- What a step leaves: a state with tr told, the blocks of S as they were. -/
def StPost (w : World) (S : Nat → Prop) (b base : Nat) (tr : List Int) (w' : World) : Prop := ∃ v', St w' S b base v' tr ∧ Keep S w w'
def SetPost (w : World) (S : Nat → Prop) (b base : Nat) (tr : List Int) (e : Ending) (w' : World) : Prop := e = .returned (.tuple #[]) ∧ StPost w S b base tr w'

theorem litT_snoc (tr : List Int) (x y : Int) : litT (tr ++ [x]) y = if y = x then 1 else if y ∈ tr then 1 else if -y = x then -1 else litT tr y := by
  unfold litT
  by_cases h0 : y = x
  · subst h0; simp
  · by_cases h1 : y ∈ tr
    · simp [h0, h1]
    · by_cases h2 : -y = x
      · simp [h0, h1, h2]
      · simp [h0, h1, h2]

theorem stCells_set (tr : List Int) (x : Int) (v v' : Value) (i : Nat) (u : Int) (hi : i < 24) (h1 : x ∉ tr) (h2 : -x ∉ tr) (hx : (x = (i : Int) + 1 ∧ u = 1) ∨ (x = -((i : Int) + 1) ∧ u = -1)) :
    ((stCells tr v).setIfInBounds i (.int .i64 u)).setIfInBounds 24 v' = stCells (tr ++ [x]) v' := by
  apply Array.ext_getElem?
  intro j
  have hs : (stCells tr v).size = 25 := by simp [stCells]
  by_cases hj24 : 24 = j
  · subst hj24
    rw [stCells_last, Array.getElem?_setIfInBounds_self_of_lt (by simp [hs])]
  · rw [Array.getElem?_setIfInBounds, if_neg hj24, Array.getElem?_setIfInBounds]
    by_cases hj : j < 24
    · rw [stCells_at _ _ j hj]
      by_cases hij : i = j
      · subst hij
        rw [if_pos rfl, if_pos (by omega), stCells_at _ _ i hi]
        rcases hx with ⟨rfl, rfl⟩ | ⟨rfl, rfl⟩
        · rw [litT_snoc, if_pos rfl]
        · rw [litT_snoc, if_neg (by omega), if_neg (by intro hm; exact h2 (by rw [Int.neg_neg]; exact hm)), if_pos rfl]
      · rw [if_neg hij, stCells_at _ _ j hj, litT_snoc]
        have e1 : ((j : Int) + 1) ≠ x := by rcases hx with ⟨rfl, _⟩ | ⟨rfl, _⟩ <;> omega
        have e2 : -((j : Int) + 1) ≠ x := by rcases hx with ⟨rfl, _⟩ | ⟨rfl, _⟩ <;> omega
        rw [if_neg e1, if_neg e2]
        by_cases hm : ((j : Int) + 1) ∈ tr
        · rw [if_pos hm, litT_mem hm]
        · rw [if_neg hm]
    · have hs' : (stCells (tr ++ [x]) v').size = 25 := by simp [stCells]
      rw [if_neg (by omega), Array.getElem?_eq_none (by omega), Array.getElem?_eq_none (by omega)]

theorem World.size_alloc' (w : World) (o : Obj) : (w.alloc o).heap.size = w.heap.size + 1 := by simp
theorem size_setCell (w : World) (p : Addr) (u : Value) : (w.setCell p u).heap.size = w.heap.size := by simp [World.setCell]

set_option maxRecDepth 100000 in
set_option maxHeartbeats 1000000 in
theorem set_any (S : Nat → Prop) (x : Int) (b base : Nat) (v : Value) (tr : List Int) (w : World) (h : St w S b base v tr) (hx : (1 ≤ x ∧ x ≤ 24) ∨ (-24 ≤ x ∧ x ≤ -1)) (hx1 : x ∉ tr) (hx2 : -x ∉ tr) :
    Calls Tryd.prog 47 #[.pointer (some ⟨b, 0, none⟩), .int .i64 x] w (SetPost w S b base (tr ++ [x])) := by
  obtain ⟨hc, hblk, hown, hprot, hbase⟩ := h
  have hlen := hc.len
  have HPR := hide hprot
  clear hprot
  rcases hx with hx | hx
  · obtain ⟨i, rfl⟩ : ∃ i : Nat, x = (i : Int) + 1 := ⟨(x - 1).toNat, by omega⟩
    have hi : i < 24 := by omega
    have hcell : w.cell? ⟨b, i, none⟩ = some (.int .i64 (litT tr (i + 1))) := (hblk.cell i).trans (stCells_at tr v i hi)
    have hlast : w.cell? ⟨b, 24, none⟩ = some v := (hblk.cell 24).trans (stCells_last tr v)
    have hf1 := hblk.frozen i
    have hf2 := hblk.frozen 24
    have HO := hide ((hown.setBlk hblk (by decide) i (.int .i64 1)).alloc (.cells #[.int .i64 ((i : Int) + 1)] 3))
    have HB := hide ((hblk.set_ i (.int .i64 1)).alloc (.cells #[.int .i64 ((i : Int) + 1)] 3))
    have HNE := hide (hown.ne_blk hblk (by decide))
    have HL := hide (Keep.setCell (w := w) (p := ⟨b, i, none⟩) (show ¬ S b from fun hs => (HPR.out b hs).2.1 rfl) (.int .i64 1))
    have HS := hide (stCells_set tr ((i : Int) + 1) v)
    have HX := hide (show ((w.setCell ⟨b, i, none⟩ (.int .i64 1)).alloc (.cells #[.int .i64 ((i : Int) + 1)] 3)).cell? ⟨w.heap.size, 0, none⟩ = some (.int .i64 ((i : Int) + 1)) by rw [World.cell?_alloc_at _ _ _ _ (size_setCell _ _ _).symm]; rfl)
    have HSZ := hide (show w.heap.size ≤ ((w.setCell ⟨b, i, none⟩ (.int .i64 1)).alloc (.cells #[.int .i64 ((i : Int) + 1)] 3)).heap.size by rw [World.size_alloc', size_setCell]; omega)
    have HZ := hide (show base ≤ ((w.setCell ⟨b, i, none⟩ (.int .i64 1)).alloc (.cells #[.int .i64 ((i : Int) + 1)] 3)).heap.size from by rw [World.size_alloc', size_setCell]; omega)
    have HI := hide (show I64 ((i : Int) + 1) by unfold I64; omega)
    clear hown hblk
    go_enter Tryd.func47, Tryd.ntmps47
    go_wp2_with (at_builtin; go_loud (refine app1 _ rfl _ _ 34 rfl base Tryd.underlying34 v tr rfl HO.out w.heap.size 1 ((i : Int) + 1) rfl HX.out HI.out (by omega) HZ.out ?_; intro v' w1 ho1 hg1 hor; obtain ⟨A1, c1, rfl, _⟩ := ho1.form; have HB1 := hide (HB.out.grown hg1 (fun e => HNE.out e.symm)); have hc1 := (HB1.out.cell 24); have hf3 := (HB1.out.frozen 24); rw [show ((stCells tr v).setIfInBounds i (.int .i64 1))[24]? = some v by rw [Array.getElem?_setIfInBounds_ne (by omega), stCells_last]] at hc1))
    go_end0
    simp only [List.length_append, List.length_singleton] at ho1 hor
    refine ⟨rfl, .slice A1 (tr.length + 1) c1, ⟨hc.snoc (by omega) hx1 hx2, ?_, ho1.setBlk HB1.out (by decide) 24 _, ?_, ?_⟩, ?_⟩
    · rw [← HS.out (.slice A1 (tr.length + 1) c1) i 1 hi hx1 hx2 (.inl ⟨rfl, rfl⟩)]
      exact HB1.out.set_ 24 _
    · intro j hj
      obtain ⟨p1, p2, p3⟩ := HPR.out j hj
      refine ⟨?_, p2, ?_⟩
      · rw [size_setCell]
        exact Nat.lt_of_lt_of_le p1 (Nat.le_trans HSZ.out hg1.size)
      · rcases hor with e | e
        · rw [e]; exact p3
        · rw [e]
          intro e2
          cases e2
          exact absurd p1 (Nat.not_lt.2 HSZ.out)
    · rw [size_setCell]
      exact Nat.le_trans HZ.out hg1.size
    · refine (HL.out.trans (Keep.alloc (fun j hj => by rw [size_setCell]; exact (HPR.out j hj).1) _)).trans ((Keep.grown hg1 fun j hj => ⟨Nat.lt_of_lt_of_le (HPR.out j hj).1 HSZ.out, fun e => (HPR.out j hj).2.2 e.symm⟩).trans (Keep.setCell (fun hs => (HPR.out b hs).2.1 rfl) _))
  · obtain ⟨i, rfl⟩ : ∃ i : Nat, x = -((i : Int) + 1) := ⟨(-x - 1).toNat, by omega⟩
    have hi : i < 24 := by omega
    have hcell : w.cell? ⟨b, i, none⟩ = some (.int .i64 (litT tr (i + 1))) := (hblk.cell i).trans (stCells_at tr v i hi)
    have hlast : w.cell? ⟨b, 24, none⟩ = some v := (hblk.cell 24).trans (stCells_last tr v)
    have hf1 := hblk.frozen i
    have hf2 := hblk.frozen 24
    have HO := hide ((hown.setBlk hblk (by decide) i (.int .i64 (-1))).alloc (.cells #[.int .i64 (-((i : Int) + 1))] 3))
    have HB := hide ((hblk.set_ i (.int .i64 (-1))).alloc (.cells #[.int .i64 (-((i : Int) + 1))] 3))
    have HNE := hide (hown.ne_blk hblk (by decide))
    have HL := hide (Keep.setCell (w := w) (p := ⟨b, i, none⟩) (show ¬ S b from fun hs => (HPR.out b hs).2.1 rfl) (.int .i64 (-1)))
    have HS := hide (stCells_set tr (-((i : Int) + 1)) v)
    have HX := hide (show ((w.setCell ⟨b, i, none⟩ (.int .i64 (-1))).alloc (.cells #[.int .i64 (-((i : Int) + 1))] 3)).cell? ⟨w.heap.size, 0, none⟩ = some (.int .i64 (-((i : Int) + 1))) by rw [World.cell?_alloc_at _ _ _ _ (size_setCell _ _ _).symm]; rfl)
    have HSZ := hide (show w.heap.size ≤ ((w.setCell ⟨b, i, none⟩ (.int .i64 (-1))).alloc (.cells #[.int .i64 (-((i : Int) + 1))] 3)).heap.size by rw [World.size_alloc', size_setCell]; omega)
    have HZ := hide (show base ≤ ((w.setCell ⟨b, i, none⟩ (.int .i64 (-1))).alloc (.cells #[.int .i64 (-((i : Int) + 1))] 3)).heap.size from by rw [World.size_alloc', size_setCell]; omega)
    have HI := hide (show I64 (-((i : Int) + 1)) by unfold I64; omega)
    clear hown hblk
    go_enter Tryd.func47, Tryd.ntmps47
    go_wp2_with (at_builtin; go_loud (refine app1 _ rfl _ _ 34 rfl base Tryd.underlying34 v tr rfl HO.out w.heap.size 1 (-((i : Int) + 1)) rfl HX.out HI.out (by omega) HZ.out ?_; intro v' w1 ho1 hg1 hor; obtain ⟨A1, c1, rfl, _⟩ := ho1.form; have HB1 := hide (HB.out.grown hg1 (fun e => HNE.out e.symm)); have hc1 := (HB1.out.cell 24); have hf3 := (HB1.out.frozen 24); rw [show ((stCells tr v).setIfInBounds i (.int .i64 (-1)))[24]? = some v by rw [Array.getElem?_setIfInBounds_ne (by omega), stCells_last]] at hc1))
    go_end0
    simp only [List.length_append, List.length_singleton] at ho1 hor
    refine ⟨rfl, .slice A1 (tr.length + 1) c1, ⟨hc.snoc (by omega) hx1 hx2, ?_, ho1.setBlk HB1.out (by decide) 24 _, ?_, ?_⟩, ?_⟩
    · rw [← HS.out (.slice A1 (tr.length + 1) c1) i (-1) hi hx1 hx2 (.inr ⟨rfl, rfl⟩)]
      exact HB1.out.set_ 24 _
    · intro j hj
      obtain ⟨p1, p2, p3⟩ := HPR.out j hj
      refine ⟨?_, p2, ?_⟩
      · rw [size_setCell]
        exact Nat.lt_of_lt_of_le p1 (Nat.le_trans HSZ.out hg1.size)
      · rcases hor with e | e
        · rw [e]; exact p3
        · rw [e]
          intro e2
          cases e2
          exact absurd p1 (Nat.not_lt.2 HSZ.out)
    · rw [size_setCell]
      exact Nat.le_trans HZ.out hg1.size
    · refine (HL.out.trans (Keep.alloc (fun j hj => by rw [size_setCell]; exact (HPR.out j hj).1) _)).trans ((Keep.grown hg1 fun j hj => ⟨Nat.lt_of_lt_of_le (HPR.out j hj).1 HSZ.out, fun e => (HPR.out j hj).2.2 e.symm⟩).trans (Keep.setCell (fun hs => (HPR.out b hs).2.1 rfl) _))
end Go.Proofs.YtkkgdlfjblmbjaaDoor
