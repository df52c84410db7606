/-
  Small walks for Solve: slices.Index of 0 in the state's variables; state.back; sameClauses of like lists; append of one clause to a row beside others.
-/
import Derived.Test.YtkkgdlfjblmbjaaGreatDoorSolvePure
import Derived.Test.YtkkgdlfjblmbjaaGreatDoorOwnC
import Derived.Deep.QuietTactic
import Derived.BigQuiet
namespace Go.Proofs.YtkkgdlfjblmbjaaGreatDoor
open Go.RowKit

section
variable {w w' : World} {base c n : Nat} {A : Option Addr} {zs : List Int} {ls : List (List Int)} {S : Nat → Prop} {v u : Value}
theorem ownsRow_cut {e : TypeId} {size m : Nat} {xs : List Value} (h : w.ownsRow base e size (.slice A n c) n xs) (hm : m ≤ n) : w.ownsRow base e size (.slice A m c) m (xs.take (m * size)) := by
  have hmul : m * size ≤ n * size := Nat.mul_le_mul_right _ hm
  refine ⟨by rw [List.length_take, h.1, Nat.min_eq_left hmul], ?_⟩
  rcases h.2 with ⟨e0, h0⟩ | ⟨g, cap, cur, e0, hg, hh, hc, hcap, hsz, ht⟩
  · cases e0
    obtain rfl : m = 0 := by omega
    exact .inl ⟨rfl, rfl⟩
  · cases e0
    refine .inr ⟨g, _, cur, rfl, hg, hh, by omega, hcap, hsz, ?_⟩
    rw [← ht, List.take_take, Nat.min_eq_left hmul]
theorem Own.cut (h : Own w base (.slice A n c) zs) {m : Nat} (hm : m ≤ n) : Own w base (.slice A m c) (zs.take m) := by
  have hn : n = zs.length := by
    obtain ⟨A', c', e, _⟩ := h.form
    cases e
    rfl
  subst hn
  have hl : (zs.take m).length = m := by rw [List.length_take, Nat.min_eq_left hm]
  refine ⟨?_, by rw [hl]; exact Nat.le_trans hm h.2.1, fun z hz => h.2.2 z (List.mem_of_mem_take hz)⟩
  rw [hl, List.map_take]
  have := ownsRow_cut h.1 hm
  rw [Nat.mul_one] at this
  exact this
theorem Own.row (h : Own w base v zs) (hz : zs ≠ []) : ∃ g c, v = .slice (some ⟨g, 0, none⟩) zs.length c ∧ zs.length ≤ c := by
  rcases h.1.2 with ⟨_, h0⟩ | ⟨g, cap, cur, hv, _, _, hc, _⟩
  · exact absurd (List.eq_nil_of_length_eq_zero h0) hz
  · exact ⟨g, cap, hv, hc⟩
theorem own_ne_rows {e e' : TypeId} {b b' size size' n' : Nat} {xs us : List Value} (h : w.ownsRow b e size v n xs) (h' : w.ownsRow b' e' size' u n' us) (hne : e ≠ e') : v.ownBlock = none ∨ v.ownBlock ≠ u.ownBlock := by
  rcases h'.2 with ⟨rfl, _⟩ | ⟨g', cap, cur, rfl, _, hh, _⟩
  · cases hv : v.ownBlock with
    | none => exact .inl rfl
    | some k => exact .inr (by simp [Value.ownBlock])
  · exact .inr (own_blk_ne h hh hne)
end

noncomputable def idxF (m : Nat) (tr : List Int) : Int := if freeF m tr ≤ m then (freeF m tr : Int) - 1 else -1
theorem idxF_in {m : Nat} {tr : List Int} (h : freeF m tr ≤ m) : idxF m tr = (freeF m tr : Int) - 1 := by unfold idxF; rw [if_pos h]
theorem idxF_out {m : Nat} {tr : List Int} (h : m < freeF m tr) : idxF m tr = -1 := by unfold idxF; rw [if_neg (by omega)]
/-- Taking a literal away. -/
theorem stCells_drop (ta tb : List Int) (x : Int) (v : Value) (i : Nat) (hi : i < 24) (hc : Cons (ta ++ x :: tb)) (hx : x = (i : Int) + 1 ∨ x = -((i : Int) + 1)) :
    (stCells (ta ++ x :: tb) v).setIfInBounds i (.int .i64 0) = stCells (ta ++ tb) v := by
  have hp := hc.2
  rw [List.pairwise_append, List.pairwise_cons] at hp
  have hn : ∀ y ∈ ta ++ tb, y.natAbs ≠ x.natAbs := by
    intro y hy
    rcases List.mem_append.1 hy with hy | hy
    · exact hp.2.2 y hy x (List.mem_cons_self ..)
    · exact fun e => hp.2.1.1 y hy e.symm
  apply Array.ext_getElem?
  intro j
  have hs : (stCells (ta ++ x :: tb) v).size = 25 := by simp [stCells]
  have hs' : (stCells (ta ++ tb) v).size = 25 := by simp [stCells]
  rw [Array.getElem?_setIfInBounds]
  by_cases hij : i = j
  · subst hij
    rw [if_pos rfl, if_pos (by omega), stCells_at _ _ i hi]
    have h1 : ((i : Int) + 1) ∉ ta ++ tb := fun h => hn _ h (by omega)
    have h2 : -((i : Int) + 1) ∉ ta ++ tb := fun h => hn _ h (by omega)
    rw [litT_none h1 h2]
  · rw [if_neg hij]
    by_cases hj : j < 24
    · rw [stCells_at _ _ j hj, stCells_at _ _ j hj]
      have e1 : ((j : Int) + 1) ≠ x := by rcases hx with h | h <;> omega
      have e2 : -((j : Int) + 1) ≠ x := by rcases hx with h | h <;> omega
      have m1 : ((j : Int) + 1) ∈ ta ++ x :: tb ↔ ((j : Int) + 1) ∈ ta ++ tb := by simp [e1]
      have m2 : -((j : Int) + 1) ∈ ta ++ x :: tb ↔ -((j : Int) + 1) ∈ ta ++ tb := by simp [e2]
      unfold litT
      simp only [m1, m2]
    · by_cases h24 : j = 24
      · subst h24; rw [stCells_last, stCells_last]
      · rw [Array.getElem?_eq_none (by omega), Array.getElem?_eq_none (by omega)]
theorem stCells_v (tr : List Int) (v v' : Value) : (stCells tr v).setIfInBounds 24 v' = stCells tr v' := by
  apply Array.ext_getElem?
  intro j
  have hs : (stCells tr v).size = 25 := by simp [stCells]
  rw [Array.getElem?_setIfInBounds]
  by_cases hj : 24 = j
  · subst hj
    rw [if_pos rfl, if_pos (by omega), stCells_last]
  · rw [if_neg hj]
    by_cases hj : j < 24
    · rw [stCells_at _ _ j hj, stCells_at _ _ j hj]
    · have hs' : (stCells tr v').size = 25 := by simp [stCells]
      rw [Array.getElem?_eq_none (by omega), Array.getElem?_eq_none (by omega)]
theorem cons_drop {tr : List Int} (h : Cons tr) (n j : Nat) (hnj : n ≤ j) : Cons (tr.take n ++ tr.drop j) := by
  have hs : (tr.take n ++ tr.drop j).Sublist tr := by
    conv => rhs; rw [← List.take_append_drop n tr]
    refine List.Sublist.append (List.Sublist.refl _) ?_
    rw [show j = n + (j - n) by omega, ← List.drop_drop]
    exact List.drop_sublist _ _
  exact ⟨fun x hx => h.1 x (hs.subset hx), h.2.sublist hs⟩

def QTrue (w : World) (e : Ending) (w' : World) : Prop := e = .returned (.bool true) ∧ ∃ n, w' = w.drewN n
set_option maxHeartbeats 1000000 in
theorem same_q (A A' : Option Addr) (n c n' c' : Nat) (zs : List Int) (w : World) (h : Ints w w.heap.size A n zs) (h' : Ints w w.heap.size A' n' zs) :
    Calls Tryz.prog 10 #[.slice A n c, .slice A' n' c'] w (QTrue w) := by
  obtain rfl : n' = n := h'.1.symm.trans h.1
  have hn := h.le
  go_enter Tryz.func10, Tryz.ntmps10
  go_wp2
  go_loopw [5] (fun i wr => ∃ k q : Nat, k ≤ n' ∧ i = .int .i64 k ∧ Hid (wr = w.drewN q)) (fun i _ => n' - (intOf i).toNat)
  case atStart => exact ⟨0, 0, Nat.zero_le _, rfl, Lib.hid rfl⟩
  case round =>
    obtain ⟨k, q, hk, rfl, hb⟩ := hrel
    by_cases hlt : k < n'
    · obtain ⟨ad, rfl, hb1, hc1⟩ := h.at_ hlt
      obtain ⟨ad', rfl, hb2, hc2⟩ := h'.at_ hlt
      have e1 : wr.cell? (ad.add k) = some (.int .i64 (zs.getD k 0)) := by rw [hb.out]; exact hc1
      have e2 : wr.cell? (ad'.add k) = some (.int .i64 (zs.getD k 0)) := by rw [hb.out]; exact hc2
      clear hc1 hc2
      generalize zs.getD k 0 = x at e1 e2
      have hlt0 : (0 : Int) ≤ (k : Int) := by omega
      have hlt1 : (k : Int) < (n' : Int) := by omega
      go_wp2
      go_quiet (fail)
      go_wp2
      go_roundw
      case rel => exact ⟨k + 1, q + _, by omega, by go_num, Lib.hid (by rw [hb.out]; exact (World.drewN_drewN _ _ _))⟩
      case measure => simp [intOf]; omega
    · go_wp2
      go_ret
      exact ⟨rfl, q, hb.out⟩

/-- append of one clause, in a plain region; the row lies beside the blocks of S. -/
theorem appC1S (w : World) {ops : Array Oper} {rest : List Oper} {o : Oper} {a : Act} {Q : Exit → Act → World → Prop} (hgd : o.guard = none) (s x : Operand) (t : TypeId)
    (ho : o.op = .call { callee := .builtin .append, args := #[s, x], argTypes := #[t, t] }) (base : Nat) (S : Nat → Prop) (ht : Tryz.prog.underlying t = some (.slice 39))
    (v : Value) (ls : List (List Int)) (hs : a.eval s = v) (hown : OwnC w base S v ls) (g c : Nat) (hx : a.eval x = .slice (some ⟨g, 0, none⟩) 1 c) (A' : Option Addr) (n' c' : Nat) (zs : List Int) (hc : w.cell? ⟨g, 0, none⟩ = some (.slice A' n' c')) (hnc : n' ≤ c') (hz : IntsP w S A' n' zs)
    (hl : ls.length ≤ 1099511627) (hbase : base ≤ w.heap.size) (hS : ∀ i, S i → i < w.heap.size ∧ v.ownBlock ≠ some i)
    (h : ∀ v' w', OwnC w' base S v' (ls ++ [zs]) → w.grownBy w' v.ownBlock → (v'.ownBlock = v.ownBlock ∨ v'.ownBlock = some w.heap.size) → wpList Tryz.prog ops Q rest (a.put o.dst v') w') : wpList Tryz.prog ops Q (o :: rest) a w := by
  obtain ⟨i0, hi, hz0, hz1, hz2⟩ := info_parts clauseInfo
  obtain ⟨h1, vs, h2, h3⟩ := hown
  refine wpList_append_any w hgd s x t ho base 39 i0 (.slice none 0 0) 1 24 ht hi hz0 hz1 hz2 rfl (by decide) v ls.length _ hs h2 (g + 1) _ 1 c [.slice A' n' c'] hx (one_newsC w _ g hc) (CellsP.one hnc hz).oneCell (by simp only [maxLen]; omega) (by omega) hbase ?_
  intro v' w' ho' hg' hor
  have hk : Keep S w w' := .grown hg' fun i hi => ⟨(hS i hi).1, fun e => (hS i hi).2 e.symm⟩
  refine h v' w' ⟨by rw [List.length_append, List.length_singleton]; simp only [maxLen]; omega, vs ++ [.slice A' n' c'], ?_, (h3.append (.one hnc hz)).keep hk⟩ hg' hor
  rw [List.length_append, List.length_singleton]
  exact ho'
end Go.Proofs.YtkkgdlfjblmbjaaGreatDoor
