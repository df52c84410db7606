/-
  Rows of slices of ints ([][]int) that the call itself made: 'OwnD'; append of one slice to such a row.
-/
import Derived.Test.YtkkgdlfjblmbjaaGreatDoorSolveM
namespace Go.Proofs.YtkkgdlfjblmbjaaGreatDoor
open Go.RowKit

theorem intsInfo : (Tryz.prog.info? 28).map (fun i => (i.zero, i.size, i.bytes)) = some (some (.slice none 0 0), 1, 24) := by kernel_rfl

/-- v is a slice of clauses in a row of the call's own, from block base on; it reads ls. -/
def OwnD (w : World) (base : Nat) (S : Nat → Prop) (v : Value) (ls : List (List Int)) : Prop :=
  ls.length ≤ maxLen ∧ ∃ vs, w.ownsRow base 28 1 v ls.length vs ∧ CellsP w S vs ls

section
variable {w w' : World} {base n : Nat} {S S' : Nat → Prop} {v : Value} {vs us : List Value} {ls ms : List (List Int)} {A : Option Addr}
theorem OwnD.form (h : OwnD w base S v ls) : ∃ A c, v = .slice A ls.length c ∧ ls.length ≤ c := by
  obtain ⟨_, vs, h, _⟩ := h
  rcases h.2 with ⟨rfl, h0⟩ | ⟨g, cap, cur, rfl, _, _, hc, _⟩
  · exact ⟨none, 0, by rw [h0], by omega⟩
  · exact ⟨_, _, rfl, hc⟩
theorem OwnD.lt (h : OwnD w base S v ls) : ∀ k, v.ownBlock = some k → base ≤ k ∧ k < w.heap.size := by
  obtain ⟨_, vs, h, _⟩ := h
  exact h.lt
theorem OwnD.kept {row : Option Nat} (h : OwnD w base S v ls) (hg : w.grownBy w' row) (hne : v.ownBlock = none ∨ v.ownBlock ≠ row) (hS : ∀ i, S i → i < w.heap.size ∧ some i ≠ row) : OwnD w' base S v ls := by
  obtain ⟨h1, vs, h2, h3⟩ := h
  exact ⟨h1, vs, h2.kept hg hne, h3.keep (.grown hg hS)⟩
theorem OwnD.below (h : OwnD w base S v ls) (hb : Below w.heap.size w w') (hS : ∀ i, S i → i < w.heap.size) : OwnD w' base S v ls :=
  h.kept (row := none) ⟨hb.os, hb.tape, hb.output, hb.size, fun i hi _ => hb.block i hi⟩ (by cases v.ownBlock <;> simp) (fun i hi => ⟨hS i hi, by simp⟩)
theorem OwnD.mono (h : OwnD w base S v ls) (hS : ∀ i, S i → S' i) : OwnD w base S' v ls := by
  obtain ⟨h1, vs, h2, h3⟩ := h
  exact ⟨h1, vs, h2, h3.mono hS⟩
theorem OwnD.more (h : OwnD w base S v ls) {b' : Nat} (hb : b' ≤ base) : OwnD w b' S v ls := by
  obtain ⟨h1, vs, h2, h3⟩ := h
  refine ⟨h1, vs, ⟨h2.1, ?_⟩, h3⟩
  rcases h2.2 with h0 | ⟨g, cap, cur, hv, hg, r⟩
  · exact .inl h0
  · exact .inr ⟨g, cap, cur, hv, Nat.le_trans hb hg, r⟩
theorem OwnD.cls {c : Nat} (h : OwnD w base S (.slice A n c) ls) (hS : ∀ i, S i → i < w.heap.size) : Cls w w.heap.size A n ls := by
  have hn : n = ls.length := by
    obtain ⟨A', c', e, _⟩ := h.form
    cases e
    rfl
  subst hn
  obtain ⟨h1, vs, h2, h3⟩ := h
  refine ⟨rfl, h1, vs, Reads.of_own h2, fun k hk => ?_⟩
  obtain ⟨A', n', c', e, hc, hi⟩ := h3.2 k hk
  exact ⟨A', n', c', e, hc, hi.ints hS⟩
theorem ownD_empty (w : World) (base : Nat) (S : Nat → Prop) (hb : base ≤ w.heap.size) : OwnD (w.alloc (.cells #[] 28)) base S (.slice (some ⟨w.heap.size, 0, none⟩) 0 0) [] :=
  ⟨Nat.zero_le _, [], World.ownsRow_lit (e := 28) (size := 1) w #[] 0 hb (Nat.zero_le _) rfl, .nil _ _⟩
theorem ownD_nil (w : World) (base : Nat) (S : Nat → Prop) : OwnD w base S (.slice none 0 0) [] := ⟨Nat.zero_le _, [], World.ownsRow_nil _ _ _ _, .nil _ _⟩
end


/-- append of one slice of ints, in a plain region; the row lies beside the blocks of S. -/
theorem appD1H (w : World) {ops : Array Oper} {rest : List Oper} {o : Oper} {a : Act} {Q : Exit → Act → World → Prop} (hgd : o.guard = none) (s x : Operand) (t : TypeId)
    (ho : o.op = .call { callee := .builtin .append, args := #[s, x], argTypes := #[t, t] }) (base : Nat) (S : Nat → Prop) (ht : Tryz.prog.underlying t = some (.slice 28))
    (v : Value) (ls : List (List Int)) (hs : a.eval s = v) (hown : OwnD w base S v ls) (g c : Nat) (hx : a.eval x = .slice (some ⟨g, 0, none⟩) 1 c) (A' : Option Addr) (n' c' : Nat) (zs : List Int) (hc : w.cell? ⟨g, 0, none⟩ = some (.slice A' n' c')) (hnc : n' ≤ c') (hz : IntsP w S A' n' zs)
    (hl : ls.length ≤ 1099511627) (hbase : base ≤ w.heap.size) (hS : ∀ i, S i → i < w.heap.size ∧ v.ownBlock ≠ some i)
    (h : ∀ v' w', OwnD w' base S v' (ls ++ [zs]) → w.grownBy w' v.ownBlock → (v'.ownBlock = v.ownBlock ∨ v'.ownBlock = some w.heap.size) → Held (wpList Tryz.prog ops Q rest (a.put o.dst v') w')) : wpList Tryz.prog ops Q (o :: rest) a w := by
  obtain ⟨i0, hi, hz0, hz1, hz2⟩ := info_parts intsInfo
  obtain ⟨h1, vs, h2, h3⟩ := hown
  refine wpList_append_any w hgd s x t ho base 28 i0 (.slice none 0 0) 1 24 ht hi hz0 hz1 hz2 rfl (by decide) v ls.length _ hs h2 (g + 1) _ 1 c [.slice A' n' c'] hx (one_newsC w _ g hc) (CellsP.one hnc hz).oneCell (by simp only [maxLen]; omega) (by omega) hbase ?_
  intro v' w' ho' hg' hor
  have hk : Keep S w w' := .grown hg' fun i hi => ⟨(hS i hi).1, fun e => (hS i hi).2 e.symm⟩
  refine (h v' w' ⟨by rw [List.length_append, List.length_singleton]; simp only [maxLen]; omega, vs ++ [.slice A' n' c'], ?_, (h3.append (.one hnc hz)).keep hk⟩ hg' hor).go
  rw [List.length_append, List.length_singleton]
  exact ho'
theorem OwnD.cut {w : World} {base n c : Nat} {S : Nat → Prop} {A : Option Addr} {ls : List (List Int)} (h : OwnD w base S (.slice A n c) ls) {m : Nat} (hm : m ≤ n) : OwnD w base S (.slice A m c) (ls.take m) := by
  have hn : n = ls.length := by
    obtain ⟨A', c', e, _⟩ := h.form
    cases e
    rfl
  subst hn
  obtain ⟨h1, vs, h2, h3⟩ := h
  have hl : (ls.take m).length = m := by rw [List.length_take, Nat.min_eq_left hm]
  refine ⟨by rw [hl]; exact Nat.le_trans hm h1, vs.take m, ?_, by rw [hl, List.length_take, h3.1, Nat.min_eq_left hm], fun k hk => ?_⟩
  · rw [hl]
    have := ownsRow_cut h2 hm
    rw [Nat.mul_one] at this
    exact this
  · rw [hl] at hk
    obtain ⟨A', n', c', e, hc, hi⟩ := h3.2 k (Nat.lt_of_lt_of_le hk hm)
    refine ⟨A', n', c', by rw [List.getElem?_take_of_lt hk]; exact e, hc, ?_⟩
    rw [List.getD_eq_getElem?_getD, List.getElem?_take_of_lt hk, ← List.getD_eq_getElem?_getD]
    exact hi
end Go.Proofs.YtkkgdlfjblmbjaaGreatDoor
