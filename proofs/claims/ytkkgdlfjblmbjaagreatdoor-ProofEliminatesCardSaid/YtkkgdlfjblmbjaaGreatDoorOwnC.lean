/-
  Rows of clauses that the call itself made: 'OwnC'; append of clauses to such a row; slices.Clone of clauses.
-/
import Derived.Test.YtkkgdlfjblmbjaaGreatDoorOwn
namespace Go.Proofs.YtkkgdlfjblmbjaaGreatDoor
open Go.RowKit

theorem clauseInfo : (Tryz.prog.info? 39).map (fun i => (i.zero, i.size, i.bytes)) = some (some (.slice none 0 0), 1, 24) := by kernel_rfl

/-- The cells vs read as the clauses ls; what they lead to lies in blocks of S. -/
def CellsP (w : World) (S : Nat → Prop) (vs : List Value) (ls : List (List Int)) : Prop :=
  vs.length = ls.length ∧ ∀ k, k < ls.length → ∃ A' n' c', vs[k]? = some (.slice A' n' c') ∧ n' ≤ c' ∧ IntsP w S A' n' (ls.getD k [])

/-- v is a slice of clauses in a row of the call's own, from block base on; it reads ls. -/
def OwnC (w : World) (base : Nat) (S : Nat → Prop) (v : Value) (ls : List (List Int)) : Prop :=
  ls.length ≤ maxLen ∧ ∃ vs, w.ownsRow base 39 1 v ls.length vs ∧ CellsP w S vs ls

section
variable {w w' : World} {base n : Nat} {S S' : Nat → Prop} {v : Value} {vs us : List Value} {ls ms : List (List Int)} {A : Option Addr}
theorem CellsP.keep (h : CellsP w S vs ls) (hk : Keep S w w') : CellsP w' S vs ls := by
  refine ⟨h.1, fun k hl => ?_⟩
  obtain ⟨A', n', c', e, hc, hi⟩ := h.2 k hl
  exact ⟨A', n', c', e, hc, hi.keep hk⟩
theorem CellsP.mono (h : CellsP w S vs ls) (hS : ∀ i, S i → S' i) : CellsP w S' vs ls := by
  refine ⟨h.1, fun k hl => ?_⟩
  obtain ⟨A', n', c', e, hc, hi⟩ := h.2 k hl
  exact ⟨A', n', c', e, hc, hi.mono hS⟩
theorem CellsP.nil (w : World) (S : Nat → Prop) : CellsP w S [] [] := ⟨rfl, fun _ h => absurd h (Nat.not_lt_zero _)⟩
theorem CellsP.append (h : CellsP w S vs ls) (h' : CellsP w S us ms) : CellsP w S (vs ++ us) (ls ++ ms) := by
  refine ⟨by rw [List.length_append, List.length_append, h.1, h'.1], fun k hl => ?_⟩
  rw [List.length_append] at hl
  by_cases hk : k < ls.length
  · obtain ⟨A', n', c', e, hc, hi⟩ := h.2 k hk
    refine ⟨A', n', c', ?_, hc, ?_⟩
    · rw [List.getElem?_append_left (by rw [h.1]; exact hk)]; exact e
    · rw [List.getD_eq_getElem?_getD, List.getElem?_append_left hk, ← List.getD_eq_getElem?_getD]; exact hi
  · obtain ⟨A', n', c', e, hc, hi⟩ := h'.2 (k - ls.length) (by omega)
    refine ⟨A', n', c', ?_, hc, ?_⟩
    · rw [List.getElem?_append_right (by rw [h.1]; omega), h.1]; exact e
    · rw [List.getD_eq_getElem?_getD, List.getElem?_append_right (by omega), ← List.getD_eq_getElem?_getD]; exact hi
theorem CellsP.one {A' : Option Addr} {n' c' : Nat} {zs : List Int} (hc : n' ≤ c') (hi : IntsP w S A' n' zs) : CellsP w S [.slice A' n' c'] [zs] := by
  refine ⟨rfl, fun k hl => ?_⟩
  have : k = 0 := by simpa using hl
  subst this
  exact ⟨A', n', c', rfl, hc, hi⟩
theorem CellsP.oneCell (h : CellsP w S vs ls) : ∀ u ∈ vs, u.oneCell' = true := by
  intro u hu
  obtain ⟨k, hk, e⟩ := List.getElem_of_mem hu
  obtain ⟨A', n', c', e', _⟩ := h.2 k (by rw [← h.1]; exact hk)
  rw [List.getElem?_eq_getElem hk, e] at e'
  cases e'
  rfl

/-- A slice that came in reads as cells. -/
theorem Cls.cells {B : Nat} (h : Cls w B A n ls) : ∃ vs, Reads w B 1 A n vs ∧ CellsP w (· < B) vs ls := by
  obtain ⟨h1, _, vs, hr, hv⟩ := h
  refine ⟨vs, hr, by have := hr.1; omega, fun k hk => ?_⟩
  obtain ⟨A', n', c', e, hc, hi⟩ := hv k (by omega)
  exact ⟨A', n', c', e, hc, .of hi⟩
theorem OwnC.form (h : OwnC w base S v ls) : ∃ A c, v = .slice A ls.length c ∧ ls.length ≤ c := by
  obtain ⟨_, vs, h, _⟩ := h
  rcases h.2 with ⟨rfl, h0⟩ | ⟨g, cap, cur, rfl, _, _, hc, _⟩
  · exact ⟨none, 0, by rw [h0], by omega⟩
  · exact ⟨_, _, rfl, hc⟩
theorem OwnC.lt (h : OwnC w base S v ls) : ∀ k, v.ownBlock = some k → base ≤ k ∧ k < w.heap.size := by
  obtain ⟨_, vs, h, _⟩ := h
  exact h.lt
theorem OwnC.kept {row : Option Nat} (h : OwnC w base S v ls) (hg : w.grownBy w' row) (hne : v.ownBlock = none ∨ v.ownBlock ≠ row) (hS : ∀ i, S i → i < w.heap.size ∧ some i ≠ row) : OwnC w' base S v ls := by
  obtain ⟨h1, vs, h2, h3⟩ := h
  exact ⟨h1, vs, h2.kept hg hne, h3.keep (.grown hg hS)⟩
theorem OwnC.below (h : OwnC w base S v ls) (hb : Below w.heap.size w w') (hS : ∀ i, S i → i < w.heap.size) : OwnC w' base S v ls :=
  h.kept (row := none) ⟨hb.os, hb.tape, hb.output, hb.size, fun i hi _ => hb.block i hi⟩ (by cases v.ownBlock <;> simp) (fun i hi => ⟨hS i hi, by simp⟩)
theorem OwnC.mono (h : OwnC w base S v ls) (hS : ∀ i, S i → S' i) : OwnC w base S' v ls := by
  obtain ⟨h1, vs, h2, h3⟩ := h
  exact ⟨h1, vs, h2, h3.mono hS⟩
theorem OwnC.more (h : OwnC w base S v ls) {b' : Nat} (hb : b' ≤ base) : OwnC w b' S v ls := by
  obtain ⟨h1, vs, h2, h3⟩ := h
  refine ⟨h1, vs, ⟨h2.1, ?_⟩, h3⟩
  rcases h2.2 with h0 | ⟨g, cap, cur, hv, hg, r⟩
  · exact .inl h0
  · exact .inr ⟨g, cap, cur, hv, Nat.le_trans hb hg, r⟩
theorem OwnC.cls {c : Nat} (h : OwnC w base S (.slice A n c) ls) (hS : ∀ i, S i → i < w.heap.size) : Cls w w.heap.size A n ls := by
  have hn : n = ls.length := by
    obtain ⟨A', c', e, _⟩ := h.form
    cases e
    rfl
  subst hn
  obtain ⟨h1, vs, h2, h3⟩ := h
  refine ⟨rfl, h1, vs, Reads.of_own h2, fun k hk => ?_⟩
  obtain ⟨A', n', c', e, hc, hi⟩ := h3.2 k hk
  exact ⟨A', n', c', e, hc, hi.ints hS⟩
theorem ownC_empty (w : World) (base : Nat) (S : Nat → Prop) (hb : base ≤ w.heap.size) : OwnC (w.alloc (.cells #[] 39)) base S (.slice (some ⟨w.heap.size, 0, none⟩) 0 0) [] :=
  ⟨Nat.zero_le _, [], World.ownsRow_lit (e := 39) (size := 1) w #[] 0 hb (Nat.zero_le _) rfl, .nil _ _⟩
theorem ownC_nil (w : World) (base : Nat) (S : Nat → Prop) : OwnC w base S (.slice none 0 0) [] := ⟨Nat.zero_le _, [], World.ownsRow_nil _ _ _ _, .nil _ _⟩
end

theorem one_newsC (w : World) (u : Value) (g : Nat) (hc : w.cell? ⟨g, 0, none⟩ = some u) : Reads w (g + 1) 1 (some ⟨g, 0, none⟩) 1 [u] := by
  refine ⟨rfl, fun _ => ⟨_, rfl, Nat.lt_succ_self _, fun j x hx => ?_⟩⟩
  match j, hx with
  | 0, hx => simp at hx; subst hx; simpa [Addr.add] using hc

/-- append of clauses, in a plain region. -/
theorem appC (w : World) {ops : Array Oper} {rest : List Oper} {o : Oper} {a : Act} {Q : Exit → Act → World → Prop} (hgd : o.guard = none) (s x : Operand) (t : TypeId)
    (ho : o.op = .call { callee := .builtin .append, args := #[s, x], argTypes := #[t, t] }) (base : Nat) (S : Nat → Prop) (ht : Tryz.prog.underlying t = some (.slice 39))
    (v : Value) (ls : List (List Int)) (hs : a.eval s = v) (hown : OwnC w base S v ls) (B : Nat) (A : Option Addr) (m c : Nat) (us : List Value) (ms : List (List Int)) (hx : a.eval x = .slice A m c) (hr : Reads w B 1 A m us) (hu : CellsP w S us ms)
    (hl : ls.length + ms.length ≤ 1099511627776) (hbase : base ≤ w.heap.size) (hS : ∀ i, S i → i < base)
    (h : ∀ v' w', OwnC w' base S v' (ls ++ ms) → w.grownBy w' v.ownBlock → (v'.ownBlock = v.ownBlock ∨ v'.ownBlock = some w.heap.size) → wpList Tryz.prog ops Q rest (a.put o.dst v') w') : wpList Tryz.prog ops Q (o :: rest) a w := by
  obtain ⟨i0, hi, hz0, hz1, hz2⟩ := info_parts clauseInfo
  obtain ⟨h1, vs, h2, h3⟩ := hown
  have hm : m = ms.length := by have := hr.1; have := hu.1; omega
  subst hm
  refine wpList_append_any w hgd s x t ho base 39 i0 (.slice none 0 0) 1 24 ht hi hz0 hz1 hz2 rfl (by decide) v ls.length _ hs h2 B A ms.length c us hx hr hu.oneCell (by simp only [maxLen]; omega) (by omega) hbase ?_
  intro v' w' ho' hg' hor
  have hk : Keep S w w' := .grown hg' fun i hi => ⟨Nat.lt_of_lt_of_le (hS i hi) hbase, fun e => by have := h2.lt i e.symm; have := hS i hi; omega⟩
  refine h v' w' ⟨by rw [List.length_append]; simp only [maxLen]; omega, vs ++ us, ?_, (h3.append hu).keep hk⟩ hg' hor
  rw [List.length_append]
  exact ho'

/-- append of one clause, in a plain region. -/
theorem appC1 (w : World) {ops : Array Oper} {rest : List Oper} {o : Oper} {a : Act} {Q : Exit → Act → World → Prop} (hgd : o.guard = none) (s x : Operand) (t : TypeId)
    (ho : o.op = .call { callee := .builtin .append, args := #[s, x], argTypes := #[t, t] }) (base : Nat) (S : Nat → Prop) (ht : Tryz.prog.underlying t = some (.slice 39))
    (v : Value) (ls : List (List Int)) (hs : a.eval s = v) (hown : OwnC w base S v ls) (g c : Nat) (hx : a.eval x = .slice (some ⟨g, 0, none⟩) 1 c) (A' : Option Addr) (n' c' : Nat) (zs : List Int) (hc : w.cell? ⟨g, 0, none⟩ = some (.slice A' n' c')) (hnc : n' ≤ c') (hz : IntsP w S A' n' zs)
    (hl : ls.length ≤ 1099511627 ) (hbase : base ≤ w.heap.size) (hS : ∀ i, S i → i < base)
    (h : ∀ v' w', OwnC w' base S v' (ls ++ [zs]) → w.grownBy w' v.ownBlock → (v'.ownBlock = v.ownBlock ∨ v'.ownBlock = some w.heap.size) → wpList Tryz.prog ops Q rest (a.put o.dst v') w') : wpList Tryz.prog ops Q (o :: rest) a w :=
  appC w hgd s x t ho base S ht v ls hs hown (g + 1) _ 1 c [.slice A' n' c'] [zs] hx (one_newsC w _ g hc) (.one hnc hz) (by simp only [List.length_singleton]; omega) hbase hS h

theorem isNil_none (n c : Nat) (w : World) : (binOp .eql 22 (.slice none n c) (.slice none 0 0)).run Tryz.prog w = .ok (.bool true) w := by kernel_rfl
theorem isNil_some (ad : Addr) (n c : Nat) (w : World) : (binOp .eql 22 (.slice (some ad) n c) (.slice none 0 0)).run Tryz.prog w = .ok (.bool false) w := by kernel_rfl
def ClonePost (w : World) (B : Nat) (ls : List (List Int)) (e : Ending) (w' : World) : Prop :=
  ∃ v, e = .returned v ∧ OwnC w' w.heap.size (· < B) v ls ∧ Below w.heap.size w w'

end Go.Proofs.YtkkgdlfjblmbjaaGreatDoor
