/-
  Rows of ints that the call itself made: 'Own'; append of one int to such a row.
-/
import Derived.Test.YtkkgdlfjblmbjaaGreatDoorProg
import Derived.Test.YtkkgdlfjblmbjaaGreatDoorWords
import Derived.WalkKit
import Derived.WalkSpells
import Derived.WalkLawsBesides
import Derived.Lib.Hide
namespace Go.Proofs.YtkkgdlfjblmbjaaGreatDoor
open Go.RowKit

theorem intInfo : (Tryz.prog.info? 3).map (fun i => (i.zero, i.size, i.bytes)) = some (some (.int .i64 0), 1, 8) := by kernel_rfl

/-- v is a slice of ints in a row of the call's own, from block base on; it reads zs. -/
def Own (w : World) (base : Nat) (v : Value) (zs : List Int) : Prop :=
  w.ownsRow base 3 1 v zs.length (zs.map (Value.int .i64)) ∧ zs.length ≤ maxLen ∧ ∀ z ∈ zs, I64 z

section
variable {w w' : World} {base : Nat} {v : Value} {zs : List Int}
theorem Own.nil (w : World) (base : Nat) : Own w base (.slice none 0 0) [] := ⟨World.ownsRow_nil _ _ _ _, Nat.zero_le _, by simp⟩
theorem Own.form (h : Own w base v zs) : ∃ A c, v = .slice A zs.length c ∧ zs.length ≤ c := by
  rcases h.1.2 with ⟨rfl, h0⟩ | ⟨g, cap, cur, rfl, _, _, hc, _⟩
  · exact ⟨none, 0, by rw [h0], by omega⟩
  · exact ⟨_, _, rfl, hc⟩
theorem Own.lt (h : Own w base v zs) : ∀ k, v.ownBlock = some k → base ≤ k ∧ k < w.heap.size := h.1.lt
theorem Own.kept {row : Option Nat} (h : Own w base v zs) (hg : w.grownBy w' row) (hne : v.ownBlock = none ∨ v.ownBlock ≠ row) : Own w' base v zs := ⟨h.1.kept hg hne, h.2⟩
theorem Own.alloc (h : Own w base v zs) (o : Obj) : Own (w.alloc o) base v zs := ⟨h.1.alloc o, h.2⟩
theorem Own.drew (h : Own w base v zs) : Own w.drew base v zs := h
theorem Own.below (h : Own w base v zs) (hb : Below w.heap.size w w') : Own w' base v zs :=
  h.kept (row := none) ⟨hb.os, hb.tape, hb.output, hb.size, fun i hi _ => hb.block i hi⟩ (by cases v.ownBlock <;> simp)
theorem Own.ints {A : Option Addr} {n c : Nat} (h : Own w base (.slice A n c) zs) : Ints w w.heap.size A n zs := by
  have hn : n = zs.length := by
    obtain ⟨A', c', e, _⟩ := h.form
    cases e
    rfl
  subst hn
  exact ⟨rfl, h.2.1, h.2.2, Reads.of_own h.1⟩
theorem Own.ne_blk {g : Nat} {t : TypeId} {cs : Array Value} (h : Own w base v zs) (hg : Blk w g t cs) (hne : 3 ≠ t) : v.ownBlock ≠ some g := own_blk_ne h.1 hg hne
theorem Own.setBlk {g : Nat} {t : TypeId} {cs : Array Value} (h : Own w base v zs) (hg : Blk w g t cs) (hne : 3 ≠ t) (i : Nat) (u : Value) : Own (w.setCell ⟨g, i, none⟩ u) base v zs :=
  h.kept (row := some g) (only_setCell (World.grownBy.refl w _) (.inl rfl) u) (.inr (h.ne_blk hg hne))
theorem Own.more (h : Own w base v zs) {b' : Nat} (hb : b' ≤ base) : Own w b' v zs := by
  refine ⟨⟨h.1.1, ?_⟩, h.2⟩
  rcases h.1.2 with h0 | ⟨g, cap, cur, hv, hg, r⟩
  · exact .inl h0
  · exact .inr ⟨g, cap, cur, hv, Nat.le_trans hb hg, r⟩
end

theorem one_news (w : World) (z : Int) (g : Nat) (hc : w.cell? ⟨g, 0, none⟩ = some (.int .i64 z)) : Reads w (g + 1) 1 (some ⟨g, 0, none⟩) 1 [Value.int .i64 z] := by
  refine ⟨rfl, fun _ => ⟨_, rfl, Nat.lt_succ_self _, fun j u hu => ?_⟩⟩
  match j, hu with
  | 0, hu => simp at hu; subst hu; simpa [Addr.add] using hc

theorem ints_one {w : World} {x : Int} {g : Nat} (hc : w.cell? ⟨g, 0, none⟩ = some (.int .i64 x)) (hx : I64 x) : Ints w w.heap.size (some ⟨g, 0, none⟩) 1 [x] := by
  refine ⟨rfl, by simp [maxLen], fun z hz => by rw [List.mem_singleton.1 hz]; exact hx, rfl, fun _ => ⟨_, rfl, World.block_lt_of_cell? w _ hc, fun j u hu => ?_⟩⟩
  match j, hu with
  | 0, hu => simp at hu; subst hu; simpa [Addr.add] using hc
/-- An empty literal's row. -/
theorem own_empty (w : World) (base : Nat) (hb : base ≤ w.heap.size) : Own (w.alloc (.cells #[] 3)) base (.slice (some ⟨w.heap.size, 0, none⟩) 0 0) [] :=
  ⟨World.ownsRow_lit (e := 3) (size := 1) w #[] 0 hb (Nat.zero_le _) rfl, Nat.zero_le _, by simp⟩

theorem Own.appended {w' : World} {base : Nat} {zs ys : List Int} {v' : Value} (h1 : ∀ z ∈ zs, I64 z) (h2 : ∀ z ∈ ys, I64 z) (hl : zs.length + ys.length ≤ 1099511627776)
    (ho' : w'.ownsRow base 3 1 v' (zs.length + ys.length) (zs.map (Value.int .i64) ++ ys.map (Value.int .i64))) : Own w' base v' (zs ++ ys) := by
  refine ⟨?_, ?_, ?_⟩
  · rw [List.length_append, List.map_append]; exact ho'
  · rw [List.length_append]; simp only [maxLen]; omega
  · intro y hy
    rcases List.mem_append.1 hy with hy | hy
    · exact h1 y hy
    · exact h2 y hy

/-- append of a slice of ints, in a plain region. -/
theorem appS (w : World) {ops : Array Oper} {rest : List Oper} {o : Oper} {a : Act} {Q : Exit → Act → World → Prop} (hgd : o.guard = none) (s x : Operand) (t : TypeId)
    (ho : o.op = .call { callee := .builtin .append, args := #[s, x], argTypes := #[t, t] }) (base : Nat) (ht : Tryz.prog.underlying t = some (.slice 3))
    (v : Value) (zs : List Int) (hs : a.eval s = v) (hown : Own w base v zs) (A : Option Addr) (m c : Nat) (ys : List Int) (hx : a.eval x = .slice A m c) (hr : Ints w w.heap.size A m ys)
    (hl : zs.length + ys.length ≤ 1099511627776) (hbase : base ≤ w.heap.size)
    (h : ∀ v' w', Own w' base v' (zs ++ ys) → w.grownBy w' v.ownBlock → (v'.ownBlock = v.ownBlock ∨ v'.ownBlock = some w.heap.size) → wpList Tryz.prog ops Q rest (a.put o.dst v') w') : wpList Tryz.prog ops Q (o :: rest) a w := by
  obtain ⟨i0, hi, hz0, hz1, hz2⟩ := info_parts intInfo
  obtain rfl := hr.1
  refine wpList_append_any w hgd s x t ho base 3 i0 (.int .i64 0) 1 8 ht hi hz0 hz1 hz2 rfl (by decide) v zs.length _ hs hown.1 w.heap.size A ys.length c (ys.map (Value.int .i64)) hx hr.2.2.2 (by intro u hu; obtain ⟨z, _, rfl⟩ := List.mem_map.1 hu; rfl) (by simp only [maxLen]; omega) (by omega) hbase ?_
  intro v' w' ho' hg' hor
  exact h v' w' (Own.appended hown.2.2 hr.2.2.1 hl ho') hg' hor
/-- The same inside a region that draws its order. -/
theorem stepS (w : World) {ops : Array Oper} {o : Oper} {a : Act} {K : Act → World → Prop} {Q : Exit → Act → World → Prop} {E : Prop} (hgd : o.guard = none) (s x : Operand) (t : TypeId)
    (ho : o.op = .call { callee := .builtin .append, args := #[s, x], argTypes := #[t, t] }) (base : Nat) (ht : Tryz.prog.underlying t = some (.slice 3))
    (v : Value) (zs : List Int) (hs : a.eval s = v) (hown : Own w base v zs) (A : Option Addr) (m c : Nat) (ys : List Int) (hx : a.eval x = .slice A m c) (hr : Ints w w.heap.size A m ys)
    (hl : zs.length + ys.length ≤ 1099511627776) (hbase : base ≤ w.heap.size)
    (h : ∀ v' w', Own w' base v' (zs ++ ys) → w.grownBy w' v.ownBlock → (v'.ownBlock = v.ownBlock ∨ v'.ownBlock = some w.heap.size) → K (a.put o.dst v') w') :
    if Region.wanted o (yielded ops a.tmps) = true then Oper.wp Tryz.prog o a w K Q else E := by
  obtain ⟨i0, hi, hz0, hz1, hz2⟩ := info_parts intInfo
  obtain rfl := hr.1
  refine step_append_any w hgd s x t ho base 3 i0 (.int .i64 0) 1 8 ht hi hz0 hz1 hz2 rfl (by decide) v zs.length _ hs hown.1 w.heap.size A ys.length c (ys.map (Value.int .i64)) hx hr.2.2.2 (by intro u hu; obtain ⟨z, _, rfl⟩ := List.mem_map.1 hu; rfl) (by simp only [maxLen]; omega) (by omega) hbase ?_
  intro v' w' ho' hg' hor
  exact h v' w' (Own.appended hown.2.2 hr.2.2.1 hl ho') hg' hor

/-- append of one int, in a plain region. -/
theorem app1 (w : World) {ops : Array Oper} {rest : List Oper} {o : Oper} {a : Act} {Q : Exit → Act → World → Prop} (hgd : o.guard = none) (s x : Operand) (t : TypeId)
    (ho : o.op = .call { callee := .builtin .append, args := #[s, x], argTypes := #[t, t] }) (base : Nat) (ht : Tryz.prog.underlying t = some (.slice 3))
    (v : Value) (zs : List Int) (hs : a.eval s = v) (hown : Own w base v zs) (g c : Nat) (z : Int) (hx : a.eval x = .slice (some ⟨g, 0, none⟩) 1 c) (hc : w.cell? ⟨g, 0, none⟩ = some (.int .i64 z)) (hz : I64 z)
    (hl : zs.length ≤ 1099511627776) (hbase : base ≤ w.heap.size)
    (h : ∀ v' w', Own w' base v' (zs ++ [z]) → w.grownBy w' v.ownBlock → (v'.ownBlock = v.ownBlock ∨ v'.ownBlock = some w.heap.size) → wpList Tryz.prog ops Q rest (a.put o.dst v') w') : wpList Tryz.prog ops Q (o :: rest) a w := by
  obtain ⟨i0, hi, hz0, hz1, hz2⟩ := info_parts intInfo
  refine wpList_append_any w hgd s x t ho base 3 i0 (.int .i64 0) 1 8 ht hi hz0 hz1 hz2 rfl (by decide) v zs.length _ hs hown.1 (g + 1) (some ⟨g, 0, none⟩) 1 c [.int .i64 z] hx (one_news w z g hc) (by simp; rfl) (by simp only [maxLen]; omega) (by omega) hbase ?_
  intro v' w' ho' hg' hor
  refine h v' w' ⟨?_, ?_, ?_⟩ hg' hor
  · rw [List.length_append, List.map_append]; exact ho'
  · rw [List.length_append]; simp only [maxLen, List.length_singleton]; omega
  · intro y hy
    rcases List.mem_append.1 hy with hy | hy
    · exact hown.2.2 y hy
    · rw [List.mem_singleton.1 hy]; exact hz
end Go.Proofs.YtkkgdlfjblmbjaaGreatDoor
