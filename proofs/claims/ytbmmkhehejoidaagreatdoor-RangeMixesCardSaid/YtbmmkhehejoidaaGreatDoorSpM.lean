/-
  Rows of spans (structs of two ints) in memory.
-/
import Derived.Test.YtbmmkhehejoidaaGreatDoorRgPure
import Derived.Test.YtbmmkhehejoidaaGreatDoorRefCheck
import Derived.Shelf.GgSortFunc.InsertionK
import Derived.Lib.SlKept
import Derived.Lib.SliceRun
namespace Go.Proofs.YtbmmkhehejoidaaGreatDoor
open Go.RowKit

def spV (s : Nat × Nat) : List Value := [.int .i64 (s.1 : Int), .int .i64 (s.2 : Int)]
def spsV (l : List (Nat × Nat)) : List Value := l.flatMap spV
theorem spsV_len : ∀ l : List (Nat × Nat), (spsV l).length = l.length * 2
  | [] => rfl
  | q :: l => by
    show (spV q ++ spsV l).length = _
    rw [List.length_append, spsV_len l, List.length_cons]
    show 2 + _ = _
    omega
theorem spsV_at : ∀ (l : List (Nat × Nat)) (k j : Nat), k < l.length → j < 2 → (spsV l)[k * 2 + j]? = (spV l[k]!)[j]?
  | [], k, j, h, _ => absurd h (Nat.not_lt_zero k)
  | q :: l, 0, j, _, hj => by
    show (spV q ++ spsV l)[0 * 2 + j]? = _
    rw [List.getElem?_append_left (by show 0 * 2 + j < 2; omega), Nat.zero_mul, Nat.zero_add]
    rfl
  | q :: l, k + 1, j, h, hj => by
    show (spV q ++ spsV l)[(k + 1) * 2 + j]? = _
    rw [List.getElem?_append_right (by show 2 ≤ (k + 1) * 2 + j; omega), show (k + 1) * 2 + j - (spV q).length = k * 2 + j by show (k + 1) * 2 + j - 2 = _; omega, spsV_at l k j (by simp at h; omega) hj]
    simp
theorem spsV_app (a b : List (Nat × Nat)) : spsV (a ++ b) = spsV a ++ spsV b := by unfold spsV; rw [List.flatMap_append]
/-- A slice of spans. -/
def OwnP (w : World) (base : Nat) (v : Value) (l : List (Nat × Nat)) : Prop := w.ownsRow base 67 2 v l.length (spsV l)
/-- A row's head, by its elements. -/
structure RowS (w : World) (g cap : Nat) (d : Array (Nat × Nat)) : Prop where
  is : ∃ cur, Blk w g 67 cur ∧ cur.size = cap * 2 ∧ d.size ≤ cap ∧ ∀ i, i < d.size → cur[i * 2]? = some (.int .i64 (d[i]!.1 : Int)) ∧ cur[i * 2 + 1]? = some (.int .i64 (d[i]!.2 : Int))
section
variable {w w' : World} {base base' g cap : Nat} {v : Value} {l : List (Nat × Nat)} {d : Array (Nat × Nat)}
theorem OwnP.below (h : OwnP w base v l) (hb : Below w.heap.size w w') : OwnP w' base v l :=
  World.ownsRow.kept h (row := none) ⟨hb.os, hb.tape, hb.output, hb.size, fun i hi _ => hb.block i hi⟩ (by cases v.ownBlock <;> simp)
theorem OwnP.kept {r : Option Nat} (h : OwnP w base v l) (hg : w.grownBy w' r) (hr : v.ownBlock = none ∨ v.ownBlock ≠ r) : OwnP w' base v l := World.ownsRow.kept h hg hr
theorem OwnP.mono (h : OwnP w base v l) (hb : base' ≤ base) : OwnP w base' v l := by
  refine ⟨h.1, ?_⟩
  rcases h.2 with h2 | ⟨g, cap, cur, e, hg, r⟩
  · exact .inl h2
  · exact .inr ⟨g, cap, cur, e, Nat.le_trans hb hg, r⟩
theorem ownP_nil (w : World) (base : Nat) : OwnP w base (.slice none 0 0) [] := World.ownsRow_nil _ _ _ _
theorem OwnP.len (h : OwnP w base v l) : ∃ A c, v = .slice A l.length c := by
  rcases h.2 with ⟨rfl, h0⟩ | ⟨g, cap, cur, rfl, _⟩
  · exact ⟨none, 0, by rw [h0]⟩
  · exact ⟨_, _, rfl⟩
/-- Nil, or a row. -/
theorem OwnP.form (h : OwnP w base v l) : (v = .slice none 0 0 ∧ l = []) ∨ ∃ g cap, v = .slice (some ⟨g, 0, none⟩) l.length cap ∧ base ≤ g ∧ cap ≤ maxLen ∧ RowS w g cap l.toArray := by
  rcases h.2 with ⟨rfl, h0⟩ | ⟨g, cap, cur, rfl, hg, hgc, hle, hcm, hcs, hct⟩
  · exact .inl ⟨rfl, List.length_eq_zero_iff.1 h0⟩
  · refine .inr ⟨g, cap, rfl, hg, hcm, cur, hgc, hcs, by simpa using hle, fun i hi => ?_⟩
    have hi' : i < l.length := by simpa using hi
    have each : ∀ j, j < 2 → cur[i * 2 + j]? = (spV l[i]!)[j]? := fun j hj => by
      rw [← spsV_at l i j hi' hj, ← hct, List.getElem?_take_of_lt (by omega)]
      simp
    have e : l.toArray[i]! = l[i]! := by simp
    rw [e]
    exact ⟨each 0 (by omega), each 1 (by omega)⟩
theorem RowS.lt (h : RowS w g cap d) : g < w.heap.size := by obtain ⟨cur, hk, _⟩ := h.is; exact hk.lt
theorem RowS.cap_ (h : RowS w g cap d) : d.size ≤ cap := by obtain ⟨cur, hk, _, hd, _⟩ := h.is; exact hd
theorem RowS.cell (h : RowS w g cap d) {i : Nat} (hi : i < d.size) : w.cell? ⟨g, i * 2, none⟩ = some (.int .i64 (d[i]!.1 : Int)) ∧ w.cell? ⟨g, i * 2 + 1, none⟩ = some (.int .i64 (d[i]!.2 : Int)) := by
  obtain ⟨cur, hk, _, _, hc⟩ := h.is
  obtain ⟨c0, c1⟩ := hc i hi
  exact ⟨(hk.cell _).trans c0, (hk.cell _).trans c1⟩
theorem RowS.frozen (h : RowS w g cap d) (i : Nat) : w.frozen? ⟨g, i, none⟩ = false := by obtain ⟨cur, hk, _⟩ := h.is; exact hk.frozen i
theorem RowS.some_ (h : RowS w g cap d) {i : Nat} (hi : i < cap * 2) : (w.cell? ⟨g, i, none⟩).isSome = true := by
  obtain ⟨cur, hk, hs, _⟩ := h.is
  rw [hk.cell i, Array.getElem?_eq_getElem (by omega)]
  rfl
theorem RowS.below {B : Nat} (h : RowS w g cap d) (hb : Below B w w') (hg : g < B) : RowS w' g cap d := by
  obtain ⟨cur, hk, r⟩ := h.is
  exact ⟨cur, hk.below hb hg, r⟩
theorem RowS.drewN (h : RowS w g cap d) (n : Nat) : RowS (w.drewN n) g cap d := h.below (below_drewN (Below.refl w.heap.size w) n) h.lt
theorem RowS.alloc (h : RowS w g cap d) (o : Obj) : RowS (w.alloc o) g cap d := h.below ((Below.refl w.heap.size w).alloc (Nat.le_refl _) o) h.lt
theorem RowS.far (h : RowS w g cap d) {p : Addr} (hp : g ≠ p.block) (u : Value) : RowS (w.setCell p u) g cap d := by
  obtain ⟨cur, hk, r⟩ := h.is
  exact ⟨cur, hk.far hp u, r⟩
theorem RowS.shrink (h : RowS w g cap d) (n : Nat) : RowS w g cap (d.extract 0 n) := by
  obtain ⟨cur, hk, hs, hd, hc⟩ := h.is
  refine ⟨cur, hk, hs, by simp; omega, fun i hi => ?_⟩
  have hi' : i < d.size := by simp at hi; omega
  have e : (d.extract 0 n)[i]! = d[i]! := by
    rw [getElem!_pos _ i hi, getElem!_pos d i hi']
    simp
  rw [e]
  exact hc i hi'
/-- One element anew. -/
theorem RowS.put (h : RowS w g cap d) {i : Nat} (hi : i < d.size) (a b : Nat) : RowS ((w.setCell ⟨g, i * 2, none⟩ (.int .i64 (a : Int))).setCell ⟨g, i * 2 + 1, none⟩ (.int .i64 (b : Int))) g cap (d.setIfInBounds i (a, b)) := by
  obtain ⟨cur, hk, hs, hd, hc⟩ := h.is
  refine ⟨_, (hk.set_ (i * 2) (.int .i64 (a : Int))).set_ (i * 2 + 1) (.int .i64 (b : Int)), by simpa using hs, by simpa using hd, fun j hj => ?_⟩
  have hj' : j < d.size := by simpa using hj
  by_cases e : j = i
  · subst e
    rw [Sort.getElem!_set_same d j _ hi]
    simp only [Array.getElem?_setIfInBounds]
    constructor
    · rw [if_neg (by omega), if_pos trivial, if_pos (by omega)]
    · rw [if_pos trivial, if_pos (by simp; omega)]
  · rw [Sort.getElem!_set_other d i j _ e]
    simp only [Array.getElem?_setIfInBounds]
    rw [if_neg (by omega), if_neg (by omega), if_neg (by omega), if_neg (by omega)]
    exact hc j hj'
theorem RowS.own (h : RowS w g cap d) (hb : base ≤ g) (hm : cap ≤ maxLen) : OwnP w base (.slice (some ⟨g, 0, none⟩) d.size cap) d.toList := by
  obtain ⟨cur, hk, hs, hd, hc⟩ := h.is
  refine ⟨spsV_len _, .inr ⟨g, cap, cur, by simp, hb, hk, by simpa using hd, hm, hs, ?_⟩⟩
  apply List.ext_getElem?
  intro j
  by_cases hj : j < d.size * 2
  · have e1 : j = j / 2 * 2 + j % 2 := by omega
    have hq : j / 2 < d.size := by omega
    rw [List.getElem?_take_of_lt (by simpa using hj), e1, spsV_at _ _ _ (by simpa using hq) (by omega)]
    have e : d.toList[j / 2]! = d[j / 2]! := by
      rw [getElem!_pos d _ hq, getElem!_pos d.toList _ (by simpa using hq)]
      simp
    rw [e]
    obtain ⟨c0, c1⟩ := hc _ hq
    rcases (show j % 2 = 0 ∨ j % 2 = 1 by omega) with h0 | h0
    · rw [h0, Nat.add_zero]
      simpa [spV] using c0
    · rw [h0]
      simpa [spV] using c1
  · rw [List.getElem?_eq_none (by simp; omega), List.getElem?_eq_none (by rw [spsV_len]; simp; omega)]
/-- The kit's words for the row. -/
theorem RowS.holds (h : RowS w g cap d) : Sort.HoldsK spV 2 w g 0 d := by
  intro t ht
  rw [Sort.size_flatK] at ht
  have hq : t / 2 < d.size := by omega
  obtain ⟨c0, c1⟩ := h.cell hq
  rw [Sort.get_flatK _ _ _ _ ht, Nat.zero_add]
  refine ⟨?_, h.frozen t⟩
  have e1 : t = t / 2 * 2 + t % 2 := by omega
  rcases (show t % 2 = 0 ∨ t % 2 = 1 by omega) with h0 | h0
  · rw [h0]
    rw [h0, Nat.add_zero] at e1
    rw [← e1] at c0
    exact c0
  · rw [h0]
    rw [h0] at e1
    rw [← e1] at c1
    exact c1
theorem RowS.sorted {d' : Array (Nat × Nat)} {n : Nat} {os : Array Obj} (h : RowS w g cap d) (hs : d'.size = d.size) : RowS (sortWorldK spV 2 w g 0 n d' os) g cap d' := by
  obtain ⟨cur, hk, hz, hd, hc⟩ := h.is
  refine ⟨Sort.putCells id 0 (Sort.flatK spV 2 d') cur, ?_, by simp [Sort.putCells, hz], by omega, fun i hi => ?_⟩
  · have hg : g < w.heap.size := hk.lt
    unfold sortWorldK Sort.putRowK
    show (Sort.grow _ os).heap[g]? = _
    rw [Sort.heap_grow_old _ _ (by simpa [Sort.ahead] using hg)]
    have hk' : w.heap[g]? = some (.cells cur 67 (0, 0)) := hk
    simp [Sort.putRow, Sort.mapBlock, Sort.ahead, Array.getElem?_modify, hk', Sort.onCells]
  · have a0 : (Sort.flatK spV 2 d')[i * 2]! = (spV d'[i]!)[0]! := by
      rw [Sort.get_flatK _ _ _ _ (by omega), show i * 2 / 2 = i by omega, show i * 2 % 2 = 0 by omega]
    have a1 : (Sort.flatK spV 2 d')[i * 2 + 1]! = (spV d'[i]!)[1]! := by
      rw [Sort.get_flatK _ _ _ _ (by omega), show (i * 2 + 1) / 2 = i by omega, show (i * 2 + 1) % 2 = 1 by omega]
    constructor
    · simp only [Sort.putCells, Array.getElem?_mapIdx, Sort.size_flatK]
      rw [Array.getElem?_eq_getElem (show i * 2 < cur.size by omega)]
      simp only [Option.map_some, Nat.sub_zero, id_eq]
      rw [if_pos (by omega), a0]
      rfl
    · simp only [Sort.putCells, Array.getElem?_mapIdx, Sort.size_flatK]
      rw [Array.getElem?_eq_getElem (show i * 2 + 1 < cur.size by omega)]
      simp only [Option.map_some, Nat.sub_zero, id_eq]
      rw [if_pos (by omega), a1]
      rfl
theorem only_sorted {n : Nat} {os : Array Obj} : w.grownBy (sortWorldK spV 2 w g 0 n d os) (some g) := by
  refine ⟨rfl, rfl, rfl, by simp [sortWorldK, Sort.putRowK, Sort.grow, Sort.ahead, Sort.putRow, Sort.mapBlock], fun k hk hne => ?_⟩
  unfold sortWorldK Sort.putRowK
  rw [Sort.heap_grow_old _ _ (by simpa [Sort.ahead] using hk)]
  have : g ≠ k := fun e => hne (by rw [e])
  simp [Sort.putRow, Sort.mapBlock, Sort.ahead, Array.getElem?_modify, this]
end
theorem spanInfo : (Tryz.prog.info? 67).map (fun i => (i.zero, i.size, i.bytes)) = some (some (.agg #[.int .i64 0, .int .i64 0]), 2, 16) := by kernel_rfl
theorem ownP_one (w : World) (base : Nat) (s : Nat × Nat) (hb : base ≤ w.heap.size) : OwnP (w.alloc (.cells #[.int .i64 (s.1 : Int), .int .i64 (s.2 : Int)] 67)) base (.slice (some ⟨w.heap.size, 0, none⟩) 1 1) [s] :=
  ⟨rfl, .inr ⟨w.heap.size, 1, #[.int .i64 (s.1 : Int), .int .i64 (s.2 : Int)], rfl, hb, Blk.new w _ _, Nat.le_refl _, by simp [maxLen], rfl, rfl⟩⟩
theorem span_reads {w : World} {g : Nat} {q : Nat × Nat} (h : Blk w g 67 #[.int .i64 (q.1 : Int), .int .i64 (q.2 : Int)]) : Reads w (g + 1) 2 (some ⟨g, 0, none⟩) 1 (spV q) := by
  refine ⟨rfl, fun _ => ⟨_, rfl, Nat.lt_succ_self _, fun j x hx => ?_⟩⟩
  have c := h.cell j
  have e : (⟨g, 0, none⟩ : Addr).add j = ⟨g, j, none⟩ := by
    unfold Addr.add
    split
    · rename_i h0; rw [h0]
    · simp
  rw [e, c]
  match j, hx with
  | 0, hx => exact hx
  | 1, hx => exact hx
  | j + 2, hx => cases hx
/-- append of one span. -/
theorem appP (w : World) {ops : Array Oper} {rest : List Oper} {o : Oper} {a : Act} {Q : Exit → Act → World → Prop} (hgd : o.guard = none) (s x : Operand) (t : TypeId)
    (ho : o.op = .call { callee := .builtin .append, args := #[s, x], argTypes := #[t, t] }) (base : Nat) (ht : Tryz.prog.underlying t = some (.slice 67))
    (v : Value) (qs : List (Nat × Nat)) (hs : a.eval s = v) (hown : OwnP w base v qs) (b c : Nat) (q : Nat × Nat) (hx : a.eval x = .slice (some ⟨b, 0, none⟩) 1 c) (hk : Blk w b 67 #[.int .i64 (q.1 : Int), .int .i64 (q.2 : Int)])
    (hl : qs.length ≤ 4000000000) (hbase : base ≤ w.heap.size)
    (h : ∀ v' w', OwnP w' base v' (qs ++ [q]) → w.grownBy w' v.ownBlock → (v'.ownBlock = v.ownBlock ∨ v'.ownBlock = some w.heap.size) → wpList Tryz.prog ops Q rest (a.put o.dst v') w') : wpList Tryz.prog ops Q (o :: rest) a w := by
  obtain ⟨i0, hi, hz0, hz1, hz2⟩ := info_parts spanInfo
  refine wpList_append_any w hgd s x t ho base 67 i0 (.agg #[.int .i64 0, .int .i64 0]) 2 16 ht hi hz0 hz1 hz2 rfl (by decide) v qs.length _ hs hown (b + 1) _ 1 c (spV q) hx (span_reads hk) (fun u hu => by
    simp only [spV, List.mem_cons, List.not_mem_nil, or_false] at hu
    rcases hu with rfl | rfl <;> rfl) (by simp only [maxLen]; omega) (by omega) hbase ?_
  intro v' w' ho' hg' hor
  refine h v' w' ?_ hg' hor
  unfold OwnP
  rw [List.length_append, spsV_app, show spsV [q] = spV q by simp [spsV]]
  exact ho'
theorem Blk.setCells_ {g : Nat} {t : TypeId} : ∀ (vs : List Value) (o : Nat) (w : World) (cs : Array Value), Blk w g t cs → w.grownBy (w.setCells g o vs) (some g) ∧ ∃ cs', Blk (w.setCells g o vs) g t cs' ∧ cs'.size = cs.size ∧ ∀ j, j < o → cs'[j]? = cs[j]?
  | [], o, w, cs, h => ⟨⟨rfl, rfl, rfl, Nat.le_refl _, fun _ _ _ => rfl⟩, cs, h, rfl, fun _ _ => rfl⟩
  | v :: r, o, w, cs, h => by
    obtain ⟨hg, cs', hk, hs, hc⟩ := Blk.setCells_ r (o + 1) _ _ (h.set_ o v)
    have g1 : w.grownBy (w.setCell ⟨g, o, none⟩ v) (some g) := only_setCell ⟨rfl, rfl, rfl, Nat.le_refl _, fun _ _ _ => rfl⟩ (.inl rfl) v
    refine ⟨⟨hg.os.trans g1.os, hg.tape.trans g1.tape, hg.output.trans g1.output, Nat.le_trans g1.size hg.size, fun k hk hne => (hg.block k (Nat.lt_of_lt_of_le hk g1.size) hne).trans (g1.block k hk hne)⟩, cs', hk, by simpa using hs, fun j hj => ?_⟩
    rw [hc j (by omega), Array.getElem?_setIfInBounds, if_neg (by omega)]
/-- clear of a row's tail. -/
theorem clear_tail {w : World} {g cap n c t : Nat} {d : Array (Nat × Nat)} (h : RowS w g cap d) {i : Nat} (hn : 0 < n) (hi : i + n ≤ cap) (hd : i ≤ d.size) (ht : Tryz.prog.underlying t = some (.slice 67)) (ty : TypeId) :
    ∃ w', (Builtin.clear_ #[t] ty #[.slice (some ⟨g, i * 2, none⟩) n c]).run Tryz.prog w = .ok (.tuple #[]) w' ∧ RowS w' g cap (d.extract 0 i) ∧ w.grownBy w' (some g) := by
  obtain ⟨i0, hi0, hz0, _, _⟩ := info_parts spanInfo
  have hv : ∀ w, (zeroValue 67).run Tryz.prog w = .ok (.agg #[.int .i64 0, .int .i64 0]) w := fun w => by simp [zeroValue, typeInfo, hi0, hz0]
  have hcl : (Value.agg #[.int .i64 0, .int .i64 0]).cells = #[.int .i64 0, .int .i64 0] := by simp [Value.cells]
  have hzc : (Builtin.zeroCells (Value.agg #[.int .i64 0, .int .i64 0]).cells n).toList = List.replicate (n * 2) (.int .i64 0) := by
    rw [hcl]
    simp [Builtin.zeroCells]
    apply List.ext_getElem
    · simp
    · intro k h1 h2
      rcases (show k % 2 = 0 ∨ k % 2 = 1 by omega) with h0 | h0 <;> simp [h0]
  have hst := run_storeCells_cells (P := Tryz.prog) g (i * 2) (List.replicate (n * 2) (.int .i64 0)) 0 w (fun j hj => by rw [Nat.add_zero]; exact h.some_ (by simp at hj; omega)) (fun j _ => h.frozen _) (by intro v hv'; rw [List.eq_of_mem_replicate hv']; rfl)
  rw [Nat.add_zero] at hst
  obtain ⟨m, rfl⟩ : ∃ m, n = m + 1 := ⟨n - 1, by omega⟩
  obtain ⟨cur, hk, hs, hdc, hc⟩ := h.is
  obtain ⟨hg, cs', hk', hs', hc'⟩ := Blk.setCells_ (List.replicate ((m + 1) * 2) (.int .i64 0)) (i * 2) w cur hk
  refine ⟨_, ?_, ⟨cs', hk', by omega, by simp; omega, fun j hj => ?_⟩, hg⟩
  · simp [Builtin.clear_, run_underlying ht, hv, hzc, hst]
  · have hj1 : j < d.size := by simp at hj; omega
    have hj2 : j < i := by simp at hj; omega
    have e : (d.extract 0 i)[j]! = d[j]! := by
      rw [getElem!_pos _ j hj, getElem!_pos d j hj1]
      simp
    rw [e, hc' _ (by omega), hc' _ (by omega)]
    exact hc j hj1
end Go.Proofs.YtbmmkhehejoidaaGreatDoor
