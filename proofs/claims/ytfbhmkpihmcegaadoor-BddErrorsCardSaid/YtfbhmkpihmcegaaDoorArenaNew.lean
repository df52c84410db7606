/-
  A new arena.
-/
import Derived.Test.YtfbhmkpihmcegaaDoorArenaMake2
namespace Go.Proofs.YtfbhmkpihmcegaaDoor
open Go.RowKit

def emptyA (R : Nat) : Ar := List.replicate R none
theorem got_empty (R : Nat) (x : Int) : gotA (emptyA R) x = none := by
  unfold gotA emptyA
  by_cases h : 2 ≤ x
  · rw [if_pos h, List.getD_eq_getElem?_getD]
    by_cases h2 : (x - 2).toNat < R
    · rw [List.getElem?_eq_getElem (by simpa using h2)]; simp
    · rw [List.getElem?_eq_none (by simpa using h2)]; rfl
  · rw [if_neg h]
theorem wf_empty (R : Nat) : WfA (emptyA R) := by
  refine ⟨fun x n e => ?_, fun x n e => ?_, fun x n e => ?_, fun x y n e => ?_⟩ <;> (rw [got_empty] at e; cases e)
theorem cnt_empty (R : Nat) : cntA (emptyA R) = 0 := by
  unfold cntA emptyA
  rw [List.countP_replicate]
  rfl
theorem arT_empty (R : Nat) : ArT hashN (emptyA R) (List.replicate R nd0) (List.replicate R false) (List.replicate (2 * R + 1) 0) := by
  have hu : ∀ k, (List.replicate R false).getD k false = false := fun k => by
    rw [List.getD_eq_getElem?_getD]
    by_cases h : k < R
    · rw [List.getElem?_eq_getElem (by simpa using h)]; simp
    · rw [List.getElem?_eq_none (by simpa using h)]; rfl
  refine ⟨⟨by simp [emptyA], by simp [emptyA], fun k => ?_⟩, by simp [emptyA], ⟨[], .empty _ _ (by omega), fun k => ?_, by rw [cnt_empty]; rfl⟩, wf_empty R⟩
  · have := got_empty R ((k : Int) + 2)
    rw [gotA_k] at this
    rw [this, hu, if_neg (by decide)]
  · rw [hu]; simp
def NewPost (w : World) (z : Int) (e : Ending) (w' : World) : Prop :=
  (¬ (0 ≤ z ∧ z ≤ 4000) ∧ e = .returned (.tuple #[.pointer none, errV 2]) ∧ Below w.heap.size w w') ∨
  ((0 ≤ z ∧ z ≤ 4000) ∧ ∃ B gn gu gt, e = .returned (.tuple #[.pointer (some ⟨B, 0, none⟩), .nilIface]) ∧ ArM w' B gn gu gt (emptyA z.toNat) ∧ (∀ k, arB B gn gu gt k → w.heap.size ≤ k) ∧ Below w.heap.size w w')
theorem nodeInfo : (Tryd.prog.info? 39).map (fun i => (i.zero, i.size, i.bytes)) = some (some (.agg #[.int .i64 0, .int .i64 0, .int .i64 0]), 3, 24) := by kernel_rfl
theorem boolInfo : (Tryd.prog.info? 4).map (fun i => (i.zero, i.size, i.bytes)) = some (some (.bool false), 1, 1) := by kernel_rfl
theorem intInfo : (Tryd.prog.info? 3).map (fun i => (i.zero, i.size, i.bytes)) = some (some (.int .i64 0), 1, 8) := by kernel_rfl
theorem zero3 (j : Nat) : ((Value.agg #[.int .i64 0, .int .i64 0, .int .i64 0]).cells)[j % 3]! = .int .i64 0 := by
  rcases (show j % 3 = 0 ∨ j % 3 = 1 ∨ j % 3 = 2 by omega) with h | h | h <;> (rw [h]; rfl)
theorem made_nodes (R : Nat) : madeCells (Value.agg #[.int .i64 0, .int .i64 0, .int .i64 0]).cells (R * 3) = nodeArr (List.replicate R nd0) := by
  have h1 : ∀ R : Nat, (List.replicate R nd0).flatMap nodeCells = List.replicate (R * 3) (Value.int .i64 0) := by
    intro R
    induction R with
    | zero => rfl
    | succ R ih =>
      rw [List.replicate_succ, List.flatMap_cons, ih, show (R + 1) * 3 = 3 + R * 3 by omega, ← List.replicate_append_replicate]
      rfl
  apply Array.toList_inj.1
  unfold nodeArr madeCells
  rw [h1]
  apply List.ext_getElem?
  intro j
  by_cases hj : j < R * 3
  · have e := zero3 j
    simp [hj]
    exact e
  · simp [hj]
theorem made_bools (R : Nat) : madeCells (Value.bool false).cells (R * 1) = boolArr (List.replicate R false) := by
  rw [Nat.mul_one]
  apply Array.toList_inj.1
  rw [show (Value.bool false).cells = #[Value.bool false] from rfl, toList_madeCells_one]
  simp [boolArr]
theorem made_ints (R : Nat) : madeCells (Value.int .i64 0).cells (R * 1) = intArr (List.replicate R 0) := by
  rw [Nat.mul_one]
  apply Array.toList_inj.1
  rw [show (Value.int .i64 0).cells = #[Value.int .i64 0] from rfl, toList_madeCells_one]
  simp [intArr]
theorem mk_nodes (R : Nat) (hR : R ≤ 1000000) (w : World) : (Instr.makeSlice 98 (.int .i64 (R : Int)) (.int .i64 (R : Int))).run Tryd.prog w = .ok (.slice (some ⟨w.heap.size, 0, none⟩) R R) (w.alloc (.cells (nodeArr (List.replicate R nd0)) 39)) := by
  obtain ⟨i0, hi, hz0, hz1, hz2⟩ := info_parts nodeInfo
  have h := run_make (P := Tryd.prog) w 98 39 i0 _ Tryd.underlying98 hi hz0 .i64 .i64 (R : Int) (R : Int) (by omega) (Int.le_refl _) (by rw [hz2]; omega) (by omega)
  rw [hz1, Int.toNat_natCast, made_nodes] at h
  exact h
theorem mk_bools (R : Nat) (hR : R ≤ 1000000) (w : World) : (Instr.makeSlice 81 (.int .i64 (R : Int)) (.int .i64 (R : Int))).run Tryd.prog w = .ok (.slice (some ⟨w.heap.size, 0, none⟩) R R) (w.alloc (.cells (boolArr (List.replicate R false)) 4)) := by
  obtain ⟨i0, hi, hz0, hz1, hz2⟩ := info_parts boolInfo
  have h := run_make (P := Tryd.prog) w 81 4 i0 _ Tryd.underlying81 hi hz0 .i64 .i64 (R : Int) (R : Int) (by omega) (Int.le_refl _) (by rw [hz2]; omega) (by omega)
  rw [hz1, Int.toNat_natCast, made_bools] at h
  exact h
theorem mk_ints (R : Nat) (z : Int) (hz : z = R) (hR : R ≤ 1000000) (w : World) : (Instr.makeSlice 44 (.int .i64 z) (.int .i64 z)).run Tryd.prog w = .ok (.slice (some ⟨w.heap.size, 0, none⟩) R R) (w.alloc (.cells (intArr (List.replicate R 0)) 3)) := by
  subst hz
  obtain ⟨i0, hi, hz0, hz1, hz2⟩ := info_parts intInfo
  have h := run_make (P := Tryd.prog) w 44 3 i0 _ Tryd.underlying44 hi hz0 .i64 .i64 (R : Int) (R : Int) (by omega) (Int.le_refl _) (by rw [hz2]; omega) (by omega)
  rw [hz1, Int.toNat_natCast, made_ints] at h
  exact h
theorem newYes {w w' : World} {R B gn gu gt : Nat} (hR : R ≤ 4000) (hb : Below w.heap.size w w') (h0 : w.heap.size ≤ B ∧ w.heap.size ≤ gn ∧ w.heap.size ≤ gu ∧ w.heap.size ≤ gt)
    (kB : Blk w' B 100 #[.slice (some ⟨gn, 0, none⟩) R R, .slice (some ⟨gu, 0, none⟩) R R, .slice (some ⟨gt, 0, none⟩) (2 * R + 1) (2 * R + 1), .int .i64 0])
    (kn : Blk w' gn 39 (nodeArr (List.replicate R nd0))) (ku : Blk w' gu 4 (boolArr (List.replicate R false))) (kt : Blk w' gt 3 (intArr (List.replicate (2 * R + 1) 0))) :
    NewPost w (R : Int) (.returned (.tuple #[.pointer (some ⟨B, 0, none⟩), .nilIface])) w' := by
  have hl : (emptyA R).length = R := List.length_replicate ..
  refine .inr ⟨⟨by omega, by omega⟩, B, gn, gu, gt, rfl, ⟨⟨_, _, _, arT_empty R, ?_, kn, ku, kt⟩, by rw [Int.toNat_natCast, hl]; exact hR⟩, fun k hk => ?_, hb⟩
  · rw [Int.toNat_natCast, hl, cnt_empty]
    exact kB
  · rcases hk with rfl | rfl | rfl | rfl
    · exact h0.1
    · exact h0.2.1
    · exact h0.2.2.1
    · exact h0.2.2.2
section
variable {w : World} {c1 c2 c3 c4 : Array Value} {t1 t2 t3 t4 : TypeId}
theorem al4_4 : Blk ((((w.alloc (.cells c1 t1)).alloc (.cells c2 t2)).alloc (.cells c3 t3)).alloc (.cells c4 t4)).drew (w.heap.size + 1 + 1 + 1) t4 c4 := by
  have := (Blk.new (((w.alloc (.cells c1 t1)).alloc (.cells c2 t2)).alloc (.cells c3 t3)) t4 c4).drew
  simpa using this
theorem al4_3 : Blk ((((w.alloc (.cells c1 t1)).alloc (.cells c2 t2)).alloc (.cells c3 t3)).alloc (.cells c4 t4)).drew (w.heap.size + 1 + 1) t3 c3 := by
  have := ((Blk.new ((w.alloc (.cells c1 t1)).alloc (.cells c2 t2)) t3 c3).alloc (.cells c4 t4)).drew
  simpa using this
theorem al4_2 : Blk ((((w.alloc (.cells c1 t1)).alloc (.cells c2 t2)).alloc (.cells c3 t3)).alloc (.cells c4 t4)).drew (w.heap.size + 1) t2 c2 := by
  have := (((Blk.new (w.alloc (.cells c1 t1)) t2 c2).alloc (.cells c3 t3)).alloc (.cells c4 t4)).drew
  simpa using this
theorem al4_1 : Blk ((((w.alloc (.cells c1 t1)).alloc (.cells c2 t2)).alloc (.cells c3 t3)).alloc (.cells c4 t4)).drew w.heap.size t1 c1 :=
  ((((Blk.new w t1 c1).alloc (.cells c2 t2)).alloc (.cells c3 t3)).alloc (.cells c4 t4)).drew
theorem al4_b : Below w.heap.size w ((((w.alloc (.cells c1 t1)).alloc (.cells c2 t2)).alloc (.cells c3 t3)).alloc (.cells c4 t4)).drew :=
  ((((((Below.refl w.heap.size w).alloc (Nat.le_refl _) _).alloc (by simp) _).alloc (by simp; omega) _).alloc (by simp; omega) _)).drew
end
set_option maxRecDepth 100000 in
set_option maxHeartbeats 4000000 in
theorem arNew_any (z : Int) (w : World) (hz : I64 z) : Calls Tryd.prog 8 #[.int .i64 z] w (NewPost w z) := by
  by_cases h1 : z < 0
  · have HN := hide (fun (w' : World) (hb : Below w.heap.size w w') => show NewPost w z (.returned (.tuple #[.pointer none, .iface 29 (.int .i64 2)])) w' from .inl ⟨by omega, by rw [errV_ne (by omega)], hb⟩)
    go_enter Tryd.func8, Tryd.ntmps8
    go_wp2
    go_ret2
    exact HN.out _ (Below.refl _ _)
  · have h1b : decide (z < 0) = false := decide_eq_false h1
    by_cases h2 : 4000 < z
    · have HN := hide (fun (w' : World) (hb : Below w.heap.size w w') => show NewPost w z (.returned (.tuple #[.pointer none, .iface 29 (.int .i64 2)])) w' from .inl ⟨by omega, by rw [errV_ne (by omega)], hb⟩)
      go_enter Tryd.func8, Tryd.ntmps8
      go_wp2
      go_ret2
      exact HN.out _ (Below.refl _ _)
    · have h2b : decide (4000 < z) = false := decide_eq_false h2
      obtain ⟨R, rfl⟩ : ∃ R : Nat, z = (R : Int) := ⟨z.toNat, by omega⟩
      have hm1 := mk_nodes R (by omega)
      have hm2 := mk_bools R (by omega)
      have hm3 := mk_ints (2 * R + 1) (2 * (R : Int) + 1) (by omega) (by omega)
      go_enter Tryd.func8, Tryd.ntmps8
      go_wp2
      go_region
      all_goals
        go_wp2
        go_ret2
        exact newYes (by omega) al4_b ⟨by omega, by omega, by omega, by omega⟩ al4_4 (by first | exact al4_1 | exact al4_2 | exact al4_3) (by first | exact al4_1 | exact al4_2 | exact al4_3) (by first | exact al4_1 | exact al4_2 | exact al4_3)
end Go.Proofs.YtfbhmkpihmcegaaDoor
