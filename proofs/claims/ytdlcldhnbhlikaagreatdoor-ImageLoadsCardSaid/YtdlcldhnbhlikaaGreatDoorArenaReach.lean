/-
  A new arena. Rows of ints of the call's own; slices.Clone. An arena's Reach.
-/
import Derived.Test.YtdlcldhnbhlikaaGreatDoorArenaMake2
namespace Go.Proofs.YtdlcldhnbhlikaaGreatDoor
open Go.RowKit

def emptyA (R : Nat) : Ar := List.replicate R none
theorem got_empty (R : Nat) (x : Int) : gotA (emptyA R) x = none := by
  unfold gotA emptyA
  by_cases h : 2 ≤ x
  · rw [if_pos h, List.getD_eq_getElem?_getD]
    by_cases h2 : (x - 2).toNat < R
    · rw [List.getElem?_eq_getElem (by simpa using h2)]; simp
    · rw [List.getElem?_eq_none (by simpa using h2)]; rfl
  · rw [if_neg h]
theorem wf_empty (R : Nat) : WfA (emptyA R) := by
  refine ⟨fun x n e => ?_, fun x n e => ?_, fun x n e => ?_, fun x y n e => ?_⟩ <;> (rw [got_empty] at e; cases e)
theorem cnt_empty (R : Nat) : cntA (emptyA R) = 0 := by
  unfold cntA emptyA
  rw [List.countP_replicate]
  rfl
theorem arT_empty (R : Nat) : ArT hashN (emptyA R) (List.replicate R nd0) (List.replicate R false) (List.replicate (2 * R + 1) 0) := by
  have hu : ∀ k, (List.replicate R false).getD k false = false := fun k => by
    rw [List.getD_eq_getElem?_getD]
    by_cases h : k < R
    · rw [List.getElem?_eq_getElem (by simpa using h)]; simp
    · rw [List.getElem?_eq_none (by simpa using h)]; rfl
  refine ⟨⟨by simp [emptyA], by simp [emptyA], fun k => ?_⟩, by simp [emptyA], ⟨[], .empty _ _ (by omega), fun k => ?_, by rw [cnt_empty]; rfl⟩, wf_empty R⟩
  · have := got_empty R ((k : Int) + 2)
    rw [gotA_k] at this
    rw [this, hu, if_neg (by decide)]
  · rw [hu]; simp
def NewPost (w : World) (z : Int) (e : Ending) (w' : World) : Prop :=
  (¬ (0 ≤ z ∧ z ≤ 4000) ∧ e = .returned (.tuple #[.pointer none, errV 2]) ∧ Below w.heap.size w w') ∨
  ((0 ≤ z ∧ z ≤ 4000) ∧ ∃ B gn gu gt, e = .returned (.tuple #[.pointer (some ⟨B, 0, none⟩), .nilIface]) ∧ ArM w' B gn gu gt (emptyA z.toNat) ∧ (∀ k, arB B gn gu gt k → w.heap.size ≤ k) ∧ Below w.heap.size w w')
theorem nodeInfo : (Tryz.prog.info? 101).map (fun i => (i.zero, i.size, i.bytes)) = some (some (.agg #[.int .i64 0, .int .i64 0, .int .i64 0]), 3, 24) := by kernel_rfl
theorem boolInfo : (Tryz.prog.info? 4).map (fun i => (i.zero, i.size, i.bytes)) = some (some (.bool false), 1, 1) := by kernel_rfl
theorem intInfo : (Tryz.prog.info? 3).map (fun i => (i.zero, i.size, i.bytes)) = some (some (.int .i64 0), 1, 8) := by kernel_rfl
theorem zero3 (j : Nat) : ((Value.agg #[.int .i64 0, .int .i64 0, .int .i64 0]).cells)[j % 3]! = .int .i64 0 := by
  rcases (show j % 3 = 0 ∨ j % 3 = 1 ∨ j % 3 = 2 by omega) with h | h | h <;> (rw [h]; rfl)
theorem made_nodes (R : Nat) : madeCells (Value.agg #[.int .i64 0, .int .i64 0, .int .i64 0]).cells (R * 3) = nodeArr (List.replicate R nd0) := by
  have h1 : ∀ R : Nat, (List.replicate R nd0).flatMap nodeCells = List.replicate (R * 3) (Value.int .i64 0) := by
    intro R
    induction R with
    | zero => rfl
    | succ R ih =>
      rw [List.replicate_succ, List.flatMap_cons, ih, show (R + 1) * 3 = 3 + R * 3 by omega, ← List.replicate_append_replicate]
      rfl
  apply Array.toList_inj.1
  unfold nodeArr madeCells
  rw [h1]
  apply List.ext_getElem?
  intro j
  by_cases hj : j < R * 3
  · have e := zero3 j
    simp [hj]
    exact e
  · simp [hj]
theorem made_bools (R : Nat) : madeCells (Value.bool false).cells (R * 1) = boolArr (List.replicate R false) := by
  rw [Nat.mul_one]
  apply Array.toList_inj.1
  rw [show (Value.bool false).cells = #[Value.bool false] from rfl, toList_madeCells_one]
  simp [boolArr]
theorem made_ints (R : Nat) : madeCells (Value.int .i64 0).cells (R * 1) = intArr (List.replicate R 0) := by
  rw [Nat.mul_one]
  apply Array.toList_inj.1
  rw [show (Value.int .i64 0).cells = #[Value.int .i64 0] from rfl, toList_madeCells_one]
  simp [intArr]
theorem mk_nodes (R : Nat) (hR : R ≤ 1000000) (w : World) : (Instr.makeSlice 155 (.int .i64 (R : Int)) (.int .i64 (R : Int))).run Tryz.prog w = .ok (.slice (some ⟨w.heap.size, 0, none⟩) R R) (w.alloc (.cells (nodeArr (List.replicate R nd0)) 101)) := by
  obtain ⟨i0, hi, hz0, hz1, hz2⟩ := info_parts nodeInfo
  have h := run_make (P := Tryz.prog) w 155 101 i0 _ Tryz.underlying155 hi hz0 .i64 .i64 (R : Int) (R : Int) (by omega) (Int.le_refl _) (by rw [hz2]; omega) (by omega)
  rw [hz1, Int.toNat_natCast, made_nodes] at h
  exact h
theorem mk_bools (R : Nat) (hR : R ≤ 1000000) (w : World) : (Instr.makeSlice 34 (.int .i64 (R : Int)) (.int .i64 (R : Int))).run Tryz.prog w = .ok (.slice (some ⟨w.heap.size, 0, none⟩) R R) (w.alloc (.cells (boolArr (List.replicate R false)) 4)) := by
  obtain ⟨i0, hi, hz0, hz1, hz2⟩ := info_parts boolInfo
  have h := run_make (P := Tryz.prog) w 34 4 i0 _ Tryz.underlying34 hi hz0 .i64 .i64 (R : Int) (R : Int) (by omega) (Int.le_refl _) (by rw [hz2]; omega) (by omega)
  rw [hz1, Int.toNat_natCast, made_bools] at h
  exact h
theorem mk_ints (R : Nat) (z : Int) (hz : z = R) (hR : R ≤ 1000000) (w : World) : (Instr.makeSlice 24 (.int .i64 z) (.int .i64 z)).run Tryz.prog w = .ok (.slice (some ⟨w.heap.size, 0, none⟩) R R) (w.alloc (.cells (intArr (List.replicate R 0)) 3)) := by
  subst hz
  obtain ⟨i0, hi, hz0, hz1, hz2⟩ := info_parts intInfo
  have h := run_make (P := Tryz.prog) w 24 3 i0 _ Tryz.underlying24 hi hz0 .i64 .i64 (R : Int) (R : Int) (by omega) (Int.le_refl _) (by rw [hz2]; omega) (by omega)
  rw [hz1, Int.toNat_natCast, made_ints] at h
  exact h
theorem newYes {w w' : World} {R B gn gu gt : Nat} (hR : R ≤ 4000) (hb : Below w.heap.size w w') (h0 : w.heap.size ≤ B ∧ w.heap.size ≤ gn ∧ w.heap.size ≤ gu ∧ w.heap.size ≤ gt)
    (kB : Blk w' B 157 #[.slice (some ⟨gn, 0, none⟩) R R, .slice (some ⟨gu, 0, none⟩) R R, .slice (some ⟨gt, 0, none⟩) (2 * R + 1) (2 * R + 1), .int .i64 0])
    (kn : Blk w' gn 101 (nodeArr (List.replicate R nd0))) (ku : Blk w' gu 4 (boolArr (List.replicate R false))) (kt : Blk w' gt 3 (intArr (List.replicate (2 * R + 1) 0))) :
    NewPost w (R : Int) (.returned (.tuple #[.pointer (some ⟨B, 0, none⟩), .nilIface])) w' := by
  have hl : (emptyA R).length = R := List.length_replicate ..
  refine .inr ⟨⟨by omega, by omega⟩, B, gn, gu, gt, rfl, ⟨⟨_, _, _, arT_empty R, ?_, kn, ku, kt⟩, by rw [Int.toNat_natCast, hl]; exact hR⟩, fun k hk => ?_, hb⟩
  · rw [Int.toNat_natCast, hl, cnt_empty]
    exact kB
  · rcases hk with rfl | rfl | rfl | rfl
    · exact h0.1
    · exact h0.2.1
    · exact h0.2.2.1
    · exact h0.2.2.2
section
variable {w : World} {c1 c2 c3 c4 : Array Value} {t1 t2 t3 t4 : TypeId}
theorem al4_4 : Blk ((((w.alloc (.cells c1 t1)).alloc (.cells c2 t2)).alloc (.cells c3 t3)).alloc (.cells c4 t4)).drew (w.heap.size + 1 + 1 + 1) t4 c4 := by
  have := (Blk.new (((w.alloc (.cells c1 t1)).alloc (.cells c2 t2)).alloc (.cells c3 t3)) t4 c4).drew
  simpa using this
theorem al4_3 : Blk ((((w.alloc (.cells c1 t1)).alloc (.cells c2 t2)).alloc (.cells c3 t3)).alloc (.cells c4 t4)).drew (w.heap.size + 1 + 1) t3 c3 := by
  have := ((Blk.new ((w.alloc (.cells c1 t1)).alloc (.cells c2 t2)) t3 c3).alloc (.cells c4 t4)).drew
  simpa using this
theorem al4_2 : Blk ((((w.alloc (.cells c1 t1)).alloc (.cells c2 t2)).alloc (.cells c3 t3)).alloc (.cells c4 t4)).drew (w.heap.size + 1) t2 c2 := by
  have := (((Blk.new (w.alloc (.cells c1 t1)) t2 c2).alloc (.cells c3 t3)).alloc (.cells c4 t4)).drew
  simpa using this
theorem al4_1 : Blk ((((w.alloc (.cells c1 t1)).alloc (.cells c2 t2)).alloc (.cells c3 t3)).alloc (.cells c4 t4)).drew w.heap.size t1 c1 :=
  ((((Blk.new w t1 c1).alloc (.cells c2 t2)).alloc (.cells c3 t3)).alloc (.cells c4 t4)).drew
theorem al4_b : Below w.heap.size w ((((w.alloc (.cells c1 t1)).alloc (.cells c2 t2)).alloc (.cells c3 t3)).alloc (.cells c4 t4)).drew :=
  ((((((Below.refl w.heap.size w).alloc (Nat.le_refl _) _).alloc (by simp) _).alloc (by simp; omega) _).alloc (by simp; omega) _)).drew
end
set_option maxRecDepth 100000 in
set_option maxHeartbeats 4000000 in
theorem arNew_any (z : Int) (w : World) (hz : I64 z) : Calls Tryz.prog 71 #[.int .i64 z] w (NewPost w z) := by
  by_cases h1 : z < 0
  · have HN := hide (fun (w' : World) (hb : Below w.heap.size w w') => show NewPost w z (.returned (.tuple #[.pointer none, .iface 37 (.int .i64 2)])) w' from .inl ⟨by omega, by rw [errV_ne (by omega)], hb⟩)
    go_enter Tryz.func71, Tryz.ntmps71
    go_wp2
    go_ret2
    exact HN.out _ (Below.refl _ _)
  · have h1b : decide (z < 0) = false := decide_eq_false h1
    by_cases h2 : 4000 < z
    · have HN := hide (fun (w' : World) (hb : Below w.heap.size w w') => show NewPost w z (.returned (.tuple #[.pointer none, .iface 37 (.int .i64 2)])) w' from .inl ⟨by omega, by rw [errV_ne (by omega)], hb⟩)
      go_enter Tryz.func71, Tryz.ntmps71
      go_wp2
      go_ret2
      exact HN.out _ (Below.refl _ _)
    · have h2b : decide (4000 < z) = false := decide_eq_false h2
      obtain ⟨R, rfl⟩ : ∃ R : Nat, z = (R : Int) := ⟨z.toNat, by omega⟩
      have hm1 := mk_nodes R (by omega)
      have hm2 := mk_bools R (by omega)
      have hm3 := mk_ints (2 * R + 1) (2 * (R : Int) + 1) (by omega) (by omega)
      go_enter Tryz.func71, Tryz.ntmps71
      go_wp2
      go_region
      all_goals
        go_wp2
        go_ret2
        exact newYes (by omega) al4_b ⟨by omega, by omega, by omega, by omega⟩ al4_4 (by first | exact al4_1 | exact al4_2 | exact al4_3) (by first | exact al4_1 | exact al4_2 | exact al4_3) (by first | exact al4_1 | exact al4_2 | exact al4_3)
end Go.Proofs.YtdlcldhnbhlikaaGreatDoor
namespace Go.Proofs.YtdlcldhnbhlikaaGreatDoor
open Go.RowKit

def intsV (zs : List Int) : List Value := zs.map (Value.int .i64)
/-- A row that is there to be read. -/
def RowI (w : World) (A : Option Addr) (n : Nat) (zs : List Int) : Prop := zs.length = n ∧ Reads w w.heap.size 1 A n (intsV zs)
theorem RowI.below {w w' : World} {A : Option Addr} {n : Nat} {zs : List Int} (h : RowI w A n zs) (hb : Below w.heap.size w w') : RowI w' A n zs := ⟨h.1, (h.2.below hb).more hb.size⟩
def OwnI (w : World) (base : Nat) (v : Value) (zs : List Int) : Prop := w.ownsRow base 3 1 v zs.length (intsV zs)
theorem OwnI.below {w w' : World} {base : Nat} {v : Value} {zs : List Int} (h : OwnI w base v zs) (hb : Below w.heap.size w w') : OwnI w' base v zs :=
  World.ownsRow.kept h (row := none) ⟨hb.os, hb.tape, hb.output, hb.size, fun i hi _ => hb.block i hi⟩ (by cases v.ownBlock <;> simp)
theorem OwnI.kept {w w' : World} {base : Nat} {v : Value} {zs : List Int} {r : Option Nat} (h : OwnI w base v zs) (hg : w.grownBy w' r) (hr : v.ownBlock = none ∨ v.ownBlock ≠ r) : OwnI w' base v zs :=
  World.ownsRow.kept h hg hr
theorem ownI_nil (w : World) (base : Nat) : OwnI w base (.slice none 0 0) [] := World.ownsRow_nil _ _ _ _
theorem OwnI.mono {w : World} {base base' : Nat} {v : Value} {zs : List Int} (h : OwnI w base v zs) (hb : base' ≤ base) : OwnI w base' v zs := by
  refine ⟨h.1, ?_⟩
  rcases h.2 with h2 | ⟨g, cap, cur, e, hg, r⟩
  · exact .inl h2
  · exact .inr ⟨g, cap, cur, e, Nat.le_trans hb hg, r⟩
theorem ownI_empty (w : World) (base : Nat) (hb : base ≤ w.heap.size) : OwnI (w.alloc (.cells #[] 3)) base (.slice (some ⟨w.heap.size, 0, none⟩) 0 0) [] :=
  ⟨rfl, .inr ⟨w.heap.size, 0, #[], rfl, hb, Blk.new w _ _, Nat.le_refl _, by simp [maxLen], rfl, rfl⟩⟩
theorem intsV_at {zs : List Int} {k : Nat} (hk : k < zs.length) : (intsV zs)[k]? = some (.int .i64 (zs.getD k 0)) := by
  unfold intsV
  rw [List.getElem?_map, List.getElem?_eq_getElem hk, List.getD_eq_getElem?_getD, List.getElem?_eq_getElem hk]
  rfl
/-- The row of a slice that is not empty. -/
theorem OwnI.form {w : World} {base : Nat} {v : Value} {zs : List Int} (h : OwnI w base v zs) (h0 : 0 < zs.length) : ∃ g cap cur, v = .slice (some ⟨g, 0, none⟩) zs.length cap ∧ base ≤ g ∧ Blk w g 3 cur ∧ zs.length ≤ cap ∧ ∀ k, k < zs.length → cur[k]? = some (.int .i64 (zs.getD k 0)) := by
  rcases h.2 with ⟨_, h9⟩ | ⟨g, cap, cur, rfl, hg, hgc, hle, hcm, hcs, hct⟩
  · omega
  · refine ⟨g, cap, cur, rfl, hg, hgc, hle, fun k hk => ?_⟩
    have h1 : (cur.toList.take (zs.length * 1))[k]? = some (.int .i64 (zs.getD k 0)) := by
      rw [hct]
      exact intsV_at hk
    rw [List.getElem?_take_of_lt (by omega)] at h1
    simpa using h1
theorem OwnI.len {w : World} {base : Nat} {v : Value} {zs : List Int} (h : OwnI w base v zs) : ∃ A c, v = .slice A zs.length c := by
  rcases h.2 with ⟨rfl, h0⟩ | ⟨g, cap, cur, rfl, _⟩
  · exact ⟨none, 0, by rw [h0]⟩
  · exact ⟨_, _, rfl⟩
/-- all but the last. -/
theorem OwnI.pop {w : World} {base g cap : Nat} {zs : List Int} {x : Int} (h : OwnI w base (.slice (some ⟨g, 0, none⟩) (zs ++ [x]).length cap) (zs ++ [x])) : OwnI w base (.slice (some ⟨g, 0, none⟩) zs.length cap) zs := by
  rcases h.2 with ⟨h9, _⟩ | ⟨g', cap', cur, e, hg, hgc, hle, hcm, hcs, hct⟩
  · cases h9
  · injection e with e1 _ e2
    injection e1 with e1
    injection e1 with e1
    subst e1 e2
    rw [List.length_append, List.length_singleton] at hle hct
    refine ⟨by simp [intsV], .inr ⟨g, cap, cur, rfl, hg, hgc, by omega, hcm, hcs, ?_⟩⟩
    have h1 := congrArg (List.take (zs.length * 1)) hct
    rw [List.take_take, Nat.min_eq_left (by omega)] at h1
    rw [h1]
    simp [intsV]
theorem OwnI.row {w : World} {base : Nat} {A : Option Addr} {n c : Nat} {zs : List Int} (h : OwnI w base (.slice A n c) zs) : RowI w A n zs := by
  obtain ⟨A', c', e⟩ := h.len
  injection e with e1 e2 e3
  subst e1 e2 e3
  exact ⟨rfl, Reads.of_own h⟩
theorem blk_reads {w : World} {g : Nat} {zs : List Int} (h : Blk w g 3 (intArr zs)) : Reads w (g + 1) 1 (some ⟨g, 0, none⟩) zs.length (intsV zs) := by
  refine ⟨by simp [intsV], fun _ => ⟨_, rfl, Nat.lt_succ_self _, fun j x hx => ?_⟩⟩
  have c := h.cell j
  unfold intArr at c
  rw [List.getElem?_toArray] at c
  have e : (⟨g, 0, none⟩ : Addr).add j = ⟨g, j, none⟩ := by
    unfold Addr.add
    split
    · rename_i h0; rw [h0]
    · simp
  rw [e, c]
  exact hx
/-- append of ints, in a plain region. -/
theorem appI (w : World) {ops : Array Oper} {rest : List Oper} {o : Oper} {a : Act} {Q : Exit → Act → World → Prop} (hgd : o.guard = none) (s x : Operand) (t : TypeId)
    (ho : o.op = .call { callee := .builtin .append, args := #[s, x], argTypes := #[t, t] }) (base : Nat) (ht : Tryz.prog.underlying t = some (.slice 3))
    (v : Value) (zs : List Int) (hs : a.eval s = v) (hown : OwnI w base v zs) (B : Nat) (A : Option Addr) (m c : Nat) (ys : List Int) (hx : a.eval x = .slice A m c) (hr : Reads w B 1 A m (intsV ys)) (hm : ys.length = m)
    (hl : zs.length + m ≤ 100000000) (hbase : base ≤ w.heap.size)
    (h : ∀ v' w', OwnI w' base v' (zs ++ ys) → w.grownBy w' v.ownBlock → (v'.ownBlock = v.ownBlock ∨ v'.ownBlock = some w.heap.size) → wpList Tryz.prog ops Q rest (a.put o.dst v') w') : wpList Tryz.prog ops Q (o :: rest) a w := by
  obtain ⟨i0, hi, hz0, hz1, hz2⟩ := info_parts intInfo
  refine wpList_append_any w hgd s x t ho base 3 i0 (.int .i64 0) 1 8 ht hi hz0 hz1 hz2 rfl (by decide) v zs.length _ hs hown B A m c (intsV ys) hx hr (fun u hu => by obtain ⟨y, _, rfl⟩ := List.mem_map.1 hu; rfl) (by simp only [maxLen]; omega) (by omega) hbase ?_
  intro v' w' ho' hg' hor
  refine h v' w' ?_ hg' hor
  unfold OwnI
  rw [List.length_append, hm]
  unfold intsV at ho' ⊢
  rw [List.map_append]
  exact ho'
theorem nilI_none (n c : Nat) (w : World) : (binOp .eql 24 (.slice none n c) (.slice none 0 0)).run Tryz.prog w = .ok (.bool true) w := by kernel_rfl
theorem nilI_some (ad : Addr) (n c : Nat) (w : World) : (binOp .eql 24 (.slice (some ad) n c) (.slice none 0 0)).run Tryz.prog w = .ok (.bool false) w := by kernel_rfl
def OwnPost (w : World) (zs : List Int) (e : Ending) (w' : World) : Prop := ∃ v, e = .returned v ∧ OwnI w' w.heap.size v zs ∧ Below w.heap.size w w'
set_option maxRecDepth 100000 in
theorem cloneI_any (A : Option Addr) (n c : Nat) (zs : List Int) (w : World) (h : RowI w A n zs) (hl : n ≤ 1000000) (hnil : A = none → n = 0) :
    Calls Tryz.prog 116 #[.slice A n c] w (OwnPost w zs) := by
  have HR := Lib.hid h
  clear h
  have hq0 := nilI_none
  have hq1 := nilI_some
  rcases A with _ | ad
  · obtain rfl : zs = [] := List.eq_nil_of_length_eq_zero (HR.out.1.trans (hnil rfl))
    go_enter Tryz.func116, Tryz.ntmps116
    go_wp2
    go_ret
    exact ⟨_, rfl, ownI_nil _ _, Below.refl _ _⟩
  · have hmk := ownI_empty w w.heap.size (Nat.le_refl _)
    have hb0 : Below w.heap.size w (w.alloc (.cells #[] 3)) := (Below.refl _ _).alloc (Nat.le_refl _) _
    go_enter Tryz.func116, Tryz.ntmps116
    go_wp2_with (first
      | (at_builtin; refine appI _ rfl _ _ _ rfl w.heap.size Tryz.underlying24 _ [] rfl hmk _ _ n c zs rfl (HR.out.2.below hb0) HR.out.1 (by simp; omega) hb0.size ?_; intro v' w' ho hg hor)
      | fail)
    go_ret
    exact ⟨v', rfl, by simpa using ho, hb0.grown hg hb0.size (fun j hj => by cases hj; exact Nat.le_refl _)⟩
end Go.Proofs.YtdlcldhnbhlikaaGreatDoor
namespace Go.Proofs.YtdlcldhnbhlikaaGreatDoor
open Go.RowKit

def offs (seen : List Bool) : Nat := seen.countP (fun b => !b)
theorem offs_set {seen : List Bool} {k : Nat} (hk : k < seen.length) (h : seen.getD k false = false) : offs seen = offs (seen.set k true) + 1 := by
  unfold offs
  induction seen generalizing k with
  | nil => simp at hk
  | cons a l ih =>
    cases k with
    | zero =>
      have ha : a = false := by simpa using h
      subst ha
      rw [List.set_cons_zero, List.countP_cons_of_pos (by rfl), List.countP_cons_of_neg (by simp)]
    | succ k =>
      rw [List.set_cons_succ, List.countP_cons, List.countP_cons, ih (by simpa using hk) (by simpa using h)]
      omega
theorem offs_le (seen : List Bool) : offs seen ≤ seen.length := List.countP_le_length
theorem node_small {A : Ar} (hw : WfA A) (hl : A.length ≤ 4000) {x : Int} {n : Nd} (e : gotA A x = some n) : I64 n.low ∧ I64 n.high := by
  have hk : ∀ y, hasA A y = true → I64 y := fun y hy => by
    unfold hasA at hy
    unfold I64
    by_cases h0 : y = 0
    · omega
    · by_cases h1 : y = 1
      · omega
      · rw [beq_eq_false_iff_ne.2 h0, beq_eq_false_iff_ne.2 h1] at hy
        simp only [Bool.false_or] at hy
        obtain ⟨m, em⟩ := Option.isSome_iff_exists.1 hy
        obtain ⟨k, ek, hk, _⟩ := gotA_is em
        omega
  exact ⟨hk _ (hw.low x n e).1, hk _ (hw.high x n e).1⟩
/-- Where Reach stands. -/
structure DfsI (w : World) (gs : Nat) (A : Ar) (l : List Int) (seen : List Bool) (todo : List Int) (vo : Value) (wr : World) : Prop where
  bel : Below w.heap.size w wr
  ks : Blk wr gs 4 (boolArr seen)
  own : OwnI wr (gs + 1) vo todo
  S : SeenI A l seen todo
  i64 : ∀ x ∈ todo, I64 x
structure OutI (w : World) (gs : Nat) (seen : List Bool) (i : Nat) (vo : Value) (wr : World) : Prop where
  bel : Below w.heap.size w wr
  ks : Blk wr gs 4 (boolArr seen)
  own : OwnI wr (gs + 1) vo (outL seen i)
theorem outL_le (seen : List Bool) (i : Nat) : (outL seen i).length ≤ i := by
  unfold outL
  rw [List.length_map]
  exact Nat.le_trans (List.length_filter_le ..) (by rw [List.length_range]; exact Nat.le_refl _)

set_option maxRecDepth 100000 in
set_option maxHeartbeats 8000000 in
theorem arReach_any (B gn gu gt : Nat) (A : Ar) (Af : Option Addr) (nf cf : Nat) (l : List Int) (w : World) (h : ArM w B gn gu gt A) (hl : RowI w Af nf l) (hi : ∀ x ∈ l, I64 x) (hn : nf ≤ 1000000) (hnil : Af = none → nf = 0) :
    Calls Tryz.prog 70 #[.pointer (some ⟨B, 0, none⟩), .slice Af nf cf] w (OwnPost w (reachL A l)) := by
  obtain ⟨ns, us, tab, hx⟩ := h.x
  have hroom := h.room
  have hmk := mk_bools A.length (by omega)
  have HW := hide h
  have HWF := hide hx.T.wf
  have b0 := hx.kB.cell 0
  have HI := hide hi
  have HLL := Lib.hid hl.1
  have HK := hide (Blk.new w 4 (boolArr (List.replicate A.length false)))
  have HB := hide ((Below.refl w.heap.size w).alloc (Nat.le_refl _) (.cells (boolArr (List.replicate A.length false)) 4))
  have HCL := hide (cloneI_any Af nf cf l _ (hl.below HB.out) hn hnil)
  have hsz : (w.alloc (.cells (boolArr (List.replicate A.length false)) 4)).heap.size = w.heap.size + 1 := by simp
  clear h hx hl hi
  go_enter Tryz.func70, Tryz.ntmps70
  go_wp2_with fail
  refine (HCL.out).mono ?_
  rintro e w1 ⟨vo, rfl, ho, hb1⟩
  rw [hsz] at ho
  have HST := hide (show DfsI w w.heap.size A l (List.replicate A.length false) l vo w1 from ⟨HB.out.trans (hb1.mono HB.out.size), HK.out.below hb1 HK.out.lt, ho, seen_start A l, HI.out⟩)
  obtain ⟨N0, HN0⟩ : ∃ N0, Hid (2 * offs (List.replicate A.length false) + l.length = N0) := ⟨_, Lib.hid rfl⟩
  have hN0 : N0 ≤ 1010000 := by
    have h1 := offs_le (List.replicate A.length false)
    rw [List.length_replicate] at h1
    have h2 := HN0.out
    have h3 := HLL.out
    omega
  clear ho hb1 HCL HB HK b0 hmk hsz
  obtain ⟨gs, HGS⟩ : ∃ gs, Hid (w.heap.size = gs) := ⟨_, Lib.hid rfl⟩
  have hgs : w.heap.size ≤ gs := by rw [← HGS.out]; omega
  simp only [HGS.out] at HST ⊢
  have hNAr : ∀ k, arB B gn gu gt k → k < gs := fun k hk => by rw [← HGS.out]; exact HW.out.lt hk
  go_wp2
  go_loopg [6] N0 (fun gk vo wr => gk ≤ N0 ∧ ∃ seen todo, 2 * offs seen + todo.length = gk ∧ Hid (DfsI w gs A l seen todo vo wr))
  case atStart => exact ⟨Nat.le_refl _, _, l, HN0.out, HST⟩
  case round =>
    clear HST
    obtain ⟨hgN, seen, todo, hgk, hD⟩ := hrel
    have HMr := hide (HW.out.below hD.out.bel (fun k hk => HW.out.lt hk))
    rcases List.eq_nil_or_concat todo with e | ⟨t, x, e⟩
    · subst e
      obtain ⟨A0, c0, e0⟩ := hD.out.own.len
      rw [List.length_nil] at e0
      subst e0
      have hsl := hD.out.S.len
      have HO := hide (show OutI w gs seen 0 (.slice none 0 0) wr from ⟨hD.out.bel, hD.out.ks, ownI_nil _ _⟩)
      have HSO := Lib.hid hD.out.S.out
      clear hD HMr
      have hr2 : A.length ≤ 4000 := hroom
      go_wp2
      go_loopw [10, 63] (fun vo iv wi => ∃ i : Nat, i ≤ A.length ∧ iv = .int .i64 i ∧ Hid (OutI w gs seen i vo wi)) (fun _ iv _ => A.length - (intOf iv).toNat)
      case atStart => exact ⟨0, Nat.zero_le _, rfl, HO⟩
      case round =>
        clear HO
        obtain ⟨i, hi, rfl, hO⟩ := hrel
        by_cases hlt : i < A.length
        · have s0 := (hO.out.ks.cell i).trans (boolArr_at (by rw [hsl]; exact hlt))
          have HN := Lib.hid (outL_succ seen i)
          by_cases hs : seen.getD i false = true
          · rw [if_pos hs] at HN
            rw [hs] at s0
            have hle := outL_le seen i
            have HOA := hide (hO.out.own.below ((Below.refl wr.heap.size wr).alloc (Nat.le_refl _) (.cells #[.int .i64 ((i : Int) + 2)] 3)))
            have HBA := hide (hO.out.bel.alloc hO.out.bel.size (.cells #[.int .i64 ((i : Int) + 2)] 3))
            have HKA := hide (hO.out.ks.alloc (.cells #[.int .i64 ((i : Int) + 2)] 3))
            have HRA := hide (blk_reads (zs := [(i : Int) + 2]) (Blk.new wr 3 #[.int .i64 ((i : Int) + 2)]))
            have HSZ := Lib.hid (show gs + 1 ≤ (wr.alloc (.cells #[.int .i64 ((i : Int) + 2)] 3)).heap.size from HKA.out.lt)
            have HLT := hide (World.ownsRow.lt HOA.out)
            clear hs
            go_wp2_with (at_builtin; refine appI _ rfl _ _ _ rfl (gs + 1) Tryz.underlying24 _ (outL seen i) rfl HOA.out (wr.heap.size + 1) (some ⟨wr.heap.size, 0, none⟩) 1 1 [(i : Int) + 2] rfl HRA.out rfl (by omega) HSZ.out ?_; intro v9 w9 ho9 hg9 hor9; have HO9 := hide ho9; have HB9 := hide (HBA.out.grown hg9 HBA.out.size (fun k hk => Nat.le_trans (by omega) (HLT.out k hk).1)); have HK9 := hide (HKA.out.grown hg9 (fun e => by have := (HLT.out gs e.symm).1; omega)); clear ho9 hg9 hor9)
            go_roundw
            case rel => exact ⟨i + 1, by omega, by go_num, hide ⟨HB9.out, HK9.out, by rw [HN.out]; exact HO9.out⟩⟩
            case measure => simp [intOf]; omega
          · have hs' := Bool.eq_false_iff.2 hs
            rw [if_neg hs, List.append_nil] at HN
            rw [hs'] at s0
            clear hs hs'
            go_wp2
            go_roundw
            case rel => exact ⟨i + 1, by omega, by go_num, hide ⟨hO.out.bel, hO.out.ks, by rw [HN.out]; exact hO.out.own⟩⟩
            case measure => simp [intOf]; omega
        · obtain rfl : i = A.length := by omega
          go_wp2
          go_ret
          exact ⟨_, rfl, by rw [← HSO.out]; exact hO.out.own.mono (by omega), hO.out.bel⟩
    · rw [List.concat_eq_append] at e
      subst e
      have hlen : (t ++ [x]).length = t.length + 1 := by simp
      obtain ⟨g, cap, cur, e0, hg, hkg, hcap, hcell⟩ := hD.out.own.form (by omega)
      subst e0
      have hxI : I64 x := hD.out.i64 x (by simp)
      have t0 := (hkg.cell t.length).trans (hcell t.length (by omega))
      rw [show (t ++ [x]).getD t.length 0 = x by simp [List.getD_eq_getElem?_getD]] at t0
      have HPOP := hide hD.out.own.pop
      have HTI := hide (show ∀ y ∈ t, I64 y from fun y hy => hD.out.i64 y (List.mem_append_left _ hy))
      rw [hlen] at hcap ⊢
      have hgk2 : 2 * offs seen + (t.length + 1) = gk := by rw [← hlen]; exact hgk
      have hsl := hD.out.S.len
      cases hgx : gotA A x with
      | none =>
        have HG := hide (arGet_none B gn gu gt A x wr HMr.out hxI hgx)
        have HS2 := hide (hD.out.S.skip (fun n e => by rw [hgx] at e; cases e))
        have HBE := hide hD.out.bel
        have HKS := hide hD.out.ks
        clear hD hkg hcell hgx hgk
        go_wp2_with fail
        refine (HG.out).mono ?_
        rintro e w5 ⟨rfl, hb5⟩
        have HB5 := hide (hb5.alloc hb5.size (.cells #[.int .i64 0, .int .i64 0, .int .i64 0] 101))
        clear hb5
        go_wp2
        go_roundg (gk - 1)
        case rel => exact ⟨by omega, seen, t, by omega, hide ⟨HBE.out.trans (HB5.out.mono HBE.out.size), HKS.out.below HB5.out HKS.out.lt, HPOP.out.below HB5.out, HS2.out, HTI.out⟩⟩
        case measure => omega
      | some n =>
        have HG := hide (arGet_some B gn gu gt A x n wr HMr.out hxI hgx)
        obtain ⟨k, rfl, hk, _⟩ := gotA_is hgx
        have hk5 : (k : Int) + 2 - 2 = (k : Int) := by omega
        have hkI : (k : Int) < (A.length : Int) := by omega
        have hkn : ((k : Int) + 2 - 2).toNat = k := by omega
        have s0 := (hD.out.ks.cell k).trans (boolArr_at (by rw [hsl]; exact hk))
        by_cases hs : seen.getD k false = true
        · have HS2 := hide (hD.out.S.skip (fun n _ => by rw [hkn]; exact hs))
          rw [hs] at s0
          have HBE := hide hD.out.bel
          have HKS := hide hD.out.ks
          have hlt := hD.out.ks.lt
          clear hD hkg hcell hgx hgk hs
          go_wp2_with fail
          refine (HG.out).mono ?_
          rintro e w5 ⟨rfl, hb5⟩
          have HB5 := hide (hb5.alloc hb5.size (.cells #[.int .i64 n.var, .int .i64 n.low, .int .i64 n.high] 101))
          have s5 := (HB5.out.cell (p := ⟨gs, k, none⟩) hlt).trans s0
          clear hb5
          go_wp2
          go_roundg (gk - 1)
          case rel => exact ⟨by omega, seen, t, by omega, hide ⟨HBE.out.trans (HB5.out.mono HBE.out.size), HKS.out.below HB5.out HKS.out.lt, HPOP.out.below HB5.out, HS2.out, HTI.out⟩⟩
          case measure => omega
        · have hs' := Bool.eq_false_iff.2 hs
          rw [hs'] at s0
          have HS2 := hide (hD.out.S.mark hgx)
          rw [hkn] at HS2
          have HOF := Lib.hid (offs_set (by rw [hsl]; exact hk) hs')
          obtain ⟨il, ih⟩ := node_small HWF.out hroom hgx
          have HTI2 := hide (show ∀ y ∈ t ++ [n.low, n.high], I64 y from fun y hy => by
            rcases List.mem_append.1 hy with hy | hy
            · exact HTI.out y hy
            · simp only [List.mem_cons, List.not_mem_nil, or_false] at hy
              rcases hy with e | e
              · rw [e]; exact il
              · rw [e]; exact ih)
          have HBE := hide hD.out.bel
          have HKS := hide hD.out.ks
          have hlt := hD.out.ks.lt
          clear hD hkg hcell hgx hgk hs hs' HTI
          go_wp2_with fail
          refine (HG.out).mono ?_
          rintro e w5 ⟨rfl, hb5⟩
          have f5 := (HKS.out.below hb5 hlt).frozen k
          have s5 := (hb5.cell (p := ⟨gs, k, none⟩) hlt).trans s0
          have l5 : gs < w5.heap.size := Nat.lt_of_lt_of_le hlt hb5.size
          have hks := (HKS.out.below hb5 hlt).set_ k (.bool true)
          rw [boolArr_set] at hks
          have hgr := only_setCell (p := ⟨gs, k, none⟩) (World.grownBy.refl w5 (some gs)) (.inl rfl) (.bool true)
          have hps := (HPOP.out.below hb5).kept hgr (.inr (fun e => by have := (World.ownsRow.lt HPOP.out gs e).1; omega))
          have hbs : Below w.heap.size w (w5.setCell ⟨gs, k, none⟩ (.bool true)) := (HBE.out.trans (hb5.mono HBE.out.size)).setCell (p := ⟨gs, k, none⟩) (by omega) _
          have hal : Below (w5.setCell ⟨gs, k, none⟩ (.bool true)).heap.size (w5.setCell ⟨gs, k, none⟩ (.bool true)) (((w5.setCell ⟨gs, k, none⟩ (.bool true)).alloc (.cells #[.int .i64 n.var, .int .i64 n.low, .int .i64 n.high] 101)).alloc (.cells #[.int .i64 n.low, .int .i64 n.high] 3)) :=
            ((Below.refl _ _).alloc (Nat.le_refl _) _).alloc (by simp) _
          have HKA := hide (hks.below hal hks.lt)
          have HOA := hide (hps.below hal)
          have HBA := hide (hbs.trans (hal.mono hbs.size))
          have hz6 : (w5.setCell ⟨gs, k, none⟩ (.bool true)).heap.size = w5.heap.size := by simp [World.setCell]
          have hra := blk_reads (zs := [n.low, n.high]) (Blk.new ((w5.setCell ⟨gs, k, none⟩ (.bool true)).alloc (.cells #[.int .i64 n.var, .int .i64 n.low, .int .i64 n.high] 101)) 3 #[.int .i64 n.low, .int .i64 n.high])
          rw [show ((w5.setCell ⟨gs, k, none⟩ (.bool true)).alloc (.cells #[.int .i64 n.var, .int .i64 n.low, .int .i64 n.high] 101)).heap.size = w5.heap.size + 1 by simp [World.setCell]] at hra
          have HRA := hide hra
          have HLT := hide (World.ownsRow.lt HOA.out)
          have hoff := offs_le seen
          clear hb5 hks hgr hps hbs hal hra
          go_wp2_with (at_builtin; refine appI _ rfl _ _ _ rfl (gs + 1) Tryz.underlying24 _ t rfl HOA.out (w5.heap.size + 1 + 1) (some ⟨w5.heap.size + 1, 0, none⟩) 2 2 [n.low, n.high] rfl HRA.out rfl (by omega) (Nat.le_trans HKA.out.lt (Nat.le_refl _)) ?_; intro v9 w9 ho9 hg9 hor9; have HO9 := hide ho9; have HB9 := hide (HBA.out.grown hg9 HBA.out.size (fun k hk => Nat.le_trans (by omega) (HLT.out k hk).1)); have HK9 := hide (HKA.out.grown hg9 (fun e => by have := (HLT.out gs e.symm).1; omega)); clear ho9 hg9 hor9)
          go_roundg (gk - 1)
          case rel => exact ⟨by omega, _, _, by have := HOF.out; simp; omega, hide ⟨HB9.out, HK9.out, HO9.out, HS2.out, HTI2.out⟩⟩
          case measure => omega
end Go.Proofs.YtdlcldhnbhlikaaGreatDoor
