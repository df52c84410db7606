/-
  A space's Size and Needs.
-/
import Derived.Test.YtdlcldhnbhlikaaGreatDoorBddG
import Derived.Laws.Rows
namespace Go.Proofs.YtdlcldhnbhlikaaGreatDoor
open Go.RowKit Go.Maps

/-- A space in block S, over any arena. -/
structure SpB (w : World) (S B gn gu gt gc : Nat) (vars : Int) (A : Ar) : Prop where
  kS : Blk w S 82 #[.pointer (some ⟨B, 0, none⟩), .int .i64 vars, .map (some gc)]
  ar : ArM w B gn gu gt A
  wf : WfA A
theorem SpB.below {w w' : World} {S B gn gu gt gc : Nat} {vars : Int} {A : Ar} (h : SpB w S B gn gu gt gc vars A) (hb : Below w.heap.size w w') : SpB w' S B gn gu gt gc vars A :=
  ⟨h.kS.below hb h.kS.lt, h.ar.below hb (fun _ hk => h.ar.lt hk), h.wf⟩
theorem SpM.toB {w : World} {S B gn gu gt gc m : Nat} {vars : Int} {A : Ar} (h : SpM w S B gn gu gt gc vars A m) : SpB w S B gn gu gt gc vars A := ⟨h.kS, h.ar, h.sp.wf⟩
theorem SpE.toB {w : World} {S B gn gu gt gc R : Nat} {vars : Int} (h : SpE w S B gn gu gt gc vars R) : SpB w S B gn gu gt gc vars (emptyA R) := ⟨h.kS, h.ar, wf_empty R⟩
/-- The variables that a handle hangs on, rising. -/
noncomputable def inB (A : Ar) (L : List Int) (v : Nat) : Bool := L.any fun k => topA A k == (v : Int)
noncomputable def needL (A : Ar) (x : Int) (n : Nat) : List Int := ((List.range n).filter fun v => inB A (reachL A [x]) v).map fun v : Nat => (v : Int)
def SizeP (w : World) (A : Ar) (x : Int) (e : Ending) (w' : World) : Prop := e = .returned (.tuple #[.int .i64 ((reachL A [x]).length : Int), .nilIface]) ∧ Below w.heap.size w w'
def NeedsP (w : World) (A : Ar) (x : Int) (e : Ending) (w' : World) : Prop := ∃ v, e = .returned (.tuple #[v, .nilIface]) ∧ OwnI w' w.heap.size v (needL A x 24) ∧ Below w.heap.size w w'
section
variable (S B gn gu gt gc : Nat) (vars : Int) (A : Ar) (w : World)
theorem hasN_call (x : Int) (h : ArM w B gn gu gt A) (hx : I64 x) (p : hasA A x = false) : Calls Tryz.prog 33 #[.pointer (some ⟨B, 0, none⟩), .int .i64 x] w (fun e w' => e = .returned (.bool false) ∧ w = w') :=
  (arHas_any B gn gu gt A x w h hx).mono (fun e w' ⟨e1, e2⟩ => ⟨by rw [e1, p], e2⟩)
theorem row_one {w : World} (x : Int) : RowI (w.alloc (.cells #[.int .i64 x] 3)) (some ⟨w.heap.size, 0, none⟩) 1 [x] := by
  have h := blk_reads (zs := [x]) (Blk.new w 3 #[.int .i64 x])
  exact ⟨rfl, h.more (by simp)⟩
set_option maxHeartbeats 2000000 in
theorem bdSize_any (x : Int) (h : SpB w S B gn gu gt gc vars A) (hx : I64 x) (p : hasA A x = true) :
    Calls Tryz.prog 28 #[.pointer (some ⟨S, 0, none⟩), .int .i64 x] w (SizeP w A x) := by
  have s0 := h.kS.cell 0
  have HA := hide (hasA_call B gn gu gt A x w h.ar hx p)
  have hal := (Below.refl w.heap.size w).alloc (Nat.le_refl _) (.cells #[.int .i64 x] 3)
  have HB := hide hal
  have HR := hide (arReach_any B gn gu gt A _ 1 1 [x] _ (h.ar.below hal (fun _ hk => h.ar.lt hk)) (row_one x) (by simpa using hx) (by omega) (fun e => by cases e))
  have hl := reachL_le A [x]
  have hroom := h.ar.room
  clear h hal
  go_enter Tryz.func28, Tryz.ntmps28
  go_wp2_with fail
  refine (HA.out).mono ?_
  rintro e w1 ⟨rfl, rfl⟩
  go_wp2_with fail
  refine (HR.out).mono ?_
  rintro e w2 ⟨v, rfl, ho, hb2⟩
  obtain ⟨A', c', rfl⟩ := ho.len
  generalize hL : (reachL A [x]).length = L at ho hl ⊢
  have HL := Lib.hid hL
  clear ho hL
  go_wp2
  go_ret2
  exact ⟨by rw [HL.out]; rfl, HB.out.trans (hb2.mono HB.out.size)⟩
set_option maxHeartbeats 2000000 in
theorem bdSize_no (x : Int) (h : SpB w S B gn gu gt gc vars A) (hx : I64 x) (p : hasA A x = false) :
    Calls Tryz.prog 28 #[.pointer (some ⟨S, 0, none⟩), .int .i64 x] w (ErrP w 7) := by
  have s0 := h.kS.cell 0
  have HA := hide (hasN_call B gn gu gt A w x h.ar hx p)
  clear h
  go_enter Tryz.func28, Tryz.ntmps28
  go_wp2_with fail
  refine (HA.out).mono ?_
  rintro e w1 ⟨rfl, rfl⟩
  go_wp2
  go_ret2
  exact ⟨_, by rw [errV_ne (by decide)]; rfl, Below.refl _ _⟩
/-- Where the second loop stands. -/
structure NdO (w : World) (A : Ar) (x : Int) (k : Nat) (vo : Value) (wr : World) : Prop where
  bel : Below w.heap.size w wr
  own : OwnI wr w.heap.size vo (needL A x k)
theorem needL_succ (A : Ar) (x : Int) (k : Nat) : needL A x (k + 1) = needL A x k ++ (if inB A (reachL A [x]) k then [(k : Int)] else []) := by
  unfold needL
  rw [List.range_succ, List.filter_append, List.map_append]
  congr 1
  rw [List.filter_cons]
  split <;> simp
theorem needL_le (A : Ar) (x : Int) (k : Nat) : (needL A x k).length ≤ k := by
  unfold needL
  rw [List.length_map]
  exact Nat.le_trans (List.length_filter_le ..) (by rw [List.length_range]; exact Nat.le_refl _)
theorem reach_top {A : Ar} {l : List Int} {y : Int} (hw : WfA A) (hr : A.length ≤ 4000) (hy : y ∈ reachL A l) : ∃ t : Nat, t < 24 ∧ topA A y = (t : Int) ∧ I64 y := by
  unfold reachL at hy
  obtain ⟨k, hk, rfl⟩ := List.mem_map.1 hy
  obtain ⟨h1, h2⟩ := List.mem_filter.1 hk
  have h3 := List.mem_range.1 h1
  have h4 : ReachA A l ((k : Int) + 2) := by simpa using h2
  obtain ⟨n, e⟩ := h4.got
  obtain ⟨v0, v1⟩ := hw.var _ _ e
  exact ⟨n.var.toNat, by omega, by rw [top_some e]; omega, by unfold I64; omega⟩
end
end Go.Proofs.YtdlcldhnbhlikaaGreatDoor
