/-
  The document's Make of a node that may lie there.
-/
import Derived.Test.YtfbhmkpihmcegaaDoorRefMake
import Derived.StillTailTactics
namespace Go.Proofs.YtfbhmkpihmcegaaDoor
open Go.RowKit Go.Maps

set_option maxRecDepth 100000 in
set_option maxHeartbeats 4000000 in
theorem rm_ten (R gm : Nat) (A : Ar) (n : Nd) (w : World) (h : RfM w R gm A) (hi : NdI n) (hv : 0 ≤ n.var ∧ n.var < 24) (hh : hasA A n.low = true ∧ hasA A n.high = true) (ht : topA A n.low ≤ n.var ∨ topA A n.high ≤ n.var) :
    Calls Tryd.prog 11 #[.pointer (some ⟨R, 0, none⟩), .agg #[.int .i64 n.var, .int .i64 n.low, .int .i64 n.high]] w (RmPost w R gm A n) := by
  have HE := hide (fun (w' : World) (hb : Below w.heap.size w w') => rmNo (w' := w') h (makeE_top hv hh ht) (by omega) hb)
  have HK := hide (Blk.new w 42 #[.int .i64 n.var, .int .i64 n.low, .int .i64 n.high])
  have HB := hide ((Below.refl w.heap.size w).alloc (Nat.le_refl _) (.cells #[.int .i64 n.var, .int .i64 n.low, .int .i64 n.high] 42))
  have HM := hide (h.below HB.out h.kR.lt h.map.lt)
  have q0 := HK.out.cell 0
  have q1 := HK.out.cell 1
  have HWI := hide (within_23 n.var (w.alloc (.cells #[.int .i64 n.var, .int .i64 n.low, .int .i64 n.high] 42)))
  rw [decide_eq_true hv] at HWI
  have HL := hide (rfHas_any R gm A n.low _ HM.out hi.low)
  have HH := hide (fun (w' : World) (hb : Below (w.alloc (.cells #[.int .i64 n.var, .int .i64 n.low, .int .i64 n.high] 42)).heap.size (w.alloc (.cells #[.int .i64 n.var, .int .i64 n.low, .int .i64 n.high] 42)) w') => rfHas_any R gm A n.high w' (HM.out.below hb HM.out.kR.lt HM.out.map.lt) hi.high)
  rw [hh.1] at HL
  rw [hh.2] at HH
  have HI := hide hi
  have hgb : w.heap.size ≤ w.heap.size := Nat.le_refl _
  clear h hi hv hh
  rcases (show topA A n.low ≤ n.var ∨ (¬ topA A n.low ≤ n.var ∧ topA A n.high ≤ n.var) by omega) with h1 | ⟨h1, h2⟩
  case' inl => have hd : decide (topA A n.low ≤ n.var) = true := decide_eq_true h1
  case' inr =>
    have hd : decide (topA A n.low ≤ n.var) = false := decide_eq_false h1
    have hd2 : decide (topA A n.high ≤ n.var) = true := decide_eq_true h2
  all_goals
    go_enter Tryd.func11, Tryd.ntmps11
    go_wp2_with fail
    refine (HWI.out).mono ?_
    rintro e w1 ⟨rfl, rfl⟩
    go_wp2_with fail
    refine (HL.out).mono ?_
    rintro e w1 ⟨rfl, hb1⟩
    have HB1 := hide (HB.out.trans (hb1.mono HB.out.size))
    have HK1 := hide (HK.out.below hb1 HK.out.lt)
    have q2 := HK1.out.cell 2
    have HH2 := hide (HH.out w1 hb1)
    have HM1 := hide (HM.out.below hb1 HM.out.kR.lt HM.out.map.lt)
    clear hb1
    go_wp2_with fail
    refine (HH2.out).mono ?_
    rintro e w2 ⟨rfl, hb2⟩
    have HB2 := hide (HB1.out.trans (hb2.mono HB1.out.size))
    have HK2 := hide (HK1.out.below hb2 HK1.out.lt)
    have HM2 := hide (HM1.out.below hb2 HM1.out.kR.lt HM1.out.map.lt)
    clear hb2 q2
    go_wp2
    have lg := HK2.out.lt
    clear q0 q1
    generalize w.heap.size = g at HK2 lg ⊢
    have HTL := hide (fun c : Calm w2 => rfTop_any R gm A n.low c.val (HM2.out.below c.bel HM2.out.kR.lt HM2.out.map.lt) HI.out.low)
    have HTH := hide (fun c : Calm w2 => rfTop_any R gm A n.high c.val (HM2.out.below c.bel HM2.out.kR.lt HM2.out.map.lt) HI.out.high)
    have q0 := fun c : Calm w2 => (c.cell (i := 0) lg).trans (HK2.out.cell 0)
    have q1 := fun c : Calm w2 => (c.cell (i := 1) lg).trans (HK2.out.cell 1)
    have q2 := fun c : Calm w2 => (c.cell (i := 2) lg).trans (HK2.out.cell 2)
    refine wp_region_calm (by kernel_rfl) (by kernel_rfl) ?_
    repeat (go_big_quiet_step (fail))
    go_big_quiet_want
    go_big_quiet_op
    go_big_quiet_call ((go_at_call 19; refine (HTL.out _).mono ?_; rintro e w4 ⟨rfl, hb0⟩; exact ⟨rfl, Calm.on _ hb0⟩))
    repeat (go_big_quiet_step (fail))
    try (go_big_quiet_want; go_big_quiet_op; go_big_quiet_call ((go_at_call 19; refine (HTH.out _).mono ?_; rintro e w4 ⟨rfl, hb0⟩; exact ⟨rfl, Calm.on _ hb0⟩)); repeat (go_big_quiet_step (fail)))
    refine wpQuiet_nil ?_
    rintro _ ⟨cw, rfl⟩
    clear q0 q1 q2
    have HX := hide (HB2.out.trans (cw.bel.mono HB2.out.size))
    go_wp2
    go_ret2
    exact HE.out _ HX.out
end Go.Proofs.YtfbhmkpihmcegaaDoor
