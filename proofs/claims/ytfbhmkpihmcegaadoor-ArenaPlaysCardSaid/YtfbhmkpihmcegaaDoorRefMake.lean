/-
  The document's Make: the errors.
-/
import Derived.Test.YtfbhmkpihmcegaaDoorRefSweep
namespace Go.Proofs.YtfbhmkpihmcegaaDoor
open Go.RowKit Go.Maps

def RmPost (w : World) (R gm : Nat) (A : Ar) (n : Nd) (e : Ending) (w' : World) : Prop :=
  e = .returned (.tuple #[.int .i64 (makeH A n), .int .i64 (makeE A n)]) ∧ RfM w' R gm (makeA A n) ∧ Fr (fun k => k = gm) w w'
theorem rmNo {w w' : World} {R gm : Nat} {A : Ar} {n : Nd} {c : Int} (h : RfM w R gm A) (hc : makeE A n = c) (h0 : c ≠ 0) (hb : Below w.heap.size w w') :
    RmPost w R gm A n (.returned (.tuple #[.int .i64 0, .int .i64 c])) w' := by
  have e1 : makeH A n = 0 := by unfold makeH; rw [if_pos (by rw [hc]; exact h0)]
  have e2 : makeA A n = A := by unfold makeA; rw [if_pos (by rw [hc]; exact h0)]
  exact ⟨by rw [e1, hc], by rw [e2]; exact h.below hb h.kR.lt h.map.lt, .of_below hb (Nat.le_refl _)⟩
theorem within_23 (x : Int) (w : World) : Calls Tryd.prog 63 #[.int .i64 x, .int .i64 0, .int .i64 23] w (fun e w' => e = .returned (.bool (decide (0 ≤ x ∧ x < 24))) ∧ w = w') :=
  (within_any x 0 23 w).mono (by
    rintro e w' ⟨rfl, rfl⟩
    refine ⟨?_, rfl⟩
    congr 2
    unfold withinB
    exact decide_eq_decide.2 (by omega))
set_option maxHeartbeats 4000000 in
theorem rm_two (R gm : Nat) (A : Ar) (n : Nd) (w : World) (h : RfM w R gm A) (hv : ¬ (0 ≤ n.var ∧ n.var < 24)) :
    Calls Tryd.prog 11 #[.pointer (some ⟨R, 0, none⟩), .agg #[.int .i64 n.var, .int .i64 n.low, .int .i64 n.high]] w (RmPost w R gm A n) := by
  have HE := hide (fun (w' : World) (hb : Below w.heap.size w w') => rmNo (w' := w') h (makeE_var hv) (by omega) hb)
  have HK := hide (Blk.new w 42 #[.int .i64 n.var, .int .i64 n.low, .int .i64 n.high])
  have q0 := HK.out.cell 0
  have HWI := hide (within_23 n.var (w.alloc (.cells #[.int .i64 n.var, .int .i64 n.low, .int .i64 n.high] 42)))
  rw [decide_eq_false hv] at HWI
  clear h hv
  go_enter Tryd.func11, Tryd.ntmps11
  go_wp2_with fail
  refine (HWI.out).mono ?_
  rintro e w1 ⟨rfl, rfl⟩
  go_wp2
  go_ret2
  exact HE.out _ ((Below.refl w.heap.size w).alloc (Nat.le_refl _) _)
set_option maxHeartbeats 4000000 in
theorem rm_seven (R gm : Nat) (A : Ar) (n : Nd) (w : World) (h : RfM w R gm A) (hi : NdI n) (hv : 0 ≤ n.var ∧ n.var < 24) (hh : ¬ (hasA A n.low = true ∧ hasA A n.high = true)) :
    Calls Tryd.prog 11 #[.pointer (some ⟨R, 0, none⟩), .agg #[.int .i64 n.var, .int .i64 n.low, .int .i64 n.high]] w (RmPost w R gm A n) := by
  have HE := hide (fun (w' : World) (hb : Below w.heap.size w w') => rmNo (w' := w') h (makeE_has hv hh) (by omega) hb)
  have HK := hide (Blk.new w 42 #[.int .i64 n.var, .int .i64 n.low, .int .i64 n.high])
  have HB := hide ((Below.refl w.heap.size w).alloc (Nat.le_refl _) (.cells #[.int .i64 n.var, .int .i64 n.low, .int .i64 n.high] 42))
  have HM := hide (h.below HB.out h.kR.lt h.map.lt)
  have q0 := HK.out.cell 0
  have q1 := HK.out.cell 1
  have HWI := hide (within_23 n.var (w.alloc (.cells #[.int .i64 n.var, .int .i64 n.low, .int .i64 n.high] 42)))
  rw [decide_eq_true hv] at HWI
  have HL := hide (rfHas_any R gm A n.low _ HM.out hi.low)
  have HH := hide (fun (w' : World) (hb : Below (w.alloc (.cells #[.int .i64 n.var, .int .i64 n.low, .int .i64 n.high] 42)).heap.size (w.alloc (.cells #[.int .i64 n.var, .int .i64 n.low, .int .i64 n.high] 42)) w') => rfHas_any R gm A n.high w' (HM.out.below hb HM.out.kR.lt HM.out.map.lt) hi.high)
  clear h hi hv
  rcases (show hasA A n.low = false ∨ (hasA A n.low = true ∧ hasA A n.high = false) by
    cases h1 : hasA A n.low <;> cases h2 : hasA A n.high <;> simp_all) with h1 | ⟨h1, h2⟩
  · rw [h1] at HL
    go_enter Tryd.func11, Tryd.ntmps11
    go_wp2_with fail
    refine (HWI.out).mono ?_
    rintro e w1 ⟨rfl, rfl⟩
    go_wp2_with fail
    refine (HL.out).mono ?_
    rintro e w1 ⟨rfl, hb1⟩
    have HB1 := hide (HB.out.trans (hb1.mono HB.out.size))
    clear hb1
    go_wp2
    go_ret2
    exact HE.out _ HB1.out
  · rw [h1] at HL
    rw [h2] at HH
    go_enter Tryd.func11, Tryd.ntmps11
    go_wp2_with fail
    refine (HWI.out).mono ?_
    rintro e w1 ⟨rfl, rfl⟩
    go_wp2_with fail
    refine (HL.out).mono ?_
    rintro e w1 ⟨rfl, hb1⟩
    have HB1 := hide (HB.out.trans (hb1.mono HB.out.size))
    have q2 := (HK.out.below hb1 HK.out.lt).cell 2
    have HH2 := hide (HH.out w1 hb1)
    clear hb1 HH
    go_wp2_with fail
    refine (HH2.out).mono ?_
    rintro e w2 ⟨rfl, hb2⟩
    have HB2 := hide (HB1.out.trans (hb2.mono HB1.out.size))
    clear hb2
    go_wp2
    go_ret2
    exact HE.out _ HB2.out
end Go.Proofs.YtfbhmkpihmcegaaDoor
