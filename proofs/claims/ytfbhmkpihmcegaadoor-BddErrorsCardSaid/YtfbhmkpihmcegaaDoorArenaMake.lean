/-
  An arena's Make.
-/
import Derived.Test.YtfbhmkpihmcegaaDoorArenaPlace
import Derived.Test.YtfbhmkpihmcegaaDoorCalm
namespace Go.Proofs.YtfbhmkpihmcegaaDoor
open Go.RowKit

def errV (c : Int) : Value := if c = 0 then .nilIface else .iface 29 (.int .i64 c)
theorem errV_zero : errV 0 = .nilIface := by unfold errV; rw [if_pos rfl]
theorem errV_ne {c : Int} (h : c ≠ 0) : errV c = .iface 29 (.int .i64 c) := by unfold errV; rw [if_neg h]
def MakePost (w : World) (B gn gu gt : Nat) (A : Ar) (n : Nd) (e : Ending) (w' : World) : Prop :=
  e = .returned (.tuple #[.int .i64 (makeH A n), errV (makeE A n)]) ∧ ArM w' B gn gu gt (makeA A n) ∧ Fr (arB B gn gu gt) w w'
theorem makeNo {w w' : World} {B gn gu gt : Nat} {A : Ar} {n : Nd} {c : Int} (h : ArM w B gn gu gt A) (hc : makeE A n = c) (h0 : c ≠ 0) (hb : Below w.heap.size w w') :
    MakePost w B gn gu gt A n (.returned (.tuple #[.int .i64 0, .iface 29 (.int .i64 c)])) w' := by
  have e1 : makeH A n = 0 := by unfold makeH; rw [if_pos (by rw [hc]; exact h0)]
  have e2 : makeA A n = A := by unfold makeA; rw [if_pos (by rw [hc]; exact h0)]
  exact ⟨by rw [e1, hc, errV_ne h0], by rw [e2]; exact h.below hb (fun k hk => h.lt hk), .of_below hb (Nat.le_refl _)⟩
structure NdI (n : Nd) : Prop where
  var : I64 n.var
  low : I64 n.low
  high : I64 n.high
section
variable {A : Ar} {n : Nd}
theorem makeE_var (h : ¬ (0 ≤ n.var ∧ n.var < 24)) : makeE A n = 2 := by unfold makeE; rw [if_pos h]
theorem makeE_has (h1 : 0 ≤ n.var ∧ n.var < 24) (h : ¬ (hasA A n.low = true ∧ hasA A n.high = true)) : makeE A n = 7 := by unfold makeE; rw [if_neg (fun hn => hn h1), if_pos h]
theorem makeE_top (h1 : 0 ≤ n.var ∧ n.var < 24) (h2 : hasA A n.low = true ∧ hasA A n.high = true) (h : topA A n.low ≤ n.var ∨ topA A n.high ≤ n.var) : makeE A n = 10 := by
  unfold makeE; rw [if_neg (fun hn => hn h1), if_neg (fun hn => hn h2), if_pos h]
theorem mayA_of (h1 : 0 ≤ n.var ∧ n.var < 24) (h2 : hasA A n.low = true ∧ hasA A n.high = true) (h : ¬ (topA A n.low ≤ n.var ∨ topA A n.high ≤ n.var)) : MayA A n := ⟨h1, ⟨h2.1, by omega⟩, ⟨h2.2, by omega⟩⟩
theorem makeE_rest (h : MayA A n) : makeE A n = match liesA A n with | some _ => 0 | none => match freeA A with | some _ => 0 | none => 12 := by
  unfold makeE
  rw [if_neg (fun hn => hn h.var), if_neg (fun hn => hn ⟨h.low.1, h.high.1⟩), if_neg (by have := h.low.2; have := h.high.2; omega)]
  rfl
theorem make_lies (h : MayA A n) {k : Nat} (hl : liesA A n = some k) : makeE A n = 0 ∧ makeH A n = (k : Int) + 2 ∧ makeA A n = A := by
  have e : makeE A n = 0 := by rw [makeE_rest h, hl]
  exact ⟨e, by unfold makeH; rw [if_neg (by rw [e]; omega), hl], by unfold makeA; rw [if_neg (by rw [e]; omega), hl]⟩
theorem make_full (h : MayA A n) (hl : liesA A n = none) (hf : freeA A = none) : makeE A n = 12 := by rw [makeE_rest h, hl, hf]
theorem make_new (h : MayA A n) (hl : liesA A n = none) {k : Nat} (hf : freeA A = some k) : makeE A n = 0 ∧ makeH A n = (k : Int) + 2 ∧ makeA A n = A.set k (some n) := by
  have e : makeE A n = 0 := by rw [makeE_rest h, hl, hf]
  exact ⟨e, by unfold makeH; rw [if_neg (by rw [e]; omega), hl, hf], by unfold makeA; rw [if_neg (by rw [e]; omega), hl, hf]⟩
end
set_option maxHeartbeats 4000000 in
theorem make_two (B gn gu gt : Nat) (A : Ar) (n : Nd) (w : World) (h : ArM w B gn gu gt A) (hv : ¬ (0 ≤ n.var ∧ n.var < 24)) :
    Calls Tryd.prog 10 #[.pointer (some ⟨B, 0, none⟩), .agg #[.int .i64 n.var, .int .i64 n.low, .int .i64 n.high]] w (MakePost w B gn gu gt A n) := by
  have HE := hide (fun (w' : World) (hb : Below w.heap.size w w') => makeNo (w' := w') h (makeE_var hv) (by omega) hb)
  have HK := hide (Blk.new w 39 #[.int .i64 n.var, .int .i64 n.low, .int .i64 n.high])
  have q0 := HK.out.cell 0
  clear h
  rcases (show n.var < 0 ∨ (¬ n.var < 0 ∧ 24 ≤ n.var) by omega) with h1 | ⟨h1, h2⟩
  all_goals
    go_enter Tryd.func10, Tryd.ntmps10
    go_wp2
    go_ret2
    exact HE.out _ ((Below.refl w.heap.size w).alloc (Nat.le_refl _) _)

set_option maxHeartbeats 4000000 in
theorem make_seven (B gn gu gt : Nat) (A : Ar) (n : Nd) (w : World) (h : ArM w B gn gu gt A) (hi : NdI n) (hv : 0 ≤ n.var ∧ n.var < 24) (hh : ¬ (hasA A n.low = true ∧ hasA A n.high = true)) :
    Calls Tryd.prog 10 #[.pointer (some ⟨B, 0, none⟩), .agg #[.int .i64 n.var, .int .i64 n.low, .int .i64 n.high]] w (MakePost w B gn gu gt A n) := by
  have HE := hide (fun (w' : World) (hb : Below w.heap.size w w') => makeNo (w' := w') h (makeE_has hv hh) (by omega) hb)
  have HK := hide (Blk.new w 39 #[.int .i64 n.var, .int .i64 n.low, .int .i64 n.high])
  have HB := hide ((Below.refl w.heap.size w).alloc (Nat.le_refl _) (.cells #[.int .i64 n.var, .int .i64 n.low, .int .i64 n.high] 39))
  have HM := hide (h.below HB.out (fun k hk => h.lt hk))
  have HL := hide (arHas_any B gn gu gt A n.low _ HM.out hi.low)
  have HH := hide (arHas_any B gn gu gt A n.high _ HM.out hi.high)
  have q0 := HK.out.cell 0
  have q1 := HK.out.cell 1
  have q2 := HK.out.cell 2
  have hv1 : ¬ n.var < 0 := by omega
  have hv2 : ¬ 24 ≤ n.var := by omega
  clear h hi
  rcases (show hasA A n.low = false ∨ (hasA A n.low = true ∧ hasA A n.high = false) by
    cases h1 : hasA A n.low <;> cases h2 : hasA A n.high <;> simp_all) with h1 | ⟨h1, h2⟩
  · rw [h1] at HL
    go_enter Tryd.func10, Tryd.ntmps10
    go_wp2_with fail
    refine (HL.out).mono ?_
    rintro e w1 ⟨rfl, rfl⟩
    go_wp2
    go_ret2
    exact HE.out _ HB.out
  · rw [h1] at HL
    rw [h2] at HH
    go_enter Tryd.func10, Tryd.ntmps10
    go_wp2_with fail
    refine (HL.out).mono ?_
    rintro e w1 ⟨rfl, rfl⟩
    go_wp2_with fail
    refine (HH.out).mono ?_
    rintro e w1 ⟨rfl, rfl⟩
    go_wp2
    go_ret2
    exact HE.out _ HB.out

theorem keepNd {w w' : World} {g : Nat} {a b c : Value} (hg : g < w.heap.size) (hb : Below w.heap.size w w') (h : w.cell? ⟨g, 0, none⟩ = some a ∧ w.cell? ⟨g, 1, none⟩ = some b ∧ w.cell? ⟨g, 2, none⟩ = some c) :
    w'.cell? ⟨g, 0, none⟩ = some a ∧ w'.cell? ⟨g, 1, none⟩ = some b ∧ w'.cell? ⟨g, 2, none⟩ = some c :=
  ⟨(hb.cell (p := ⟨g, 0, none⟩) hg).trans h.1, (hb.cell (p := ⟨g, 1, none⟩) hg).trans h.2.1, (hb.cell (p := ⟨g, 2, none⟩) hg).trans h.2.2⟩
theorem out_drew {w w' : World} (h : Below w.drew.heap.size w.drew w') : Below w.heap.size w w' := (Below.refl _ w).drew.trans h
set_option maxRecDepth 100000 in
set_option maxHeartbeats 4000000 in
theorem make_ten (B gn gu gt : Nat) (A : Ar) (n : Nd) (w : World) (h : ArM w B gn gu gt A) (hi : NdI n) (hv : 0 ≤ n.var ∧ n.var < 24) (hh : hasA A n.low = true ∧ hasA A n.high = true) (ht : topA A n.low ≤ n.var ∨ topA A n.high ≤ n.var) :
    Calls Tryd.prog 10 #[.pointer (some ⟨B, 0, none⟩), .agg #[.int .i64 n.var, .int .i64 n.low, .int .i64 n.high]] w (MakePost w B gn gu gt A n) := by
  have HE := hide (fun (w' : World) (hb : Below w.heap.size w w') => makeNo (w' := w') h (makeE_top hv hh ht) (by omega) hb)
  have HK := hide (Blk.new w 39 #[.int .i64 n.var, .int .i64 n.low, .int .i64 n.high])
  have HB := hide ((Below.refl w.heap.size w).alloc (Nat.le_refl _) (.cells #[.int .i64 n.var, .int .i64 n.low, .int .i64 n.high] 39))
  have HM := hide (h.below HB.out (fun k hk => h.lt hk))
  have HL := hide (arHas_any B gn gu gt A n.low _ HM.out hi.low)
  have HH := hide (arHas_any B gn gu gt A n.high _ HM.out hi.high)
  rw [hh.1] at HL
  rw [hh.2] at HH
  have q0 := HK.out.cell 0
  have q1 := HK.out.cell 1
  have q2 := HK.out.cell 2
  have hv1 : ¬ n.var < 0 := by omega
  have hv2 : ¬ 24 ≤ n.var := by omega
  have HI := hide hi
  clear h hi hh
  rcases (show topA A n.low ≤ n.var ∨ (¬ topA A n.low ≤ n.var ∧ topA A n.high ≤ n.var) by omega) with h1 | ⟨h1, h2⟩
  case' inl => have hd : decide (topA A n.low ≤ n.var) = true := decide_eq_true h1
  case' inr =>
    have hd : decide (topA A n.low ≤ n.var) = false := decide_eq_false h1
    have hd2 : decide (topA A n.high ≤ n.var) = true := decide_eq_true h2
  all_goals
    go_enter Tryd.func10, Tryd.ntmps10
    go_wp2_with fail
    refine (HL.out).mono ?_
    rintro e w1 ⟨rfl, rfl⟩
    go_wp2_with fail
    refine (HH.out).mono ?_
    rintro e w1 ⟨rfl, rfl⟩
    go_wp2
    have lg := HK.out.lt
    clear q0 q1 q2
    generalize w.heap.size = g at HK lg ⊢
    generalize (w.alloc (.cells #[.int .i64 n.var, .int .i64 n.low, .int .i64 n.high] 39)) = w1 at HM HK HB lg ⊢
    have HTL := hide (fun c : Calm w1 => arTop_any B gn gu gt A n.low c.val (HM.out.below c.bel (fun k hk => HM.out.lt hk)) HI.out.low)
    have HTH := hide (fun c : Calm w1 => arTop_any B gn gu gt A n.high c.val (HM.out.below c.bel (fun k hk => HM.out.lt hk)) HI.out.high)
    have q0 := fun c : Calm w1 => (c.cell (i := 0) lg).trans (HK.out.cell 0)
    have q1 := fun c : Calm w1 => (c.cell (i := 1) lg).trans (HK.out.cell 1)
    have q2 := fun c : Calm w1 => (c.cell (i := 2) lg).trans (HK.out.cell 2)
    refine wp_region_calm (by kernel_rfl) (by kernel_rfl) ?_
    repeat (go_big_quiet_step (fail))
    go_big_quiet_want
    go_big_quiet_op
    go_big_quiet_call ((go_at_call 18; refine (HTL.out _).mono ?_; rintro e w2 ⟨rfl, hb0⟩; exact ⟨rfl, Calm.on _ hb0⟩))
    repeat (go_big_quiet_step (fail))
    try (go_big_quiet_want; go_big_quiet_op; go_big_quiet_call ((go_at_call 18; refine (HTH.out _).mono ?_; rintro e w2 ⟨rfl, hb0⟩; exact ⟨rfl, Calm.on _ hb0⟩)); repeat (go_big_quiet_step (fail)))
    refine wpQuiet_nil ?_
    rintro _ ⟨cw, rfl⟩
    clear q0 q1 q2
    have HX := hide (HB.out.trans (cw.bel.mono HB.out.size))
    go_wp2
    go_ret2
    exact HE.out _ HX.out
end Go.Proofs.YtfbhmkpihmcegaaDoor
