/-
  bdd.New, of any numbers.
-/
import Derived.Test.YtdlcldhnbhlikaaGreatDoorBddG
namespace Go.Proofs.YtdlcldhnbhlikaaGreatDoor
open Go.RowKit Go.Maps

/-- What bdd.New answers, of any numbers. -/
def NewE (w : World) (vars room : Int) (e : Ending) (w' : World) : Prop :=
  (¬ (0 ≤ vars ∧ vars ≤ 24 ∧ 0 ≤ room ∧ room ≤ 4000) ∧ e = .returned (.tuple #[.pointer none, errV 2]) ∧ Below w.heap.size w w') ∨
  ((0 ≤ vars ∧ vars ≤ 24) ∧ ∃ R : Nat, room = (R : Int) ∧ R ≤ 4000 ∧ ∃ S B gn gu gt gc, e = .returned (.tuple #[.pointer (some ⟨S, 0, none⟩), .nilIface]) ∧ SpE w' S B gn gu gt gc vars R ∧ (∀ k, arB B gn gu gt k → w.heap.size ≤ k) ∧ Below w.heap.size w w')
theorem sp_newE {w w1 : World} {R B gn gu gt : Nat} {vars : Int} (ha : ArM w1 B gn gu gt (emptyA R)) (hb : Below w.heap.size w w1) :
    SpE ((w1.alloc (.map #[] 0)).alloc (.cells #[.pointer (some ⟨B, 0, none⟩), .int .i64 vars, .map (some w1.heap.size)] 82)) (w1.heap.size + 1) B gn gu gt w1.heap.size vars R ∧
    Below w.heap.size w ((w1.alloc (.map #[] 0)).alloc (.cells #[.pointer (some ⟨B, 0, none⟩), .int .i64 vars, .map (some w1.heap.size)] 82)) := by
  have h1 : Below w1.heap.size w1 ((w1.alloc (.map #[] 0)).alloc (.cells #[.pointer (some ⟨B, 0, none⟩), .int .i64 vars, .map (some w1.heap.size)] 82)) := ((Below.refl w1.heap.size w1).alloc (Nat.le_refl _) _).alloc (by simp) _
  refine ⟨⟨?_, ha.below h1 (fun k hk => ha.lt hk)⟩, hb.trans (h1.mono hb.size)⟩
  have := Blk.new (w1.alloc (.map #[] 0)) 82 #[.pointer (some ⟨B, 0, none⟩), .int .i64 vars, .map (some w1.heap.size)]
  simpa using this
set_option maxRecDepth 100000 in
set_option maxHeartbeats 4000000 in
theorem bdNewE_any (vars room : Int) (w : World) (hz : I64 room) : Calls Tryz.prog 30 #[.int .i64 vars, .int .i64 room] w (NewE w vars room) := by
  have hmm := @run_makeMap Tryz.prog
  have HNW := hide (arNew_any room w hz)
  by_cases h1 : vars < 0
  · have HN := hide (show NewE w vars room (.returned (.tuple #[.pointer none, errV 2])) w from .inl ⟨by omega, rfl, Below.refl _ _⟩)
    rw [errV_ne (by decide)] at HN
    go_enter Tryz.func30, Tryz.ntmps30
    go_wp2
    go_ret2
    exact HN.out
  have h1b : decide (vars < 0) = false := decide_eq_false h1
  by_cases h2 : 24 < vars
  · have HN := hide (show NewE w vars room (.returned (.tuple #[.pointer none, errV 2])) w from .inl ⟨by omega, rfl, Below.refl _ _⟩)
    rw [errV_ne (by decide)] at HN
    go_enter Tryz.func30, Tryz.ntmps30
    go_wp2
    go_ret2
    exact HN.out
  have h2b : decide (24 < vars) = false := decide_eq_false h2
  go_enter Tryz.func30, Tryz.ntmps30
  go_wp2_with fail
  refine (HNW.out).mono ?_
  rintro e w1 (⟨hno, rfl, hb1⟩ | ⟨hyes, B, gn, gu, gt, rfl, har, hlow, hb1⟩)
  · have HN := hide (show NewE w vars room (.returned (.tuple #[.pointer none, errV 2])) w1 from .inl ⟨by omega, rfl, hb1⟩)
    rw [errV_ne (by decide)] at HN ⊢
    clear hb1
    go_wp2
    go_ret2
    exact HN.out
  · have hsp := sp_newE (vars := vars) har hb1
    have HN := hide (show NewE w vars room (.returned (.tuple #[.pointer (some ⟨w1.heap.size + 1, 0, none⟩), .nilIface])) _ from .inr ⟨by omega, room.toNat, by omega, by omega, _, _, _, _, _, _, rfl, hsp.1, hlow, hsp.2⟩)
    clear har hlow hb1 hsp HNW
    go_wp2
    go_ret2
    exact HN.out
end Go.Proofs.YtdlcldhnbhlikaaGreatDoor
