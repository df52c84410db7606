/-
  The law BddErrors, walked.
-/
import Derived.Test.YtfbhmkpihmcegaaDoorBddCtE
import Derived.Test.YtfbhmkpihmcegaaDoorAt
import Derived.Deep.Cut
namespace Go.Proofs.YtfbhmkpihmcegaaDoor
open Go.RowKit Go.Maps

theorem bareC_any (v : Value) (c d : Int) (w : World) (hG : GlobE w) (h : IsErr w v (c, -1)) :
    Calls Tryd.prog 9 #[v, .int .i64 d] w (AtPost w (atB (c, -1) (d, -1))) := by
  have HB := hide ((Below.refl w.heap.size w).alloc (Nat.le_refl _) (.cells #[.int .i64 d, .int .i64 (-1)] 103))
  have HAT := hide (at_anyE v (c, -1) (d, -1) (w.alloc (.cells #[.int .i64 d, .int .i64 (-1)] 103)) (hG.below HB.out) (errBelowB h HB.out))
  unfold faultV at HAT
  generalize atB (c, -1) (d, -1) = b at HAT ⊢
  clear h hG
  go_enter Tryd.func9, Tryd.ntmps9
  go_wp2_with (go_at_call 60; refine (bare_any d _).mono ?_; rintro e w' ⟨rfl, rfl⟩)
  refine (HAT.out).mono ?_
  rintro e w4 ⟨rfl, hb4⟩
  go_wp2
  go_ret
  exact ⟨ret_bool (by simp), HB.out.trans (hb4.mono HB.out.size)⟩
theorem errV_isE {w : World} {c : Int} (h : c = 0 ∨ (1 ≤ c ∧ c ≤ 13)) : IsErr w (errV c) (c, -1) := by
  rcases h with e | ⟨h1, h2⟩
  · subst e; exact .inl ⟨rfl, errV_zero⟩
  · exact .inr (.inl ⟨rfl, h1, h2, errV_ne (by omega)⟩)
theorem bareS_any (c : Int) (w : World) (hG : GlobE w) (h : c = 0 ∨ (1 ≤ c ∧ c ≤ 13)) : Calls Tryd.prog 9 #[errV c, .int .i64 c] w (AtPost w true) := by
  have := bareC_any (errV c) c c w hG (errV_isE h)
  rw [atB_self] at this
  exact this
set_option maxHeartbeats 2000000 in
theorem isS_any (c : Int) (p : Value) (w : World) (hG : GlobE w) (h : c = 0 ∨ (1 ≤ c ∧ c ≤ 13)) : Calls Tryd.prog 32 #[errV c, .int .i64 c, p] w (AtPost w true) := by
  have HB := hide (bareS_any c w hG h)
  generalize errV c = ev at HB ⊢
  clear hG h
  go_enter Tryd.func32, Tryd.ntmps32
  go_wp2_with fail
  refine (HB.out).mono ?_
  rintro e w4 ⟨rfl, hb4⟩
  go_wp2
  go_ret
  exact ⟨rfl, hb4⟩
set_option maxHeartbeats 2000000 in
theorem isF_any (g : Nat) (w : World) (hG : GlobE w) (hc : w.cell? ⟨g, 0, none⟩ = some (.bool false)) : Calls Tryd.prog 32 #[errV 12, .int .i64 0, .pointer (some ⟨g, 0, none⟩)] w (AtPost w true) := by
  have HB := bareC_any (errV 12) 12 0 w hG (errV_isE (.inr ⟨by omega, by omega⟩))
  rw [show atB (12, -1) (0, -1) = false by simp [atB]] at HB
  have HB := hide HB
  have HB2 := hide (fun w' (hb : Below w.heap.size w w') => bareS_any 12 w' (hG.below hb) (.inr ⟨by omega, by omega⟩))
  have hlt := World.block_lt_of_cell? w _ hc
  generalize errV 12 = ev at HB HB2 ⊢
  clear hG
  go_enter Tryd.func32, Tryd.ntmps32
  go_wp2_with fail
  refine (HB.out).mono ?_
  rintro e w4 ⟨rfl, hb4⟩
  have hc4 := (hb4.cell (p := ⟨g, 0, none⟩) hlt).trans hc
  have HB4 := hide hb4
  have HB3 := hide (HB2.out w4 hb4)
  clear hb4
  go_wp2_with fail
  refine (HB3.out).mono ?_
  rintro e w5 ⟨rfl, hb5⟩
  go_wp2
  go_ret
  exact ⟨rfl, HB4.out.trans (hb5.mono HB4.out.size)⟩
section
variable (S B gn gu gt gc : Nat) (vars : Int) (R : Nat) (w : World)
theorem eNeeds_any (x : Int) (h : SpE w S B gn gu gt gc vars R) (hx : I64 x) :
    Calls Tryd.prog 29 #[.pointer (some ⟨S, 0, none⟩), .int .i64 x] w (ErrP w (missE x)) := by
  unfold missE
  cases px : endB x with
  | false => exact bdNeeds_no S B gn gu gt gc vars (emptyA R) w x h.toB hx (by rw [hasE, px])
  | true => exact (bdNeeds_any S B gn gu gt gc vars (emptyA R) w x h.toB hx (by rw [hasE, px])).mono fun e w' ⟨v, he, _, hb⟩ => ⟨v, he, hb⟩
theorem eSize_any (x : Int) (h : SpE w S B gn gu gt gc vars R) (hx : I64 x) :
    Calls Tryd.prog 30 #[.pointer (some ⟨S, 0, none⟩), .int .i64 x] w (ErrP w (missE x)) := by
  unfold missE
  cases px : endB x with
  | false => exact bdSize_no S B gn gu gt gc vars (emptyA R) w x h.toB hx (by rw [hasE, px])
  | true => exact (bdSize_any S B gn gu gt gc vars (emptyA R) w x h.toB hx (by rw [hasE, px])).mono fun e w' ⟨he, hb⟩ => ⟨_, he, hb⟩
end
/-- What bdd.New answers, of any numbers. -/
def NewE (w : World) (vars room : Int) (e : Ending) (w' : World) : Prop :=
  (¬ (0 ≤ vars ∧ vars ≤ 24 ∧ 0 ≤ room ∧ room ≤ 4000) ∧ e = .returned (.tuple #[.pointer none, errV 2]) ∧ Below w.heap.size w w') ∨
  ((0 ≤ vars ∧ vars ≤ 24) ∧ ∃ R : Nat, room = (R : Int) ∧ R ≤ 4000 ∧ ∃ S B gn gu gt gc, e = .returned (.tuple #[.pointer (some ⟨S, 0, none⟩), .nilIface]) ∧ SpE w' S B gn gu gt gc vars R ∧ (∀ k, arB B gn gu gt k → w.heap.size ≤ k) ∧ Below w.heap.size w w')
theorem sp_newE {w w1 : World} {R B gn gu gt : Nat} {vars : Int} (ha : ArM w1 B gn gu gt (emptyA R)) (hb : Below w.heap.size w w1) :
    SpE ((w1.alloc (.map #[] 0)).alloc (.cells #[.pointer (some ⟨B, 0, none⟩), .int .i64 vars, .map (some w1.heap.size)] 112)) (w1.heap.size + 1) B gn gu gt w1.heap.size vars R ∧
    Below w.heap.size w ((w1.alloc (.map #[] 0)).alloc (.cells #[.pointer (some ⟨B, 0, none⟩), .int .i64 vars, .map (some w1.heap.size)] 112)) := by
  have h1 : Below w1.heap.size w1 ((w1.alloc (.map #[] 0)).alloc (.cells #[.pointer (some ⟨B, 0, none⟩), .int .i64 vars, .map (some w1.heap.size)] 112)) := ((Below.refl w1.heap.size w1).alloc (Nat.le_refl _) _).alloc (by simp) _
  refine ⟨⟨?_, ha.below h1 (fun k hk => ha.lt hk)⟩, hb.trans (h1.mono hb.size)⟩
  have := Blk.new (w1.alloc (.map #[] 0)) 112 #[.pointer (some ⟨B, 0, none⟩), .int .i64 vars, .map (some w1.heap.size)]
  simpa using this
set_option maxRecDepth 100000 in
set_option maxHeartbeats 4000000 in
theorem bdNewE_any (vars room : Int) (w : World) (hz : I64 room) : Calls Tryd.prog 23 #[.int .i64 vars, .int .i64 room] w (NewE w vars room) := by
  have hmm := @run_makeMap Tryd.prog
  have HNW := hide (arNew_any room w hz)
  by_cases h1 : vars < 0
  · have HN := hide (show NewE w vars room (.returned (.tuple #[.pointer none, errV 2])) w from .inl ⟨by omega, rfl, Below.refl _ _⟩)
    rw [errV_ne (by decide)] at HN
    go_enter Tryd.func23, Tryd.ntmps23
    go_wp2
    go_ret2
    exact HN.out
  have h1b : decide (vars < 0) = false := decide_eq_false h1
  by_cases h2 : 24 < vars
  · have HN := hide (show NewE w vars room (.returned (.tuple #[.pointer none, errV 2])) w from .inl ⟨by omega, rfl, Below.refl _ _⟩)
    rw [errV_ne (by decide)] at HN
    go_enter Tryd.func23, Tryd.ntmps23
    go_wp2
    go_ret2
    exact HN.out
  have h2b : decide (24 < vars) = false := decide_eq_false h2
  go_enter Tryd.func23, Tryd.ntmps23
  go_wp2_with fail
  refine (HNW.out).mono ?_
  rintro e w1 (⟨hno, rfl, hb1⟩ | ⟨hyes, B, gn, gu, gt, rfl, har, hlow, hb1⟩)
  · have HN := hide (show NewE w vars room (.returned (.tuple #[.pointer none, errV 2])) w1 from .inl ⟨by omega, rfl, hb1⟩)
    rw [errV_ne (by decide)] at HN ⊢
    clear hb1
    go_wp2
    go_ret2
    exact HN.out
  · have hsp := sp_newE (vars := vars) har hb1
    have HN := hide (show NewE w vars room (.returned (.tuple #[.pointer (some ⟨w1.heap.size + 1, 0, none⟩), .nilIface])) _ from .inr ⟨by omega, room.toNat, by omega, by omega, _, _, _, _, _, _, rfl, hsp.1, hlow, hsp.2⟩)
    clear har hlow hb1 hsp HNW
    go_wp2
    go_ret2
    exact HN.out
end Go.Proofs.YtfbhmkpihmcegaaDoor
