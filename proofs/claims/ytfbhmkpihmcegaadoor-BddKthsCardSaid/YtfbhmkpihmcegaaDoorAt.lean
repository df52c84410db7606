/-
  api.Tell, plain.Place and the law's own 'at': whether an error is a fault. The law's bare: an error is this one, without a place.
-/
import Derived.Test.YtfbhmkpihmcegaaDoorAs
namespace Go.Proofs.YtfbhmkpihmcegaaDoor
open Go.RowKit

def TellPost (w : World) (c : Int) (e : Ending) (w' : World) : Prop := e = .returned (.int .i64 c) ∧ Below w.heap.size w w'

set_option maxHeartbeats 1000000 in
theorem tell_nil (w : World) : Calls Tryd.prog 124 #[.nilIface] w (TellPost w 0) := by
  go_enter Tryd.func124, Tryd.ntmps124
  go_wp2
  go_ret
  exact ⟨rfl, Below.refl _ _⟩

set_option maxHeartbeats 1000000 in
theorem tell_errno (c : Int) (w : World) (hG : GlobE w) : Calls Tryd.prog 124 #[.iface 29 (.int .i64 c)] w (TellPost w c) := by
  have hb0 := (Below.refl w.heap.size w).alloc (Nat.le_refl _) (.cells #[.int .i64 0] 29)
  have HC := hide (as_errno c ⟨w.heap.size, 0, none⟩ (.int .i64 0) (w.alloc (.cells #[.int .i64 0] 29)) (hG.below hb0) (by simp) (by simp))
  have HB := Lib.hid hb0
  clear hb0
  go_enter Tryd.func124, Tryd.ntmps124
  go_wp2_with (go_at_call 130; refine (HC.out).mono ?_; rintro e w' ⟨rfl, rfl⟩)
  go_ret
  exact ⟨rfl, ((((((Below.refl _ _).alloc (Nat.le_refl _) _).alloc (by simp) _).alloc (by simp; omega) _).alloc (by simp; omega) _).alloc (by simp; omega) _)⟩

set_option maxHeartbeats 1000000 in
theorem tell_at (b : Nat) (c p : Int) (w : World) (hG : GlobE w) (hbk : Blk w b 173 #[.int .i64 c, .int .i64 p]) : Calls Tryd.prog 124 #[.iface 171 (.pointer (some ⟨b, 0, none⟩))] w (TellPost w c) := by
  have hb0 := (Below.refl w.heap.size w).alloc (Nat.le_refl _) (.cells #[.int .i64 0] 29)
  have HC := hide (as_at b c p ⟨w.heap.size, 0, none⟩ (.int .i64 0) (w.alloc (.cells #[.int .i64 0] 29)) (hG.below hb0) (hbk.alloc _) (by simp) (by simp))
  have HB := Lib.hid hb0
  clear hb0 hbk
  go_enter Tryd.func124, Tryd.ntmps124
  go_wp2_with (go_at_call 130; refine (HC.out).mono ?_; rintro e w' ⟨rfl, rfl⟩)
  go_ret
  exact ⟨rfl, ((((((Below.refl _ _).alloc (Nat.le_refl _) _).alloc (by simp) _).alloc (by simp; omega) _).alloc (by simp; omega) _).alloc (by simp; omega) _)⟩

def PlacePost (w : World) (f : Int × Int) (e : Ending) (w' : World) : Prop := e = .returned (.tuple #[.int .i64 f.1, .int .i64 f.2]) ∧ Below w.heap.size w w'
theorem assertAtAt (v : Value) (w : World) : (Instr.typeAssert (.iface 171 v) 25 171 true).run Tryd.prog w = .ok (.tuple #[v, .bool true]) w := by kernel_rfl
theorem assertAtE (v : Value) (w : World) : (Instr.typeAssert (.iface 29 v) 25 171 true).run Tryd.prog w = .ok (.tuple #[.pointer none, .bool false]) w := by kernel_rfl

set_option maxHeartbeats 1000000 in
theorem place_nil (w : World) : Calls Tryd.prog 103 #[.nilIface] w (PlacePost w (0, -1)) := by
  go_enter Tryd.func103, Tryd.ntmps103
  go_wp2_with (go_at_call 124; refine (tell_nil _).mono ?_; rintro e w' ⟨rfl, hb⟩)
  refine wp_loop_rounds 1 ?_
  rw [rounds_succ]
  go_wp2
  go_ret2
  exact ⟨rfl, hb⟩
set_option maxHeartbeats 1000000 in
theorem place_errno (c : Int) (w : World) (hG : GlobE w) : Calls Tryd.prog 103 #[.iface 29 (.int .i64 c)] w (PlacePost w (c, -1)) := by
  have a1 := assertAtE
  have a2 := assertUnwrapE
  go_enter Tryd.func103, Tryd.ntmps103
  go_wp2_with (go_at_call 124; refine (tell_errno c _ hG).mono ?_; rintro e w' ⟨rfl, hb⟩)
  refine wp_loop_rounds 1 ?_
  rw [rounds_succ]
  go_wp2
  go_ret2
  exact ⟨rfl, hb⟩
set_option maxHeartbeats 1000000 in
theorem place_at (b : Nat) (c p : Int) (w : World) (hG : GlobE w) (hbk : Blk w b 173 #[.int .i64 c, .int .i64 p]) : Calls Tryd.prog 103 #[.iface 171 (.pointer (some ⟨b, 0, none⟩))] w (PlacePost w (c, p)) := by
  have a1 := assertAtAt
  have HK := hide hbk
  have HT := hide (tell_at b c p w hG hbk)
  clear hbk
  go_enter Tryd.func103, Tryd.ntmps103
  go_wp2_with (go_at_call 124; refine (HT.out).mono ?_; rintro e w1 ⟨rfl, hb⟩; have hc1 : w1.cell? ⟨b, 1, none⟩ = some (.int .i64 p) := (HK.out.below hb HK.out.lt).cell 1)
  refine wp_loop_rounds 1 ?_
  rw [rounds_succ]
  go_wp2
  go_region
  go_wp2
  go_ret2
  exact ⟨rfl, hb.drew⟩

def atB (f g : Int × Int) : Bool := decide (f.1 = g.1 ∧ f.2 = g.2)
def AtPost (w : World) (b : Bool) (e : Ending) (w' : World) : Prop := e = .returned (.bool b) ∧ Below w.heap.size w w'

set_option maxHeartbeats 1000000 in
theorem at_of (v : Value) (f g : Int × Int) (w : World)
    (HP : Hid (Calls Tryd.prog 103 #[v] (w.alloc (.cells #[.int .i64 g.1, .int .i64 g.2] 103)) (PlacePost (w.alloc (.cells #[.int .i64 g.1, .int .i64 g.2] 103)) f))) :
    Calls Tryd.prog 59 #[v, faultV g] w (AtPost w (atB f g)) := by
  obtain ⟨f1, f2⟩ := f
  obtain ⟨g1, g2⟩ := g
  unfold faultV
  by_cases h1 : f1 = g1
  · by_cases h2 : f2 = g2
    · go_enter Tryd.func59, Tryd.ntmps59
      go_wp2_with (go_at_call 103; refine (HP.out).mono ?_; rintro e w1 ⟨rfl, hb⟩; have c0 : w1.cell? ⟨w.heap.size, 0, none⟩ = some (.int .i64 g1) := (hb.cell (by simp)).trans (by simp); have c1 : w1.cell? ⟨w.heap.size, 1, none⟩ = some (.int .i64 g2) := (hb.cell (by simp)).trans (by simp))
      go_ret
      exact ⟨ret_bool (by simp [atB, h1, h2]), ((Below.refl _ _).alloc (Nat.le_refl _) _).trans (hb.mono (by simp))⟩
    · go_enter Tryd.func59, Tryd.ntmps59
      go_wp2_with (go_at_call 103; refine (HP.out).mono ?_; rintro e w1 ⟨rfl, hb⟩; have c0 : w1.cell? ⟨w.heap.size, 0, none⟩ = some (.int .i64 g1) := (hb.cell (by simp)).trans (by simp); have c1 : w1.cell? ⟨w.heap.size, 1, none⟩ = some (.int .i64 g2) := (hb.cell (by simp)).trans (by simp))
      go_ret
      exact ⟨ret_bool (by simp [atB, h1, h2]), ((Below.refl _ _).alloc (Nat.le_refl _) _).trans (hb.mono (by simp))⟩
  · go_enter Tryd.func59, Tryd.ntmps59
    go_wp2_with (go_at_call 103; refine (HP.out).mono ?_; rintro e w1 ⟨rfl, hb⟩; have c0 : w1.cell? ⟨w.heap.size, 0, none⟩ = some (.int .i64 g1) := (hb.cell (by simp)).trans (by simp); have c1 : w1.cell? ⟨w.heap.size, 1, none⟩ = some (.int .i64 g2) := (hb.cell (by simp)).trans (by simp))
    go_ret
    exact ⟨ret_bool (by simp [atB, h1]), ((Below.refl _ _).alloc (Nat.le_refl _) _).trans (hb.mono (by simp))⟩

theorem IsErr.below {w w' : World} {v : Value} {f : Int × Int} (h : IsErr w v f) (hb : Below w.heap.size w w') : IsErr w' v f := by
  rcases h with h | h | ⟨b, hlt, h1, h2, h3, h4, h5⟩
  · exact .inl h
  · exact .inr (.inl h)
  · exact .inr (.inr ⟨b, Nat.lt_of_lt_of_le hlt hb.size, h1, h2, h3, h4, h5.below hb hlt⟩)

theorem at_anyE (v : Value) (f g : Int × Int) (w : World) (hG : GlobE w) (h : IsErr w v f) :
    Calls Tryd.prog 59 #[v, faultV g] w (AtPost w (atB f g)) := by
  have hb0 := (Below.refl w.heap.size w).alloc (Nat.le_refl _) (.cells #[.int .i64 g.1, .int .i64 g.2] 103)
  have hG1 := hG.below hb0
  refine at_of v f g w (hide ?_)
  rcases h.below hb0 with ⟨rfl, rfl⟩ | ⟨h1, _, _, rfl⟩ | ⟨b, hlt, _, _, _, rfl, hbk⟩
  · exact place_nil _
  · have := place_errno f.1 _ hG1
    rw [← h1] at this
    exact this
  · exact place_at b f.1 f.2 _ hG1 hbk
theorem atB_self (f : Int × Int) : atB f f = true := by simp [atB]
end Go.Proofs.YtfbhmkpihmcegaaDoor
namespace Go.Proofs.YtfbhmkpihmcegaaDoor
open Go.RowKit

theorem errBelowB {w w' : World} {v : Value} {f : Int × Int} (h : IsErr w v f) (hb : Below w.heap.size w w') : IsErr w' v f := by
  rcases h with h | h | ⟨b, h1, h2, h3, h4, h5, h6⟩
  · exact .inl h
  · exact .inr (.inl h)
  · exact .inr (.inr ⟨b, Nat.lt_of_lt_of_le h1 hb.size, h2, h3, h4, h5, h6.below hb h1⟩)
set_option maxHeartbeats 1000000 in
theorem bareB_any (v : Value) (c : Int) (w : World) (hG : GlobE w) (h : IsErr w v (c, -1)) :
    Calls Tryd.prog 9 #[v, .int .i64 c] w (AtPost w true) := by
  have HB := hide ((Below.refl w.heap.size w).alloc (Nat.le_refl _) (.cells #[.int .i64 c, .int .i64 (-1)] 103))
  have HAT := hide (at_anyE v (c, -1) (c, -1) (w.alloc (.cells #[.int .i64 c, .int .i64 (-1)] 103)) (hG.below HB.out) (errBelowB h HB.out))
  rw [atB_self] at HAT
  unfold faultV at HAT
  clear h hG
  go_enter Tryd.func9, Tryd.ntmps9
  go_wp2_with (go_at_call 60; refine (bare_any c _).mono ?_; rintro e w' ⟨rfl, rfl⟩)
  refine (HAT.out).mono ?_
  rintro e w4 ⟨rfl, hb4⟩
  go_wp2
  go_ret
  exact ⟨ret_bool (by simp), HB.out.trans (hb4.mono HB.out.size)⟩
end Go.Proofs.YtfbhmkpihmcegaaDoor
