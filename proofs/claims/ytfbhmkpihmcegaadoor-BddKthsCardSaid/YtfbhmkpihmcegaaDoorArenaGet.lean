/-
  An arena's Get, Top, Len.
-/
import Derived.Test.YtfbhmkpihmcegaaDoorArenaMem
namespace Go.Proofs.YtfbhmkpihmcegaaDoor
open Go.RowKit

def GetPost (w : World) (A : Ar) (x : Int) (e : Ending) (w' : World) : Prop := e = .returned (.tuple #[nodeV ((gotA A x).getD nd0), .bool (gotA A x).isSome]) ∧ Below w.heap.size w w'
theorem gotA_has {A : Ar} {x : Int} (hx : 2 ≤ x) : hasA A x = (gotA A x).isSome := by
  unfold hasA
  rw [beq_eq_false_iff_ne.2 (show x ≠ 0 by omega), beq_eq_false_iff_ne.2 (show x ≠ 1 by omega)]
  rfl
theorem gotA_low {A : Ar} {x : Int} (hx : x < 2) : gotA A x = none := by
  unfold gotA
  rw [if_neg (by omega)]
set_option maxHeartbeats 1000000 in
theorem arGet_any (B gn gu gt : Nat) (A : Ar) (x : Int) (w : World) (h : ArM w B gn gu gt A) (hx : I64 x) :
    Calls Tryd.prog 17 #[.pointer (some ⟨B, 0, none⟩), .int .i64 x] w (GetPost w A x) := by
  have HB := hide ((Below.refl w.heap.size w).alloc (Nat.le_refl _) (.cells #[.int .i64 0, .int .i64 0, .int .i64 0] 39))
  have HM := hide (h.below HB.out (fun k hk => h.lt hk))
  have HHS := hide (arHas_any B gn gu gt A x _ HM.out hx)
  by_cases h2 : x < 2
  · have HG := Lib.hid (gotA_low (A := A) h2)
    go_enter Tryd.func17, Tryd.ntmps17
    go_wp2
    exact bodyPost_ret (v := .tuple #[nodeV nd0, .bool false]) (by simp [results, Tryd.results17, go_sem, nodeV, nd0]) rfl ⟨by rw [HG.out]; rfl, HB.out⟩
  · have h2b : decide (x < 2) = false := decide_eq_false (by omega)
    rw [gotA_has (by omega)] at HHS
    cases hg : gotA A x with
    | none =>
      have HG := Lib.hid hg
      rw [hg] at HHS
      go_enter Tryd.func17, Tryd.ntmps17
      go_wp2_with fail
      refine (HHS.out).mono ?_
      rintro e w1 ⟨rfl, rfl⟩
      go_wp2
      exact bodyPost_ret (v := .tuple #[nodeV nd0, .bool false]) (by simp [results, Tryd.results17, go_sem, nodeV, nd0]) rfl ⟨by rw [HG.out]; rfl, HB.out⟩
    | some n =>
      have HG := Lib.hid hg
      rw [hg] at HHS
      obtain ⟨k, rfl, hk, _⟩ := gotA_is hg
      obtain ⟨ns, us, tab, hT, kB, kn, ku, kt⟩ := HM.out.is
      have hr := HM.out.room
      have hnl := hT.s.n
      obtain ⟨_, _, hn⟩ := hT.s.got.1 hg
      rw [show ((k : Int) + 2 - 2).toNat = k by omega] at hn
      obtain ⟨m0, m1, m2⟩ := nodeArr_at (ns := ns) (k := k) (by rw [hnl]; exact hk)
      rw [hn] at m0 m1 m2
      have b0 := kB.cell 0
      have n0 := (kn.cell (k * 3)).trans m0
      have n1 := (kn.cell (k * 3 + 1)).trans m1
      have n2 := (kn.cell (k * 3 + 2)).trans m2
      have hk5 : (k : Int) + 2 - 2 = (k : Int) := by omega
      have hkI : (k : Int) < (A.length : Int) := by omega
      clear hT kB kn ku kt m0 m1 m2 hg HM
      go_enter Tryd.func17, Tryd.ntmps17
      go_wp2_with fail
      refine (HHS.out).mono ?_
      rintro e w1 ⟨rfl, rfl⟩
      go_wp2
      exact bodyPost_ret (v := .tuple #[nodeV n, .bool true]) (by simp [results, Tryd.results17, go_sem, nodeV]) rfl ⟨by rw [HG.out]; rfl, (Below.refl w.heap.size w).alloc (Nat.le_refl _) _⟩

theorem arGet_none (B gn gu gt : Nat) (A : Ar) (x : Int) (w : World) (h : ArM w B gn gu gt A) (hx : I64 x) (hg : gotA A x = none) :
    Calls Tryd.prog 17 #[.pointer (some ⟨B, 0, none⟩), .int .i64 x] w (fun e w' => e = .returned (.tuple #[.agg #[.int .i64 0, .int .i64 0, .int .i64 0], .bool false]) ∧ Below w.heap.size w w') :=
  (arGet_any B gn gu gt A x w h hx).mono (by rintro e w' ⟨rfl, hb⟩; rw [hg]; exact ⟨rfl, hb⟩)
theorem arGet_some (B gn gu gt : Nat) (A : Ar) (x : Int) (n : Nd) (w : World) (h : ArM w B gn gu gt A) (hx : I64 x) (hg : gotA A x = some n) :
    Calls Tryd.prog 17 #[.pointer (some ⟨B, 0, none⟩), .int .i64 x] w (fun e w' => e = .returned (.tuple #[.agg #[.int .i64 n.var, .int .i64 n.low, .int .i64 n.high], .bool true]) ∧ Below w.heap.size w w') :=
  (arGet_any B gn gu gt A x w h hx).mono (by rintro e w' ⟨rfl, hb⟩; rw [hg]; exact ⟨rfl, hb⟩)
def TopPost (w : World) (A : Ar) (x : Int) (e : Ending) (w' : World) : Prop := e = .returned (.int .i64 (topA A x)) ∧ Below w.heap.size w w'
set_option maxHeartbeats 1000000 in
theorem arTop_any (B gn gu gt : Nat) (A : Ar) (x : Int) (w : World) (h : ArM w B gn gu gt A) (hx : I64 x) :
    Calls Tryd.prog 18 #[.pointer (some ⟨B, 0, none⟩), .int .i64 x] w (TopPost w A x) := by
  cases hg : gotA A x with
  | none =>
    have HGT := hide (arGet_none B gn gu gt A x w h hx hg)
    have HTP := Lib.hid (show topA A x = 24 by unfold topA; rw [hg])
    clear h hx hg
    go_enter Tryd.func18, Tryd.ntmps18
    go_wp2_with fail
    refine (HGT.out).mono ?_
    rintro e w1 ⟨rfl, hb⟩
    go_wp2
    go_ret
    exact ⟨by rw [HTP.out]; rfl, hb.alloc hb.size _⟩
  | some n =>
    have HGT := hide (arGet_some B gn gu gt A x n w h hx hg)
    have HTP := Lib.hid (show topA A x = n.var by unfold topA; rw [hg])
    clear h hx hg
    go_enter Tryd.func18, Tryd.ntmps18
    go_wp2_with fail
    refine (HGT.out).mono ?_
    rintro e w1 ⟨rfl, hb⟩
    go_wp2
    go_ret
    exact ⟨by rw [HTP.out]; rfl, hb.alloc hb.size _⟩

/-! ### slices.Index over bools -/
def idxI : Option Nat → Int
  | some k => (k : Int)
  | none => -1
def IdxPost (w : World) (o : Option Nat) (e : Ending) (w' : World) : Prop := e = .returned (.int .i64 (idxI o)) ∧ w = w'
theorem index_any (g : Nat) (us : List Bool) (n c : Nat) (w : World) (k0 : Blk w g 4 (boolArr us)) (hn : us.length = n) (hn2 : n ≤ 1000000) :
    Calls Tryd.prog 62 #[.slice (some ⟨g, 0, none⟩) n c, .bool false] w (IdxPost w (us.findIdx? (fun b => b == false))) := by
  have HK := hide k0
  clear k0
  go_enter Tryd.func62, Tryd.ntmps62
  go_wp2
  go_loopw [8] (fun iv wr => ∃ i : Nat, i ≤ n ∧ iv = .int .i64 i ∧ wr = w ∧ Hid (∀ j, j < i → us.getD j false = true)) (fun iv _ => n - (intOf iv).toNat)
  case atStart => exact ⟨0, Nat.zero_le _, rfl, rfl, hide (fun j hj => absurd hj (Nat.not_lt_zero _))⟩
  case round =>
    obtain ⟨i, hi, rfl, rfl, hR⟩ := hrel
    by_cases hlt : i < n
    · have u0 := (HK.out.cell i).trans (boolArr_at (by rw [hn]; exact hlt))
      by_cases hu : us.getD i false = true
      · rw [hu] at u0
        have HN := hide (show ∀ j, j < i + 1 → us.getD j false = true from fun j hj => by
          rcases Nat.lt_or_ge j i with h | h
          · exact hR.out j h
          · rw [show j = i by omega]; exact hu)
        clear hu
        go_wp2
        go_roundw
        case rel => exact ⟨i + 1, by omega, by go_num, by first | rfl | trivial, HN⟩
        case measure => simp [intOf]; omega
      · have hu' := Bool.eq_false_iff.2 hu
        rw [hu'] at u0
        have HF := Lib.hid (show us.findIdx? (fun b => b == false) = some i from List.findIdx?_eq_some_iff_getElem.2 ⟨by omega, by
          have := getD_of (l := us) (k := i) (d := false) (by omega)
          rw [hu', List.getElem?_eq_getElem (by omega)] at this
          rw [Option.some.inj this]; rfl, fun j hj => by
          have h1 := getD_of (l := us) (k := j) (d := false) (by omega)
          rw [hR.out j hj, List.getElem?_eq_getElem (by omega)] at h1
          rw [Option.some.inj h1]; decide⟩)
        clear hu hu'
        go_wp2
        go_ret
        exact ⟨by rw [HF.out]; rfl, rfl⟩
    · obtain rfl : i = n := by omega
      have HF := Lib.hid (show us.findIdx? (fun b => b == false) = none from List.findIdx?_eq_none_iff.2 fun x hx => by
        obtain ⟨j, hj, rfl⟩ := List.getElem_of_mem hx
        have h1 := getD_of (l := us) (k := j) (d := false) hj
        rw [hR.out j (by omega), List.getElem?_eq_getElem hj] at h1
        rw [Option.some.inj h1]; rfl)
      go_wp2
      go_ret
      exact ⟨by rw [HF.out]; rfl, rfl⟩
end Go.Proofs.YtfbhmkpihmcegaaDoor
