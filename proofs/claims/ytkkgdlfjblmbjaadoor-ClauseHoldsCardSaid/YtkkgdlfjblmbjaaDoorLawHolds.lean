/-
  The law ClauseHolds, walked: it returns true and leaves all that was there as it was.
-/
import Derived.Test.YtkkgdlfjblmbjaaDoorHolds
import Derived.Deep.RegionHeld3
import Derived.Deep.DeepCutAuto
namespace Go.Proofs.YtkkgdlfjblmbjaaDoor
open Go.RowKit

theorem rights_take {ls : List (List Int)} {k : Nat} (h : ∀ j, j < k → rightB (ls.getD j []) = true) (hk : rightB (ls.getD k []) = true) : ∀ j, j < k + 1 → rightB (ls.getD j []) = true := by
  intro j hj
  by_cases e : j = k
  · rw [e]; exact hk
  · exact h j (by omega)

theorem keepS {w w1 w2 : World} {a : Addr} {v : Value} (hb : a.block < w.heap.size) (h : w1.cell? a = some v) (h1 : Below w.heap.size w w1) (h2 : Below w1.heap.size w1 w2) : w2.cell? a = some v ∧ Below w.heap.size w w2 :=
  ⟨(h2.cell (Nat.lt_of_lt_of_le hb h1.size)).trans h, h1.trans (h2.mono h1.size)⟩

set_option maxHeartbeats 2000000 in
theorem lawHolds_walk (vars v : Int) (A : Option Addr) (n c : Nat) (ls : List (List Int)) (w : World) (hG : Glob w) (h : Cls w w.heap.size A n ls) (hv0 : 0 ≤ v) (hv1 : v ≤ 18446744073709551615) :
    Calls Tryd.prog 3 #[.int .i64 vars, .slice A n c, .int .u64 v] w (AtPost w true) := by
  have hn := h.le
  have hlen := Lib.hid h.len
  go_enter Tryd.func3, Tryd.ntmps3
  go_wp2_with fail
  refine (few_any vars 600 A n c ls w h).mono ?_
  rintro e w' ⟨b, rfl, rfl⟩
  rcases b with _ | _
  · go_wp2
    go_ret
    exact ⟨rfl, Below.refl _ _⟩
  go_wp2_with fail
  refine (check_any vars A n c ls w h).mono ?_
  rintro e w1 ⟨ve, rfl, hE, hb1⟩
  have hG1 := hG.below hb1
  have h1 := (h.below hb1).more hb1.size
  go_wp2_with fail
  refine (refCheck_any vars A n c ls w1 hG1 h1).mono ?_
  rintro e w2 ⟨rfl, hb2⟩
  have hG2 := hG1.below hb2
  have hE2 := hE.below hb2
  have HA := hide (at_any ve (checkF vars ls) (checkF vars ls) w2 hG2 hE2)
  rw [atB_self] at HA
  go_wp2_with fail
  refine (HA.out).mono ?_
  rintro e w3 ⟨rfl, hb3⟩
  have hb12 : Below w.heap.size w w2 := hb1.trans (hb2.mono hb1.size)
  have hb13 : Below w.heap.size w w3 := hb12.trans (hb3.mono hb12.size)
  clear HA hE2 hG2 hE hG1 h1 hb1 hb2 hb3 hb12
  go_wp2
  go_loopw [7] (fun i wr => ∃ k : Nat, k ≤ n ∧ i = .int .i64 k ∧ Below w.heap.size w wr ∧ Hid (∀ j, j < k → rightB (ls.getD j []) = true)) (fun i _ => n - (intOf i).toNat)
  case atStart => exact ⟨0, Nat.zero_le _, rfl, hb13, Lib.hid (fun j hj => absurd hj (Nat.not_lt_zero _))⟩
  case round =>
    clear hb13
    obtain ⟨k, hk, rfl, hbw, hd⟩ := hrel
    by_cases hlt : k < n
    · obtain ⟨ad, A', n', c', rfl, hb, hc, hcc, hi⟩ := h.at_ hlt
      have hc2 : wr.cell? (ad.add k) = some (.slice A' n' c') := (hbw.cell (by rw [block_of_add]; exact hb)).trans hc
      have hi2 := (hi.below hbw).more hbw.size
      have hR := right_any A' n' c' (ls.getD k []) wr hi2
      rcases hr : rightB (ls.getD k []) with _ | _
      · rw [hr] at hR
        have HR := hide hR
        clear hR hr
        go_wp2_with (go_at_call 14; refine (HR.out).mono ?_; rintro e w' ⟨rfl, rfl⟩)
        go_ret
        exact ⟨rfl, hbw⟩
      · rw [hr] at hR
        have HR := hide hR
        clear hR
        have H1 : Hid (∀ W, Below w.heap.size w W → Calls Tryd.prog 15 #[.slice A' n' c', .int .u64 v] W (AtPost W (holdsC v (ls.getD k [])))) := hide (fun W hW => holds_any v A' n' c' _ W ((hi.below hW).more hW.size) hr hv0 hv1)
        have H2 : Hid (∀ W, Below w.heap.size w W → Calls Tryd.prog 16 #[.slice A' n' c', .int .u64 v] W fun e w' => e = .returned (.bool (holdsC v (ls.getD k []))) ∧ W = w') := hide (fun W hW => refHolds_any v A' n' c' _ W ((hi.below hW).more hW.size) hr hv0 hv1)
        have HRR := Lib.hid hr
        clear hr hi hi2 hc
        generalize holdsC v (ls.getD k []) = bb at H1 H2
        go_wp2_with (go_at_call 14; refine (HR.out).mono ?_; rintro e w' ⟨rfl, rfl⟩)
        go_region_held3 (fun w' => w'.cell? (ad.add k) = some (.slice A' n' c') ∧ Below w.heap.size w w') (first | assumption | exact ⟨hc2, hbw.drew⟩ | exact keepS (by rw [block_of_add]; exact hb) (And.left (by assumption)) (And.right (by assumption)) (by assumption))
          (first | (go_at_call 15; refine (H1.out _ (And.right (by assumption))).mono ?_; rintro e w1 ⟨rfl, hb1⟩) | (go_at_call 16; refine (H2.out _ (And.right (by assumption))).mono ?_; rintro e w' ⟨rfl, rfl⟩))
        have hh : Below w.heap.size w w1 := And.right (by assumption)
        go_wp2
        go_roundw
        case rel => exact ⟨k + 1, by omega, by go_num, hh, Lib.hid (rights_take hd.out HRR.out)⟩
        case measure => simp [intOf]; omega
    · have hr : ∀ j, j < n → rightB (ls.getD j []) = true := fun j hj => hd.out j (by omega)
      have h1 := (h.below hbw).more hbw.size
      have H1 := hide (allHold_any v A n c ls wr h1 hr hv0 hv1)
      have H2 : Hid (∀ W, Below w.heap.size w W → Calls Tryd.prog 18 #[.slice A n c, .int .u64 v] W fun e w' => e = .returned (.bool (allB v ls)) ∧ W = w') := hide (fun W hW => refAllHold_any v A n c ls W ((h.below hW).more hW.size) hr hv0 hv1)
      clear hr h1 hd
      generalize allB v ls = bb at H1 H2
      go_wp2_with fail
      refine (H1.out).mono ?_
      rintro e w4 ⟨rfl, hb4⟩
      have hb14 : Below w.heap.size w w4 := hbw.trans (hb4.mono hbw.size)
      go_wp2_with fail
      refine (H2.out _ hb14).mono ?_
      rintro e w5 ⟨rfl, rfl⟩
      go_wp2
      go_ret
      exact ⟨ret_bool (by simp), hb14⟩
end Go.Proofs.YtkkgdlfjblmbjaaDoor
