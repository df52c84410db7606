/-
  The reference's Bare and ClauseCheck: they tell 'checkF'.
-/
import Derived.Test.YtkkgdlfjblmbjaaGreatDoorCheck
namespace Go.Proofs.YtkkgdlfjblmbjaaGreatDoor
open Go.RowKit

/-- What the package-level variables hold. -/
structure Glob (w : World) : Prop where
  f0 : w.cell? ⟨0, 0, none⟩ = some (.int .i64 0)
  f1 : w.cell? ⟨0, 1, none⟩ = some (.int .i64 (-1))
  e0 : w.cell? ⟨1, 0, none⟩ = some (.iface 121 (.agg #[.pointer (some ⟨6, 33, none⟩)]))
theorem lt_of_cell {w : World} {a : Addr} {v : Value} (h : w.cell? a = some v) : a.block < w.heap.size := by
  rcases Nat.lt_or_ge a.block w.heap.size with hl | hl
  · exact hl
  · simp [World.cell?, Array.getElem?_eq_none hl] at h
/-- What errors.As leans on. -/
structure GlobE (w : World) : Prop where
  e0 : w.cell? ⟨1, 0, none⟩ = some (.iface 121 (.agg #[.pointer (some ⟨6, 33, none⟩)]))
theorem GlobE.below {w w' : World} (h : GlobE w) (hb : Below w.heap.size w w') : GlobE w' := ⟨(hb.cell (lt_of_cell h.e0)).trans h.e0⟩
theorem Glob.e {w : World} (h : Glob w) : GlobE w := ⟨h.e0⟩
theorem Glob.below {w w' : World} (h : Glob w) (hb : Below w.heap.size w w') : Glob w' :=
  ⟨(hb.cell (lt_of_cell h.f0)).trans h.f0, (hb.cell (lt_of_cell h.f1)).trans h.f1, (hb.cell (lt_of_cell h.e0)).trans h.e0⟩

def faultV (f : Int × Int) : Value := .agg #[.int .i64 f.1, .int .i64 f.2]
def GivesFault (w : World) (f : Int × Int) (e : Ending) (w' : World) : Prop := e = .returned (faultV f) ∧ Below w.heap.size w w'

theorem bare_any (c : Int) (w : World) : Calls Tryz.prog 7 #[.int .i64 c] w fun e w' => e = .returned (.agg #[.int .i64 c, .int .i64 (-1)]) ∧ w.alloc (.cells #[.int .i64 c, .int .i64 (-1)] 26) = w' := by
  go_enter Tryz.func7, Tryz.ntmps7
  go_wp2
  exact bodyPost_ret (v := .agg #[.int .i64 c, .int .i64 (-1)]) (by simp [results, Tryz.results7, go_sem]) rfl ⟨rfl, rfl⟩

set_option maxHeartbeats 2000000 in
theorem refCheck_any (vars : Int) (A : Option Addr) (n c : Nat) (ls : List (List Int)) (w : World) (hG : Glob w) (h : Cls w w.heap.size A n ls) :
    Calls Tryz.prog 5 #[.int .i64 vars, .slice A n c] w (GivesFault w (checkF vars ls)) := by
  have hn := h.le
  have hlen := Lib.hid h.len
  have hbel := Lib.hid ((Below.refl w.heap.size w).alloc (Nat.le_refl _) (.cells #[.int .i64 0, .int .i64 0] 26))
  by_cases hr : vars < 0 ∨ 24 < vars
  · have hW := within_any vars 0 24
    rw [show withinB vars 0 24 = false by unfold withinB; exact decide_eq_false (by omega)] at hW
    have HC := hide hW
    clear hW
    go_enter Tryz.func5, Tryz.ntmps5
    go_wp2_with (first | (go_at_call 11; refine (HC.out _).mono ?_; rintro e w' ⟨rfl, rfl⟩) | (go_at_call 7; refine (bare_any 2 _).mono ?_; rintro e w' ⟨rfl, rfl⟩))
    refine bodyPost_ret (v := .agg #[.int .i64 2, .int .i64 (-1)]) (by simp [results, Tryz.results5, go_sem]) rfl ⟨?_, ?_⟩
    · rw [checkF_range _ hr]; rfl
    · exact ((((Below.refl _ _).alloc (Nat.le_refl _) _).alloc (by simp) _))
  have hW := within_any vars 0 24
  rw [show withinB vars 0 24 = true by unfold withinB; exact decide_eq_true (by omega)] at hW
  have HC := hide hW
  clear hW
  by_cases hr2 : 200 < n
  · go_enter Tryz.func5, Tryz.ntmps5
    go_wp2_with (first | (go_at_call 11; refine (HC.out _).mono ?_; rintro e w' ⟨rfl, rfl⟩) | (go_at_call 7; refine (bare_any 4 _).mono ?_; rintro e w' ⟨rfl, rfl⟩))
    refine bodyPost_ret (v := .agg #[.int .i64 4, .int .i64 (-1)]) (by simp [results, Tryz.results5, go_sem]) rfl ⟨?_, ?_⟩
    · rw [checkF_many hr (by rw [hlen.out]; exact hr2)]; rfl
    · exact ((((Below.refl _ _).alloc (Nat.le_refl _) _).alloc (by simp) _))
  have HE := Lib.hid (checkF_else (v := vars) (ls := ls) hr (by rw [hlen.out]; exact hr2))
  have hv0 : 0 ≤ vars := by omega
  have hv1 : vars ≤ 24 := by omega
  clear hr
  have hg0 : (w.alloc (.cells #[.int .i64 0, .int .i64 0] 26)).cell? ⟨0, 0, none⟩ = some (.int .i64 0) := (hbel.out.cell (lt_of_cell hG.f0)).trans hG.f0
  have hg1 : (w.alloc (.cells #[.int .i64 0, .int .i64 0] 26)).cell? ⟨0, 1, none⟩ = some (.int .i64 (-1)) := (hbel.out.cell (lt_of_cell hG.f1)).trans hG.f1
  go_enter Tryz.func5, Tryz.ntmps5
  go_wp2_with (first | (go_at_call 11; refine (HC.out _).mono ?_; rintro e w' ⟨rfl, rfl⟩))
  go_loop [5, 6, 8, 19] (fun _ _ _ i => ∃ k : Nat, k ≤ n ∧ i = .int .i64 k ∧ Hid (firstBad vars (ls.drop k) k = checkF vars ls)) (fun _ _ _ i => n - (intOf i).toNat)
  case atStart => exact ⟨0, Nat.zero_le _, rfl, Lib.hid (by rw [HE.out]; rfl)⟩
  case round =>
    obtain ⟨k, hk, rfl, hd⟩ := hrel
    by_cases hlt : k < n
    · obtain ⟨ad, A', n', c', rfl, hb, hc, hcc, hi⟩ := h.at_ hlt
      have hkl := Lib.hid (show k < ls.length by rw [hlen.out]; exact hlt)
      have hc2 : (w.alloc (.cells #[.int .i64 0, .int .i64 0] 26)).cell? (ad.add k) = some (.slice A' n' c') := (hbel.out.cell (by rw [block_of_add]; exact hb)).trans hc
      have hi2 := hi.below hbel.out
      have hn' := hi.le
      have hnl := Lib.hid hi.len
      by_cases hbig : 48 < n'
      · have HF := Lib.hid (firstBad_long vars ls k hkl.out (by rw [hnl.out]; exact hbig))
        go_wp2
        refine bodyPost_ret (v := .agg #[.int .i64 4, .int .i64 k]) (by simp [results, Tryz.results5, go_sem]) rfl ⟨?_, ?_⟩
        · rw [← hd.out, HF.out]; rfl
        · exact (Below.refl _ _).alloc (Nat.le_refl _) _
      · go_wp2
        go_loop [8, 31] (fun _ j => ∃ m : Nat, m ≤ n' ∧ j = .int .i64 m ∧ Hid (((ls.getD k []).take m).any (badB vars) = false)) (fun _ j => n' - (intOf j).toNat)
        case atStart => exact ⟨0, Nat.zero_le _, rfl, Lib.hid rfl⟩
        case round =>
          obtain ⟨m, hm, rfl, hd2⟩ := hrel
          by_cases hlt2 : m < n'
          · obtain ⟨ad2, rfl, hb2, hcx⟩ := hi2.at_ hlt2
            have hml := Lib.hid (show m < (ls.getD k []).length by rw [hnl.out]; exact hlt2)
            obtain ⟨x, hx⟩ : ∃ x, (ls.getD k []).getD m 0 = x := ⟨_, rfl⟩
            rw [hx] at hcx
            have HX := Lib.hid hx
            clear hx
            by_cases hx0 : x = 0
            · subst hx0
              have HF := Lib.hid (firstBad_bad vars ls k hkl.out (by rw [hnl.out]; exact hbig) (any_true_at _ _ m 0 hml.out (by rw [HX.out]; exact badB_t (.inl rfl))))
              go_wp2
              refine bodyPost_ret (v := .agg #[.int .i64 2, .int .i64 k]) (by simp [results, Tryz.results5, go_sem]) rfl ⟨?_, ?_⟩
              · rw [← hd.out, HF.out]; rfl
              · exact (Below.refl _ _).alloc (Nat.le_refl _) _
            · by_cases hx1 : -vars ≤ x ∧ x ≤ vars
              · have hW2 := within_any x (-vars) vars
                rw [show withinB x (-vars) vars = true by unfold withinB; exact decide_eq_true hx1] at hW2
                have HC2 := hide hW2
                clear hW2
                go_wp2_with (go_at_call 11; refine (HC2.out _).mono ?_; rintro e w' ⟨rfl, rfl⟩)
                go_round
                case rel => exact ⟨m + 1, by omega, by go_num, Lib.hid (any_false_take _ _ m 0 hml.out hd2.out (by rw [HX.out]; exact badB_f (by omega)))⟩
                case measure => simp [intOf]; omega
              · have hW2 := within_any x (-vars) vars
                rw [show withinB x (-vars) vars = false by unfold withinB; exact decide_eq_false hx1] at hW2
                have HC2 := hide hW2
                clear hW2
                have HF := Lib.hid (firstBad_bad vars ls k hkl.out (by rw [hnl.out]; exact hbig) (any_true_at _ _ m 0 hml.out (by rw [HX.out]; exact badB_t (by omega))))
                go_wp2_with (go_at_call 11; refine (HC2.out _).mono ?_; rintro e w' ⟨rfl, rfl⟩)
                refine bodyPost_ret (v := .agg #[.int .i64 2, .int .i64 k]) (by simp [results, Tryz.results5, go_sem]) rfl ⟨?_, ?_⟩
                · rw [← hd.out, HF.out]; rfl
                · exact (Below.refl _ _).alloc (Nat.le_refl _) _
          · have HF := Lib.hid (firstBad_next vars ls k hkl.out (by rw [hnl.out]; exact hbig) (by rw [← take_all (ls.getD k []) m (by have := hnl.out; omega)]; exact hd2.out))
            go_wp2
            go_round
            case rel => exact ⟨k + 1, by omega, by go_num, Lib.hid (by rw [← HF.out]; exact hd.out)⟩
            case measure => simp [intOf]; omega
    · go_wp2
      refine bodyPost_ret (v := .agg #[.int .i64 0, .int .i64 (-1)]) (by simp [results, Tryz.results5, go_sem]) rfl ⟨?_, ?_⟩
      · rw [← hd.out, List.drop_eq_nil_of_le (by have := hlen.out; omega)]
        rfl
      · exact (Below.refl _ _).alloc (Nat.le_refl _) _
end Go.Proofs.YtkkgdlfjblmbjaaGreatDoor
