/-
  clause.Check and the reference's ClauseCheck: both tell 'checkF'.
-/
import Derived.Test.YtkkgdlfjblmbjaaGreatDoorFind
namespace Go.Proofs.YtkkgdlfjblmbjaaGreatDoor
open Go.RowKit

/-- The error value v is the fault f: (code, place); (0, -1): nil. -/
def IsErr (w : World) (v : Value) (f : Int × Int) : Prop :=
  (f = (0, -1) ∧ v = .nilIface) ∨ (f.2 = -1 ∧ 1 ≤ f.1 ∧ f.1 ≤ 13 ∧ v = .iface 24 (.int .i64 f.1)) ∨
    ∃ b, b < w.heap.size ∧ 1 ≤ f.1 ∧ f.1 ≤ 13 ∧ 0 ≤ f.2 ∧ v = .iface 57 (.pointer (some ⟨b, 0, none⟩)) ∧ Blk w b 58 #[.int .i64 f.1, .int .i64 f.2]
def GivesErr (w : World) (f : Int × Int) (e : Ending) (w' : World) : Prop := ∃ v, e = .returned v ∧ IsErr w' v f ∧ Below w.heap.size w w'

theorem check1_any (x vars : Int) (a : Addr) (w : World) (hc : w.cell? a = some (.int .i64 vars)) (h0 : 0 ≤ vars) (h1 : vars ≤ 24) :
    Calls Tryz.prog 27 #[.int .i64 x, .pointer (some a)] w fun e w' => e = .returned (.bool (badB vars x)) ∧ w = w' := by
  by_cases h2 : x = 0
  · subst h2
    go_enter Tryz.func27, Tryz.ntmps27
    go_wp2
    go_ret
    exact ⟨ret_bool (badB_t (by omega)).symm, rfl⟩
  · by_cases h3 : vars < x
    · go_enter Tryz.func27, Tryz.ntmps27
      go_wp2
      go_ret
      exact ⟨ret_bool (badB_t (by omega)).symm, rfl⟩
    · by_cases h4 : x < -vars
      · go_enter Tryz.func27, Tryz.ntmps27
        go_wp2
        go_ret
        exact ⟨ret_bool (badB_t (by omega)).symm, rfl⟩
      · go_enter Tryz.func27, Tryz.ntmps27
        go_wp2
        go_ret
        exact ⟨ret_bool (by rw [badB_f (by omega)]; simp [h2]), rfl⟩

theorem enters_check1 : ∀ args w, (callFunc 27 args).run Tryz.prog w = .ok (.enter 27 args) w := enters_of Tryz.func27 (by kernel_rfl) rfl

set_option maxHeartbeats 1000000 in
theorem check_any (vars : Int) (A : Option Addr) (n c : Nat) (ls : List (List Int)) (w : World) (h : Cls w w.heap.size A n ls) :
    Calls Tryz.prog 15 #[.int .i64 vars, .slice A n c] w (GivesErr w (checkF vars ls)) := by
  have hn := h.le
  have hlen := Lib.hid h.len
  by_cases hr0 : vars < 0
  · go_enter Tryz.func15, Tryz.ntmps15
    go_wp2
    go_ret
    exact ⟨_, rfl, .inr (.inl (by rw [checkF_range _ (.inl hr0)]; exact ⟨rfl, by omega, by omega, rfl⟩)), (Below.refl _ _).alloc (Nat.le_refl _) _⟩
  by_cases hr1 : 24 < vars
  · go_enter Tryz.func15, Tryz.ntmps15
    go_wp2
    go_ret
    exact ⟨_, rfl, .inr (.inl (by rw [checkF_range _ (.inr hr1)]; exact ⟨rfl, by omega, by omega, rfl⟩)), (Below.refl _ _).alloc (Nat.le_refl _) _⟩
  by_cases hr2 : 200 < n
  · go_enter Tryz.func15, Tryz.ntmps15
    go_wp2
    go_ret
    exact ⟨_, rfl, .inr (.inl (by rw [checkF_many (by omega) (by rw [hlen.out]; exact hr2)]; exact ⟨rfl, by omega, by omega, rfl⟩)), (Below.refl _ _).alloc (Nat.le_refl _) _⟩
  have HE := Lib.hid (checkF_else (v := vars) (ls := ls) (by omega) (by rw [hlen.out]; exact hr2))
  go_enter Tryz.func15, Tryz.ntmps15
  go_wp2
  go_loop [5, 6, 20] (fun _ _ i => ∃ k : Nat, k ≤ n ∧ i = .int .i64 k ∧ Hid (firstBad vars (ls.drop k) k = checkF vars ls)) (fun _ _ i => n - (intOf i).toNat)
  case atStart => exact ⟨0, Nat.zero_le _, rfl, Lib.hid (by rw [HE.out]; rfl)⟩
  case round =>
    obtain ⟨k, hk, rfl, hd⟩ := hrel
    have hbel := Lib.hid ((Below.refl w.heap.size w).alloc (Nat.le_refl _) (.cells #[.int .i64 vars] 3))
    by_cases hlt : k < n
    · obtain ⟨ad, A', n', c', rfl, hb, hc, hcc, hi⟩ := h.at_ hlt
      have hkl := Lib.hid (show k < ls.length by rw [hlen.out]; exact hlt)
      have hc2 : (w.alloc (.cells #[.int .i64 vars] 3)).cell? (ad.add k) = some (.slice A' n' c') := (hbel.out.cell (by rw [block_of_add]; exact hb)).trans hc
      have hi2 := (hi.below hbel.out).more (B' := (w.alloc (.cells #[.int .i64 vars] 3)).heap.size) (by simp)
      have hn' := hi.le
      have hnl := Lib.hid hi.len
      by_cases hbig : 48 < n'
      · have HF := Lib.hid (firstBad_long vars ls k hkl.out (by rw [hnl.out]; exact hbig))
        go_wp2
        go_ret
        refine ⟨_, rfl, .inr (.inr ⟨w.heap.size + 1, ?_⟩), (hbel.out.alloc (by simp) _)⟩
        rw [← hd.out, HF.out]
        exact ⟨by simp, by omega, by omega, by simp, rfl, by have := Blk.new (w.alloc (.cells #[.int .i64 vars] 3)) 58 #[.int .i64 4, .int .i64 k]; simpa using this⟩
      · have hcell : (w.alloc (.cells #[.int .i64 vars] 3)).cell? ⟨w.heap.size, 0, none⟩ = some (.int .i64 vars) := by simp
        have HC := hide (containsFunc_any 27 #[.pointer (some ⟨w.heap.size, 0, none⟩)] enters_check1 (badB vars) A' n' c' (ls.getD k []) (w.alloc (.cells #[.int .i64 vars] 3)) hi2 (fun x _ => check1_any x vars _ _ hcell (by omega) (by omega)))
        clear hcell
        rcases hany : (ls.getD k []).any (badB vars) with _ | _
        · rw [hany] at HC
          have HF := Lib.hid (firstBad_next vars ls k hkl.out (by rw [hnl.out]; exact hbig) hany)
          clear hany
          go_wp2_with (go_at_call 26; refine (HC.out).mono ?_; rintro e w' ⟨rfl, rfl⟩)
          go_round
          case rel => exact ⟨k + 1, by omega, by go_num, Lib.hid (by rw [← HF.out]; exact hd.out)⟩
          case measure => simp [intOf]; omega
        · rw [hany] at HC
          have HF := Lib.hid (firstBad_bad vars ls k hkl.out (by rw [hnl.out]; exact hbig) hany)
          clear hany
          go_wp2_with (go_at_call 26; refine (HC.out).mono ?_; rintro e w' ⟨rfl, rfl⟩)
          go_ret
          refine ⟨_, rfl, .inr (.inr ⟨w.heap.size + 1, ?_⟩), (hbel.out.alloc (by simp) _)⟩
          rw [← hd.out, HF.out]
          exact ⟨by simp, by omega, by omega, by simp, rfl, by have := Blk.new (w.alloc (.cells #[.int .i64 vars] 3)) 58 #[.int .i64 2, .int .i64 k]; simpa using this⟩
    · go_wp2
      go_ret
      refine ⟨_, rfl, .inl ⟨?_, rfl⟩, hbel.out⟩
      rw [← hd.out, List.drop_eq_nil_of_le (by have := hlen.out; omega)]
      rfl
end Go.Proofs.YtkkgdlfjblmbjaaGreatDoor
