/-
  The law ProofShows, walked.
-/
import Derived.Test.YtkkgdlfjblmbjaaDoorProofShow
import Derived.Test.YtkkgdlfjblmbjaaDoorLawFollows
namespace Go.Proofs.YtkkgdlfjblmbjaaDoor
open Go.RowKit

theorem Cls.nil_zero {w : World} {B n : Nat} {A : Option Addr} {ls : List (List Int)} (h : Cls w B A n ls) (e : A = none) : n = 0 := by
  rcases Nat.eq_zero_or_pos n with h0 | h0
  · exact h0
  · obtain ⟨ad, _, _, _, e2, _⟩ := h.at_ h0
    rw [e] at e2
    cases e2

set_option maxRecDepth 100000 in
set_option maxHeartbeats 2000000 in
theorem lawShows_walk (vars : Int) (A : Option Addr) (n c : Nat) (ls : List (List Int)) (A2 : Option Addr) (n2 c2 : Nat) (ps : List (List Int)) (w : World) (hG : Glob w) (h : Cls w w.heap.size A n ls) (hp : Cls w w.heap.size A2 n2 ps) :
    Calls Tryd.prog 6 #[.int .i64 vars, .slice A n c, .slice A2 n2 c2] w (AtPost w true) := by
  have hn2m := hp.le
  have HL := hide h.len
  have HNIL := hide h.nil_zero
  go_enter Tryd.func6, Tryd.ntmps6
  go_wp2_with fail
  refine (few_any vars 200 A n c ls w h).mono ?_
  rintro e w' ⟨b, rfl, rfl⟩
  rcases b with _ | _
  · go_wp2
    go_ret
    exact ⟨rfl, Below.refl _ _⟩
  go_wp2_with fail
  refine (few_any vars 200 A2 n2 c2 ps w hp).mono ?_
  rintro e w' ⟨b, rfl, rfl⟩
  rcases b with _ | _
  · go_wp2
    go_ret
    exact ⟨rfl, Below.refl _ _⟩
  go_wp2_with fail
  refine (refCheck_any vars A n c ls w hG h).mono ?_
  rintro e w1 ⟨rfl, hb1⟩
  have HB1 := hide hb1
  have HG1 := hide (hG.below hb1)
  have HC1 := hide ((h.below hb1).more hb1.size)
  have HP1 := hide ((hp.below hb1).more hb1.size)
  clear hb1 h hp hG
  by_cases hck : checkF vars ls = (0, -1)
  · have HOK := hide (checkF_ok hck)
    have HCK := hide hck
    have HBA := hide ((Below.refl w1.heap.size w1).alloc (Nat.le_refl _) (.cells #[.int .i64 0, .int .i64 (-1)] 31))
    have hn200 : n ≤ 1000000 := by have := HOK.out.many; have := HL.out; omega
    unfold faultV
    rw [hck]
    clear hck
    by_cases h5 : n2 ≤ 5000
    · have HF := hide (refShows_any vars A A2 n c n2 c2 ls ps (w1.alloc (.cells #[.int .i64 0, .int .i64 (-1)] 31)) ((HC1.out.below HBA.out).more HBA.out.size) HOK.out.lits ((HP1.out.below HBA.out).more HBA.out.size) HOK.out.v0 HOK.out.v1 hn200 h5)
      go_wp2_with fail
      refine (HF.out).mono ?_
      rintro e w2 ⟨rfl, hb2⟩
      have c0 : w2.cell? ⟨w1.heap.size, 0, none⟩ = some (.int .i64 0) := (hb2.cell (by simp)).trans (by simp)
      have c1 : w2.cell? ⟨w1.heap.size, 1, none⟩ = some (.int .i64 (-1)) := (hb2.cell (by simp)).trans (by simp)
      have HBL := hide (HBA.out.trans (hb2.mono HBA.out.size))
      have hsz : w1.heap.size < w2.heap.size := by have := hb2.size; simp at this; omega
      clear hb2
      have HFO := hide (proofShows_any vars A A2 n c n2 c2 ls ps w2 ((HC1.out.below HBL.out).more HBL.out.size) ((HP1.out.below HBL.out).more HBL.out.size) HNIL.out (fun _ => h5))
      rw [pshowF_ok HCK.out] at HFO
      generalize showsF vars ls ps = r at HFO ⊢
      obtain ⟨rb, rn⟩ := r
      go_wp2_with fail
      refine (HFO.out).mono ?_
      rintro e w3 ⟨vx, rfl, hex, hb3⟩
      have c0' : w3.cell? ⟨w1.heap.size, 0, none⟩ = some (.int .i64 0) := (hb3.cell hsz).trans c0
      have c1' : w3.cell? ⟨w1.heap.size, 1, none⟩ = some (.int .i64 (-1)) := (hb3.cell hsz).trans c1
      have HB3 := hide (HBL.out.trans (hb3.mono HBL.out.size))
      have HAT := hide (at_any vx (0, -1) (0, -1) w3 (HG1.out.below HB3.out) hex)
      rw [atB_self] at HAT
      clear hex hb3
      go_wp2_with fail
      refine (HAT.out).mono ?_
      rintro e w4 ⟨rfl, hb4⟩
      have HB4 := hide (HB3.out.trans (hb4.mono HB3.out.size))
      clear hb4
      go_wp2
      go_ret
      exact ⟨ret_bool (by simp), HB1.out.trans (HB4.out.mono HB1.out.size)⟩
    · have h5' : 5000 < n2 := by omega
      have HF := hide (refShows_big vars A A2 n c n2 c2 (w1.alloc (.cells #[.int .i64 0, .int .i64 (-1)] 31)) h5' (by omega))
      go_wp2_with fail
      refine (HF.out).mono ?_
      rintro e w2 ⟨rfl, rfl⟩
      have c0 : (w1.alloc (.cells #[.int .i64 0, .int .i64 (-1)] 31)).cell? ⟨w1.heap.size, 0, none⟩ = some (.int .i64 0) := by simp
      have c1 : (w1.alloc (.cells #[.int .i64 0, .int .i64 (-1)] 31)).cell? ⟨w1.heap.size, 1, none⟩ = some (.int .i64 (-1)) := by simp
      have f0 : (w1.alloc (.cells #[.int .i64 0, .int .i64 (-1)] 31)).frozen? ⟨w1.heap.size, 0, none⟩ = false := by simp
      have f1 : (w1.alloc (.cells #[.int .i64 0, .int .i64 (-1)] 31)).frozen? ⟨w1.heap.size, 1, none⟩ = false := by simp
      have hsz : w1.heap.size < (w1.alloc (.cells #[.int .i64 0, .int .i64 (-1)] 31)).heap.size := by simp
      generalize (w1.alloc (.cells #[.int .i64 0, .int .i64 (-1)] 31)) = w2 at c0 c1 f0 f1 hsz HBA ⊢
      clear HF
      go_wp2_with (go_at_call 20; refine (bare_any 4 _).mono ?_; rintro e w' ⟨rfl, rfl⟩)
      have k0 : (((w2.setCell ⟨w1.heap.size, 0, none⟩ (.int .i64 4)).setCell ⟨w1.heap.size, 1, none⟩ (.int .i64 (-1))).alloc (.cells #[.int .i64 4, .int .i64 (-1)] 31)).cell? ⟨w1.heap.size, 0, none⟩ = some (.int .i64 4) := by
        rw [World.cell?_alloc_lt _ _ _ (by rw [size_setCell, size_setCell]; exact hsz)]
        exact two_cells c0 c1 4 (-1) |>.1
      have k1 : (((w2.setCell ⟨w1.heap.size, 0, none⟩ (.int .i64 4)).setCell ⟨w1.heap.size, 1, none⟩ (.int .i64 (-1))).alloc (.cells #[.int .i64 4, .int .i64 (-1)] 31)).cell? ⟨w1.heap.size, 1, none⟩ = some (.int .i64 (-1)) := by
        rw [World.cell?_alloc_lt _ _ _ (by rw [size_setCell, size_setCell]; exact hsz)]
        exact two_cells c0 c1 4 (-1) |>.2
      have HBX := hide (((HBA.out.setCell (p := ⟨w1.heap.size, 0, none⟩) (Nat.le_refl _) (.int .i64 4)).setCell (p := ⟨w1.heap.size, 1, none⟩) (Nat.le_refl _) (.int .i64 (-1))).alloc (by rw [size_setCell, size_setCell]; omega) (.cells #[.int .i64 4, .int .i64 (-1)] 31))
      have hsx : w1.heap.size < (((w2.setCell ⟨w1.heap.size, 0, none⟩ (.int .i64 4)).setCell ⟨w1.heap.size, 1, none⟩ (.int .i64 (-1))).alloc (.cells #[.int .i64 4, .int .i64 (-1)] 31)).heap.size := by rw [World.size_alloc', size_setCell, size_setCell]; omega
      clear c0 c1 f0 f1 hsz
      generalize (((w2.setCell ⟨w1.heap.size, 0, none⟩ (.int .i64 4)).setCell ⟨w1.heap.size, 1, none⟩ (.int .i64 (-1))).alloc (.cells #[.int .i64 4, .int .i64 (-1)] 31)) = wb at k0 k1 HBX hsx ⊢
      have HFO := hide (proofShows_big vars A A2 n c n2 c2 ls wb ((HC1.out.below HBX.out).more HBX.out.size) HCK.out h5' (by omega))
      refine (HFO.out).mono ?_
      rintro e w3 ⟨vx, rfl, hex, hb3⟩
      have c0' : w3.cell? ⟨w1.heap.size, 0, none⟩ = some (.int .i64 4) := (hb3.cell hsx).trans k0
      have c1' : w3.cell? ⟨w1.heap.size, 1, none⟩ = some (.int .i64 (-1)) := (hb3.cell hsx).trans k1
      have HB3 := hide (HBX.out.trans (hb3.mono HBX.out.size))
      have HAT := hide (at_any vx (4, -1) (4, -1) w3 (HG1.out.below HB3.out) hex)
      rw [atB_self] at HAT
      clear hex hb3 k0 k1
      go_wp2_with fail
      refine (HAT.out).mono ?_
      rintro e w4 ⟨rfl, hb4⟩
      have HB4 := hide (HB3.out.trans (hb4.mono HB3.out.size))
      clear hb4
      go_wp2
      go_ret
      exact ⟨ret_bool (by simp), HB1.out.trans (HB4.out.mono HB1.out.size)⟩
  · have hne : (checkF vars ls).1 ≠ 0 := fun e => hck (checkF_zero e)
    have hn0 : ((checkF vars ls).1 == 0) = false := beq_eq_false_iff_ne.2 hne
    have HLB := hide (pshowF_bad (ps := ps) hck)
    have HNC := hide hck
    have HBA := hide ((Below.refl w1.heap.size w1).alloc (Nat.le_refl _) (.cells #[.int .i64 (checkF vars ls).1, .int .i64 (checkF vars ls).2] 31))
    have HFO := hide (proofShows_any vars A A2 n c n2 c2 ls ps (w1.alloc (.cells #[.int .i64 (checkF vars ls).1, .int .i64 (checkF vars ls).2] 31)) ((HC1.out.below HBA.out).more HBA.out.size) ((HP1.out.below HBA.out).more HBA.out.size) HNIL.out (fun h => absurd h HNC.out))
    rw [HLB.out] at HFO
    clear hck hne HLB HNC
    generalize checkF vars ls = f at hn0 HFO HBA ⊢
    obtain ⟨f1, f2⟩ := f
    have k0 : (w1.alloc (.cells #[.int .i64 f1, .int .i64 f2] 31)).cell? ⟨w1.heap.size, 0, none⟩ = some (.int .i64 f1) := by simp
    have k1 : (w1.alloc (.cells #[.int .i64 f1, .int .i64 f2] 31)).cell? ⟨w1.heap.size, 1, none⟩ = some (.int .i64 f2) := by simp
    have hsx : w1.heap.size < (w1.alloc (.cells #[.int .i64 f1, .int .i64 f2] 31)).heap.size := by simp
    unfold faultV
    go_wp2_with fail
    refine (HFO.out).mono ?_
    rintro e w3 ⟨vx, rfl, hex, hb3⟩
    have c0' : w3.cell? ⟨w1.heap.size, 0, none⟩ = some (.int .i64 f1) := (hb3.cell hsx).trans k0
    have c1' : w3.cell? ⟨w1.heap.size, 1, none⟩ = some (.int .i64 f2) := (hb3.cell hsx).trans k1
    have HB3 := hide (HBA.out.trans (hb3.mono HBA.out.size))
    have HAT := hide (at_any vx (f1, f2) (f1, f2) w3 (HG1.out.below HB3.out) hex)
    rw [atB_self] at HAT
    clear hex hb3 k0 k1
    go_wp2_with fail
    refine (HAT.out).mono ?_
    rintro e w4 ⟨rfl, hb4⟩
    have HB4 := hide (HB3.out.trans (hb4.mono HB3.out.size))
    clear hb4
    go_wp2
    go_ret
    exact ⟨ret_bool (by simp), HB1.out.trans (HB4.out.mono HB1.out.size)⟩
end Go.Proofs.YtkkgdlfjblmbjaaDoor
