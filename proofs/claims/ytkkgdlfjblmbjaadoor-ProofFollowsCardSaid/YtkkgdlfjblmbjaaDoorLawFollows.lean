/-
  The law ClauseFollows, walked.
-/
import Derived.Test.YtkkgdlfjblmbjaaDoorFollows
namespace Go.Proofs.YtkkgdlfjblmbjaaDoor
open Go.RowKit

theorem ints_nil' {n : Nat} (h : ([] : List Int).length = n) (w : World) (B : Nat) (A : Option Addr) : Ints w B A n [] := by
  subst h
  exact ⟨rfl, Nat.zero_le _, by simp, rfl, fun h => absurd h (Nat.lt_irrefl _)⟩
theorem two_cells {w : World} {b : Nat} {u0 u1 : Value} (c0 : w.cell? ⟨b, 0, none⟩ = some u0) (c1 : w.cell? ⟨b, 1, none⟩ = some u1) (x y : Int) :
    ((w.setCell ⟨b, 0, none⟩ (.int .i64 x)).setCell ⟨b, 1, none⟩ (.int .i64 y)).cell? ⟨b, 0, none⟩ = some (.int .i64 x) ∧ ((w.setCell ⟨b, 0, none⟩ (.int .i64 x)).setCell ⟨b, 1, none⟩ (.int .i64 y)).cell? ⟨b, 1, none⟩ = some (.int .i64 y) := by
  have h1 : (w.setCell ⟨b, 0, none⟩ (.int .i64 x)).cell? ⟨b, 1, none⟩ = some u1 := by
    rw [World.cell?_setCell_other _ _ _ _ (by simp)]; exact c1
  refine ⟨?_, World.cell?_setCell_same _ _ _ h1⟩
  rw [World.cell?_setCell_other _ _ _ _ (by simp)]
  exact World.cell?_setCell_same _ _ _ c0
theorem firstBad_zero (vars : Int) : ∀ (ls : List (List Int)) (i : Nat), (firstBad vars ls i).1 = 0 → firstBad vars ls i = (0, -1) := by
  intro ls
  induction ls with
  | nil => intro i _; rfl
  | cons c cs ih =>
    intro i h
    unfold firstBad at h ⊢
    split at h
    · simp at h
    · rename_i h1
      rw [if_neg h1]
      split at h
      · simp at h
      · rename_i h2
        rw [if_neg h2]
        exact ih (i + 1) h
theorem checkF_zero {vars : Int} {ls : List (List Int)} (h : (checkF vars ls).1 = 0) : checkF vars ls = (0, -1) := by
  unfold checkF at h ⊢
  split at h
  · simp at h
  · rename_i h1
    rw [if_neg h1]
    split at h
    · simp at h
    · rename_i h2
      rw [if_neg h2]
      exact firstBad_zero vars ls 0 h

set_option maxRecDepth 100000 in
set_option maxHeartbeats 2000000 in
theorem lawFollows_walk (vars : Int) (A : Option Addr) (n c : Nat) (ls : List (List Int)) (Aa : Option Addr) (na ca : Nat) (asm : List Int) (w : World) (hG : Glob w) (h : Cls w w.heap.size A n ls) (ha : Ints w w.heap.size Aa na asm) :
    Calls Tryd.prog 4 #[.int .i64 vars, .slice A n c, .slice Aa na ca] w (AtPost w true) := by
  have hna := ha.le
  go_enter Tryd.func4, Tryd.ntmps4
  go_wp2_with fail
  refine (few_any vars 300 A n c ls w h).mono ?_
  rintro e w' ⟨b, rfl, rfl⟩
  rcases b with _ | _
  · go_wp2
    go_ret
    exact ⟨rfl, Below.refl _ _⟩
  by_cases h60 : 60 < na
  · go_wp2
    go_ret
    exact ⟨rfl, Below.refl _ _⟩
  go_wp2_with fail
  refine (refCheck_any vars A n c ls w hG h).mono ?_
  rintro e w1 ⟨rfl, hb1⟩
  have HB1 := hide hb1
  have HG1 := hide (hG.below hb1)
  have HC1 := hide ((h.below hb1).more hb1.size)
  have HA1 := hide ((ha.below hb1).more hb1.size)
  clear hb1 h ha hG
  by_cases hck : checkF vars ls = (0, -1)
  · have HOK := hide (checkF_ok hck)
    have HCK := hide hck
    have HBA := hide ((Below.refl w1.heap.size w1).alloc (Nat.le_refl _) (.cells #[.int .i64 0, .int .i64 (-1)] 31))
    have HF := hide (refFollows_any vars A Aa n c na ca ls asm (w1.alloc (.cells #[.int .i64 0, .int .i64 (-1)] 31)) ((HC1.out.below HBA.out).more HBA.out.size) ((HA1.out.below HBA.out).more HBA.out.size) HOK.out.lits HOK.out.v0 HOK.out.v1)
    unfold faultV
    rw [hck]
    clear hck
    go_wp2_with fail
    refine (HF.out).mono ?_
    rintro e w2 ⟨At, nt, ct, rfl, hi2, hb2⟩
    have HI2 := hide hi2
    have HB2 := hide hb2
    have c0 : w2.cell? ⟨w1.heap.size, 0, none⟩ = some (.int .i64 0) := (hb2.cell (by simp)).trans (by simp)
    have c1 : w2.cell? ⟨w1.heap.size, 1, none⟩ = some (.int .i64 (-1)) := (hb2.cell (by simp)).trans (by simp)
    have HBL := hide (HBA.out.trans (hb2.mono HBA.out.size))
    have hsz : w1.heap.size < w2.heap.size := by have := hb2.size; simp at this; omega
    clear hi2 hb2
    have HLF := hide (show lawF vars ls asm = ((followF vars ls asm).1, (followF vars ls asm).2.1, if (followF vars ls asm).2.2 = 0 then (0, -1) else ((followF vars ls asm).2.2, -1)) by unfold lawF; rw [if_pos HCK.out])
    have HR := hide (show (followF vars ls asm).2.2 = 0 ∨ followF vars ls asm = ([], 0, 1) by unfold followF; split <;> simp)
    generalize followF vars ls asm = r at HLF HR HI2
    obtain ⟨told, bad, ec⟩ := r
    rcases HR.out with he | he
    · have he' : ec = 0 := he
      subst he'
      have HFO := hide (follows_any vars A Aa n c na ca ls asm w2 ((HC1.out.below HBL.out).more HBL.out.size) ((HA1.out.below HBL.out).more HBL.out.size))
      rw [HLF.out] at HFO
      clear he
      go_wp2_with fail
      refine (HFO.out).mono ?_
      rintro e w3 ⟨Ax, nx, cx, vx, rfl, hix, hex, hb3⟩
      have c0' : w3.cell? ⟨w1.heap.size, 0, none⟩ = some (.int .i64 0) := (hb3.cell hsz).trans c0
      have c1' : w3.cell? ⟨w1.heap.size, 1, none⟩ = some (.int .i64 (-1)) := (hb3.cell hsz).trans c1
      have HB3 := hide (HBL.out.trans (hb3.mono HBL.out.size))
      have HAT := hide (at_any vx (0, -1) (0, -1) w3 (HG1.out.below HB3.out) hex)
      rw [atB_self] at HAT
      have HI3 := hide ((HI2.out.below hb3).more hb3.size)
      have HIX := hide hix
      clear hix hex hb3
      go_wp2_with fail
      refine (HAT.out).mono ?_
      rintro e w4 ⟨rfl, hb4⟩
      have HSM := hide (same_same Ax At nx cx nt ct told w4 ((HIX.out.below hb4).more hb4.size) ((HI3.out.below hb4).more hb4.size))
      have HB4 := hide (HB3.out.trans (hb4.mono HB3.out.size))
      clear hb4
      go_wp2_with fail
      refine (HSM.out).mono ?_
      rintro e w5 ⟨rfl, hb5⟩
      go_wp2
      go_ret
      exact ⟨ret_bool (by simp), HB1.out.trans ((HB4.out.trans (hb5.mono HB4.out.size)).mono HB1.out.size)⟩
    · obtain ⟨rfl, he2⟩ := Prod.mk.inj he
      obtain ⟨rfl, rfl⟩ := Prod.mk.inj he2
      have f0 : w2.frozen? ⟨w1.heap.size, 0, none⟩ = false := (HB2.out.frozen (by simp)).trans (by simp)
      have f1 : w2.frozen? ⟨w1.heap.size, 1, none⟩ = false := (HB2.out.frozen (by simp)).trans (by simp)
      clear he he2
      go_wp2_with (go_at_call 20; refine (bare_any 1 _).mono ?_; rintro e w' ⟨rfl, rfl⟩)
      have k0 : (((w2.setCell ⟨w1.heap.size, 0, none⟩ (.int .i64 1)).setCell ⟨w1.heap.size, 1, none⟩ (.int .i64 (-1))).alloc (.cells #[.int .i64 1, .int .i64 (-1)] 31)).cell? ⟨w1.heap.size, 0, none⟩ = some (.int .i64 1) := by
        rw [World.cell?_alloc_lt _ _ _ (by rw [size_setCell, size_setCell]; exact hsz)]
        exact two_cells c0 c1 1 (-1) |>.1
      have k1 : (((w2.setCell ⟨w1.heap.size, 0, none⟩ (.int .i64 1)).setCell ⟨w1.heap.size, 1, none⟩ (.int .i64 (-1))).alloc (.cells #[.int .i64 1, .int .i64 (-1)] 31)).cell? ⟨w1.heap.size, 1, none⟩ = some (.int .i64 (-1)) := by
        rw [World.cell?_alloc_lt _ _ _ (by rw [size_setCell, size_setCell]; exact hsz)]
        exact two_cells c0 c1 1 (-1) |>.2
      have HBX := hide (((HBL.out.setCell (p := ⟨w1.heap.size, 0, none⟩) (Nat.le_refl _) (.int .i64 1)).setCell (p := ⟨w1.heap.size, 1, none⟩) (Nat.le_refl _) (.int .i64 (-1))).alloc (by rw [size_setCell, size_setCell]; omega) (.cells #[.int .i64 1, .int .i64 (-1)] 31))
      have hsx : w1.heap.size < (((w2.setCell ⟨w1.heap.size, 0, none⟩ (.int .i64 1)).setCell ⟨w1.heap.size, 1, none⟩ (.int .i64 (-1))).alloc (.cells #[.int .i64 1, .int .i64 (-1)] 31)).heap.size := by rw [World.size_alloc', size_setCell, size_setCell]; omega
      clear c0 c1 f0 f1 hsz
      generalize (((w2.setCell ⟨w1.heap.size, 0, none⟩ (.int .i64 1)).setCell ⟨w1.heap.size, 1, none⟩ (.int .i64 (-1))).alloc (.cells #[.int .i64 1, .int .i64 (-1)] 31)) = wb at k0 k1 HBX hsx ⊢
      have HFO := hide (follows_any vars A Aa n c na ca ls asm wb ((HC1.out.below HBX.out).more HBX.out.size) ((HA1.out.below HBX.out).more HBX.out.size))
      rw [HLF.out] at HFO
      refine (HFO.out).mono ?_
      rintro e w3 ⟨Ax, nx, cx, vx, rfl, hix, hex, hb3⟩
      have c0' : w3.cell? ⟨w1.heap.size, 0, none⟩ = some (.int .i64 1) := (hb3.cell hsx).trans k0
      have c1' : w3.cell? ⟨w1.heap.size, 1, none⟩ = some (.int .i64 (-1)) := (hb3.cell hsx).trans k1
      have HB3 := hide (HBX.out.trans (hb3.mono HBX.out.size))
      have HAT := hide (at_any vx (1, -1) (1, -1) w3 (HG1.out.below HB3.out) hex)
      rw [atB_self] at HAT
      have HIX := hide hix
      have HN := hide HI2.out.1
      clear hix hex hb3 k0 k1
      go_wp2_with fail
      refine (HAT.out).mono ?_
      rintro e w4 ⟨rfl, hb4⟩
      have HSM := hide (same_same Ax At nx cx nt ct [] w4 ((HIX.out.below hb4).more hb4.size) (ints_nil' (HN.out) _ _ _))
      have HB4 := hide (HB3.out.trans (hb4.mono HB3.out.size))
      clear hb4
      go_wp2_with fail
      refine (HSM.out).mono ?_
      rintro e w5 ⟨rfl, hb5⟩
      go_wp2
      go_ret
      exact ⟨ret_bool (by simp), HB1.out.trans ((HB4.out.trans (hb5.mono HB4.out.size)).mono HB1.out.size)⟩
  · have hne : (checkF vars ls).1 ≠ 0 := fun e => hck (checkF_zero e)
    have hn0 : ((checkF vars ls).1 == 0) = false := beq_eq_false_iff_ne.2 hne
    have HLB := hide (lawF_bad (a := asm) hck)
    clear hck hne
    generalize checkF vars ls = f at hn0 HLB
    obtain ⟨f1, f2⟩ := f
    have HBA := hide ((Below.refl w1.heap.size w1).alloc (Nat.le_refl _) (.cells #[.int .i64 f1, .int .i64 f2] 31))
    have k0 : (w1.alloc (.cells #[.int .i64 f1, .int .i64 f2] 31)).cell? ⟨w1.heap.size, 0, none⟩ = some (.int .i64 f1) := by simp
    have k1 : (w1.alloc (.cells #[.int .i64 f1, .int .i64 f2] 31)).cell? ⟨w1.heap.size, 1, none⟩ = some (.int .i64 f2) := by simp
    have hsx : w1.heap.size < (w1.alloc (.cells #[.int .i64 f1, .int .i64 f2] 31)).heap.size := by simp
    have HFO := hide (follows_any vars A Aa n c na ca ls asm (w1.alloc (.cells #[.int .i64 f1, .int .i64 f2] 31)) ((HC1.out.below HBA.out).more HBA.out.size) ((HA1.out.below HBA.out).more HBA.out.size))
    rw [HLB.out] at HFO
    unfold faultV
    go_wp2_with fail
    refine (HFO.out).mono ?_
    rintro e w3 ⟨Ax, nx, cx, vx, rfl, hix, hex, hb3⟩
    have c0' : w3.cell? ⟨w1.heap.size, 0, none⟩ = some (.int .i64 f1) := (hb3.cell hsx).trans k0
    have c1' : w3.cell? ⟨w1.heap.size, 1, none⟩ = some (.int .i64 f2) := (hb3.cell hsx).trans k1
    have HB3 := hide (HBA.out.trans (hb3.mono HBA.out.size))
    have HAT := hide (at_any vx (f1, f2) (f1, f2) w3 (HG1.out.below HB3.out) hex)
    rw [atB_self] at HAT
    have HIX := hide hix
    clear hix hex hb3 k0 k1
    go_wp2_with fail
    refine (HAT.out).mono ?_
    rintro e w4 ⟨rfl, hb4⟩
    have HSM := hide (same_same Ax none nx cx 0 0 [] w4 ((HIX.out.below hb4).more hb4.size) (Ints.nil _ _))
    have HB4 := hide (HB3.out.trans (hb4.mono HB3.out.size))
    clear hb4
    go_wp2_with fail
    refine (HSM.out).mono ?_
    rintro e w5 ⟨rfl, hb5⟩
    go_wp2
    go_ret
    exact ⟨ret_bool (by simp), HB1.out.trans ((HB4.out.trans (hb5.mono HB4.out.size)).mono HB1.out.size)⟩
end Go.Proofs.YtkkgdlfjblmbjaaDoor
