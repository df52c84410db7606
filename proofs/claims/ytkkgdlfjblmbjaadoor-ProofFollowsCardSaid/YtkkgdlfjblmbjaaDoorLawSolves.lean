/-
  The law ClauseSolves, walked.
-/
import Derived.Test.YtkkgdlfjblmbjaaDoorSolveC
import Derived.Test.YtkkgdlfjblmbjaaDoorRefSolve
import Derived.Test.YtkkgdlfjblmbjaaDoorLawFollows
namespace Go.Proofs.YtkkgdlfjblmbjaaDoor
open Go.RowKit

/-- Enough rounds; kept out of sight. -/
def roundsS : Nat := 52025
theorem rounds_ok : solMu [] [] ≤ roundsS := by decide
theorem solveF_bad_nil (m : Nat) (ls : List (List Int)) : ∀ (g : Nat) (tr : List Int) (st : Decs) (pf : List (List Int)), (solveF m ls g tr st pf).2.2 = false → solveF m ls g tr st pf = ((false, 0), ([], false)) := by
  intro g
  induction g with
  | zero => intro _ _ _ _; rfl
  | succ g ih =>
    intro tr st pf h
    unfold solveF at h ⊢
    split at h
    · rename_i hb
      rw [if_pos hb]
      cases st with
      | nil => simp at h
      | cons p r =>
        obtain ⟨t, v⟩ := p
        simp only at h ⊢
        split at h
        · rename_i hl; rw [if_pos hl]
        · rename_i hl; rw [if_neg hl]; exact ih _ _ _ h
    · rename_i hb
      rw [if_neg hb]
      split at h
      · simp at h
      · rename_i hv; rw [if_neg hv]; exact ih _ _ _ h


theorem IsErr.below' {w w' : World} {v : Value} {f : Int × Int} (h : IsErr w v f) (hb : Below w.heap.size w w') : IsErr w' v f := by
  rcases h with h | h | ⟨b, h1, h2, h3, h4, h5, h6⟩
  · exact .inl h
  · exact .inr (.inl h)
  · exact .inr (.inr ⟨b, Nat.lt_of_lt_of_le h1 hb.size, h2, h3, h4, h5, h6.below hb h1⟩)

set_option maxRecDepth 100000 in
set_option maxHeartbeats 4000000 in
theorem lawSolves_bad (vars : Int) (A : Option Addr) (n c : Nat) (ls : List (List Int)) (w : World) (hG : Glob w) (h : Cls w w.heap.size A n ls) (hck : checkF vars ls ≠ (0, -1)) :
    Calls Tryd.prog 7 #[.int .i64 vars, .slice A n c] w (AtPost w true) := by
  have HF1 := hide (few_any vars 200 A n c ls w h)
  have HRC := hide (refCheck_any vars A n c ls w hG h)
  have HH := hide h
  have HG := hide hG
  have HCK := hide hck
  have hne : (checkF vars ls).1 ≠ 0 := fun e => hck (checkF_zero e)
  have hn0 : ((checkF vars ls).1 == 0) = false := beq_eq_false_iff_ne.2 hne
  clear h hG hck hne
  go_enter Tryd.func7, Tryd.ntmps7
  go_wp2_with fail
  refine (HF1.out).mono ?_
  rintro e w' ⟨b, rfl, rfl⟩
  rcases b with _ | _
  · go_wp2
    go_ret
    exact ⟨rfl, Below.refl _ _⟩
  by_cases h1 : 10 < vars
  · by_cases h2 : vars ≤ 24
    · go_wp2
      go_ret
      exact ⟨rfl, Below.refl _ _⟩
    · go_wp2_with fail
      refine (HRC.out).mono ?_
      rintro e w1 ⟨rfl, hb1⟩
      have HB1 := hide hb1
      have HG1 := hide (HG.out.below hb1)
      have HC1 := hide ((HH.out.below hb1).more hb1.size)
      clear hb1
      have HBA := hide ((Below.refl w1.heap.size w1).alloc (Nat.le_refl _) (.cells #[.int .i64 (checkF vars ls).1, .int .i64 (checkF vars ls).2] 31))
      have HS := hide (solve_bad vars A n c ls (w1.alloc (.cells #[.int .i64 (checkF vars ls).1, .int .i64 (checkF vars ls).2] 31)) ((HC1.out.below HBA.out).more HBA.out.size) HCK.out)
      clear HCK
      generalize checkF vars ls = f at hn0 HS HBA ⊢
      obtain ⟨f1, f2⟩ := f
      have k0 : (w1.alloc (.cells #[.int .i64 f1, .int .i64 f2] 31)).cell? ⟨w1.heap.size, 0, none⟩ = some (.int .i64 f1) := by simp
      have k1 : (w1.alloc (.cells #[.int .i64 f1, .int .i64 f2] 31)).cell? ⟨w1.heap.size, 1, none⟩ = some (.int .i64 f2) := by simp
      have hsx : w1.heap.size < (w1.alloc (.cells #[.int .i64 f1, .int .i64 f2] 31)).heap.size := by simp
      unfold faultV
      go_wp2_with fail
      refine (HS.out).mono ?_
      rintro e w3 ⟨Ax, nx, cx, vx, rfl, hcx, hex, hb3⟩
      have HB3 := hide (HBA.out.trans (hb3.mono HBA.out.size))
      have c0' : (w3.alloc (.cells #[.bool false, .int .u64 0, .slice Ax nx cx] 55)).cell? ⟨w1.heap.size, 0, none⟩ = some (.int .i64 f1) := (World.cell?_alloc_lt _ _ _ (Nat.lt_of_lt_of_le hsx hb3.size)).trans ((hb3.cell hsx).trans k0)
      have c1' : (w3.alloc (.cells #[.bool false, .int .u64 0, .slice Ax nx cx] 55)).cell? ⟨w1.heap.size, 1, none⟩ = some (.int .i64 f2) := (World.cell?_alloc_lt _ _ _ (Nat.lt_of_lt_of_le hsx hb3.size)).trans ((hb3.cell hsx).trans k1)
      have HB3a := hide (HB3.out.alloc HB3.out.size (.cells #[.bool false, .int .u64 0, .slice Ax nx cx] 55))
      have HBN := hide ((Below.refl w3.heap.size w3).alloc (Nat.le_refl _) (.cells #[.bool false, .int .u64 0, .slice Ax nx cx] 55))
      have HAT := hide (at_any vx (f1, f2) (f1, f2) (w3.alloc (.cells #[.bool false, .int .u64 0, .slice Ax nx cx] 55)) (HG1.out.below HB3a.out) (hex.below' HBN.out))
      rw [atB_self] at HAT
      have HCX := hide ((hcx.below HBN.out).more HBN.out.size)
      have HSH := hide (cls_nil w1 w1.heap.size)
      clear hcx hex hb3
      unfold faultV at HAT
      go_wp2_with fail
      refine (HAT.out).mono ?_
      rintro e w4 ⟨rfl, hb4⟩
      have HK4 := hide (Blk.new w3 55 #[.bool false, .int .u64 0, .slice Ax nx cx] |>.below hb4 (by simp))
      have a0 := HK4.out.cell 0
      have a1 := HK4.out.cell 1
      have a2 := HK4.out.cell 2
      have HSM := hide (sameCls Ax none nx cx 0 0 [] w4 ((HCX.out.below hb4).more hb4.size) ((HSH.out.below ((HB3a.out.trans (hb4.mono HB3a.out.size)))).more (HB3a.out.trans (hb4.mono HB3a.out.size)).size))
      have HB4 := hide (HB3a.out.trans (hb4.mono HB3a.out.size))
      clear hb4
      go_wp2_with fail
      refine (HSM.out).mono ?_
      rintro e w5 ⟨rfl, hb5⟩
      go_wp2
      go_ret
      exact ⟨ret_bool (by simp), HB1.out.trans ((HB4.out.trans (hb5.mono HB4.out.size)).mono HB1.out.size)⟩
  · go_wp2_with fail
    refine (HRC.out).mono ?_
    rintro e w1 ⟨rfl, hb1⟩
    have HB1 := hide hb1
    have HG1 := hide (HG.out.below hb1)
    have HC1 := hide ((HH.out.below hb1).more hb1.size)
    clear hb1
    have HBA := hide ((Below.refl w1.heap.size w1).alloc (Nat.le_refl _) (.cells #[.int .i64 (checkF vars ls).1, .int .i64 (checkF vars ls).2] 31))
    have HS := hide (solve_bad vars A n c ls (w1.alloc (.cells #[.int .i64 (checkF vars ls).1, .int .i64 (checkF vars ls).2] 31)) ((HC1.out.below HBA.out).more HBA.out.size) HCK.out)
    clear HCK
    generalize checkF vars ls = f at hn0 HS HBA ⊢
    obtain ⟨f1, f2⟩ := f
    have k0 : (w1.alloc (.cells #[.int .i64 f1, .int .i64 f2] 31)).cell? ⟨w1.heap.size, 0, none⟩ = some (.int .i64 f1) := by simp
    have k1 : (w1.alloc (.cells #[.int .i64 f1, .int .i64 f2] 31)).cell? ⟨w1.heap.size, 1, none⟩ = some (.int .i64 f2) := by simp
    have hsx : w1.heap.size < (w1.alloc (.cells #[.int .i64 f1, .int .i64 f2] 31)).heap.size := by simp
    unfold faultV
    go_wp2_with fail
    refine (HS.out).mono ?_
    rintro e w3 ⟨Ax, nx, cx, vx, rfl, hcx, hex, hb3⟩
    have HB3 := hide (HBA.out.trans (hb3.mono HBA.out.size))
    have c0' : (w3.alloc (.cells #[.bool false, .int .u64 0, .slice Ax nx cx] 55)).cell? ⟨w1.heap.size, 0, none⟩ = some (.int .i64 f1) := (World.cell?_alloc_lt _ _ _ (Nat.lt_of_lt_of_le hsx hb3.size)).trans ((hb3.cell hsx).trans k0)
    have c1' : (w3.alloc (.cells #[.bool false, .int .u64 0, .slice Ax nx cx] 55)).cell? ⟨w1.heap.size, 1, none⟩ = some (.int .i64 f2) := (World.cell?_alloc_lt _ _ _ (Nat.lt_of_lt_of_le hsx hb3.size)).trans ((hb3.cell hsx).trans k1)
    have HB3a := hide (HB3.out.alloc HB3.out.size (.cells #[.bool false, .int .u64 0, .slice Ax nx cx] 55))
    have HBN := hide ((Below.refl w3.heap.size w3).alloc (Nat.le_refl _) (.cells #[.bool false, .int .u64 0, .slice Ax nx cx] 55))
    have HAT := hide (at_any vx (f1, f2) (f1, f2) (w3.alloc (.cells #[.bool false, .int .u64 0, .slice Ax nx cx] 55)) (HG1.out.below HB3a.out) (hex.below' HBN.out))
    rw [atB_self] at HAT
    have HCX := hide ((hcx.below HBN.out).more HBN.out.size)
    have HSH := hide (cls_nil w1 w1.heap.size)
    clear hcx hex hb3
    unfold faultV at HAT
    go_wp2_with fail
    refine (HAT.out).mono ?_
    rintro e w4 ⟨rfl, hb4⟩
    have HK4 := hide (Blk.new w3 55 #[.bool false, .int .u64 0, .slice Ax nx cx] |>.below hb4 (by simp))
    have a0 := HK4.out.cell 0
    have a1 := HK4.out.cell 1
    have a2 := HK4.out.cell 2
    have HSM := hide (sameCls Ax none nx cx 0 0 [] w4 ((HCX.out.below hb4).more hb4.size) ((HSH.out.below ((HB3a.out.trans (hb4.mono HB3a.out.size)))).more (HB3a.out.trans (hb4.mono HB3a.out.size)).size))
    have HB4 := hide (HB3a.out.trans (hb4.mono HB3a.out.size))
    clear hb4
    go_wp2_with fail
    refine (HSM.out).mono ?_
    rintro e w5 ⟨rfl, hb5⟩
    go_wp2
    go_ret
    exact ⟨ret_bool (by simp), HB1.out.trans ((HB4.out.trans (hb5.mono HB4.out.size)).mono HB1.out.size)⟩

set_option maxRecDepth 100000 in
set_option maxHeartbeats 4000000 in
theorem lawSolves_ok (m : Nat) (A : Option Addr) (n c : Nat) (ls : List (List Int)) (w : World) (hG : Glob w) (h : Cls w w.heap.size A n ls) (hck : checkF m ls = (0, -1)) :
    Calls Tryd.prog 7 #[.int .i64 m, .slice A n c] w (AtPost w true) := by
  have HF1 := hide (few_any m 200 A n c ls w h)
  have HRC := hide (refCheck_any m A n c ls w hG h)
  have HH := hide h
  have HG := hide hG
  have HCK := hide hck
  have hm24 : m ≤ 24 := by have := (checkF_ok hck).v1; omega
  rw [hck] at HRC
  clear h hG hck
  go_enter Tryd.func7, Tryd.ntmps7
  go_wp2_with fail
  refine (HF1.out).mono ?_
  rintro e w' ⟨b, rfl, rfl⟩
  rcases b with _ | _
  · go_wp2
    go_ret
    exact ⟨rfl, Below.refl _ _⟩
  by_cases h1 : 10 < (m : Int)
  · have h2 : (m : Int) ≤ 24 := by omega
    go_wp2
    go_ret
    exact ⟨rfl, Below.refl _ _⟩
  · go_wp2_with fail
    refine (HRC.out).mono ?_
    rintro e w1 ⟨rfl, hb1⟩
    have HB1 := hide hb1
    have HG1 := hide (HG.out.below hb1)
    have HC1 := hide ((HH.out.below hb1).more hb1.size)
    clear hb1
    have HBA := hide ((Below.refl w1.heap.size w1).alloc (Nat.le_refl _) (.cells #[.int .i64 0, .int .i64 (-1)] 31))
    have HRS := hide (refSolve_any m A n c ls (w1.alloc (.cells #[.int .i64 0, .int .i64 (-1)] 31)) roundsS rounds_ok ((HC1.out.below HBA.out).more HBA.out.size) HCK.out)
    have HPS := hide (fun (w : World) hcl => solve_ok m A n c ls w roundsS rounds_ok hcl HCK.out)
    rw [solveP_ok HCK.out] at HPS
    have HBN := hide (solveF_bad_nil m ls roundsS [] [] [])
    generalize solveF m ls roundsS [] [] [] = R at HRS HPS HBN
    obtain ⟨⟨r1, r2⟩, r3, r4⟩ := R
    unfold faultV
    go_wp2_with fail
    refine (HRS.out).mono ?_
    rintro e w2 ⟨As, ns, cs, rfl, hcs, hb2⟩
    have c0 : w2.cell? ⟨w1.heap.size, 0, none⟩ = some (.int .i64 0) := (hb2.cell (by simp)).trans (by simp)
    have c1 : w2.cell? ⟨w1.heap.size, 1, none⟩ = some (.int .i64 (-1)) := (hb2.cell (by simp)).trans (by simp)
    have f0 : w2.frozen? ⟨w1.heap.size, 0, none⟩ = false := (hb2.frozen (by simp)).trans (by simp)
    have f1 : w2.frozen? ⟨w1.heap.size, 1, none⟩ = false := (hb2.frozen (by simp)).trans (by simp)
    have HBL := hide (HBA.out.trans (hb2.mono HBA.out.size))
    have hsz : w1.heap.size < w2.heap.size := by have := hb2.size; simp at this; omega
    have HCS := hide hcs
    clear hb2 hcs
    rcases r4 with _ | _
    · obtain ⟨e1, e2⟩ := Prod.mk.inj (HBN.out rfl)
      obtain ⟨rfl, rfl⟩ := Prod.mk.inj e1
      obtain ⟨rfl, _⟩ := Prod.mk.inj e2
      clear e1 e2 HBN
      go_wp2_with (go_at_call 20; refine (bare_any 4 _).mono ?_; rintro e w' ⟨rfl, rfl⟩)
      have k0 : (((w2.setCell ⟨w1.heap.size, 0, none⟩ (.int .i64 4)).setCell ⟨w1.heap.size, 1, none⟩ (.int .i64 (-1))).alloc (.cells #[.int .i64 4, .int .i64 (-1)] 31)).cell? ⟨w1.heap.size, 0, none⟩ = some (.int .i64 4) := by
        rw [World.cell?_alloc_lt _ _ _ (by rw [size_setCell, size_setCell]; exact hsz)]
        exact two_cells c0 c1 4 (-1) |>.1
      have k1 : (((w2.setCell ⟨w1.heap.size, 0, none⟩ (.int .i64 4)).setCell ⟨w1.heap.size, 1, none⟩ (.int .i64 (-1))).alloc (.cells #[.int .i64 4, .int .i64 (-1)] 31)).cell? ⟨w1.heap.size, 1, none⟩ = some (.int .i64 (-1)) := by
        rw [World.cell?_alloc_lt _ _ _ (by rw [size_setCell, size_setCell]; exact hsz)]
        exact two_cells c0 c1 4 (-1) |>.2
      have HBX := hide (((HBL.out.setCell (p := ⟨w1.heap.size, 0, none⟩) (Nat.le_refl _) (.int .i64 4)).setCell (p := ⟨w1.heap.size, 1, none⟩) (Nat.le_refl _) (.int .i64 (-1))).alloc (by rw [size_setCell, size_setCell]; omega) (.cells #[.int .i64 4, .int .i64 (-1)] 31))
      have hsx : w1.heap.size < (((w2.setCell ⟨w1.heap.size, 0, none⟩ (.int .i64 4)).setCell ⟨w1.heap.size, 1, none⟩ (.int .i64 (-1))).alloc (.cells #[.int .i64 4, .int .i64 (-1)] 31)).heap.size := by rw [World.size_alloc', size_setCell, size_setCell]; omega
      clear c0 c1 f0 f1 hsz
      generalize (((w2.setCell ⟨w1.heap.size, 0, none⟩ (.int .i64 4)).setCell ⟨w1.heap.size, 1, none⟩ (.int .i64 (-1))).alloc (.cells #[.int .i64 4, .int .i64 (-1)] 31)) = wb at k0 k1 HBX hsx ⊢
      have HS := hide (HPS.out wb ((HC1.out.below HBX.out).more HBX.out.size))
      refine (HS.out).mono ?_
      rintro e w3 ⟨Ax, nx, cx, vx, rfl, hcx, hex, hb3⟩
      have HB3 := hide (HBX.out.trans (hb3.mono HBX.out.size))
      have c0' : (w3.alloc (.cells #[.bool false, .int .u64 0, .slice Ax nx cx] 55)).cell? ⟨w1.heap.size, 0, none⟩ = some (.int .i64 4) := (World.cell?_alloc_lt _ _ _ (Nat.lt_of_lt_of_le hsx hb3.size)).trans ((hb3.cell hsx).trans k0)
      have c1' : (w3.alloc (.cells #[.bool false, .int .u64 0, .slice Ax nx cx] 55)).cell? ⟨w1.heap.size, 1, none⟩ = some (.int .i64 (-1)) := (World.cell?_alloc_lt _ _ _ (Nat.lt_of_lt_of_le hsx hb3.size)).trans ((hb3.cell hsx).trans k1)
      have HB3a := hide (HB3.out.alloc HB3.out.size (.cells #[.bool false, .int .u64 0, .slice Ax nx cx] 55))
      have HBN := hide ((Below.refl w3.heap.size w3).alloc (Nat.le_refl _) (.cells #[.bool false, .int .u64 0, .slice Ax nx cx] 55))
      have HAT := hide (at_any vx (4, (-1)) (4, (-1)) (w3.alloc (.cells #[.bool false, .int .u64 0, .slice Ax nx cx] 55)) (HG1.out.below HB3a.out) (hex.below' HBN.out))
      rw [atB_self] at HAT
      have HCX := hide ((hcx.below HBN.out).more HBN.out.size)
      have HSH := hide ((show Cls w1 w1.heap.size As ns [] from by
              have hz : ns = 0 := HCS.out.1.symm
              subst hz
              exact ⟨rfl, Nat.zero_le _, [], ⟨rfl, fun h => absurd h (Nat.lt_irrefl _)⟩, fun _ hk => absurd hk (Nat.not_lt_zero _)⟩))
      clear hcx hex hb3
      unfold faultV at HAT
      go_wp2_with fail
      refine (HAT.out).mono ?_
      rintro e w4 ⟨rfl, hb4⟩
      have HK4 := hide (Blk.new w3 55 #[.bool false, .int .u64 0, .slice Ax nx cx] |>.below hb4 (by simp))
      have a0 := HK4.out.cell 0
      have a1 := HK4.out.cell 1
      have a2 := HK4.out.cell 2
      have HSM := hide (sameCls Ax As nx cx ns cs [] w4 ((HCX.out.below hb4).more hb4.size) ((HSH.out.below ((HB3a.out.trans (hb4.mono HB3a.out.size)))).more (HB3a.out.trans (hb4.mono HB3a.out.size)).size))
      have HB4 := hide (HB3a.out.trans (hb4.mono HB3a.out.size))
      clear hb4
      go_wp2_with fail
      refine (HSM.out).mono ?_
      rintro e w5 ⟨rfl, hb5⟩
      go_wp2
      go_ret
      exact ⟨ret_bool (by simp), HB1.out.trans ((HB4.out.trans (hb5.mono HB4.out.size)).mono HB1.out.size)⟩
    · clear HBN f0 f1
      have HS := hide (HPS.out w2 ((HC1.out.below HBL.out).more HBL.out.size))
      go_wp2_with fail
      refine (HS.out).mono ?_
      rintro e w3 ⟨Ax, nx, cx, vx, rfl, hcx, hex, hb3⟩
      have HB3 := hide (HBL.out.trans (hb3.mono HBL.out.size))
      have c0' : (w3.alloc (.cells #[.bool r1, .int .u64 r2, .slice Ax nx cx] 55)).cell? ⟨w1.heap.size, 0, none⟩ = some (.int .i64 0) := (World.cell?_alloc_lt _ _ _ (Nat.lt_of_lt_of_le hsz hb3.size)).trans ((hb3.cell hsz).trans c0)
      have c1' : (w3.alloc (.cells #[.bool r1, .int .u64 r2, .slice Ax nx cx] 55)).cell? ⟨w1.heap.size, 1, none⟩ = some (.int .i64 (-1)) := (World.cell?_alloc_lt _ _ _ (Nat.lt_of_lt_of_le hsz hb3.size)).trans ((hb3.cell hsz).trans c1)
      have HB3a := hide (HB3.out.alloc HB3.out.size (.cells #[.bool r1, .int .u64 r2, .slice Ax nx cx] 55))
      have HBN := hide ((Below.refl w3.heap.size w3).alloc (Nat.le_refl _) (.cells #[.bool r1, .int .u64 r2, .slice Ax nx cx] 55))
      have HAT := hide (at_any vx (0, (-1)) (0, (-1)) (w3.alloc (.cells #[.bool r1, .int .u64 r2, .slice Ax nx cx] 55)) (HG1.out.below HB3a.out) (hex.below' HBN.out))
      rw [atB_self] at HAT
      have HCX := hide ((hcx.below HBN.out).more HBN.out.size)
      have HSH := hide ((HCS.out.below hb3).more hb3.size)
      clear hcx hex hb3
      unfold faultV at HAT
      go_wp2_with fail
      refine (HAT.out).mono ?_
      rintro e w4 ⟨rfl, hb4⟩
      have HK4 := hide (Blk.new w3 55 #[.bool r1, .int .u64 r2, .slice Ax nx cx] |>.below hb4 (by simp))
      have a0 := HK4.out.cell 0
      have a1 := HK4.out.cell 1
      have a2 := HK4.out.cell 2
      have HSM := hide (sameCls Ax As nx cx ns cs r3 w4 ((HCX.out.below hb4).more hb4.size) ((((HSH.out.below HBN.out).more HBN.out.size).below hb4).more hb4.size))
      have HB4 := hide (HB3a.out.trans (hb4.mono HB3a.out.size))
      clear hb4
      go_wp2_with fail
      refine (HSM.out).mono ?_
      rintro e w5 ⟨rfl, hb5⟩
      go_wp2
      go_ret
      exact ⟨ret_bool (by simp), HB1.out.trans ((HB4.out.trans (hb5.mono HB4.out.size)).mono HB1.out.size)⟩

theorem lawSolves_walk (vars : Int) (A : Option Addr) (n c : Nat) (ls : List (List Int)) (w : World) (hG : Glob w) (h : Cls w w.heap.size A n ls) :
    Calls Tryd.prog 7 #[.int .i64 vars, .slice A n c] w (AtPost w true) := by
  by_cases hck : checkF vars ls = (0, -1)
  · obtain ⟨m, rfl⟩ : ∃ m : Nat, vars = m := ⟨vars.toNat, by have := (checkF_ok hck).v0; omega⟩
    exact lawSolves_ok m A n c ls w hG h hck
  · exact lawSolves_bad vars A n c ls w hG h hck
end Go.Proofs.YtkkgdlfjblmbjaaDoor
