/-
  The law ProofForms, walked.
-/
import Derived.Test.YtkkgdlfjblmbjaaDoorResolveB
import Derived.Test.YtkkgdlfjblmbjaaDoorLawFollows
namespace Go.Proofs.YtkkgdlfjblmbjaaDoor
open Go.RowKit

theorem proResolve_any (v : Int) (A B : Option Addr) (n c n2 c2 : Nat) (a b : List Int) (w : World) (h : Ints w w.heap.size A n a) (h2 : Ints w w.heap.size B n2 b) (ha : ∀ x ∈ a, litOk x) (hb : ∀ x ∈ b, litOk x) (hn : n ≤ 1000) (hn2 : n2 ≤ 1000) :
    Calls Tryd.prog 33 #[.slice A n c, .slice B n2 c2, .int .i64 v] w (ProResPost w (resF a b v)) := by
  by_cases hv : v < 0 ∨ 24 ≤ v ∨ v + 1 ∉ a ∨ -v - 1 ∉ b
  · rw [resF_bad hv]
    exact proResolve_bad v A B n c n2 c2 a b w h h2 hv
  · obtain ⟨m, rfl⟩ : ∃ m : Nat, v = m := ⟨v.toNat, by omega⟩
    rw [resF_ok hv]
    exact proResolve_ok m A B n c n2 c2 a b w h h2 (by omega) (Decidable.of_not_not fun h => hv (.inr (.inr (.inl h)))) (fun h => hv (.inr (.inr (.inr h)))) ha hb hn hn2

theorem errBelow {w w' : World} {v : Value} {f : Int × Int} (h : IsErr w v f) (hb : Below w.heap.size w w') : IsErr w' v f := by
  rcases h with h | h | ⟨b, h1, h2, h3, h4, h5, h6⟩
  · exact .inl h
  · exact .inr (.inl h)
  · exact .inr (.inr ⟨b, Nat.lt_of_lt_of_le h1 hb.size, h2, h3, h4, h5, h6.below hb h1⟩)
set_option maxHeartbeats 1000000 in
theorem bareLaw_any (v : Value) (c : Int) (w : World) (hG : GlobE w) (h : IsErr w v (c, -1)) :
    Calls Tryd.prog 34 #[v, .int .i64 c] w (AtPost w true) := by
  have HB := hide ((Below.refl w.heap.size w).alloc (Nat.le_refl _) (.cells #[.int .i64 c, .int .i64 (-1)] 31))
  have HAT := hide (at_anyE v (c, -1) (c, -1) (w.alloc (.cells #[.int .i64 c, .int .i64 (-1)] 31)) (hG.below HB.out) (errBelow h HB.out))
  rw [atB_self] at HAT
  unfold faultV at HAT
  clear h hG
  go_enter Tryd.func34, Tryd.ntmps34
  go_wp2_with (go_at_call 20; refine (bare_any c _).mono ?_; rintro e w' ⟨rfl, rfl⟩)
  refine (HAT.out).mono ?_
  rintro e w4 ⟨rfl, hb4⟩
  go_wp2
  go_ret
  exact ⟨ret_bool (by simp), HB.out.trans (hb4.mono HB.out.size)⟩

theorem right_lits {zs : List Int} (h : rightB zs = true) : ∀ x ∈ zs, litOk x := by
  unfold rightB at h
  rw [Bool.and_eq_true, List.all_eq_true] at h
  intro x hx
  have := h.1 x hx
  exact badB_lit (by simpa using this) (Int.le_refl 24)
theorem right_len {zs : List Int} (h : rightB zs = true) : zs.length ≤ 60 := by
  unfold rightB at h
  rw [Bool.and_eq_true] at h
  exact of_decide_eq_true h.2

set_option maxRecDepth 100000 in
set_option maxHeartbeats 4000000 in
theorem lawForms_walk (A : Option Addr) (n c : Nat) (a : List Int) (B : Option Addr) (n2 c2 : Nat) (b : List Int) (v : Int) (w : World) (hG : GlobE w) (h : Ints w w.heap.size A n a) (h2 : Ints w w.heap.size B n2 b) :
    Calls Tryd.prog 8 #[.slice A n c, .slice B n2 c2, .int .i64 v] w (AtPost w true) := by
  have HR1 := hide (right_any A n c a w h)
  have HR2 := hide (right_any B n2 c2 b w h2)
  have HI := hide h
  have HJ := hide h2
  have HG := hide hG
  clear h h2 hG
  go_enter Tryd.func8, Tryd.ntmps8
  go_wp2_with fail
  refine (HR1.out).mono ?_
  rintro e w' ⟨rfl, rfl⟩
  rcases hr1 : rightB a with _ | _
  · go_wp2
    go_ret
    exact ⟨rfl, Below.refl _ _⟩
  go_wp2_with fail
  refine (HR2.out).mono ?_
  rintro e w' ⟨rfl, rfl⟩
  rcases hr2 : rightB b with _ | _
  · go_wp2
    go_ret
    exact ⟨rfl, Below.refl _ _⟩
  have HLA := hide (right_lits hr1)
  have HLB := hide (right_lits hr2)
  have hn : n ≤ 60 := by have := right_len hr1; have := HI.out.len; omega
  have hn2 : n2 ≤ 60 := by have := right_len hr2; have := HJ.out.len; omega
  have HF1 := hide (refForm_any A n c a w HI.out HLA.out)
  clear hr1 hr2
  generalize hfm : formF a = fa at HF1
  obtain ⟨x, al⟩ := fa
  have HFM := Lib.hid hfm
  clear hfm
  go_wp2_with fail
  refine (HF1.out).mono ?_
  rintro e w1 ⟨vx, rfl, hox, hb1⟩
  have HOX := hide hox
  have HB1 := hide hb1
  clear hox hb1
  have HF2 := hide (proofForm_any A n c a w1 ((HI.out.below HB1.out).more HB1.out.size) HLA.out (by omega))
  rw [HFM.out] at HF2
  go_wp2_with fail
  refine (HF2.out).mono ?_
  rintro e w2 ⟨vy, rfl, hoy, hb2⟩
  have HOY := hide hoy
  have HOX2 := hide (HOX.out.below hb2)
  have HB2 := hide (HB1.out.trans (hb2.mono HB1.out.size))
  clear hoy hb2
  have HF3 := hide (refResolve_any v A B n c n2 c2 a b w2 ((HI.out.below HB2.out).more HB2.out.size) ((HJ.out.below HB2.out).more HB2.out.size) HLA.out HLB.out (by omega) (by omega))
  have HF4 := hide (fun (w3 : World) hi hj => proResolve_any v A B n c n2 c2 a b w3 hi hj HLA.out HLB.out (by omega) (by omega))
  generalize resF a b v = r at HF3 HF4
  obtain ⟨r1, rc⟩ := r
  go_wp2_with fail
  refine (HF3.out).mono ?_
  rintro e w3 ⟨vw, rfl, how, hb3⟩
  have HOW := hide how
  have HOX3 := hide (HOX2.out.below hb3)
  have HOY3 := hide (HOY.out.below hb3)
  have HB3 := hide (HB2.out.trans (hb3.mono HB2.out.size))
  clear how hb3
  go_wp2_with fail
  refine (HF4.out w3 ((HI.out.below HB3.out).more HB3.out.size) ((HJ.out.below HB3.out).more HB3.out.size)).mono ?_
  rintro e w4 ⟨vr, ve, rfl, hor, hee, hb4⟩
  have HOR := hide hor
  have HOX4 := hide (HOX3.out.below hb4)
  have HOY4 := hide (HOY3.out.below hb4)
  have HOW4 := hide (HOW.out.below hb4)
  have HEE := hide hee
  have HB4 := hide (HB3.out.trans (hb4.mono HB3.out.size))
  clear hor hb4 hee
  obtain ⟨Ax, cx, rfl, _⟩ := HOX4.out.form
  obtain ⟨Ay, cy, rfl, _⟩ := HOY4.out.form
  obtain ⟨Aw, cw, rfl, _⟩ := HOW4.out.form
  obtain ⟨Ar, cr, rfl, _⟩ := HOR.out.form
  have HS1 := hide (same_same Ax Ay x.length cx x.length cy x w4 HOX4.out.ints HOY4.out.ints)
  have HBT := hide (fun (w5 : World) (hb : Below w4.heap.size w4 w5) => bareLaw_any ve rc w5 (HG.out.below (HB4.out.trans (hb.mono HB4.out.size))) (errBelow HEE.out hb))
  have HS2 := hide (fun (w5 : World) (hb : Below w4.heap.size w4 w5) => same_same Ar Aw r1.length cr r1.length cw r1 w5 ((HOR.out.below hb).ints) ((HOW4.out.below hb).ints))
  generalize x.length = nx at HS1 ⊢
  generalize r1.length = nr at HS2 ⊢
  have hal : (al == al) = true := by cases al <;> rfl
  go_wp2_with fail
  refine (HS1.out).mono ?_
  rintro e w5 ⟨rfl, hb5⟩
  have HB5 := hide hb5
  clear hb5
  go_wp2_with fail
  refine (HBT.out w5 HB5.out).mono ?_
  rintro e w6 ⟨rfl, hb6⟩
  have HB6 := hide (HB5.out.trans (hb6.mono HB5.out.size))
  clear hb6
  go_wp2_with fail
  refine (HS2.out w6 HB6.out).mono ?_
  rintro e w7 ⟨rfl, hb7⟩
  go_wp2
  go_ret
  exact ⟨ret_bool (by simp), HB4.out.trans ((HB6.out.trans (hb7.mono HB6.out.size)).mono HB4.out.size)⟩
end Go.Proofs.YtkkgdlfjblmbjaaDoor
