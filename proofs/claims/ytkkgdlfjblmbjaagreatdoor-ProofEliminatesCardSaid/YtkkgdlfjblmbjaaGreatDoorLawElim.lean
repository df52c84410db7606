/-
  The law ProofEliminates, walked.
-/
import Derived.Test.YtkkgdlfjblmbjaaGreatDoorProElim
import Derived.Test.YtkkgdlfjblmbjaaGreatDoorLawFollows
namespace Go.Proofs.YtkkgdlfjblmbjaaGreatDoor
open Go.RowKit

theorem rowsOk_of_check' {vars : Int} {ls : List (List Int)} (h : CheckOk vars ls) : rowsOk ls := by
  intro c hc
  obtain ⟨k, hk, rfl⟩ := List.getElem_of_mem hc
  have e : ls.getD k [] = ls[k] := by rw [List.getD_eq_getElem?_getD, List.getElem?_eq_getElem hk]; rfl
  have h1 := h.lits k hk
  have h2 := (h.rows k hk).1
  rw [e] at h1 h2
  exact ⟨h1, by omega⟩
theorem elimGo_code : ∀ (f v : Nat) (all : List (List Int)) (sz : List Int), (elimGo f v all sz).2 = 0 ∨ elimGo f v all sz = (([], false), 4) := by
  intro f
  induction f with
  | zero => intro v all sz; exact .inl rfl
  | succ f ih =>
    intro v all sz
    rw [elimGo]
    split
    · exact .inr rfl
    · exact ih _ _ _

set_option maxHeartbeats 2000000 in
theorem proElim_bad (vars : Int) (A : Option Addr) (n c : Nat) (ls : List (List Int)) (w : World) (hcl : Cls w w.heap.size A n ls) (hck : checkF vars ls ≠ (0, -1)) :
    Calls Tryz.prog 8 #[.int .i64 vars, .slice A n c] w (fun e w' => ∃ ve, e = .returned (.tuple #[.slice none 0 0, .bool false, ve]) ∧ IsErr w' ve (checkF vars ls) ∧ Below w.heap.size w w') := by
  have HK := hide (check_any vars A n c ls w hcl)
  have HCK := hide hck
  clear hcl hck
  go_enter Tryz.func8, Tryz.ntmps8
  go_wp2_with fail
  refine (HK.out).mono ?_
  rintro e w1 ⟨ve, rfl, hE, hb1⟩
  have HE := hide hE
  have HB1 := hide hb1
  clear hb1
  rcases hE with ⟨h, _⟩ | ⟨_, _, _, rfl⟩ | ⟨b, _, _, _, _, rfl, _⟩
  · exact absurd h HCK.out
  · go_wp2
    go_ret3
    exact ⟨_, rfl, HE.out, HB1.out⟩
  · go_wp2
    go_ret3
    exact ⟨_, rfl, HE.out, HB1.out⟩

set_option maxRecDepth 100000 in
set_option maxHeartbeats 4000000 in
theorem lawElim_bad (vars : Int) (A : Option Addr) (n c : Nat) (ls : List (List Int)) (w : World) (hG : Glob w) (h : Cls w w.heap.size A n ls) (hck : checkF vars ls ≠ (0, -1)) :
    Calls Tryz.prog 3 #[.int .i64 vars, .slice A n c] w (AtPost w true) := by
  have hnm := h.le
  have HF1 := hide (few_any vars 60 A n c ls w h)
  have HRC := hide (refCheck_any vars A n c ls w hG h)
  have HH := hide h
  have HG := hide hG
  have HCK := hide hck
  have hne : (checkF vars ls).1 ≠ 0 := fun e => hck (checkF_zero e)
  have hn0 : ((checkF vars ls).1 == 0) = false := beq_eq_false_iff_ne.2 hne
  clear h hG hck hne
  go_enter Tryz.func3, Tryz.ntmps3
  go_wp2_with fail
  refine (HF1.out).mono ?_
  rintro e w' ⟨b, rfl, rfl⟩
  rcases b with _ | _
  · go_wp2
    go_ret
    exact ⟨rfl, Below.refl _ _⟩
  by_cases h15 : 15 < n
  · go_wp2
    go_ret
    exact ⟨rfl, Below.refl _ _⟩
  by_cases h1 : 8 < vars ∧ vars ≤ 24
  · obtain ⟨h1, h2⟩ := h1
    go_wp2
    go_ret
    exact ⟨rfl, Below.refl _ _⟩
  have h4 : ¬ 8 < vars ∨ (8 < vars ∧ ¬ vars ≤ 24) := by omega
  clear h1
  rcases h4 with h4 | ⟨h4, h5⟩
  all_goals
    go_wp2_with fail
    refine (HRC.out).mono ?_
    rintro e w1 ⟨rfl, hb1⟩
    have HB1 := hide hb1
    have HG1 := hide (HG.out.below hb1)
    have HC1 := hide ((HH.out.below hb1).more hb1.size)
    clear hb1
    have HBA := hide ((Below.refl w1.heap.size w1).alloc (Nat.le_refl _) (.cells #[.int .i64 (checkF vars ls).1, .int .i64 (checkF vars ls).2] 26))
    have HS := hide (proElim_bad vars A n c ls (w1.alloc (.cells #[.int .i64 (checkF vars ls).1, .int .i64 (checkF vars ls).2] 26)) ((HC1.out.below HBA.out).more HBA.out.size) HCK.out)
    clear HCK
    generalize checkF vars ls = f at hn0 HS HBA ⊢
    obtain ⟨f1, f2⟩ := f
    have k0 : (w1.alloc (.cells #[.int .i64 f1, .int .i64 f2] 26)).cell? ⟨w1.heap.size, 0, none⟩ = some (.int .i64 f1) := by simp
    have k1 : (w1.alloc (.cells #[.int .i64 f1, .int .i64 f2] 26)).cell? ⟨w1.heap.size, 1, none⟩ = some (.int .i64 f2) := by simp
    have hsx : w1.heap.size < (w1.alloc (.cells #[.int .i64 f1, .int .i64 f2] 26)).heap.size := by simp
    unfold faultV
    go_wp2_with fail
    refine (HS.out).mono ?_
    rintro e w3 ⟨vx, rfl, hex, hb3⟩
    have HB3 := hide (HBA.out.trans (hb3.mono HBA.out.size))
    have c0' : w3.cell? ⟨w1.heap.size, 0, none⟩ = some (.int .i64 f1) := (hb3.cell hsx).trans k0
    have c1' : w3.cell? ⟨w1.heap.size, 1, none⟩ = some (.int .i64 f2) := (hb3.cell hsx).trans k1
    have HAT := hide (at_any vx (f1, f2) (f1, f2) w3 (HG1.out.below HB3.out) hex)
    rw [atB_self] at HAT
    clear hex hb3
    unfold faultV at HAT
    go_wp2_with fail
    refine (HAT.out).mono ?_
    rintro e w4 ⟨rfl, hb4⟩
    have HSM := hide (same_same none none 0 0 0 0 [] w4 (Ints.nil _ _) (Ints.nil _ _))
    have HB4 := hide (HB3.out.trans (hb4.mono HB3.out.size))
    clear hb4
    go_wp2_with fail
    refine (HSM.out).mono ?_
    rintro e w5 ⟨rfl, hb5⟩
    go_wp2
    go_ret
    exact ⟨ret_bool (by simp), HB1.out.trans ((HB4.out.trans (hb5.mono HB4.out.size)).mono HB1.out.size)⟩

set_option maxRecDepth 100000 in
set_option maxHeartbeats 4000000 in
theorem lawElim_ok (m : Nat) (A : Option Addr) (n c : Nat) (ls : List (List Int)) (w : World) (hG : Glob w) (hT : GlobT w) (h : Cls w w.heap.size A n ls) (hck : checkF m ls = (0, -1)) :
    Calls Tryz.prog 3 #[.int .i64 m, .slice A n c] w (AtPost w true) := by
  have hnm := h.le
  have hOK := checkF_ok hck
  have hm24 : m ≤ 24 := by have := hOK.v1; omega
  have hn200 : n ≤ 200 := by have := hOK.many; have := h.len; omega
  have HRW := hide (rowsOk_of_check' hOK)
  have HF1 := hide (few_any m 60 A n c ls w h)
  have HRC := hide (refCheck_any m A n c ls w hG h)
  have HH := hide h
  have HG := hide hG
  have HT := hide hT
  have HCK := hide hck
  rw [hck] at HRC
  clear h hG hT hck hOK
  go_enter Tryz.func3, Tryz.ntmps3
  go_wp2_with fail
  refine (HF1.out).mono ?_
  rintro e w' ⟨b, rfl, rfl⟩
  rcases b with _ | _
  · go_wp2
    go_ret
    exact ⟨rfl, Below.refl _ _⟩
  by_cases h15 : 15 < n
  · go_wp2
    go_ret
    exact ⟨rfl, Below.refl _ _⟩
  by_cases h1 : 8 < m
  · go_wp2
    go_ret
    exact ⟨rfl, Below.refl _ _⟩
  go_wp2_with fail
  refine (HRC.out).mono ?_
  rintro e w1 ⟨rfl, hb1⟩
  have HBA := hide (hb1.alloc hb1.size (.cells #[.int .i64 0, .int .i64 (-1)] 26))
  have HKF := hide (Blk.new w1 26 #[.int .i64 0, .int .i64 (-1)])
  have hsz1 := hb1.size
  clear hb1
  unfold faultV
  have HRE := hide (fun (W : World) (hb : Below w.heap.size w W) => refElim_any m A n c ls W (HT.out.below hb) ((HH.out.below hb).more hb.size) HRW.out hn200 hm24)
  have HPE := hide (fun (W : World) (hb : Below w.heap.size w W) => proElim_ok m A n c ls W ((HH.out.below hb).more hb.size) HCK.out HRW.out hn200 hm24)
  have HCD := Lib.hid (elimGo_code m 0 (firstF ls []) [])
  change Hid ((elimF m ls).2 = 0 ∨ elimF m ls = (([], false), 4)) at HCD
  generalize elimF m ls = r at HRE HPE HCD
  have HRX := hide (HRE.out _ HBA.out)
  go_wp2_with fail
  refine (HRX.out).mono ?_
  rintro e w2 ⟨vs, rfl, hos, hb2⟩
  have hlt2 : w1.heap.size < (w1.alloc (.cells #[.int .i64 0, .int .i64 (-1)] 26)).heap.size := by simp
  have HK2 := hide (HKF.out.below hb2 HKF.out.lt)
  have HB2 := hide (HBA.out.trans (hb2.mono HBA.out.size))
  rcases HCD.out with h0 | h0
  · obtain ⟨⟨r1, r2⟩, r3⟩ := r
    obtain rfl : r3 = 0 := h0
    obtain ⟨As, cs, rfl, _⟩ := hos.form
    have HIS := hide hos.ints
    have HPX := hide (HPE.out w2 HB2.out)
    clear hos hb2 HRX
    generalize r1.length = nr at HIS ⊢
    go_wp2_with fail
    refine (HPX.out).mono ?_
    rintro e w3 ⟨vp, vx, rfl, hop, hex, hb3⟩
    obtain ⟨Ap, cp, rfl, _⟩ := hop.form
    have HIP := hide hop.ints
    have HB3 := hide (HB2.out.trans (hb3.mono HB2.out.size))
    have HK3 := hide (HK2.out.below hb3 HK2.out.lt)
    have HI3 := hide ((HIS.out.below hb3).more hb3.size)
    have HAT := hide (at_any vx (0, -1) (0, -1) w3 (HG.out.below HB3.out) hex)
    rw [atB_self] at HAT
    unfold faultV at HAT
    have k0 := HK3.out.cell 0
    have k1 := HK3.out.cell 1
    clear hop hex hb3
    generalize r1.length = np at HIP ⊢
    go_wp2_with fail
    refine (HAT.out).mono ?_
    rintro e w4 ⟨rfl, hb4⟩
    have HSM := hide (same_same Ap As np cp nr cs r1 w4 ((HIP.out.below hb4).more hb4.size) ((HI3.out.below hb4).more hb4.size))
    have HB4 := hide (HB3.out.trans (hb4.mono HB3.out.size))
    clear hb4
    have hbb : (r2 == r2) = true := by cases r2 <;> rfl
    go_wp2_with fail
    refine (HSM.out).mono ?_
    rintro e w5 ⟨rfl, hb5⟩
    go_wp2
    go_ret
    exact ⟨ret_bool (by simp), HB4.out.trans (hb5.mono HB4.out.size)⟩
  · subst h0
    have HOS := hide (show Own ((w2.setCell ⟨w1.heap.size, 0, none⟩ (.int .i64 4)).setCell ⟨w1.heap.size, 1, none⟩ (.int .i64 (-1))) (w1.alloc (.cells #[.int .i64 0, .int .i64 (-1)] 26)).heap.size vs [] from (hos.kept (row := some w1.heap.size) (only_setCell (World.grownBy.refl w2 _) (.inl rfl) _) (.inr fun e => by have := (hos.lt _ e).1; simp at this; omega)).kept (row := some w1.heap.size) (only_setCell (World.grownBy.refl _ _) (.inl rfl) _) (.inr fun e => by have := (hos.lt _ e).1; simp at this; omega))
    obtain ⟨As, cs, rfl, _⟩ := hos.form
    have k0 := HK2.out.cell 0
    have k1 := HK2.out.cell 1
    have f0 := HK2.out.frozen 0
    have f1 := HK2.out.frozen 1
    have hsz := HK2.out.lt
    clear hos hb2 HRX
    have HKX := hide ((put2_blk HK2.out (.int .i64 4) (.int .i64 (-1))).alloc (.cells #[.int .i64 4, .int .i64 (-1)] 26))
    have HBX := hide (((HB2.out.setCell (p := ⟨w1.heap.size, 0, none⟩) hsz1 (.int .i64 4)).setCell (p := ⟨w1.heap.size, 1, none⟩) hsz1 (.int .i64 (-1))).alloc ((HB2.out.setCell (p := ⟨w1.heap.size, 0, none⟩) hsz1 (.int .i64 4)).setCell (p := ⟨w1.heap.size, 1, none⟩) hsz1 (.int .i64 (-1))).size (.cells #[.int .i64 4, .int .i64 (-1)] 26))
    have HOX := hide (HOS.out.alloc (.cells #[.int .i64 4, .int .i64 (-1)] 26))
    have HPX := hide (HPE.out _ HBX.out)
    go_wp2_with (go_at_call 7; refine (bare_any 4 _).mono ?_; rintro e w' ⟨rfl, rfl⟩)
    generalize (((w2.setCell ⟨w1.heap.size, 0, none⟩ (.int .i64 4)).setCell ⟨w1.heap.size, 1, none⟩ (.int .i64 (-1))).alloc (.cells #[.int .i64 4, .int .i64 (-1)] 26)) = wb at HKX HBX HOX HPX ⊢
    clear k0 k1 f0 f1 hsz
    refine (HPX.out).mono ?_
    rintro e w3 ⟨vp, vx, rfl, hop, hex, hb3⟩
    obtain ⟨Ap, cp, rfl, _⟩ := hop.form
    have HIP := hide hop.ints
    have HIS := hide HOX.out.ints
    have HB3 := hide (HBX.out.trans (hb3.mono HBX.out.size))
    have HK3 := hide (HKX.out.below hb3 HKX.out.lt)
    have HI3 := hide ((HIS.out.below hb3).more hb3.size)
    have HAT := hide (at_any vx (4, -1) (4, -1) w3 (HG.out.below HB3.out) hex)
    rw [atB_self] at HAT
    unfold faultV at HAT
    have k0 := HK3.out.cell 0
    have k1 := HK3.out.cell 1
    clear hop hex hb3
    go_wp2_with fail
    refine (HAT.out).mono ?_
    rintro e w4 ⟨rfl, hb4⟩
    have HSM := hide (same_same Ap As 0 cp 0 cs [] w4 ((HIP.out.below hb4).more hb4.size) ((HI3.out.below hb4).more hb4.size))
    have HB4 := hide (HB3.out.trans (hb4.mono HB3.out.size))
    clear hb4
    go_wp2_with fail
    refine (HSM.out).mono ?_
    rintro e w5 ⟨rfl, hb5⟩
    go_wp2
    go_ret
    exact ⟨ret_bool (by simp), HB4.out.trans (hb5.mono HB4.out.size)⟩

theorem lawElim_walk (vars : Int) (A : Option Addr) (n c : Nat) (ls : List (List Int)) (w : World) (hG : Glob w ∧ GlobT w) (h : Cls w w.heap.size A n ls) :
    Calls Tryz.prog 3 #[.int .i64 vars, .slice A n c] w (AtPost w true) := by
  by_cases hck : checkF vars ls = (0, -1)
  · obtain ⟨m, rfl⟩ : ∃ m : Nat, vars = m := ⟨vars.toNat, by have := (checkF_ok hck).v0; omega⟩
    exact lawElim_ok m A n c ls w hG.1 hG.2 h hck
  · exact lawElim_bad vars A n c ls w hG.1 h hck
end Go.Proofs.YtkkgdlfjblmbjaaGreatDoor
