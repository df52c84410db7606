/-
  The law ProofFollows, walked.
-/
import Derived.Test.YtkkgdlfjblmbjaaDoorLawFolA
import Derived.Test.YtkkgdlfjblmbjaaDoorRefFol
import Derived.Test.YtkkgdlfjblmbjaaDoorLawSolves
namespace Go.Proofs.YtkkgdlfjblmbjaaDoor
open Go.RowKit

theorem rowsOk_of_check {vars : Int} {ls : List (List Int)} (h : CheckOk vars ls) : rowsOk ls := by
  intro c hc
  obtain ⟨k, hk, rfl⟩ := List.getElem_of_mem hc
  have e : ls.getD k [] = ls[k] := by rw [List.getD_eq_getElem?_getD, List.getElem?_eq_getElem hk]; rfl
  have h1 := h.lits k hk
  have h2 := (h.rows k hk).1
  rw [e] at h1 h2
  exact ⟨h1, by omega⟩
theorem Cls.nil_zero' {w : World} {B n : Nat} {A : Option Addr} {ls : List (List Int)} (h : Cls w B A n ls) (e : A = none) : n = 0 := by
  rcases Nat.eq_zero_or_pos n with h0 | h0
  · exact h0
  · obtain ⟨ad, _, _, _, e2, _⟩ := h.at_ h0
    rw [e] at e2
    cases e2
theorem refFollow_all (vars : Int) (A A2 : Option Addr) (n c n2 c2 : Nat) (ls : List (List Int)) (ts : List Stp3) (w : World) (hG : Glob w) (hcl : Cls w w.heap.size A n ls) (hck : checkF vars ls = (0, -1)) (hts : StpP w (· < w.heap.size) A2 n2 ts) :
    Calls Tryd.prog 35 #[.slice A n c, .slice A2 n2 c2] w (RefFolPost w (folF ls ts)) := by
  have hOK := checkF_ok hck
  rcases Nat.lt_or_ge 1000 n2 with h | h
  · rw [folF_many (by rw [hts.1]; exact h)]
    exact refFollow_many A A2 n c n2 c2 ls w h hts.2.1
  · exact refFollow_any A A2 n c n2 c2 ls ts w hG hcl (rowsOk_of_check hOK) hts (by have := hOK.many; have := hcl.len; omega) h
theorem proFollow_all (vars : Int) (A A2 : Option Addr) (n c n2 c2 : Nat) (ls : List (List Int)) (ts : List Stp3) (w : World) (hG : GlobE w) (hcl : Cls w w.heap.size A n ls) (hck : checkF vars ls = (0, -1)) (hts : StpP w (· < w.heap.size) A2 n2 ts) :
    Calls Tryd.prog 36 #[.int .i64 vars, .slice A n c, .slice A2 n2 c2] w (ProFolPost w (folF ls ts)) := by
  have hOK := checkF_ok hck
  rcases Nat.lt_or_ge 1000 n2 with h | h
  · rw [folF_many (by rw [hts.1]; exact h)]
    exact proFollow_many vars A A2 n c n2 c2 ls w hcl hck h hts.2.1
  · exact proFollow_ok vars A A2 n c n2 c2 ls ts w hG hcl hck (rowsOk_of_check hOK) hts (by have := hOK.many; have := hcl.len; omega) h hcl.nil_zero'

set_option maxRecDepth 100000 in
set_option maxHeartbeats 4000000 in
theorem lawFol_bad (vars : Int) (A : Option Addr) (n c : Nat) (ls : List (List Int)) (A2 : Option Addr) (n2 c2 : Nat) (w : World) (hG : Glob w) (h : Cls w w.heap.size A n ls) (hn2 : n2 ≤ maxLen) (hck : checkF vars ls ≠ (0, -1)) :
    Calls Tryd.prog 9 #[.int .i64 vars, .slice A n c, .slice A2 n2 c2] w (AtPost w true) := by
  simp only [maxLen] at hn2
  have HF1 := hide (few_any vars 200 A n c ls w h)
  have HRC := hide (refCheck_any vars A n c ls w hG h)
  have HH := hide h
  have HG := hide hG
  have HCK := hide hck
  have hne : (checkF vars ls).1 ≠ 0 := fun e => hck (checkF_zero e)
  have hn0 : ((checkF vars ls).1 == 0) = false := beq_eq_false_iff_ne.2 hne
  clear h hG hck hne
  go_enter Tryd.func9, Tryd.ntmps9
  go_wp2_with fail
  refine (HF1.out).mono ?_
  rintro e w' ⟨b, rfl, rfl⟩
  rcases b with _ | _
  · go_wp2
    go_ret
    exact ⟨rfl, Below.refl _ _⟩
  by_cases h1 : 60 < n2 ∧ n2 ≤ 1000
  · obtain ⟨h1, h2⟩ := h1
    go_wp2
    go_ret
    exact ⟨rfl, Below.refl _ _⟩
  by_cases h3 : 1100 < n2
  · have h2 : 60 < n2 := by omega
    have h4 : ¬ n2 ≤ 1000 := by omega
    clear h1
    go_wp2
    go_ret
    exact ⟨rfl, Below.refl _ _⟩
  have h4 : n2 ≤ 60 ∨ (60 < n2 ∧ ¬ n2 ≤ 1000) := by omega
  clear h1
  rcases h4 with h4 | ⟨h4, h5⟩
  all_goals
    go_wp2_with fail
    refine (HRC.out).mono ?_
    rintro e w1 ⟨rfl, hb1⟩
    have HB1 := hide hb1
    have HG1 := hide (HG.out.below hb1)
    have HC1 := hide ((HH.out.below hb1).more hb1.size)
    clear hb1
    have HBA := hide ((Below.refl w1.heap.size w1).alloc (Nat.le_refl _) (.cells #[.int .i64 (checkF vars ls).1, .int .i64 (checkF vars ls).2] 31))
    have HS := hide (proFollow_bad vars A A2 n c n2 c2 ls (w1.alloc (.cells #[.int .i64 (checkF vars ls).1, .int .i64 (checkF vars ls).2] 31)) ((HC1.out.below HBA.out).more HBA.out.size) HCK.out)
    clear HCK
    generalize checkF vars ls = f at hn0 HS HBA ⊢
    obtain ⟨f1, f2⟩ := f
    have k0 : (w1.alloc (.cells #[.int .i64 f1, .int .i64 f2] 31)).cell? ⟨w1.heap.size, 0, none⟩ = some (.int .i64 f1) := by simp
    have k1 : (w1.alloc (.cells #[.int .i64 f1, .int .i64 f2] 31)).cell? ⟨w1.heap.size, 1, none⟩ = some (.int .i64 f2) := by simp
    have hsx : w1.heap.size < (w1.alloc (.cells #[.int .i64 f1, .int .i64 f2] 31)).heap.size := by simp
    unfold faultV
    go_wp2_with fail
    refine (HS.out).mono ?_
    rintro e w3 ⟨Ax, nx, cx, vx, rfl, hcx, hex, hb3⟩
    have HB3 := hide (HBA.out.trans (hb3.mono HBA.out.size))
    have c0' : w3.cell? ⟨w1.heap.size, 0, none⟩ = some (.int .i64 f1) := (hb3.cell hsx).trans k0
    have c1' : w3.cell? ⟨w1.heap.size, 1, none⟩ = some (.int .i64 f2) := (hb3.cell hsx).trans k1
    have HAT := hide (at_any vx (f1, f2) (f1, f2) w3 (HG1.out.below HB3.out) hex)
    rw [atB_self] at HAT
    have HCX := hide hcx
    have HSH := hide (cls_nil w3 w3.heap.size)
    clear hcx hex hb3
    unfold faultV at HAT
    go_wp2_with fail
    refine (HAT.out).mono ?_
    rintro e w4 ⟨rfl, hb4⟩
    have HSM := hide (sameCls Ax none nx cx 0 0 [] w4 ((HCX.out.below hb4).more hb4.size) ((HSH.out.below hb4).more hb4.size))
    have HB4 := hide (HB3.out.trans (hb4.mono HB3.out.size))
    clear hb4
    go_wp2_with fail
    refine (HSM.out).mono ?_
    rintro e w5 ⟨rfl, hb5⟩
    go_wp2
    go_ret
    exact ⟨ret_bool (by simp), HB1.out.trans ((HB4.out.trans (hb5.mono HB4.out.size)).mono HB1.out.size)⟩
theorem rows_form {w : World} {base n : Nat} {e : TypeId} {size : Nat} {v : Value} {xs : List Value} (h : w.ownsRow base e size v n xs) : ∃ A c, v = .slice A n c := by
  rcases h.2 with ⟨rfl, h0⟩ | ⟨g, cap, cur, rfl, _⟩
  · exact ⟨none, 0, by rw [h0]⟩
  · exact ⟨_, _, rfl⟩
theorem own2_kept {w : World} {base g : Nat} {T : Nat → Prop} {v : Value} {ls : List (List Int)} (h : OwnC w base T v ls) (hT : ∀ i, T i → base ≤ i ∧ i < w.heap.size) (hg : g < base) (u0 u1 : Value) :
    OwnC ((w.setCell ⟨g, 0, none⟩ u0).setCell ⟨g, 1, none⟩ u1) base T v ls ∧ ∀ i, T i → i < ((w.setCell ⟨g, 0, none⟩ u0).setCell ⟨g, 1, none⟩ u1).heap.size := by
  have hne : ∀ i, T i → some i ≠ some g := fun i hi e => by have := (hT i hi).1; cases e; omega
  have hv : v.ownBlock = none ∨ v.ownBlock ≠ some g := .inr fun e => by have := (h.lt g e).1; omega
  have h1 := h.kept (w' := w.setCell ⟨g, 0, none⟩ u0) (row := some g) (only_setCell (World.grownBy.refl w _) (.inl rfl) u0) hv (fun i hi => ⟨(hT i hi).2, hne i hi⟩)
  exact ⟨h1.kept (row := some g) (only_setCell (World.grownBy.refl _ _) (.inl rfl) u1) hv (fun i hi => ⟨by rw [size_setCell]; exact (hT i hi).2, hne i hi⟩), fun i hi => by rw [size_setCell, size_setCell]; exact (hT i hi).2⟩
theorem keep3 {w w' : World} {a1 a2 a3 : Addr} {v1 v2 v3 : Value} (h : w.cell? a1 = some v1 ∧ w.cell? a2 = some v2 ∧ w.cell? a3 = some v3) (hb : Below w.heap.size w w') :
    w'.cell? a1 = some v1 ∧ w'.cell? a2 = some v2 ∧ w'.cell? a3 = some v3 :=
  ⟨(hb.cell (lt_of_cell h.1)).trans h.1, (hb.cell (lt_of_cell h.2.1)).trans h.2.1, (hb.cell (lt_of_cell h.2.2)).trans h.2.2⟩

set_option maxRecDepth 100000 in
set_option maxHeartbeats 8000000 in
theorem lawFol_ok (vars : Int) (A : Option Addr) (n c : Nat) (ls : List (List Int)) (A2 : Option Addr) (n2 c2 : Nat) (ts : List Stp3) (w : World) (hG : Glob w) (h : Cls w w.heap.size A n ls) (hts : StpP w (· < w.heap.size) A2 n2 ts) (hck : checkF vars ls = (0, -1)) :
    Calls Tryd.prog 9 #[.int .i64 vars, .slice A n c, .slice A2 n2 c2] w (AtPost w true) := by
  have hn2 := hts.2.1
  simp only [maxLen] at hn2
  have HF1 := hide (few_any vars 200 A n c ls w h)
  have HRC := hide (refCheck_any vars A n c ls w hG h)
  have HH := hide h
  have HG := hide hG
  have HCK := hide hck
  have HTS := hide hts
  have HTL := Lib.hid hts.1
  rw [hck] at HRC
  clear h hG hck hts
  go_enter Tryd.func9, Tryd.ntmps9
  go_wp2_with fail
  refine (HF1.out).mono ?_
  rintro e w' ⟨b, rfl, rfl⟩
  rcases b with _ | _
  · go_wp2
    go_ret
    exact ⟨rfl, Below.refl _ _⟩
  by_cases h1 : 60 < n2 ∧ n2 ≤ 1000
  · obtain ⟨h1, h2⟩ := h1
    go_wp2
    go_ret
    exact ⟨rfl, Below.refl _ _⟩
  by_cases h3 : 1100 < n2
  · have h2 : 60 < n2 := by omega
    have h4 : ¬ n2 ≤ 1000 := by omega
    clear h1
    go_wp2
    go_ret
    exact ⟨rfl, Below.refl _ _⟩
  have hn3 : n2 ≤ 1100 := by omega
  have h4 : n2 ≤ 60 ∨ (60 < n2 ∧ ¬ n2 ≤ 1000) := by omega
  clear h1 hn2
  rcases h4 with h4 | ⟨h4, h5⟩
  all_goals
    go_wp2_with fail
    refine (HRC.out).mono ?_
    rintro e w1 ⟨rfl, hb1⟩
    have HBA := hide (hb1.alloc hb1.size (.cells #[.int .i64 0, .int .i64 (-1)] 31))
    have HKF := hide (Blk.new w1 31 #[.int .i64 0, .int .i64 (-1)])
    have hsz1 := hb1.size
    clear hb1
    unfold faultV
    go_wp2
    generalize (w1.alloc (.cells #[.int .i64 0, .int .i64 (-1)] 31)) = wb at HBA HKF ⊢
    go_loopw [9, 10] (fun vs i wr => ∃ k : Nat, k ≤ n2 ∧ i = .int .i64 k ∧ Hid (StI wb ts k vs wr)) (fun _ i _ => n2 - (intOf i).toNat)
    case atStart => exact ⟨0, Nat.zero_le _, rfl, hide ⟨Below.refl _ _, World.ownsRow_nil _ _ _ _⟩⟩
    case round =>
      obtain ⟨k, hk, rfl, hI⟩ := hrel
      have HI := hide hI.out
      clear hI
      have HBW := hide (HBA.out.trans (HI.out.bel.mono HBA.out.size))
      by_cases hlt : k < n2
      · obtain ⟨ad, a, b, v, rfl, hS, ht, ia, ib, iv, c1, c2', c3⟩ := HTS.out.at_ hlt
        have hbd : ∀ j, (ad.add j).block < w.heap.size := fun j => by rw [block_of_add]; exact hS
        have e1 := (HBA.out.cell (hbd _)).trans c1
        have e2 := (HBA.out.cell (hbd _)).trans c2'
        have e3 := (HBA.out.cell (hbd _)).trans c3
        rw [← fld_add ad (k * 3) 1 (by omega)] at e2
        rw [← fld_add ad (k * 3) 2 (by omega)] at e3
        have HE3 := hide (And.intro e1 (And.intro e2 e3))
        obtain ⟨d1, d2, d3⟩ := keep3 HE3.out HI.out.bel
        clear e1 e2 e3
        have HT := Lib.hid ht
        have HKL := Lib.hid (show k < ts.length by rw [HTL.out]; exact hlt)
        clear c1 c2' c3 ht hbd hS
        have hkI : (k : Int) < (n2 : Int) := by omega
        have hk0 : (0 : Int) ≤ (k : Int) := by omega
        have HOA := hide (HI.out.own.alloc (.cells #[.int .i64 a, .int .i64 b, .int .i64 v] 72))
        have HLT := hide HI.out.own.lt
        go_wp2
        go_region_held3 (fun w' => w'.cell? (ad.add (k * 3)) = some (.int .i64 a) ∧ w'.cell? ⟨(ad.add (k * 3)).block, (ad.add (k * 3)).off + 1, none⟩ = some (.int .i64 b) ∧ w'.cell? ⟨(ad.add (k * 3)).block, (ad.add (k * 3)).off + 2, none⟩ = some (.int .i64 v)) (first | assumption | exact ⟨d1, d2, d3⟩ | exact keep3 ⟨d1, d2, d3⟩ ((Below.refl _ _).alloc (Nat.le_refl _) _) | exact keep3 ⟨d1, d2, d3⟩ ((Below.refl _ _).alloc (Nat.le_refl _) _).drew | exact keep3 HE3.out hb9)
          (first
            | (refine stepT _ (by rfl) (.tmp 44) (.tmp 61) 69 (by rfl) wb.heap.size Tryd.underlying69 _ ts k (by rfl) ?_ _ _ (by rfl) HKL.out ?_ ?_ ?_ ?_ ?_ ?_; (first | exact HOA.out | exact HOA.out.drew); (rw [HT.out]; simp); (rw [HT.out]; simp); (rw [HT.out]; simp); omega; (have := HI.out.bel.size; simp; omega); intro v9 w9 ho9 hg9 hor9; have hb9 : Below wb.heap.size wb w9 := (by refine Below.grown (HI.out.bel.alloc HI.out.bel.size _).drew hg9 (by have := HI.out.bel.size; simp; omega) (fun j hj => (HLT.out j hj).1))))
        all_goals
          have HB9 := hide hb9
          have HO9 := hide ho9
          clear hg9 hor9 hb9 ho9
          go_wp2
          go_roundw
          case rel => exact ⟨k + 1, by omega, by go_num, hide ⟨HB9.out, HO9.out⟩⟩
          case measure => simp [intOf]; omega
      · obtain rfl : k = n2 := by omega
        have hown := HI.out.own
        rw [List.take_of_length_le (Nat.le_of_eq HTL.out)] at hown
        obtain ⟨As, cs, rfl⟩ := rows_form hown
        have HST := hide (stpP_of_own HTL.out HTS.out.2.1 HTS.out.2.2.1 hown)
        have HRF := hide (refFollow_all vars A As n c k cs ls ts wr (HG.out.below HBW.out) ((HH.out.below HBW.out).more HBW.out.size) HCK.out HST.out)
        have HPF := hide (fun (W : World) (hb : Below w.heap.size w W) => proFollow_all vars A A2 n c k c2 ls ts W (HG.out.e.below hb) ((HH.out.below hb).more hb.size) HCK.out ((HTS.out.keep (.of_below (fun i hi => hi) hb)).mono fun i hi => Nat.lt_of_lt_of_le hi hb.size))
        have HKR := hide (HKF.out.below HI.out.bel HKF.out.lt)
        clear hown
        generalize folF ls ts = r at HRF HPF
        obtain ⟨r1, f1, f2⟩ := r
        go_wp2_with fail
        refine (HRF.out).mono ?_
        rintro e w3 ⟨T, vw, rfl, how, hTn, hb3⟩
        have hltb : w1.heap.size < wr.heap.size := HKR.out.lt
        have HK3 := hide (HKR.out.below hb3 HKR.out.lt)
        have HB3 := hide (HBW.out.trans (hb3.mono HBW.out.size))
        have HO3 := hide (own2_kept how hTn hltb (.int .i64 f1) (.int .i64 f2))
        have hsz3 := hb3.size
        clear how hTn hb3
        have k0 := HK3.out.cell 0
        have k1 := HK3.out.cell 1
        have g0 := HK3.out.frozen 0
        have g1 := HK3.out.frozen 1
        have HK4 := hide (put2_blk HK3.out (.int .i64 f1) (.int .i64 f2))
        have HB4 := hide ((HB3.out.setCell (p := ⟨w1.heap.size, 0, none⟩) hsz1 (.int .i64 f1)).setCell (p := ⟨w1.heap.size, 1, none⟩) hsz1 (.int .i64 f2))
        have HP4 := hide (HPF.out _ HB4.out)
        go_wp2_with fail
        generalize ((w3.setCell ⟨w1.heap.size, 0, none⟩ (.int .i64 f1)).setCell ⟨w1.heap.size, 1, none⟩ (.int .i64 f2)) = w4 at HO3 HK4 HB4 HP4 ⊢
        clear k0 k1 g0 g1
        refine (HP4.out).mono ?_
        rintro e w5 ⟨Ax, nx, cx, vx, rfl, hcx, hex, hb5⟩
        have HB5 := hide (HB4.out.trans (hb5.mono HB4.out.size))
        have HK5 := hide (HK4.out.below hb5 HK4.out.lt)
        have HCX := hide hcx
        obtain ⟨Aw, cw, rfl, _⟩ := HO3.out.1.form
        have HCW := hide (((HO3.out.1.cls (fun i hi => HO3.out.2 i hi)).below hb5).more hb5.size)
        have HAT := hide (at_any vx (f1, f2) (f1, f2) w5 (HG.out.below HB5.out) hex)
        rw [atB_self] at HAT
        unfold faultV at HAT
        clear hcx hex hb5
        have k0 := HK5.out.cell 0
        have k1 := HK5.out.cell 1
        generalize r1.length = nw at HCW ⊢
        go_wp2_with fail
        refine (HAT.out).mono ?_
        rintro e w6 ⟨rfl, hb6⟩
        have HSM := hide (sameCls Ax Aw nx cx nw cw r1 w6 ((HCX.out.below hb6).more hb6.size) ((HCW.out.below hb6).more hb6.size))
        have HB6 := hide (HB5.out.trans (hb6.mono HB5.out.size))
        clear hb6
        go_wp2_with fail
        refine (HSM.out).mono ?_
        rintro e w7 ⟨rfl, hb7⟩
        go_wp2
        go_ret
        exact ⟨ret_bool (by simp), HB6.out.trans (hb7.mono HB6.out.size)⟩

theorem lawFol_walk (vars : Int) (A : Option Addr) (n c : Nat) (ls : List (List Int)) (A2 : Option Addr) (n2 c2 : Nat) (ts : List Stp3) (w : World) (hG : Glob w) (h : Cls w w.heap.size A n ls) (hts : StpP w (· < w.heap.size) A2 n2 ts) :
    Calls Tryd.prog 9 #[.int .i64 vars, .slice A n c, .slice A2 n2 c2] w (AtPost w true) := by
  by_cases hck : checkF vars ls = (0, -1)
  · exact lawFol_ok vars A n c ls A2 n2 c2 ts w hG h hts hck
  · exact lawFol_bad vars A n c ls A2 n2 c2 w hG h hts.2.1 hck
end Go.Proofs.YtkkgdlfjblmbjaaDoor
