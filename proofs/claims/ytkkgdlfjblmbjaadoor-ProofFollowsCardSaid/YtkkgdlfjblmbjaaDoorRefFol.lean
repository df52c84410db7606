/-
  The reference's Follow tells 'folF'.
-/
import Derived.Test.YtkkgdlfjblmbjaaDoorFolA
namespace Go.Proofs.YtkkgdlfjblmbjaaDoor
open Go.RowKit

def RefFolPost (w : World) (r : List (List Int) × (Int × Int)) (e : Ending) (w' : World) : Prop :=
  ∃ (T : Nat → Prop) (v : Value), e = .returned (.tuple #[v, .agg #[.int .i64 r.2.1, .int .i64 r.2.2]]) ∧ OwnC w' w.heap.size T v r.1 ∧ (∀ i, T i → w.heap.size ≤ i ∧ i < w'.heap.size) ∧ Below w.heap.size w w'

set_option maxHeartbeats 1000000 in
theorem refFollow_many (A A2 : Option Addr) (n c n2 c2 : Nat) (ls : List (List Int)) (w : World) (h : 1000 < n2) (h2 : n2 ≤ maxLen) :
    Calls Tryd.prog 35 #[.slice A n c, .slice A2 n2 c2] w (RefFolPost w ([], (4, -1))) := by
  simp only [maxLen] at h2
  have HB := hide ((((Below.refl w.heap.size w).alloc (Nat.le_refl _) (.cells #[.slice A n c] 22)).alloc (by simp) (.cells #[.int .i64 4, .int .i64 (-1)] 31)).alloc (by simp; omega) (.cells #[.int .i64 4, .int .i64 (-1)] 31))
  go_enter Tryd.func35, Tryd.ntmps35
  go_wp2_with (go_at_call 20; refine (bare_any 4 _).mono ?_; rintro e w' ⟨rfl, rfl⟩)
  exact bodyPost_ret (v := .tuple #[.slice none 0 0, .agg #[.int .i64 4, .int .i64 (-1)]]) (by simp [results, Tryd.results35, go_sem]) rfl ⟨fun _ => False, _, rfl, ownC_nil _ _ _, (fun _ h => h.elim), HB.out⟩

/-- Ahead of step k. -/
structure FolI (w0 : World) (A : Option Addr) (n c : Nat) (ls : List (List Int)) (ts : List Stp3) (k : Nat) (wr : World) : Prop where
  mem : ∃ (T : Nat → Prop) (vo : Value) (out : List (List Int)), FolM w0 A n c T vo out wr ∧ rowsOk (ls ++ out) ∧ out.length = k ∧ folGo (ls ++ out) (ts.drop k) k = folGo ls ts 0

set_option maxRecDepth 100000 in
set_option maxHeartbeats 4000000 in
theorem refFollow_any (A A2 : Option Addr) (n c n2 c2 : Nat) (ls : List (List Int)) (ts : List Stp3) (w : World) (hG : Glob w) (hcl : Cls w w.heap.size A n ls) (hrows : rowsOk ls) (hts : StpP w (· < w.heap.size) A2 n2 ts) (hn : n ≤ 1000000) (hn2 : n2 ≤ 1000) :
    Calls Tryd.prog 35 #[.slice A n c, .slice A2 n2 c2] w (RefFolPost w (folF ls ts)) := by
  have HG := hide hG
  have HCL := hide hcl
  have HTS := hide hts
  have HTL := Lib.hid hts.1
  have HLL := Lib.hid hcl.len
  have HM0 := hide (show FolM w A n c (fun _ => False) (.slice none 0 0) [] (((w.alloc (.cells #[.slice A n c] 22)).alloc (.cells #[.int .i64 0, .int .i64 0] 31)).alloc (.cells #[.slice none 0 0] 22)) from by
    have b1 := Blk.new w 22 #[.slice A n c]
    have b2 := Blk.new (w.alloc (.cells #[.slice A n c] 22)) 31 #[.int .i64 0, .int .i64 0]
    have b3 := Blk.new ((w.alloc (.cells #[.slice A n c] 22)).alloc (.cells #[.int .i64 0, .int .i64 0] 31)) 22 #[.slice none 0 0]
    rw [World.size_alloc', World.size_alloc'] at b3
    rw [World.size_alloc'] at b2
    refine ⟨ownC_nil _ _ _, (b1.alloc _).alloc _, b2.alloc _, b3, fun i hi => hi.elim, (((Below.refl w.heap.size w).alloc (Nat.le_refl _) _).alloc (by simp) _).alloc (by simp; omega) _⟩)
  have HF1 := hide (show ¬ 1000 < ts.length by rw [HTL.out]; omega)
  clear hG hcl hts
  go_enter Tryd.func35, Tryd.ntmps35
  go_wp2
  go_loopw [23] (fun i wr => ∃ k : Nat, k ≤ n2 ∧ i = .int .i64 k ∧ Hid (FolI w A n c ls ts k wr)) (fun i _ => n2 - (intOf i).toNat)
  case atStart => exact ⟨0, Nat.zero_le _, rfl, hide ⟨_, _, [], HM0.out, by rw [List.append_nil]; exact hrows, rfl, by rw [List.append_nil]; rfl⟩⟩
  case round =>
    clear HM0
    obtain ⟨k, hk, rfl, hR⟩ := hrel
    obtain ⟨T, vo, out, hM, hOK, hol, hgo⟩ := hR.out.mem
    have HM := hide hM
    have HOK := hide hOK
    have HGO := hide hgo
    have HOL := Lib.hid hol
    clear hM hOK hgo hol hR
    by_cases hlt : k < n2
    · obtain ⟨ad, a, b, v, rfl, hS, ht, ia, ib, iv, c1, c2, c3⟩ := HTS.out.at_ hlt
      have hbd : ∀ j, (ad.add j).block < w.heap.size := fun j => by rw [block_of_add]; exact hS
      have d1 := (HM.out.bel.cell (hbd _)).trans c1
      have d2 := (HM.out.bel.cell (hbd _)).trans c2
      have d3 := (HM.out.bel.cell (hbd _)).trans c3
      rw [← fld_add ad (k * 3) 1 (by omega)] at d2
      rw [← fld_add ad (k * 3) 2 (by omega)] at d3
      have HT := Lib.hid ht
      have HKL := Lib.hid (show k < ts.length by rw [HTL.out]; exact hlt)
      clear c1 c2 c3 ht hbd hS
      have HMA := hide (HM.out.below ((Below.refl wr.heap.size wr).alloc (Nat.le_refl _) (.cells #[.int .i64 a, .int .i64 b, .int .i64 v] 72)))
      have HCA := hide (HCL.out.below HMA.out.bel |>.more HMA.out.bel.size)
      have HG1 := hide (get_any a w.heap.size (w.heap.size + 2) A n c w.heap.size ls out vo T _ (HMA.out.bl.cell 0) (HMA.out.bo.cell 0) HCA.out HMA.out.own HMA.out.lT hn (by have := HOL.out; omega))
      have HG2 := hide (get_any b w.heap.size (w.heap.size + 2) A n c w.heap.size ls out vo T _ (HMA.out.bl.cell 0) (HMA.out.bo.cell 0) HCA.out HMA.out.own HMA.out.lT hn (by have := HOL.out; omega))
      have z0 := HMA.out.bf.cell 0
      go_wp2_with fail
      refine (HG1.out).mono ?_
      rintro e w' ⟨A1, n1, c1, rfl, hi1, rfl⟩
      go_wp2_with fail
      refine (HG2.out).mono ?_
      rintro e w' ⟨A3, n3, c3, rfl, hi3, rfl⟩
      have HPD := hide (put2_blk HMA.out.bf (.int .i64 2) (.int .i64 k))
      have HDN := hide (HMA.out.done (.int .i64 2) (.int .i64 k))
      have f0 := HMA.out.bf.frozen 0
      have f1 := HMA.out.bf.frozen 1
      have z1 := HMA.out.bf.cell 1
      have HOU := hide (fun (h : a < 0 ∨ ((ls ++ out).length : Int) ≤ a ∨ b < 0 ∨ ((ls ++ out).length : Int) ≤ b) => folF_err HF1.out ((HGO.out.symm).trans (folGo_out HKL.out HT.out h)) (show (2 : Int) ≠ 0 by decide))
      rcases hA : inB (ls ++ out) a with _ | _
      · have HF := Lib.hid (HOU.out (by have := of_decide_eq_false hA; omega))
        have HP0 := HPD.out.cell 0
        have HP1 := HPD.out.cell 1
        clear hA hi1 hi3
        go_wp2
        rw [HF.out]
        exact bodyPost_ret (v := .tuple #[.slice none 0 0, .agg #[.int .i64 2, .int .i64 k]]) (by simp [results, Tryd.results35, go_sem, HP0, HP1]) rfl ⟨fun _ => False, _, rfl, ownC_nil _ _ _, (fun _ h => h.elim), HDN.out.2⟩
      rcases hB : inB (ls ++ out) b with _ | _
      · have HF := Lib.hid (HOU.out (by have := of_decide_eq_false hB; omega))
        have HP0 := HPD.out.cell 0
        have HP1 := HPD.out.cell 1
        clear hA hB hi1 hi3
        go_wp2
        rw [HF.out]
        exact bodyPost_ret (v := .tuple #[.slice none 0 0, .agg #[.int .i64 2, .int .i64 k]]) (by simp [results, Tryd.results35, go_sem, HP0, HP1]) rfl ⟨fun _ => False, _, rfl, ownC_nil _ _ _, (fun _ h => h.elim), HDN.out.2⟩
      obtain ⟨hc1, hj1⟩ := hi1 hA
      obtain ⟨hc3, hj3⟩ := hi3 hB
      have HNO := hide (show ¬ (a < 0 ∨ ((ls ++ out).length : Int) ≤ a ∨ b < 0 ∨ ((ls ++ out).length : Int) ≤ b) by have := of_decide_eq_true hA; have := of_decide_eq_true hB; omega)
      have HRS := hide (refResolve_any v A1 A3 n1 c1 n3 c3 _ _ _ hj1 hj3 (HOK.out.at_ a.toNat).1 (HOK.out.at_ b.toNat).1 (by rw [← hj1.len]; exact (HOK.out.at_ a.toNat).2) (by rw [← hj3.len]; exact (HOK.out.at_ b.toNat).2))
      have HSN := hide (fun q c (e : resF ((ls ++ out).getD a.toNat []) ((ls ++ out).getD b.toNat []) v = (q, c)) => HOK.out.snoc e)
      have HBD := hide (fun q c (e : resF ((ls ++ out).getD a.toNat []) ((ls ++ out).getD b.toNat []) v = (q, c)) => folGo_bad (q := q) (c := c) HKL.out HT.out HNO.out e)
      have HNX := hide (fun q (e : resF ((ls ++ out).getD a.toNat []) ((ls ++ out).getD b.toNat []) v = (q, 0)) => folGo_next (q := q) HKL.out HT.out HNO.out e)
      have HCD := hide (fun q c (e : resF ((ls ++ out).getD a.toNat []) ((ls ++ out).getD b.toNat []) v = (q, c)) => resF_code (q := q) (c := c) e)
      clear hA hB hi1 hi3 hj1 hj3 hc1 hc3 HPD HDN HOU
      generalize resF ((ls ++ out).getD a.toNat []) ((ls ++ out).getD b.toNat []) v = r at HRS HSN HBD HNX HCD
      obtain ⟨q, cd⟩ := r
      go_wp2_with fail
      refine (HRS.out).mono ?_
      rintro e w3 ⟨vw, rfl, how, hb3⟩
      have HOW := hide how
      have HM3 := hide (HMA.out.grow hb3)
      have HB3 := hide hb3
      have hsz3 := hb3.size
      clear how hb3 f0 f1 z0 z1
      by_cases hcd : cd = 0
      · subst hcd
        obtain ⟨Aw, cw, rfl, hcw⟩ := HOW.out.form
        have HQ := hide (intsP_of_ints (D := fun i => T i ∨ ((wr.alloc (.cells #[.int .i64 a, .int .i64 b, .int .i64 v] 72)).heap.size ≤ i ∧ i < w3.heap.size)) HOW.out.ints (fun hn ad e => by
          subst e
          exact .inr (HOW.out.lt ad.block rfl)))
        have HCW := hide hcw
        clear hcw
        generalize hT3 : (fun i => T i ∨ ((wr.alloc (.cells #[.int .i64 a, .int .i64 b, .int .i64 v] 72)).heap.size ≤ i ∧ i < w3.heap.size)) = T3 at HM3 HQ
        clear hT3
        have HNX2 := Lib.hid (HNX.out q rfl)
        have HSN2 := hide (HSN.out q 0 rfl)
        generalize q.length = nq at HQ HCW ⊢
        have HM4 := hide (HM3.out.below ((Below.refl w3.heap.size w3).alloc (Nat.le_refl _) (.cells #[.slice Aw nq cw] 35)))
        have HQ4 := hide (HQ.out.keep (Keep.of_below HM3.out.lT ((Below.refl w3.heap.size w3).alloc (Nat.le_refl _) (.cells #[.slice Aw nq cw] 35))))
        have HC4 := Lib.hid (show (w3.alloc (.cells #[.slice Aw nq cw] 35)).cell? ⟨w3.heap.size, 0, none⟩ = some (.slice Aw nq cw) by simp)
        have y0 := HM3.out.bo.cell 0
        go_wp2_with (at_builtin; refine appC1H _ rfl _ _ _ rfl w.heap.size T3 Tryd.underlying22 _ out rfl HM4.out.own w3.heap.size 1 rfl Aw nq cw q HC4.out HCW.out HQ4.out (by have := HOL.out; omega) HM4.out.bel.size (fun i hi => ⟨(HM4.out.TS i hi).1, (HM4.out.TS i hi).2.1⟩) ?_)
        intro v5 w5 ho5 hg5 hor5
        have hbo := HM4.out.bo.grown hg5 (fun e => HM4.out.own.ne_blk HM4.out.bo (by decide) e.symm)
        have x0 := hbo.cell 0
        have x1 := hbo.frozen 0
        have HM5 := hide (HM4.out.put ho5 hg5 (by rw [World.size_alloc']; exact hor5))
        obtain ⟨A5, c5, rfl, _⟩ := ho5.form
        clear hbo ho5 hg5 hor5
        generalize (out ++ [q]).length = n5 at HM5 ⊢
        refine ⟨?_⟩
        go_wp2
        go_roundw
        case rel => exact ⟨k + 1, by omega, by go_num, hide ⟨T3, _, out ++ [q], HM5.out, by rw [← List.append_assoc]; exact HSN2.out, by rw [List.length_append, List.length_singleton, HOL.out], by rw [← List.append_assoc, ← HNX2.out]; exact HGO.out⟩⟩
        case measure => simp [intOf]; omega
      · have HF := Lib.hid (folF_err HF1.out ((HGO.out.symm).trans (HBD.out q cd rfl hcd)) hcd)
        have hcb := HCD.out q cd rfl
        have hcn : (cd != 0) = true := by simp [hcd]
        have HPD := hide (put2_blk HM3.out.bf (.int .i64 cd) (.int .i64 k))
        have HDN := hide (HM3.out.done (.int .i64 cd) (.int .i64 k))
        have HP0 := HPD.out.cell 0
        have HP1 := HPD.out.cell 1
        have f0 := HM3.out.bf.frozen 0
        have f1 := HM3.out.bf.frozen 1
        have z0 := HM3.out.bf.cell 0
        have z1 := HM3.out.bf.cell 1
        go_wp2
        rw [HF.out]
        exact bodyPost_ret (v := .tuple #[.slice none 0 0, .agg #[.int .i64 cd, .int .i64 k]]) (by simp [results, Tryd.results35, go_sem, HP0, HP1]) rfl ⟨fun _ => False, _, rfl, ownC_nil _ _ _, (fun _ h => h.elim), HDN.out.2⟩
    · obtain rfl : k = n2 := by omega
      have HE := Lib.hid (folF_fine HF1.out ((HGO.out.symm).trans (folGo_end (Nat.le_of_eq HTL.out) k)))
      obtain ⟨Ao, co, rfl, _⟩ := HM.out.own.form
      have hG2 := HG.out.below HM.out.bel
      have g0 := hG2.f0
      have g1 := hG2.f1
      have y0 := HM.out.bo.cell 0
      have f0 := HM.out.bf.frozen 0
      have f1 := HM.out.bf.frozen 1
      have z0 := HM.out.bf.cell 0
      have z1 := HM.out.bf.cell 1
      have HPD := hide (put2_blk HM.out.bf (.int .i64 0) (.int .i64 (-1)))
      have HDN := hide (HM.out.done (.int .i64 0) (.int .i64 (-1)))
      have HP0 := HPD.out.cell 0
      have HP1 := HPD.out.cell 1
      clear hG2
      go_wp2
      go_region
      all_goals
        go_wp2
        rw [HE.out]
        exact bodyPost_ret (v := .tuple #[.slice Ao out.length co, .agg #[.int .i64 0, .int .i64 (-1)]]) (by simp [results, Tryd.results35, go_sem, HP0, HP1]) rfl ⟨T, _, rfl, by rw [List.drop_left]; exact HDN.out.1, (fun i hi => ⟨(HM.out.TS i hi).2.2.2.2, by simp; exact HM.out.lT i hi⟩), HDN.out.2.drew⟩
end Go.Proofs.YtkkgdlfjblmbjaaDoor
