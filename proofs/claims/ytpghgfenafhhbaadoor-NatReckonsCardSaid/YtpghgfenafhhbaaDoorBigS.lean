/-
  solspacebig's add (printed by wip/gen_big_add.py).
-/
import Derived.Test.YtpghgfenafhhbaaDoorBigM
namespace Go.Proofs.YtpghgfenafhhbaaDoor
open Go.RowKit

theorem take_set {l : List Nat} {i v : Nat} (h : i < l.length) : (l.set i v).take (i + 1) = l.take i ++ [v] := by
  rw [List.take_add_one, List.take_set_of_le (Nat.le_refl _), List.getElem?_set_self h]
  rfl

set_option maxRecDepth 100000 in
set_option maxHeartbeats 4000000 in
theorem bigAdd_ge (A A2 : Option Addr) (n c n2 c2 : Nat) (xs ys : List Nat) (w : World) (hl : Lim w w.heap.size A n xs) (hl2 : Lim w w.heap.size A2 n2 ys) (hlen : n2 ≤ n) (hn : n ≤ 1000) :
    Calls Tryd.prog 56 #[.slice A n c, .slice A2 n2 c2] w (BigPost w (valL xs + valL ys)) := by
  have HI := hide hl
  have HJ := hide hl2
  have HXL := Lib.hid hl.1
  have HYL := Lib.hid hl2.1
  have hmk := run_mk w (n + 1) (by omega) ((n : Int) + 1) (by omega)
  clear hl hl2
  have K4 := hide (Blk.new w 57 (limbArr (List.replicate (n + 1) 0)))
  have HBW := hide ((Below.refl w.heap.size w).alloc (Nat.le_refl _) (.cells (limbArr (List.replicate (n + 1) 0)) 57))
  go_enter Tryd.func56, Tryd.ntmps56
  go_wp2
  generalize (w.alloc (.cells (limbArr (List.replicate (n + 1) 0)) 57)) = w4 at K4 HBW ⊢
  clear hmk
  obtain ⟨g, HGG⟩ : ∃ g, Hid (w.heap.size = g) := ⟨_, Lib.hid rfl⟩
  rw [HGG.out] at K4
  simp only [HGG.out]
  have hgs : w.heap.size ≤ g := by rw [← HGG.out]; omega
  have HST := hide (show NmI w4 g (fun out => out.length = n + 1 ∧ AddI xs ys 0 (out.take 0) 0) w4 from ⟨World.grownBy.refl w4 _, _, K4.out, by simp, AddI.start xs ys⟩)
  rw [show decide (n < n2) = false by simpa using hlen]
  go_loopw [6, 7] (fun cv iv wr => ∃ (i cc : Nat), i ≤ n ∧ iv = .int .i64 i ∧ cv = .int .u64 (cc : Int) ∧ Hid (NmI w4 g (fun out => out.length = n + 1 ∧ AddI xs ys i (out.take i) cc) wr)) (fun _ iv _ => n - (intOf iv).toNat)
  case atStart => exact ⟨0, 0, Nat.zero_le _, rfl, rfl, HST⟩
  case round =>
    clear HST
    obtain ⟨i, cc, hi, rfl, rfl, hR⟩ := hrel
    obtain ⟨out, hbk, hol, hA⟩ := hR.out.mem
    have HGR := hide hR.out.gr
    have HBK := hide hbk
    have HAI := hide hA
    have HOL := Lib.hid hol
    have hcc := hA.cl
    clear hR hbk hA hol
    have HBR := hide (HBW.out.trans (gr_bel HGR.out (by omega) HBW.out.size))
    have o0 := (HBK.out.cell i).trans (limbArr_at (by rw [HOL.out]; omega))
    have o1 := HBK.out.frozen i
    generalize out.getD i 0 = o at o0
    have hin : (i : Int) < (n : Int) + 1 := by omega
    by_cases hlt : i < n
    · obtain ⟨ad, rfl, hb, hcell, hx⟩ := HI.out.at_ hlt
      have hc2 := (HBR.out.cell (by rw [block_of_add]; exact hb)).trans hcell
      have hy := getD_lt HJ.out.2.2.1 i
      have HNX := hide (HAI.out.next (t := xs.getD i 0 + ys.getD i 0 + cc) hx hy rfl)
      have HCY := hide (fun (h : i < n2) => show ∃ ad2, A2 = some ad2 ∧ wr.cell? (ad2.add i) = some (.int .u32 ((ys.getD i 0 : Nat) : Int)) from by
        obtain ⟨ad2, e, hb2, hcell2, _⟩ := HJ.out.at_ h
        exact ⟨ad2, e, (HBR.out.cell (by rw [block_of_add]; exact hb2)).trans hcell2⟩)
      have HZY := hide (fun (h : ¬ i < n2) => show ys.getD i 0 = 0 by rw [List.getD_eq_getElem?_getD, List.getElem?_eq_none (by rw [HYL.out]; omega)]; rfl)
      clear hcell
      generalize xs.getD i 0 = x at hc2 hx HNX
      generalize ys.getD i 0 = y at hy HNX HCY HZY
      have HTT := Lib.hid (show x + y + cc = cc + x + y by omega)
      rw [HTT.out] at HNX
      have HE1 := Lib.hid (show ((cc : Int) + (x : Int) + (y : Int)) % 4294967296 = (((cc + x + y) % 4294967296 : Nat) : Int) by omega)
      have HE2 := Lib.hid (show ((cc : Int) + (x : Int) + (y : Int)) / 4294967296 = (((cc + x + y) / 4294967296 : Nat) : Int) by omega)
      by_cases hy2 : i < n2
      · obtain ⟨ad2, rfl, hc3⟩ := HCY.out hy2
        go_wp2
        go_roundw
        case rel =>
          refine ⟨i + 1, (cc + x + y) / 4294967296, by omega, by go_num, by rw [HE2.out], ?_⟩
          rw [HE1.out]
          exact hide ⟨gr_set HGR.out _ _, _, by rw [← limbArr_setAt]; exact HBK.out.set_ i _, by rw [List.length_set]; exact HOL.out, by rw [take_set (by rw [HOL.out]; omega)]; exact HNX.out⟩
        case measure => simp [intOf]; omega
      · obtain rfl := HZY.out hy2
        rw [show ((cc : Int) + (x : Int) + ((0 : Nat) : Int)) = (cc : Int) + (x : Int) by omega] at HE1 HE2
        go_wp2
        go_roundw
        case rel =>
          refine ⟨i + 1, (cc + x + 0) / 4294967296, by omega, by go_num, by rw [HE2.out], ?_⟩
          rw [HE1.out]
          exact hide ⟨gr_set HGR.out _ _, _, by rw [← limbArr_setAt]; exact HBK.out.set_ i _, by rw [List.length_set]; exact HOL.out, by rw [take_set (by rw [HOL.out]; omega)]; exact HNX.out⟩
        case measure => simp [intOf]; omega
    · obtain rfl : i = n := by omega
      have HFI := Lib.hid (show valL (out.set i cc) = valL xs + valL ys by
        have := HAI.out
        rw [← HXL.out] at this
        have h2 := this.fine (by rw [HXL.out, HYL.out]; omega)
        rw [HXL.out, ← take_set (by rw [HOL.out]; omega), List.take_of_length_le (by rw [List.length_set, HOL.out]; omega)] at h2
        exact h2)
      have hcm : (cc : Int) % 4294967296 = (cc : Int) := by omega
      have HB2 := hide (show Blk (wr.setCell ⟨g, i, none⟩ (.int .u32 (cc : Int))) g 57 (limbArr (out.set i cc)) by rw [← limbArr_setAt]; exact HBK.out.set_ i _)
      have HBR2 := hide (HBR.out.setCell (p := ⟨g, i, none⟩) (show w.heap.size ≤ g by omega) (.int .u32 (cc : Int)))
      have HLT := hide (show ∀ z ∈ out.set i cc, z < 4294967296 from by
        have e : out.set i cc = out.take i ++ [cc] := by rw [← take_set (by rw [HOL.out]; omega), List.take_of_length_le (by rw [List.length_set, HOL.out]; omega)]
        rw [e]
        intro z hz
        rcases List.mem_append.1 hz with hz | hz
        · exact HAI.out.lt z hz
        · rw [List.mem_singleton.1 hz]; omega)
      have HLN := Lib.hid (show (out.set i cc).length = i + 1 by rw [List.length_set]; exact HOL.out)
      generalize out.set i cc = out2 at HFI HB2 HLT HLN
      go_wp2_with fail
      generalize (wr.setCell ⟨g, i, none⟩ (.int .u32 (cc : Int))) = w5 at HB2 HBR2 ⊢
      have HLM := hide (lim_blk HB2.out HLN.out (by simp only [maxLen]; omega) HLT.out)
      have HMD := hide (cut_any (some ⟨g, 0, none⟩) (i + 1) (i + 1) out2 w5 HLM.out (Nat.le_refl _))
      refine (HMD.out).mono ?_
      rintro e w6 ⟨m, hm, rfl, htr, hval, rfl⟩
      have hmo : m ≤ i + 1 := by rw [← HLN.out]; exact hm
      have HNV := hide (show BigV w5 (.slice (some ⟨g, 0, none⟩) m (i + 1)) (valL xs + valL ys) from ⟨_, m, i + 1, _, rfl, hmo, HLM.out.take hmo, htr, by rw [hval, HFI.out]⟩)
      clear htr hval
      go_wp2
      exact bodyPost_ret (v := .slice (some ⟨g, 0, none⟩) m (i + 1)) (by simp [results, Tryd.results56, go_sem]) rfl ⟨_, rfl, HNV.out, new_at hgs, HBR2.out⟩

set_option maxRecDepth 100000 in
set_option maxHeartbeats 4000000 in
theorem bigAdd_lt (A A2 : Option Addr) (n c n2 c2 : Nat) (xs ys : List Nat) (w : World) (hl : Lim w w.heap.size A n xs) (hl2 : Lim w w.heap.size A2 n2 ys) (hlen : n2 < n) (hn : n ≤ 1000) :
    Calls Tryd.prog 56 #[.slice A2 n2 c2, .slice A n c] w (BigPost w (valL xs + valL ys)) := by
  have HI := hide hl
  have HJ := hide hl2
  have HXL := Lib.hid hl.1
  have HYL := Lib.hid hl2.1
  have hmk := run_mk w (n + 1) (by omega) ((n : Int) + 1) (by omega)
  clear hl hl2
  have K4 := hide (Blk.new w 57 (limbArr (List.replicate (n + 1) 0)))
  have HBW := hide ((Below.refl w.heap.size w).alloc (Nat.le_refl _) (.cells (limbArr (List.replicate (n + 1) 0)) 57))
  go_enter Tryd.func56, Tryd.ntmps56
  go_wp2
  generalize (w.alloc (.cells (limbArr (List.replicate (n + 1) 0)) 57)) = w4 at K4 HBW ⊢
  clear hmk
  obtain ⟨g, HGG⟩ : ∃ g, Hid (w.heap.size = g) := ⟨_, Lib.hid rfl⟩
  rw [HGG.out] at K4
  simp only [HGG.out]
  have hgs : w.heap.size ≤ g := by rw [← HGG.out]; omega
  have HST := hide (show NmI w4 g (fun out => out.length = n + 1 ∧ AddI xs ys 0 (out.take 0) 0) w4 from ⟨World.grownBy.refl w4 _, _, K4.out, by simp, AddI.start xs ys⟩)
  go_loopw [6, 7] (fun cv iv wr => ∃ (i cc : Nat), i ≤ n ∧ iv = .int .i64 i ∧ cv = .int .u64 (cc : Int) ∧ Hid (NmI w4 g (fun out => out.length = n + 1 ∧ AddI xs ys i (out.take i) cc) wr)) (fun _ iv _ => n - (intOf iv).toNat)
  case atStart => exact ⟨0, 0, Nat.zero_le _, rfl, rfl, HST⟩
  case round =>
    clear HST
    obtain ⟨i, cc, hi, rfl, rfl, hR⟩ := hrel
    obtain ⟨out, hbk, hol, hA⟩ := hR.out.mem
    have HGR := hide hR.out.gr
    have HBK := hide hbk
    have HAI := hide hA
    have HOL := Lib.hid hol
    have hcc := hA.cl
    clear hR hbk hA hol
    have HBR := hide (HBW.out.trans (gr_bel HGR.out (by omega) HBW.out.size))
    have o0 := (HBK.out.cell i).trans (limbArr_at (by rw [HOL.out]; omega))
    have o1 := HBK.out.frozen i
    generalize out.getD i 0 = o at o0
    have hin : (i : Int) < (n : Int) + 1 := by omega
    by_cases hlt : i < n
    · obtain ⟨ad, rfl, hb, hcell, hx⟩ := HI.out.at_ hlt
      have hc2 := (HBR.out.cell (by rw [block_of_add]; exact hb)).trans hcell
      have hy := getD_lt HJ.out.2.2.1 i
      have HNX := hide (HAI.out.next (t := xs.getD i 0 + ys.getD i 0 + cc) hx hy rfl)
      have HCY := hide (fun (h : i < n2) => show ∃ ad2, A2 = some ad2 ∧ wr.cell? (ad2.add i) = some (.int .u32 ((ys.getD i 0 : Nat) : Int)) from by
        obtain ⟨ad2, e, hb2, hcell2, _⟩ := HJ.out.at_ h
        exact ⟨ad2, e, (HBR.out.cell (by rw [block_of_add]; exact hb2)).trans hcell2⟩)
      have HZY := hide (fun (h : ¬ i < n2) => show ys.getD i 0 = 0 by rw [List.getD_eq_getElem?_getD, List.getElem?_eq_none (by rw [HYL.out]; omega)]; rfl)
      clear hcell
      generalize xs.getD i 0 = x at hc2 hx HNX
      generalize ys.getD i 0 = y at hy HNX HCY HZY
      have HTT := Lib.hid (show x + y + cc = cc + x + y by omega)
      rw [HTT.out] at HNX
      have HE1 := Lib.hid (show ((cc : Int) + (x : Int) + (y : Int)) % 4294967296 = (((cc + x + y) % 4294967296 : Nat) : Int) by omega)
      have HE2 := Lib.hid (show ((cc : Int) + (x : Int) + (y : Int)) / 4294967296 = (((cc + x + y) / 4294967296 : Nat) : Int) by omega)
      by_cases hy2 : i < n2
      · obtain ⟨ad2, rfl, hc3⟩ := HCY.out hy2
        go_wp2
        go_roundw
        case rel =>
          refine ⟨i + 1, (cc + x + y) / 4294967296, by omega, by go_num, by rw [HE2.out], ?_⟩
          rw [HE1.out]
          exact hide ⟨gr_set HGR.out _ _, _, by rw [← limbArr_setAt]; exact HBK.out.set_ i _, by rw [List.length_set]; exact HOL.out, by rw [take_set (by rw [HOL.out]; omega)]; exact HNX.out⟩
        case measure => simp [intOf]; omega
      · obtain rfl := HZY.out hy2
        rw [show ((cc : Int) + (x : Int) + ((0 : Nat) : Int)) = (cc : Int) + (x : Int) by omega] at HE1 HE2
        go_wp2
        go_roundw
        case rel =>
          refine ⟨i + 1, (cc + x + 0) / 4294967296, by omega, by go_num, by rw [HE2.out], ?_⟩
          rw [HE1.out]
          exact hide ⟨gr_set HGR.out _ _, _, by rw [← limbArr_setAt]; exact HBK.out.set_ i _, by rw [List.length_set]; exact HOL.out, by rw [take_set (by rw [HOL.out]; omega)]; exact HNX.out⟩
        case measure => simp [intOf]; omega
    · obtain rfl : i = n := by omega
      have HFI := Lib.hid (show valL (out.set i cc) = valL xs + valL ys by
        have := HAI.out
        rw [← HXL.out] at this
        have h2 := this.fine (by rw [HXL.out, HYL.out]; omega)
        rw [HXL.out, ← take_set (by rw [HOL.out]; omega), List.take_of_length_le (by rw [List.length_set, HOL.out]; omega)] at h2
        exact h2)
      have hcm : (cc : Int) % 4294967296 = (cc : Int) := by omega
      have HB2 := hide (show Blk (wr.setCell ⟨g, i, none⟩ (.int .u32 (cc : Int))) g 57 (limbArr (out.set i cc)) by rw [← limbArr_setAt]; exact HBK.out.set_ i _)
      have HBR2 := hide (HBR.out.setCell (p := ⟨g, i, none⟩) (show w.heap.size ≤ g by omega) (.int .u32 (cc : Int)))
      have HLT := hide (show ∀ z ∈ out.set i cc, z < 4294967296 from by
        have e : out.set i cc = out.take i ++ [cc] := by rw [← take_set (by rw [HOL.out]; omega), List.take_of_length_le (by rw [List.length_set, HOL.out]; omega)]
        rw [e]
        intro z hz
        rcases List.mem_append.1 hz with hz | hz
        · exact HAI.out.lt z hz
        · rw [List.mem_singleton.1 hz]; omega)
      have HLN := Lib.hid (show (out.set i cc).length = i + 1 by rw [List.length_set]; exact HOL.out)
      generalize out.set i cc = out2 at HFI HB2 HLT HLN
      go_wp2_with fail
      generalize (wr.setCell ⟨g, i, none⟩ (.int .u32 (cc : Int))) = w5 at HB2 HBR2 ⊢
      have HLM := hide (lim_blk HB2.out HLN.out (by simp only [maxLen]; omega) HLT.out)
      have HMD := hide (cut_any (some ⟨g, 0, none⟩) (i + 1) (i + 1) out2 w5 HLM.out (Nat.le_refl _))
      refine (HMD.out).mono ?_
      rintro e w6 ⟨m, hm, rfl, htr, hval, rfl⟩
      have hmo : m ≤ i + 1 := by rw [← HLN.out]; exact hm
      have HNV := hide (show BigV w5 (.slice (some ⟨g, 0, none⟩) m (i + 1)) (valL xs + valL ys) from ⟨_, m, i + 1, _, rfl, hmo, HLM.out.take hmo, htr, by rw [hval, HFI.out]⟩)
      clear htr hval
      go_wp2
      exact bodyPost_ret (v := .slice (some ⟨g, 0, none⟩) m (i + 1)) (by simp [results, Tryd.results56, go_sem]) rfl ⟨_, rfl, HNV.out, new_at hgs, HBR2.out⟩

theorem bigAdd_any (v1 v2 : Value) (N M : Nat) (w : World) (h1 : BigV w v1 N) (h2 : BigV w v2 M) (hN : N < 4294967296 ^ 1000) (hM : M < 4294967296 ^ 1000) :
    Calls Tryd.prog 56 #[v1, v2] w (BigPost w (N + M)) := by
  obtain ⟨A, n, c, xs, rfl, _, hl, _, hv, hn⟩ := h1.len hN
  obtain ⟨A2, n2, c2, ys, rfl, _, hl2, _, hv2, hn2⟩ := h2.len hM
  rw [← hv, ← hv2]
  by_cases h : n2 ≤ n
  · exact bigAdd_ge A A2 n c n2 c2 xs ys w hl hl2 h hn
  · rw [Nat.add_comm]
    exact bigAdd_lt A2 A n2 c2 n c ys xs w hl2 hl (by omega) hn2
end Go.Proofs.YtpghgfenafhhbaaDoor
