/-
  solspacebig's sub and sum.
-/
import Derived.Test.YtpghgfenafhhbaaDoorBigS
import Derived.Test.YtpghgfenafhhbaaDoorNatCmp
namespace Go.Proofs.YtpghgfenafhhbaaDoor
open Go.RowKit

theorem len_ge {xs ys : List Nat} {n n2 : Nat} (h1 : xs.length = n) (h2 : ys.length = n2) (hlt : ∀ x ∈ xs, x < 4294967296) (ht : TrimL ys) (hge : valL ys ≤ valL xs) : n2 ≤ n := by
  rcases Nat.lt_or_ge n n2 with h | h
  · have := cmp_len hlt ht (by omega)
    omega
  · exact h
set_option maxRecDepth 100000 in
set_option maxHeartbeats 4000000 in
theorem bigSub_any (v1 v2 : Value) (N M : Nat) (w : World) (h1 : BigV w v1 N) (h2 : BigV w v2 M) (hN : N < 4294967296 ^ 1000) (hM : M < 4294967296 ^ 1000) (hge : M ≤ N) :
    Calls Tryd.prog 67 #[v1, v2] w (BigPost w (N - M)) := by
  obtain ⟨A, n, c, xs, rfl, _, hl, ht, hv, hn⟩ := h1.len hN
  obtain ⟨A2, n2, c2, ys, rfl, _, hl2, ht2, hv2, hn2⟩ := h2.len hM
  have hlen := len_ge hl.1 hl2.1 hl.2.2.1 ht2 (by rw [hv, hv2]; exact hge)
  have HV := Lib.hid (show N - M = valL xs - valL ys by rw [hv, hv2])
  have HGE := Lib.hid (show valL ys ≤ valL xs by rw [hv, hv2]; exact hge)
  have HI := hide hl
  have HJ := hide hl2
  have HXL := Lib.hid hl.1
  have HYL := Lib.hid hl2.1
  have hmk := run_mk w n (by omega) (n : Int) (by omega)
  clear h1 h2 hl ht hv hl2 ht2 hv2 hN hM hge
  have K4 := hide (Blk.new w 57 (limbArr (List.replicate n 0)))
  have HBW := hide ((Below.refl w.heap.size w).alloc (Nat.le_refl _) (.cells (limbArr (List.replicate n 0)) 57))
  go_enter Tryd.func67, Tryd.ntmps67
  go_wp2
  generalize (w.alloc (.cells (limbArr (List.replicate n 0)) 57)) = w4 at K4 HBW ⊢
  clear hmk
  obtain ⟨g, HGG⟩ : ∃ g, Hid (w.heap.size = g) := ⟨_, Lib.hid rfl⟩
  rw [HGG.out] at K4
  simp only [HGG.out]
  have hgs : w.heap.size ≤ g := by rw [← HGG.out]; omega
  have HST := hide (show NmI w4 g (fun out => out.length = n ∧ SubI xs ys 0 (out.take 0) 0) w4 from ⟨World.grownBy.refl w4 _, _, K4.out, by simp, sub_start xs ys⟩)
  go_loopw [6, 7] (fun cv iv wr => ∃ (i cc : Nat), i ≤ n ∧ iv = .int .i64 i ∧ cv = .int .u64 (cc : Int) ∧ Hid (NmI w4 g (fun out => out.length = n ∧ SubI xs ys i (out.take i) cc) wr)) (fun _ iv _ => n - (intOf iv).toNat)
  case atStart => exact ⟨0, 0, Nat.zero_le _, rfl, rfl, HST⟩
  case round =>
    clear HST
    obtain ⟨i, cc, hi, rfl, rfl, hR⟩ := hrel
    obtain ⟨out, hbk, hol, hA⟩ := hR.out.mem
    have HGR := hide hR.out.gr
    have HBK := hide hbk
    have HAI := hide hA
    have HOL := Lib.hid hol
    have hcc := hA.cl
    clear hR hbk hA hol
    have HBR := hide (HBW.out.trans (gr_bel HGR.out (by omega) HBW.out.size))
    by_cases hlt : i < n
    · have o0 := (HBK.out.cell i).trans (limbArr_at (by rw [HOL.out]; omega))
      have o1 := HBK.out.frozen i
      generalize out.getD i 0 = o at o0
      obtain ⟨ad, rfl, hb, hcell, hx⟩ := HI.out.at_ hlt
      have hc2 := (HBR.out.cell (by rw [block_of_add]; exact hb)).trans hcell
      have hy := getD_lt HJ.out.2.2.1 i
      have HNX := hide (fun d r h1 h2 h3 => HAI.out.next (d := d) (r := r) h1 h2 h3)
      have HCY := hide (fun (h : i < n2) => show ∃ ad2, A2 = some ad2 ∧ wr.cell? (ad2.add i) = some (.int .u32 ((ys.getD i 0 : Nat) : Int)) from by
        obtain ⟨ad2, e, hb2, hcell2, _⟩ := HJ.out.at_ h
        exact ⟨ad2, e, (HBR.out.cell (by rw [block_of_add]; exact hb2)).trans hcell2⟩)
      have HZY := hide (fun (h : ¬ i < n2) => show ys.getD i 0 = 0 by rw [List.getD_eq_getElem?_getD, List.getElem?_eq_none (by rw [HYL.out]; omega)]; rfl)
      clear hcell
      generalize xs.getD i 0 = x at hc2 hx HNX
      generalize ys.getD i 0 = y at hy HNX HCY HZY
      obtain ⟨d1, HD1⟩ : ∃ d1 : Nat, Hid (d1 = (x + 18446744073709551616 - cc) % 18446744073709551616) := ⟨_, Lib.hid rfl⟩
      obtain ⟨d2, HD2⟩ : ∃ d2 : Nat, Hid (d2 = (d1 + 18446744073709551616 - y) % 18446744073709551616) := ⟨_, Lib.hid rfl⟩
      have hd1 : d1 < 18446744073709551616 := by rw [HD1.out]; exact Nat.mod_lt _ (by omega)
      have hd2 : d2 < 18446744073709551616 := by rw [HD2.out]; exact Nat.mod_lt _ (by omega)
      have HNY := hide (HNX.out (d2 % 4294967296) (d2 / 9223372036854775808) (Nat.mod_lt _ (by omega)) (by omega) (by have := HD1.out; have := HD2.out; omega))
      have s1 : IntKind.u64.wrap ((x : Int) - (cc : Int)) = (d1 : Int) := by rw [IntKind.wrap_u64, HD1.out]; omega
      have s2 : IntKind.u64.wrap ((d1 : Int) - (y : Int)) = (d2 : Int) := by rw [IntKind.wrap_u64, HD2.out]; omega
      have HE1 := Lib.hid (show (d2 : Int) % 4294967296 = ((d2 % 4294967296 : Nat) : Int) by omega)
      have HE2 := Lib.hid (show (d2 : Int) / 9223372036854775808 = ((d2 / 9223372036854775808 : Nat) : Int) by omega)
      by_cases hy2 : i < n2
      · obtain ⟨ad2, rfl, hc3⟩ := HCY.out hy2
        go_wp2
        go_roundw
        case rel =>
          refine ⟨i + 1, d2 / 9223372036854775808, by omega, by go_num, by rw [HE2.out], ?_⟩
          rw [HE1.out]
          exact hide ⟨gr_set HGR.out _ _, _, by rw [← limbArr_setAt]; exact HBK.out.set_ i _, by rw [List.length_set]; exact HOL.out, by rw [take_set (by rw [HOL.out]; omega)]; exact HNY.out⟩
        case measure => simp [intOf]; omega
      · obtain rfl := HZY.out hy2
        have e21 : d2 = d1 := by have := HD2.out; omega
        subst e21
        go_wp2
        go_roundw
        case rel =>
          refine ⟨i + 1, d2 / 9223372036854775808, by omega, by go_num, by rw [HE2.out], ?_⟩
          rw [HE1.out]
          exact hide ⟨gr_set HGR.out _ _, _, by rw [← limbArr_setAt]; exact HBK.out.set_ i _, by rw [List.length_set]; exact HOL.out, by rw [take_set (by rw [HOL.out]; omega)]; exact HNY.out⟩
        case measure => simp [intOf]; omega
    · obtain rfl : i = n := by omega
      have HAX := hide (show SubI xs ys i out cc by have := HAI.out; rw [List.take_of_length_le (by rw [HOL.out]; omega)] at this; exact this)
      have HFI := Lib.hid (show valL out = N - M by
        have := HAX.out
        rw [← HXL.out] at this
        rw [this.fine (by rw [HXL.out, HYL.out]; exact hlen) HGE.out, HV.out])
      have HLM := hide (lim_blk HBK.out HOL.out (by simp only [maxLen]; omega) HAX.out.lt)
      have HMD := hide (cut_any (some ⟨g, 0, none⟩) i i out wr HLM.out (Nat.le_refl _))
      go_wp2_with fail
      refine (HMD.out).mono ?_
      rintro e w6 ⟨m, hm, rfl, htr, hval, rfl⟩
      have hmo : m ≤ i := by rw [← HOL.out]; exact hm
      have HNV := hide (show BigV wr (.slice (some ⟨g, 0, none⟩) m i) (N - M) from ⟨_, m, i, _, rfl, hmo, HLM.out.take hmo, htr, by rw [hval, HFI.out]⟩)
      clear htr hval
      go_wp2
      exact bodyPost_ret (v := .slice (some ⟨g, 0, none⟩) m i) (by simp [results, Tryd.results67, go_sem]) rfl ⟨_, rfl, HNV.out, new_at hgs, HBR.out⟩

def SumPost (w : World) (N : Nat) (e : Ending) (w' : World) : Prop := ∃ v, e = .returned (.tuple #[.bool false, v]) ∧ BigV w' v N ∧ NewV w.heap.size v ∧ Below w.heap.size w w'
set_option maxHeartbeats 2000000 in
theorem sumAdd_any (v1 v2 : Value) (N M : Nat) (w : World) (h1 : BigV w v1 N) (h2 : BigV w v2 M) (hN : N < 4294967296 ^ 1000) (hM : M < 4294967296 ^ 1000) :
    Calls Tryd.prog 44 #[.bool false, v1, .bool false, v2] w (SumPost w (N + M)) := by
  have HA := hide (bigAdd_any v1 v2 N M w h1 h2 hN hM)
  clear h1 h2 hN hM
  go_enter Tryd.func44, Tryd.ntmps44
  go_wp2_with fail
  refine (HA.out).mono ?_
  rintro e w1 ⟨v, rfl, hv, hn, hb⟩
  have HH := hide (And.intro hv (And.intro hn hb))
  clear hv hn hb
  go_wp2
  go_ret2
  exact ⟨_, rfl, HH.out⟩
set_option maxHeartbeats 2000000 in
theorem sumSub_any (v1 v2 : Value) (N M : Nat) (w : World) (h1 : BigV w v1 N) (h2 : BigV w v2 M) (hN : N < 4294967296 ^ 1000) (hM : M < 4294967296 ^ 1000) (hge : M ≤ N) :
    Calls Tryd.prog 44 #[.bool false, v1, .bool true, v2] w (SumPost w (N - M)) := by
  have HC := hide (bigCmp_any v1 v2 N M w h1 h2 hN hM)
  have HA := hide (fun q => bigSub_any v1 v2 N M (w.drewN q) (h1.below (below_drewN (Below.refl _ _) _)) (h2.below (below_drewN (Below.refl _ _) _)) hN hM hge)
  have HZ := Lib.hid (show (0 : Int) ≤ cmpZ N M by unfold cmpZ; rw [if_neg (by omega)]; split <;> omega)
  clear h1 h2 hN hM
  go_enter Tryd.func44, Tryd.ntmps44
  go_wp2_with fail
  refine (HC.out).mono ?_
  rintro e w1 ⟨rfl, q, rfl⟩
  have hz := HZ.out
  generalize cmpZ N M = z at hz ⊢
  go_wp2_with fail
  refine (HA.out q).mono ?_
  rintro e w1 ⟨v, rfl, hv, hn, hb⟩
  have HH := hide (And.intro hv (And.intro hn (show Below w.heap.size w w1 from (below_drewN (Below.refl _ _) q).trans hb)))
  clear hv hn hb
  go_wp2
  go_ret2
  exact ⟨_, rfl, HH.out⟩
end Go.Proofs.YtpghgfenafhhbaaDoor
