/-
  The program's Resolve tells 'resF'.
-/
import Derived.Test.YtkkgdlfjblmbjaaGreatDoorResolveA
import Derived.Test.YtkkgdlfjblmbjaaGreatDoorFormS
namespace Go.Proofs.YtkkgdlfjblmbjaaGreatDoor
open Go.RowKit

set_option maxRecDepth 100000 in
set_option maxHeartbeats 4000000 in
theorem proResolve_bad (v : Int) (A B : Option Addr) (n c n2 c2 : Nat) (a b : List Int) (w : World) (h : Ints w w.heap.size A n a) (h2 : Ints w w.heap.size B n2 b) (hv : v < 0 ∨ 24 ≤ v ∨ v + 1 ∉ a ∨ -v - 1 ∉ b) :
    Calls Tryz.prog 22 #[.slice A n c, .slice B n2 c2, .int .i64 v] w (ProResPost w ([], 1)) := by
  by_cases h0 : v < 0
  · clear hv
    go_enter Tryz.func22, Tryz.ntmps22
    go_wp2
    go_ret2
    exact ⟨_, _, rfl, Own.nil _ _, isErr_code (c := 1) (by omega) (by omega), Below.refl _ _⟩
  by_cases h1 : 24 ≤ v
  · clear hv
    go_enter Tryz.func22, Tryz.ntmps22
    go_wp2
    go_ret2
    exact ⟨_, _, rfl, Own.nil _ _, isErr_code (c := 1) (by omega) (by omega), Below.refl _ _⟩
  obtain ⟨m, rfl⟩ : ∃ m : Nat, v = m := ⟨v.toNat, by omega⟩
  have hm : m < 24 := by omega
  have H1 := hide (contains_any ((m : Int) + 1) A n c a w h)
  have H2 := hide (contains_any (-(m : Int) - 1) B n2 c2 b w h2)
  by_cases h3 : ((m : Int)) + 1 ∈ a
  · have h4 : -(m : Int) - 1 ∉ b := by
      rcases hv with h | h | h | h
      · omega
      · omega
      · exact absurd h3 h
      · exact h
    rw [decide_eq_true h3] at H1
    rw [decide_eq_false h4] at H2
    clear hv h3 h4
    go_enter Tryz.func22, Tryz.ntmps22
    go_wp2_with fail
    refine (H1.out).mono ?_
    rintro e w' ⟨rfl, rfl⟩
    go_wp2_with fail
    refine (H2.out).mono ?_
    rintro e w' ⟨rfl, rfl⟩
    go_wp2
    go_ret2
    exact ⟨_, _, rfl, Own.nil _ _, isErr_code (c := 1) (by omega) (by omega), Below.refl _ _⟩
  · rw [decide_eq_false h3] at H1
    clear hv h3 H2
    go_enter Tryz.func22, Tryz.ntmps22
    go_wp2_with fail
    refine (H1.out).mono ?_
    rintro e w' ⟨rfl, rfl⟩
    go_wp2
    go_ret2
    exact ⟨_, _, rfl, Own.nil _ _, isErr_code (c := 1) (by omega) (by omega), Below.refl _ _⟩

set_option maxRecDepth 100000 in
set_option maxHeartbeats 4000000 in
theorem proResolve_ok (m : Nat) (A B : Option Addr) (n c n2 c2 : Nat) (a b : List Int) (w : World) (h : Ints w w.heap.size A n a) (h2 : Ints w w.heap.size B n2 b) (hm : m < 24) (h3 : (m : Int) + 1 ∈ a) (h4 : -(m : Int) - 1 ∉ b → False) (ha : ∀ x ∈ a, litOk x) (hb : ∀ x ∈ b, litOk x) (hn : n ≤ 1000) (hn2 : n2 ≤ 1000) :
    Calls Tryz.prog 22 #[.slice A n c, .slice B n2 c2, .int .i64 m] w (ProResPost w (resG a b m)) := by
  have h4' : -(m : Int) - 1 ∈ b := Decidable.of_not_not h4
  have H1 := hide (contains_any ((m : Int) + 1) A n c a w h)
  have H2 := hide (contains_any (-(m : Int) - 1) B n2 c2 b w h2)
  rw [decide_eq_true h3] at H1
  rw [decide_eq_true h4'] at H2
  have HI := hide h
  have HJ := hide h2
  have HA := hide ha
  have HBB := hide hb
  clear h h2 h3 h4 h4' ha hb
  go_enter Tryz.func22, Tryz.ntmps22
  go_wp2_with fail
  refine (H1.out).mono ?_
  rintro e w' ⟨rfl, rfl⟩
  go_wp2_with fail
  refine (H2.out).mono ?_
  rintro e w' ⟨rfl, rfl⟩
  go_wp2
  go_loopw [8, 10, 38] (fun v _ i wr => ∃ k : Nat, k ≤ n ∧ i = .int .i64 k ∧ Hid (ResI w ((a.take k).filter (fun x => x ≠ (m : Int) + 1)) v wr)) (fun _ _ i _ => n - (intOf i).toNat)
  case atStart => exact ⟨0, Nat.zero_le _, rfl, hide ⟨Below.refl _ _, Own.nil _ _⟩⟩
  case round =>
    obtain ⟨k, hk, rfl, hR⟩ := hrel
    by_cases hlt : k < n
    · obtain ⟨ad, rfl, hb, hc⟩ := HI.out.at_ hlt
      have hkl := Lib.hid (show k < a.length by rw [HI.out.len]; exact hlt)
      have hc2 : wr.cell? (ad.add k) = some (.int .i64 (a.getD k 0)) := (hR.out.bel.cell (by rw [block_of_add]; exact hb)).trans hc
      have HT := Lib.hid (show (a.take (k + 1)).filter (fun x => x ≠ (m : Int) + 1) = (a.take k).filter (fun x => x ≠ (m : Int) + 1) ++ [a.getD k 0].filter (fun x => x ≠ (m : Int) + 1) by rw [take_snoc a k 0 hkl.out, List.filter_append])
      have hXI := HI.out.2.2.1 (a.getD k 0) (getD_mem hkl.out)
      have HLT := hide hR.out.own.lt
      have HLN := Lib.hid (show ((a.take k).filter (fun x => x ≠ (m : Int) + 1)).length ≤ 1000 from Nat.le_trans (List.length_filter_le _ _) (by rw [List.length_take]; omega))
      clear hc
      generalize a.getD k 0 = x at hc2 HT hXI
      have HXI := Lib.hid hXI
      clear hXI
      by_cases hx : x = (m : Int) + 1
      · have HT2 := Lib.hid (show (a.take (k + 1)).filter (fun x => x ≠ (m : Int) + 1) = (a.take k).filter (fun x => x ≠ (m : Int) + 1) by rw [HT.out, hx]; simp)
        have hxb : (x != (m : Int) + 1) = false := by simp [hx]
        clear hx HT
        go_wp2
        go_roundw
        case rel => exact ⟨k + 1, by omega, by go_num, hide ⟨hR.out.bel, by rw [HT2.out]; exact hR.out.own⟩⟩
        case measure => simp [intOf]; omega
      · have HT2 := Lib.hid (show (a.take (k + 1)).filter (fun x => x ≠ (m : Int) + 1) = (a.take k).filter (fun x => x ≠ (m : Int) + 1) ++ [x] by rw [HT.out]; simp [hx])
        have hxb : (x != (m : Int) + 1) = true := by simp [hx]
        clear hx HT
        have HOA := hide (hR.out.own.alloc (.cells #[.int .i64 x] 3))
        have HCA := Lib.hid (show (wr.alloc (.cells #[.int .i64 x] 3)).cell? ⟨wr.heap.size, 0, none⟩ = some (.int .i64 x) by simp)
        have HBA := Lib.hid (show w.heap.size ≤ (wr.alloc (.cells #[.int .i64 x] 3)).heap.size by have := hR.out.bel.size; simp; omega)
        go_wp2_with (at_builtin; refine app1 _ rfl _ _ 39 rfl w.heap.size Tryz.underlying39 _ ((a.take k).filter (fun x => x ≠ (m : Int) + 1)) rfl HOA.out wr.heap.size 1 x rfl HCA.out HXI.out (by have := HLN.out; omega) HBA.out ?_; intro v1 w1 ho1 hg1 hor; have HO1 := hide ho1; have HG1 := hide hg1; clear ho1 hg1 hor)
        go_roundw
        case rel => exact ⟨k + 1, by omega, by go_num, hide ⟨(hR.out.bel.alloc hR.out.bel.size _).grown HG1.out HBA.out (fun k hk => (HLT.out k hk).1), by rw [HT2.out]; exact HO1.out⟩⟩
        case measure => simp [intOf]; omega
    · obtain rfl : k = n := by omega
      have HE := Lib.hid (show a.take k = a by rw [List.take_of_length_le]; rw [HI.out.len]; exact Nat.le_refl _)
      have HR1 := hide hR.out
      rw [HE.out] at HR1
      clear hR
      obtain ⟨wa, rfl⟩ : ∃ wa : World, wa = wr := ⟨_, rfl⟩
      go_wp2
      go_loopw [8, 12, 53] (fun v _ i wr => ∃ k : Nat, k ≤ n2 ∧ i = .int .i64 k ∧ Hid (ResI w (a.filter (fun x => x ≠ (m : Int) + 1) ++ (b.take k).filter (fun x => x ≠ -(m : Int) - 1)) v wr)) (fun _ _ i _ => n2 - (intOf i).toNat)
      case atStart => exact ⟨0, Nat.zero_le _, rfl, hide ⟨HR1.out.bel, by simpa using HR1.out.own⟩⟩
      case round =>
        obtain ⟨k, hk, rfl, hR⟩ := hrel
        by_cases hlt : k < n2
        · obtain ⟨ad, rfl, hb, hc⟩ := HJ.out.at_ hlt
          have hkl := Lib.hid (show k < b.length by rw [HJ.out.len]; exact hlt)
          have hc2 : wr.cell? (ad.add k) = some (.int .i64 (b.getD k 0)) := (hR.out.bel.cell (by rw [block_of_add]; exact hb)).trans hc
          have HT := Lib.hid (show (b.take (k + 1)).filter (fun x => x ≠ -(m : Int) - 1) = (b.take k).filter (fun x => x ≠ -(m : Int) - 1) ++ [b.getD k 0].filter (fun x => x ≠ -(m : Int) - 1) by rw [take_snoc b k 0 hkl.out, List.filter_append])
          have hXI := HJ.out.2.2.1 (b.getD k 0) (getD_mem hkl.out)
          have HLT := hide hR.out.own.lt
          have HLN := Lib.hid (show (a.filter (fun x => x ≠ (m : Int) + 1) ++ (b.take k).filter (fun x => x ≠ -(m : Int) - 1)).length ≤ 3000 from by have h1 := List.length_filter_le (fun x => decide (x ≠ (m : Int) + 1)) a; have h2 := List.length_filter_le (fun x => decide (x ≠ -(m : Int) - 1)) (b.take k); have h3 := HI.out.len; rw [List.length_append]; rw [List.length_take] at h2; omega)
          clear hc
          generalize b.getD k 0 = x at hc2 HT hXI
          have HXI := Lib.hid hXI
          clear hXI
          by_cases hx : x = -(m : Int) - 1
          · have HT2 := Lib.hid (show (b.take (k + 1)).filter (fun x => x ≠ -(m : Int) - 1) = (b.take k).filter (fun x => x ≠ -(m : Int) - 1) by rw [HT.out, hx]; simp)
            have hxb : (x != -(m : Int) - 1) = false := by simp [hx]
            clear hx HT
            go_wp2
            go_roundw
            case rel => exact ⟨k + 1, by omega, by go_num, hide ⟨hR.out.bel, by rw [HT2.out]; exact hR.out.own⟩⟩
            case measure => simp [intOf]; omega
          · have HT2 := Lib.hid (show (b.take (k + 1)).filter (fun x => x ≠ -(m : Int) - 1) = (b.take k).filter (fun x => x ≠ -(m : Int) - 1) ++ [x] by rw [HT.out]; simp [hx])
            have hxb : (x != -(m : Int) - 1) = true := by simp [hx]
            clear hx HT
            have HOA := hide (hR.out.own.alloc (.cells #[.int .i64 x] 3))
            have HCA := Lib.hid (show (wr.alloc (.cells #[.int .i64 x] 3)).cell? ⟨wr.heap.size, 0, none⟩ = some (.int .i64 x) by simp)
            have HBA := Lib.hid (show w.heap.size ≤ (wr.alloc (.cells #[.int .i64 x] 3)).heap.size by have := hR.out.bel.size; simp; omega)
            go_wp2_with (at_builtin; refine app1 _ rfl _ _ 39 rfl w.heap.size Tryz.underlying39 _ (a.filter (fun x => x ≠ (m : Int) + 1) ++ (b.take k).filter (fun x => x ≠ -(m : Int) - 1)) rfl HOA.out wr.heap.size 1 x rfl HCA.out HXI.out (by have := HLN.out; omega) HBA.out ?_; intro v1 w1 ho1 hg1 hor; have HO1 := hide ho1; have HG1 := hide hg1; clear ho1 hg1 hor)
            go_roundw
            case rel => exact ⟨k + 1, by omega, by go_num, hide ⟨(hR.out.bel.alloc hR.out.bel.size _).grown HG1.out HBA.out (fun k hk => (HLT.out k hk).1), by rw [HT2.out, ← List.append_assoc]; exact HO1.out⟩⟩
            case measure => simp [intOf]; omega
        · obtain rfl : k = n2 := by omega
          have HE2 := Lib.hid (show b.take k = b by rw [List.take_of_length_le]; rw [HJ.out.len]; exact Nat.le_refl _)
          have HR2 := hide hR.out
          rw [HE2.out] at HR2
          clear hR
          obtain ⟨Ax, cx, rfl, _⟩ := HR2.out.own.form
          have HLX := Lib.hid (show (a.filter (fun x => x ≠ (m : Int) + 1) ++ b.filter (fun x => x ≠ -(m : Int) - 1)).length ≤ 3000 from by have h1 := List.length_filter_le (fun x => decide (x ≠ (m : Int) + 1)) a; have h2 := List.length_filter_le (fun x => decide (x ≠ -(m : Int) - 1)) b; have h3 := HI.out.len; have h4 := HJ.out.len; rw [List.length_append]; omega)
          have HFX := hide (proofForm_any Ax (a.filter (fun x => x ≠ (m : Int) + 1) ++ b.filter (fun x => x ≠ -(m : Int) - 1)).length cx _ wr HR2.out.own.ints (fun x hx => by
            rcases List.mem_append.1 hx with hx | hx
            · exact HA.out x ((List.mem_filter.1 hx).1)
            · exact HBB.out x ((List.mem_filter.1 hx).1)) (by have := HLX.out; omega))
          have HRG := Lib.hid (show resG a b m = if (formF (a.filter (fun x => x ≠ (m : Int) + 1) ++ b.filter (fun x => x ≠ -(m : Int) - 1))).2 then ([], 8) else ((formF (a.filter (fun x => x ≠ (m : Int) + 1) ++ b.filter (fun x => x ≠ -(m : Int) - 1))).1, 0) from rfl)
          generalize formF (a.filter (fun x => x ≠ (m : Int) + 1) ++ b.filter (fun x => x ≠ -(m : Int) - 1)) = r at HFX HRG
          obtain ⟨r1, r2⟩ := r
          generalize (a.filter (fun x => x ≠ (m : Int) + 1) ++ b.filter (fun x => x ≠ -(m : Int) - 1)).length = nx at HFX HR2 ⊢
          go_wp2_with fail
          refine (HFX.out).mono ?_
          rintro e w3 ⟨vx, rfl, hox, hb3⟩
          have HOX := hide (hox.more HR2.out.bel.size)
          have HB3 := hide (HR2.out.bel.trans (hb3.mono HR2.out.bel.size))
          clear hox hb3
          rcases r2 with _ | _
          · go_wp2
            go_ret2
            rw [HRG.out]
            exact ⟨_, _, rfl, HOX.out, .inl ⟨rfl, rfl⟩, HB3.out⟩
          · go_wp2
            go_ret2
            rw [HRG.out]
            exact ⟨_, _, rfl, Own.nil _ _, isErr_code (c := 8) (by omega) (by omega), HB3.out⟩
end Go.Proofs.YtkkgdlfjblmbjaaGreatDoor
