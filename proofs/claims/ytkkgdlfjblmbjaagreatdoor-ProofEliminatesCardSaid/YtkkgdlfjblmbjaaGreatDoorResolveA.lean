/-
  What follows from two clauses: the reference's Resolve and the program's; both tell 'resF'.
-/
import Derived.Test.YtkkgdlfjblmbjaaGreatDoorRefForm
import Derived.Test.YtkkgdlfjblmbjaaGreatDoorFormA
namespace Go.Proofs.YtkkgdlfjblmbjaaGreatDoor
open Go.RowKit

/-- Behind the first tests. -/
noncomputable def resG (a b : List Int) (m : Nat) : List Int × Int :=
  if (formF (a.filter (fun x => x ≠ (m : Int) + 1) ++ b.filter (fun x => x ≠ -(m : Int) - 1))).2 then ([], 8) else ((formF (a.filter (fun x => x ≠ (m : Int) + 1) ++ b.filter (fun x => x ≠ -(m : Int) - 1))).1, 0)
theorem resF_bad {a b : List Int} {v : Int} (h : v < 0 ∨ 24 ≤ v ∨ v + 1 ∉ a ∨ -v - 1 ∉ b) : resF a b v = ([], 1) := by unfold resF; rw [if_pos h]
theorem resF_ok {a b : List Int} {m : Nat} (h : ¬ ((m : Int) < 0 ∨ 24 ≤ (m : Int) ∨ (m : Int) + 1 ∉ a ∨ -(m : Int) - 1 ∉ b)) : resF a b m = resG a b m := by unfold resF; rw [if_neg h]; rfl
structure ResI (w : World) (acc : List Int) (v : Value) (wr : World) : Prop where
  bel : Below w.heap.size w wr
  own : Own wr w.heap.size v acc
def RefResPost (w : World) (r : List Int × Int) (e : Ending) (w' : World) : Prop := ∃ v, e = .returned (.tuple #[v, .int .i64 r.2]) ∧ Own w' w.heap.size v r.1 ∧ Below w.heap.size w w'
def ProResPost (w : World) (r : List Int × Int) (e : Ending) (w' : World) : Prop := ∃ v ve, e = .returned (.tuple #[v, ve]) ∧ Own w' w.heap.size v r.1 ∧ IsErr w' ve (r.2, -1) ∧ Below w.heap.size w w'

def IdxPost (w : World) (b : Bool) (e : Ending) (w' : World) : Prop := (∃ r : Int, e = .returned (.int .i64 r) ∧ (b = true → 0 ≤ r) ∧ (b = false → r < 0)) ∧ w = w'
set_option maxHeartbeats 1000000 in
theorem indexC_any (x : Int) (A : Option Addr) (n c : Nat) (zs : List Int) (w : World) (h : Ints w w.heap.size A n zs) :
    Calls Tryz.prog 33 #[.slice A n c, .int .i64 x] w (IdxPost w (decide (x ∈ zs))) := by
  have hn := h.le
  have hlen := Lib.hid h.len
  go_enter Tryz.func33, Tryz.ntmps33
  go_wp2
  go_loop [5, 8] (fun _ i => ∃ k : Nat, k ≤ n ∧ i = .int .i64 k ∧ Hid (x ∉ zs.take k)) (fun _ i => n - (intOf i).toNat)
  case atStart => exact ⟨0, Nat.zero_le _, rfl, Lib.hid (by simp)⟩
  case round =>
    obtain ⟨k, hk, rfl, hd⟩ := hrel
    by_cases hlt : k < n
    · obtain ⟨ad, rfl, hb, hc⟩ := h.at_ hlt
      have hkl := Lib.hid (show k < zs.length by rw [hlen.out]; exact hlt)
      have HM := hide (getD_mem hkl.out)
      have HT := hide (take_snoc zs k 0 hkl.out)
      generalize zs.getD k 0 = y at hc HM HT
      by_cases hy : x = y
      · subst hy
        have HB := Lib.hid (decide_eq_true HM.out)
        go_wp2
        go_ret
        rw [HB.out]
        exact ⟨⟨_, rfl, fun _ => by omega, fun h => by cases h⟩, rfl⟩
      · have hxy : (x == y) = false := beq_eq_false_iff_ne.2 hy
        have HN := Lib.hid (show x ∉ zs.take (k + 1) by
          rw [HT.out]
          intro hm
          rcases List.mem_append.1 hm with hm | hm
          · exact hd.out hm
          · exact hy (List.mem_singleton.1 hm))
        clear hy
        go_wp2
        go_round
        case rel => exact ⟨k + 1, by omega, by go_num, HN⟩
        case measure => simp [intOf]; omega
    · have HB := Lib.hid (show decide (x ∈ zs) = false by
        refine decide_eq_false ?_
        have := hd.out
        rw [List.take_of_length_le (by have := hlen.out; omega)] at this
        exact this)
      go_wp2
      go_ret
      rw [HB.out]
      exact ⟨⟨_, rfl, (fun h => by cases h), fun _ => by omega⟩, rfl⟩
theorem contains_any (x : Int) (A : Option Addr) (n c : Nat) (zs : List Int) (w : World) (h : Ints w w.heap.size A n zs) :
    Calls Tryz.prog 21 #[.slice A n c, .int .i64 x] w fun e w' => e = .returned (.bool (decide (x ∈ zs))) ∧ w = w' := by
  have HI := hide (indexC_any x A n c zs w h)
  generalize decide (x ∈ zs) = b at HI
  go_enter Tryz.func21, Tryz.ntmps21
  go_wp2_with fail
  refine (HI.out).mono ?_
  rintro e w' ⟨⟨r, rfl, h1, h2⟩, rfl⟩
  rcases b with _ | _
  · have hr := h2 rfl
    have hr' : ¬ 0 ≤ r := by omega
    go_wp2
    go_ret
    exact ⟨ret_bool (by first | (simp; omega) | simp), rfl⟩
  · have hr := h1 rfl
    go_wp2
    go_ret
    exact ⟨ret_bool (by first | (simp; omega) | simp), rfl⟩

set_option maxRecDepth 100000 in
set_option maxHeartbeats 4000000 in
theorem refResolve_bad (v : Int) (A B : Option Addr) (n c n2 c2 : Nat) (a b : List Int) (w : World) (h : Ints w w.heap.size A n a) (h2 : Ints w w.heap.size B n2 b) (hv : v < 0 ∨ 24 ≤ v ∨ v + 1 ∉ a ∨ -v - 1 ∉ b) :
    Calls Tryz.prog 14 #[.slice A n c, .slice B n2 c2, .int .i64 v] w (RefResPost w ([], 1)) := by
  by_cases h0 : v < 0
  · clear hv
    have HW := hide (within_any v 0 23 w)
    rw [show withinB v 0 23 = false by unfold withinB; simp; omega] at HW
    go_enter Tryz.func14, Tryz.ntmps14
    go_wp2_with fail
    refine (HW.out).mono ?_
    rintro e w' ⟨rfl, rfl⟩
    go_wp2
    go_ret2
    exact ⟨_, rfl, Own.nil _ _, Below.refl _ _⟩
  by_cases h1 : 24 ≤ v
  · clear hv
    have HW := hide (within_any v 0 23 w)
    rw [show withinB v 0 23 = false by unfold withinB; simp; omega] at HW
    go_enter Tryz.func14, Tryz.ntmps14
    go_wp2_with fail
    refine (HW.out).mono ?_
    rintro e w' ⟨rfl, rfl⟩
    go_wp2
    go_ret2
    exact ⟨_, rfl, Own.nil _ _, Below.refl _ _⟩
  obtain ⟨m, rfl⟩ : ∃ m : Nat, v = m := ⟨v.toNat, by omega⟩
  have hm : m < 24 := by omega
  have H1 := hide (has_any ((m : Int) + 1) A n c a w h)
  have H2 := hide (has_any (-(m : Int) - 1) B n2 c2 b w h2)
  by_cases h3 : ((m : Int)) + 1 ∈ a
  · have h4 : -(m : Int) - 1 ∉ b := by
      rcases hv with h | h | h | h
      · omega
      · omega
      · exact absurd h3 h
      · exact h
    rw [decide_eq_true h3] at H1
    rw [decide_eq_false h4] at H2
    clear hv h3 h4
    have HW := hide (within_any (m : Int) 0 23 w)
    rw [show withinB (m : Int) 0 23 = true by unfold withinB; simp; omega] at HW
    go_enter Tryz.func14, Tryz.ntmps14
    go_wp2_with fail
    refine (HW.out).mono ?_
    rintro e w' ⟨rfl, rfl⟩
    go_wp2_with fail
    refine (H1.out).mono ?_
    rintro e w' ⟨rfl, rfl⟩
    go_wp2_with fail
    refine (H2.out).mono ?_
    rintro e w' ⟨rfl, rfl⟩
    go_wp2
    go_ret2
    exact ⟨_, rfl, Own.nil _ _, Below.refl _ _⟩
  · rw [decide_eq_false h3] at H1
    clear hv h3 H2
    have HW := hide (within_any (m : Int) 0 23 w)
    rw [show withinB (m : Int) 0 23 = true by unfold withinB; simp; omega] at HW
    go_enter Tryz.func14, Tryz.ntmps14
    go_wp2_with fail
    refine (HW.out).mono ?_
    rintro e w' ⟨rfl, rfl⟩
    go_wp2_with fail
    refine (H1.out).mono ?_
    rintro e w' ⟨rfl, rfl⟩
    go_wp2
    go_ret2
    exact ⟨_, rfl, Own.nil _ _, Below.refl _ _⟩

set_option maxRecDepth 100000 in
set_option maxHeartbeats 4000000 in
theorem refResolve_ok (m : Nat) (A B : Option Addr) (n c n2 c2 : Nat) (a b : List Int) (w : World) (h : Ints w w.heap.size A n a) (h2 : Ints w w.heap.size B n2 b) (hm : m < 24) (h3 : (m : Int) + 1 ∈ a) (h4 : -(m : Int) - 1 ∉ b → False) (ha : ∀ x ∈ a, litOk x) (hb : ∀ x ∈ b, litOk x) (hn : n ≤ 1000) (hn2 : n2 ≤ 1000) :
    Calls Tryz.prog 14 #[.slice A n c, .slice B n2 c2, .int .i64 m] w (RefResPost w (resG a b m)) := by
  have h4' : -(m : Int) - 1 ∈ b := Decidable.of_not_not h4
  have H1 := hide (has_any ((m : Int) + 1) A n c a w h)
  have H2 := hide (has_any (-(m : Int) - 1) B n2 c2 b w h2)
  rw [decide_eq_true h3] at H1
  rw [decide_eq_true h4'] at H2
  have HI := hide h
  have HJ := hide h2
  have HA := hide ha
  have HBB := hide hb
  clear h h2 h3 h4 h4' ha hb
  have HW := hide (within_any (m : Int) 0 23 w)
  rw [show withinB (m : Int) 0 23 = true by unfold withinB; simp; omega] at HW
  go_enter Tryz.func14, Tryz.ntmps14
  go_wp2_with fail
  refine (HW.out).mono ?_
  rintro e w' ⟨rfl, rfl⟩
  go_wp2_with fail
  refine (H1.out).mono ?_
  rintro e w' ⟨rfl, rfl⟩
  go_wp2_with fail
  refine (H2.out).mono ?_
  rintro e w' ⟨rfl, rfl⟩
  go_wp2
  go_loopw [8, 10, 35] (fun v _ i wr => ∃ k : Nat, k ≤ n ∧ i = .int .i64 k ∧ Hid (ResI w ((a.take k).filter (fun x => x ≠ (m : Int) + 1)) v wr)) (fun _ _ i _ => n - (intOf i).toNat)
  case atStart => exact ⟨0, Nat.zero_le _, rfl, hide ⟨Below.refl _ _, Own.nil _ _⟩⟩
  case round =>
    obtain ⟨k, hk, rfl, hR⟩ := hrel
    by_cases hlt : k < n
    · obtain ⟨ad, rfl, hb, hc⟩ := HI.out.at_ hlt
      have hkl := Lib.hid (show k < a.length by rw [HI.out.len]; exact hlt)
      have hc2 : wr.cell? (ad.add k) = some (.int .i64 (a.getD k 0)) := (hR.out.bel.cell (by rw [block_of_add]; exact hb)).trans hc
      have HT := Lib.hid (show (a.take (k + 1)).filter (fun x => x ≠ (m : Int) + 1) = (a.take k).filter (fun x => x ≠ (m : Int) + 1) ++ [a.getD k 0].filter (fun x => x ≠ (m : Int) + 1) by rw [take_snoc a k 0 hkl.out, List.filter_append])
      have hXI := HI.out.2.2.1 (a.getD k 0) (getD_mem hkl.out)
      have HLT := hide hR.out.own.lt
      have HLN := Lib.hid (show ((a.take k).filter (fun x => x ≠ (m : Int) + 1)).length ≤ 1000 from Nat.le_trans (List.length_filter_le _ _) (by rw [List.length_take]; omega))
      clear hc
      generalize a.getD k 0 = x at hc2 HT hXI
      have HXI := Lib.hid hXI
      clear hXI
      by_cases hx : x = (m : Int) + 1
      · have HT2 := Lib.hid (show (a.take (k + 1)).filter (fun x => x ≠ (m : Int) + 1) = (a.take k).filter (fun x => x ≠ (m : Int) + 1) by rw [HT.out, hx]; simp)
        have hxb : (x != (m : Int) + 1) = false := by simp [hx]
        clear hx HT
        go_wp2
        go_roundw
        case rel => exact ⟨k + 1, by omega, by go_num, hide ⟨hR.out.bel, by rw [HT2.out]; exact hR.out.own⟩⟩
        case measure => simp [intOf]; omega
      · have HT2 := Lib.hid (show (a.take (k + 1)).filter (fun x => x ≠ (m : Int) + 1) = (a.take k).filter (fun x => x ≠ (m : Int) + 1) ++ [x] by rw [HT.out]; simp [hx])
        have hxb : (x != (m : Int) + 1) = true := by simp [hx]
        clear hx HT
        have HOA := hide (hR.out.own.alloc (.cells #[.int .i64 x] 3))
        have HCA := Lib.hid (show (wr.alloc (.cells #[.int .i64 x] 3)).cell? ⟨wr.heap.size, 0, none⟩ = some (.int .i64 x) by simp)
        have HBA := Lib.hid (show w.heap.size ≤ (wr.alloc (.cells #[.int .i64 x] 3)).heap.size by have := hR.out.bel.size; simp; omega)
        go_wp2_with (at_builtin; refine app1 _ rfl _ _ 39 rfl w.heap.size Tryz.underlying39 _ ((a.take k).filter (fun x => x ≠ (m : Int) + 1)) rfl HOA.out wr.heap.size 1 x rfl HCA.out HXI.out (by have := HLN.out; omega) HBA.out ?_; intro v1 w1 ho1 hg1 hor; have HO1 := hide ho1; have HG1 := hide hg1; clear ho1 hg1 hor)
        go_roundw
        case rel => exact ⟨k + 1, by omega, by go_num, hide ⟨(hR.out.bel.alloc hR.out.bel.size _).grown HG1.out HBA.out (fun k hk => (HLT.out k hk).1), by rw [HT2.out]; exact HO1.out⟩⟩
        case measure => simp [intOf]; omega
    · obtain rfl : k = n := by omega
      have HE := Lib.hid (show a.take k = a by rw [List.take_of_length_le]; rw [HI.out.len]; exact Nat.le_refl _)
      have HR1 := hide hR.out
      rw [HE.out] at HR1
      clear hR
      obtain ⟨wa, rfl⟩ : ∃ wa : World, wa = wr := ⟨_, rfl⟩
      go_wp2
      go_loopw [8, 12, 50] (fun v _ i wr => ∃ k : Nat, k ≤ n2 ∧ i = .int .i64 k ∧ Hid (ResI w (a.filter (fun x => x ≠ (m : Int) + 1) ++ (b.take k).filter (fun x => x ≠ -(m : Int) - 1)) v wr)) (fun _ _ i _ => n2 - (intOf i).toNat)
      case atStart => exact ⟨0, Nat.zero_le _, rfl, hide ⟨HR1.out.bel, by simpa using HR1.out.own⟩⟩
      case round =>
        obtain ⟨k, hk, rfl, hR⟩ := hrel
        by_cases hlt : k < n2
        · obtain ⟨ad, rfl, hb, hc⟩ := HJ.out.at_ hlt
          have hkl := Lib.hid (show k < b.length by rw [HJ.out.len]; exact hlt)
          have hc2 : wr.cell? (ad.add k) = some (.int .i64 (b.getD k 0)) := (hR.out.bel.cell (by rw [block_of_add]; exact hb)).trans hc
          have HT := Lib.hid (show (b.take (k + 1)).filter (fun x => x ≠ -(m : Int) - 1) = (b.take k).filter (fun x => x ≠ -(m : Int) - 1) ++ [b.getD k 0].filter (fun x => x ≠ -(m : Int) - 1) by rw [take_snoc b k 0 hkl.out, List.filter_append])
          have hXI := HJ.out.2.2.1 (b.getD k 0) (getD_mem hkl.out)
          have HLT := hide hR.out.own.lt
          have HLN := Lib.hid (show (a.filter (fun x => x ≠ (m : Int) + 1) ++ (b.take k).filter (fun x => x ≠ -(m : Int) - 1)).length ≤ 3000 from by have h1 := List.length_filter_le (fun x => decide (x ≠ (m : Int) + 1)) a; have h2 := List.length_filter_le (fun x => decide (x ≠ -(m : Int) - 1)) (b.take k); have h3 := HI.out.len; rw [List.length_append]; rw [List.length_take] at h2; omega)
          clear hc
          generalize b.getD k 0 = x at hc2 HT hXI
          have HXI := Lib.hid hXI
          clear hXI
          by_cases hx : x = -(m : Int) - 1
          · have HT2 := Lib.hid (show (b.take (k + 1)).filter (fun x => x ≠ -(m : Int) - 1) = (b.take k).filter (fun x => x ≠ -(m : Int) - 1) by rw [HT.out, hx]; simp)
            have hxb : (x != -(m : Int) - 1) = false := by simp [hx]
            clear hx HT
            go_wp2
            go_roundw
            case rel => exact ⟨k + 1, by omega, by go_num, hide ⟨hR.out.bel, by rw [HT2.out]; exact hR.out.own⟩⟩
            case measure => simp [intOf]; omega
          · have HT2 := Lib.hid (show (b.take (k + 1)).filter (fun x => x ≠ -(m : Int) - 1) = (b.take k).filter (fun x => x ≠ -(m : Int) - 1) ++ [x] by rw [HT.out]; simp [hx])
            have hxb : (x != -(m : Int) - 1) = true := by simp [hx]
            clear hx HT
            have HOA := hide (hR.out.own.alloc (.cells #[.int .i64 x] 3))
            have HCA := Lib.hid (show (wr.alloc (.cells #[.int .i64 x] 3)).cell? ⟨wr.heap.size, 0, none⟩ = some (.int .i64 x) by simp)
            have HBA := Lib.hid (show w.heap.size ≤ (wr.alloc (.cells #[.int .i64 x] 3)).heap.size by have := hR.out.bel.size; simp; omega)
            go_wp2_with (at_builtin; refine app1 _ rfl _ _ 39 rfl w.heap.size Tryz.underlying39 _ (a.filter (fun x => x ≠ (m : Int) + 1) ++ (b.take k).filter (fun x => x ≠ -(m : Int) - 1)) rfl HOA.out wr.heap.size 1 x rfl HCA.out HXI.out (by have := HLN.out; omega) HBA.out ?_; intro v1 w1 ho1 hg1 hor; have HO1 := hide ho1; have HG1 := hide hg1; clear ho1 hg1 hor)
            go_roundw
            case rel => exact ⟨k + 1, by omega, by go_num, hide ⟨(hR.out.bel.alloc hR.out.bel.size _).grown HG1.out HBA.out (fun k hk => (HLT.out k hk).1), by rw [HT2.out, ← List.append_assoc]; exact HO1.out⟩⟩
            case measure => simp [intOf]; omega
        · obtain rfl : k = n2 := by omega
          have HE2 := Lib.hid (show b.take k = b by rw [List.take_of_length_le]; rw [HJ.out.len]; exact Nat.le_refl _)
          have HR2 := hide hR.out
          rw [HE2.out] at HR2
          clear hR
          obtain ⟨Ax, cx, rfl, _⟩ := HR2.out.own.form
          have HLX := Lib.hid (show (a.filter (fun x => x ≠ (m : Int) + 1) ++ b.filter (fun x => x ≠ -(m : Int) - 1)).length ≤ 3000 from by have h1 := List.length_filter_le (fun x => decide (x ≠ (m : Int) + 1)) a; have h2 := List.length_filter_le (fun x => decide (x ≠ -(m : Int) - 1)) b; have h3 := HI.out.len; have h4 := HJ.out.len; rw [List.length_append]; omega)
          have HFX := hide (refForm_any Ax (a.filter (fun x => x ≠ (m : Int) + 1) ++ b.filter (fun x => x ≠ -(m : Int) - 1)).length cx _ wr HR2.out.own.ints (fun x hx => by
            rcases List.mem_append.1 hx with hx | hx
            · exact HA.out x ((List.mem_filter.1 hx).1)
            · exact HBB.out x ((List.mem_filter.1 hx).1)))
          have HRG := Lib.hid (show resG a b m = if (formF (a.filter (fun x => x ≠ (m : Int) + 1) ++ b.filter (fun x => x ≠ -(m : Int) - 1))).2 then ([], 8) else ((formF (a.filter (fun x => x ≠ (m : Int) + 1) ++ b.filter (fun x => x ≠ -(m : Int) - 1))).1, 0) from rfl)
          generalize formF (a.filter (fun x => x ≠ (m : Int) + 1) ++ b.filter (fun x => x ≠ -(m : Int) - 1)) = r at HFX HRG
          obtain ⟨r1, r2⟩ := r
          generalize (a.filter (fun x => x ≠ (m : Int) + 1) ++ b.filter (fun x => x ≠ -(m : Int) - 1)).length = nx at HFX HR2 ⊢
          go_wp2_with fail
          refine (HFX.out).mono ?_
          rintro e w3 ⟨vx, rfl, hox, hb3⟩
          have HOX := hide (hox.more HR2.out.bel.size)
          have HB3 := hide (HR2.out.bel.trans (hb3.mono HR2.out.bel.size))
          clear hox hb3
          rcases r2 with _ | _
          · go_wp2
            go_ret2
            rw [HRG.out]
            exact ⟨_, rfl, HOX.out, HB3.out⟩
          · go_wp2
            go_ret2
            rw [HRG.out]
            exact ⟨_, rfl, Own.nil _ _, HB3.out⟩
theorem refResolve_any (v : Int) (A B : Option Addr) (n c n2 c2 : Nat) (a b : List Int) (w : World) (h : Ints w w.heap.size A n a) (h2 : Ints w w.heap.size B n2 b) (ha : ∀ x ∈ a, litOk x) (hb : ∀ x ∈ b, litOk x) (hn : n ≤ 1000) (hn2 : n2 ≤ 1000) :
    Calls Tryz.prog 14 #[.slice A n c, .slice B n2 c2, .int .i64 v] w (RefResPost w (resF a b v)) := by
  by_cases hv : v < 0 ∨ 24 ≤ v ∨ v + 1 ∉ a ∨ -v - 1 ∉ b
  · rw [resF_bad hv]
    exact refResolve_bad v A B n c n2 c2 a b w h h2 hv
  · obtain ⟨m, rfl⟩ : ∃ m : Nat, v = m := ⟨v.toNat, by omega⟩
    rw [resF_ok hv]
    exact refResolve_ok m A B n c n2 c2 a b w h h2 (by omega) (Decidable.of_not_not fun h => hv (.inr (.inr (.inl h)))) (fun h => hv (.inr (.inr (.inr h)))) ha hb hn hn2
end Go.Proofs.YtkkgdlfjblmbjaaGreatDoor
