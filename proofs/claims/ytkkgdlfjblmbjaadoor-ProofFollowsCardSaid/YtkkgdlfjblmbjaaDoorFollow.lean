/-
  The reference's FollowsFrom, the program's Follows, the law's sameInts.
-/
import Derived.Test.YtkkgdlfjblmbjaaDoorRefSpread
import Derived.Deep.QuietTactic
import Derived.BigQuiet
namespace Go.Proofs.YtkkgdlfjblmbjaaDoor
open Go.RowKit

/-- Literals that are assumed, one behind the other; none: one may not be. -/
def assumeGo (vars : Int) (tr : List Int) : List Int → Option (List Int)
  | [] => some tr
  | x :: xs => if badB vars x = true ∨ -x ∈ tr then none else if x ∈ tr then assumeGo vars tr xs else assumeGo vars (tr ++ [x]) xs
/-- (what is told, the clause that can't hold, the error). -/
def followF (vars : Int) (ls : List (List Int)) (a : List Int) : List Int × Int × Int :=
  match assumeGo vars [] a with
  | none => ([], 0, 1)
  | some tr => ((spreadR ls tr).1, (spreadR ls tr).2, 0)
theorem followF_none {vars : Int} {ls : List (List Int)} {a : List Int} (h : assumeGo vars [] a = none) : followF vars ls a = ([], 0, 1) := by unfold followF; rw [h]
theorem followF_some {vars : Int} {ls : List (List Int)} {a tr : List Int} (h : assumeGo vars [] a = some tr) : followF vars ls a = ((spreadR ls tr).1, (spreadR ls tr).2, 0) := by unfold followF; rw [h]
theorem badB_lit {vars x : Int} (h : badB vars x = false) (h1 : vars ≤ 24) : litOk x := by
  unfold badB at h
  have := of_decide_eq_false h
  unfold litOk
  omega
theorem badB_not {vars x : Int} (h : badB vars x = false) : x ≠ 0 ∧ x ≤ vars ∧ -vars ≤ x := by
  unfold badB at h
  have := of_decide_eq_false h
  omega
theorem badB_is {vars x : Int} (h : badB vars x = true) : x = 0 ∨ vars < x ∨ x < -vars := by
  unfold badB at h
  exact of_decide_eq_true h

set_option maxHeartbeats 1000000 in
theorem same_same (A A' : Option Addr) (n c n' c' : Nat) (zs : List Int) (w : World) (h : Ints w w.heap.size A n zs) (h' : Ints w w.heap.size A' n' zs) :
    Calls Tryd.prog 22 #[.slice A n c, .slice A' n' c'] w (AtPost w true) := by
  obtain rfl : n' = n := h'.1.symm.trans h.1
  have hn := h.le
  go_enter Tryd.func22, Tryd.ntmps22
  go_wp2
  go_loopw [5] (fun i wr => ∃ k : Nat, k ≤ n' ∧ i = .int .i64 k ∧ Below w.heap.size w wr) (fun i _ => n' - (intOf i).toNat)
  case atStart => exact ⟨0, Nat.zero_le _, rfl, Below.refl _ _⟩
  case round =>
    obtain ⟨k, hk, rfl, hb⟩ := hrel
    by_cases hlt : k < n'
    · obtain ⟨ad, rfl, hb1, hc1⟩ := h.at_ hlt
      obtain ⟨ad', rfl, hb2, hc2⟩ := h'.at_ hlt
      have e1 : wr.cell? (ad.add k) = some (.int .i64 (zs.getD k 0)) := (hb.cell (by rw [block_of_add]; exact hb1)).trans hc1
      have e2 : wr.cell? (ad'.add k) = some (.int .i64 (zs.getD k 0)) := (hb.cell (by rw [block_of_add]; exact hb2)).trans hc2
      clear hc1 hc2
      generalize zs.getD k 0 = x at e1 e2
      have hlt0 : (0 : Int) ≤ (k : Int) := by omega
      have hlt1 : (k : Int) < (n' : Int) := by omega
      go_wp2
      go_quiet (fail)
      go_wp2
      go_roundw
      case rel => exact ⟨k + 1, by omega, by go_num, below_drewN hb _⟩
      case measure => simp [intOf]; omega
    · go_wp2
      go_ret
      exact ⟨rfl, hb⟩

def FolPost (w : World) (r : List Int × Int × Int) (e : Ending) (w' : World) : Prop :=
  ∃ A n c, e = .returned (.tuple #[.slice A n c, .int .i64 r.2.1, .int .i64 r.2.2]) ∧ Ints w' w'.heap.size A n r.1 ∧ Below w.heap.size w w'

structure FolRel (vars : Int) (w : World) (asm : List Int) (k : Nat) (tr : List Int) (v : Value) (wr : World) : Prop where
  bel : Below w.heap.size w wr
  own : Own wr w.heap.size v tr
  cons : Cons tr
  go : assumeGo vars tr (asm.drop k) = assumeGo vars [] asm

set_option maxRecDepth 100000 in
set_option maxHeartbeats 4000000 in
theorem refFollows_any (vars : Int) (A Aa : Option Addr) (n c na ca : Nat) (ls : List (List Int)) (asm : List Int) (w : World) (h : Cls w w.heap.size A n ls) (ha : Ints w w.heap.size Aa na asm) (hok : okRows ls) (hv0 : 0 ≤ vars) (hv1 : vars ≤ 24) :
    Calls Tryd.prog 19 #[.int .i64 vars, .slice A n c, .slice Aa na ca] w (FolPost w (followF vars ls asm)) := by
  have hna := ha.le
  have hlen := Lib.hid ha.len
  have HOK := hide hok
  have HC := hide h
  clear hok h
  go_enter Tryd.func19, Tryd.ntmps19
  go_wp2
  go_loopw [9, 11, 15] (fun s9 _ i wr => ∃ (k : Nat) (tr : List Int), k ≤ na ∧ i = .int .i64 k ∧ Hid (FolRel vars w asm k tr s9 wr)) (fun _ _ i _ => na - (intOf i).toNat)
  case atStart => exact ⟨0, [], Nat.zero_le _, rfl, hide ⟨Below.refl _ _, Own.nil _ _, Cons.nil, rfl⟩⟩
  case round =>
    obtain ⟨k, tr, hk, rfl, hR⟩ := hrel
    obtain ⟨At, ct, rfl, hcap⟩ := hR.out.own.form
    have hT := hR.out.own.ints
    have htl := hR.out.cons.len
    by_cases hlt : k < na
    · obtain ⟨ad, rfl, hb1, hc1⟩ := ha.at_ hlt
      have e1 : wr.cell? (ad.add k) = some (.int .i64 (asm.getD k 0)) := (hR.out.bel.cell (by rw [block_of_add]; exact hb1)).trans hc1
      have hkl := Lib.hid (show k < asm.length by rw [hlen.out]; exact hlt)
      have HD := Lib.hid (getD_cons_drop asm k 0 hkl.out)
      clear hc1
      generalize asm.getD k 0 = x at e1 HD
      have HW := hide (within_any x (-vars) vars)
      have H1 := hide (has_any (-x) At tr.length ct tr wr hT)
      have H2 := hide (has_any x At tr.length ct tr wr hT)
      clear hT
      rcases hbad : badB vars x with _ | _
      · obtain ⟨b0, b1, b2⟩ := badB_not hbad
        have hxo := badB_lit hbad hv1
        have hx0 : (x == 0) = false := beq_eq_false_iff_ne.2 b0
        rw [show withinB x (-vars) vars = true by unfold withinB; exact decide_eq_true ⟨b2, b1⟩] at HW
        by_cases h1 : -x ∈ tr
        · rw [decide_eq_true h1] at H1
          have HF := Lib.hid (followF_none (ls := ls) (show assumeGo vars [] asm = none by rw [← hR.out.go, HD.out, assumeGo, if_pos (.inr h1)]))
          clear h1 hxo b0
          go_wp2_with (first | (go_at_call 40; refine (HW.out _).mono ?_; rintro e w' ⟨rfl, rfl⟩) | (go_at_call 44; refine (H1.out).mono ?_; rintro e w' ⟨rfl, rfl⟩))
          go_ret3
          rw [HF.out]
          exact ⟨none, 0, 0, rfl, Ints.nil _ _, hR.out.bel⟩
        · rw [decide_eq_false h1] at H1
          by_cases h2 : x ∈ tr
          · rw [decide_eq_true h2] at H2
            have HG := Lib.hid (show assumeGo vars tr (asm.drop (k + 1)) = assumeGo vars [] asm by rw [← hR.out.go, HD.out, assumeGo, if_neg (by rw [hbad]; simp [h1]), if_pos h2])
            clear h1 h2 hxo b0 hbad
            go_wp2_with fail
            refine (HW.out _).mono ?_
            rintro e w' ⟨rfl, rfl⟩
            go_wp2_with fail
            refine (H1.out).mono ?_
            rintro e w' ⟨rfl, rfl⟩
            go_wp2_with fail
            refine (H2.out).mono ?_
            rintro e w' ⟨rfl, rfl⟩
            go_wp2
            go_roundw
            case rel => exact ⟨k + 1, tr, by omega, by go_num, hide ⟨hR.out.bel, hR.out.own, hR.out.cons, HG.out⟩⟩
            case measure => simp [intOf]; omega
          · rw [decide_eq_false h2] at H2
            have HG := Lib.hid (show assumeGo vars (tr ++ [x]) (asm.drop (k + 1)) = assumeGo vars [] asm by rw [← hR.out.go, HD.out, assumeGo, if_neg (by rw [hbad]; simp [h1]), if_neg h2])
            have HCN := hide (hR.out.cons.snoc hxo h2 h1)
            have HXI := Lib.hid (show I64 x by unfold I64; omega)
            have HOA := hide (hR.out.own.alloc (.cells #[.int .i64 x] 3))
            have HCA := Lib.hid (show (wr.alloc (.cells #[.int .i64 x] 3)).cell? ⟨wr.heap.size, 0, none⟩ = some (.int .i64 x) by simp)
            have HBA := Lib.hid (show w.heap.size ≤ (wr.alloc (.cells #[.int .i64 x] 3)).heap.size by have := hR.out.bel.size; simp; omega)
            clear h1 h2 hxo b0 hbad
            go_wp2_with fail
            refine (HW.out _).mono ?_
            rintro e w' ⟨rfl, rfl⟩
            go_wp2_with fail
            refine (H1.out).mono ?_
            rintro e w' ⟨rfl, rfl⟩
            go_wp2_with fail
            refine (H2.out).mono ?_
            rintro e w' ⟨rfl, rfl⟩
            go_wp2_with (at_builtin; refine app1 _ rfl _ _ 34 rfl w.heap.size Tryd.underlying34 _ tr rfl HOA.out wr.heap.size 1 x rfl HCA.out HXI.out (by omega) HBA.out ?_; intro v' w1 ho1 hg1 hor; have HO1 := hide ho1; have HG1 := hide hg1; have HLT := hide (hR.out.own.lt); clear ho1 hg1 hor)
            go_roundw
            case rel => exact ⟨k + 1, tr ++ [x], by omega, by go_num, hide ⟨(hR.out.bel.alloc hR.out.bel.size _).grown HG1.out HBA.out (fun k hk => (HLT.out k hk).1), HO1.out, HCN.out, HG.out⟩⟩
            case measure => simp [intOf]; omega
      · have HF := Lib.hid (followF_none (ls := ls) (show assumeGo vars [] asm = none by rw [← hR.out.go, HD.out, assumeGo, if_pos (.inl hbad)]))
        have hbi := badB_is hbad
        clear hbad
        by_cases hx0 : x = 0
        · have hx1 : (x == 0) = true := beq_iff_eq.2 hx0
          clear hbi hx0
          go_wp2
          go_ret3
          rw [HF.out]
          exact ⟨none, 0, 0, rfl, Ints.nil _ _, hR.out.bel⟩
        · rw [show withinB x (-vars) vars = false by unfold withinB; exact decide_eq_false (by omega)] at HW
          have hx1 : (x == 0) = false := beq_eq_false_iff_ne.2 hx0
          clear hbi hx0
          go_wp2_with (go_at_call 40; refine (HW.out _).mono ?_; rintro e w' ⟨rfl, rfl⟩)
          go_ret3
          rw [HF.out]
          exact ⟨none, 0, 0, rfl, Ints.nil _ _, hR.out.bel⟩
    · have HF := Lib.hid (followF_some (ls := ls) (show assumeGo vars [] asm = some tr by rw [← hR.out.go, List.drop_eq_nil_of_le (by have := hlen.out; omega)]; rfl))
      have HS := hide (refSpread_any tr A At n c tr.length ct ls wr ((HC.out.below hR.out.bel).more hR.out.bel.size) hT hcap hR.out.cons HOK.out)
      clear hT
      go_wp2_with fail
      refine (HS.out).mono ?_
      rintro e w2 ⟨A2, n2, c2, rfl, hcap2, hi2, hcn2, hb2⟩
      have HI2 := hide hi2
      have HB2 := hide hb2
      clear hi2 hb2 hcn2
      go_wp2
      go_ret3
      rw [HF.out]
      exact ⟨A2, n2, c2, rfl, HI2.out, hR.out.bel.trans (HB2.out.mono hR.out.bel.size)⟩
end Go.Proofs.YtkkgdlfjblmbjaaDoor
