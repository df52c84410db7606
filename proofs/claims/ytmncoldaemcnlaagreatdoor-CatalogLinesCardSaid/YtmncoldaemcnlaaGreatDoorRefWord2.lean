/-
  The document's RangeWord. The document's RangeWord, of any text.
-/
import Derived.Test.YtmncoldaemcnlaaGreatDoorRefOps
import Derived.Test.YtmncoldaemcnlaaGreatDoorSpWord2
import Derived.Test.YtmncoldaemcnlaaGreatDoorRgTrim
namespace Go.Proofs.YtmncoldaemcnlaaGreatDoor
open Go.RowKit
set_option maxRecDepth 100000

theorem contains_op : (fun c => opsB.contains c) = isOp := by
  funext c
  simp [opsB, isOp, Bool.or_assoc]
  rfl
theorem info116 : (Tryz.prog.info? (Tryz.lays161_ren.t 116)).map (fun i => (i.zero, i.size)) = some (some (.agg (Array.replicate 256 (.bool false))), 256) := by kernel_rfl
def TrimP (s : ByteArray) (w : World) (e : Ending) (w' : World) : Prop := e = .returned (.string (baL (restL s.data.toList))) ∧ Below w.heap.size w w'
theorem trim_any (s : ByteArray) (w : World) : Calls Tryz.prog 124 #[.string s, .string ⟨#[61, 33, 60, 62, 94, 126]⟩] w (TrimP s w) := by
  have h := Any.strings_TrimLeft_laid Tryz.lays161 info116 s ⟨#[61, 33, 60, 62, 94, 126]⟩ w (by decide) (by
    intro j b hb
    have hm := List.mem_of_getElem? hb
    simp at hm
    rcases hm with rfl | rfl | rfl | rfl | rfl | rfl <;> decide)
  have e : Lib.trimLeftS s.data.toList [61, 33, 60, 62, 94, 126] = restL s.data.toList := by
    unfold Lib.trimLeftS restL
    rw [← contains_op]
    rfl
  rw [show (ByteArray.mk #[61, 33, 60, 62, 94, 126]).data.toList = [61, 33, 60, 62, 94, 126] from rfl, e] at h
  exact h
def RefWordP (s : ByteArray) (w : World) (e : Ending) (w' : World) : Prop :=
  ∃ v, e = .returned (.tuple #[v, .int .i64 (wordE s.data.toList)]) ∧ (wordE s.data.toList = 0 → OwnI w' w.heap.size v (flatI (wordC s.data.toList))) ∧ Below w.heap.size w w'
set_option maxHeartbeats 4000000 in
theorem refWord_walk (s : ByteArray) (w : World) (hG : GlobV w) (hs : s.size ≤ 1000) (h1 : s.data.toList ≠ anyW) (h2 : s.data.toList ≠ noneW) : Calls Tryz.prog 89 #[.string s] w (RefWordP s w) := by
  have e1 : (s.toList == [97, 110, 121]) = false := by rw [ByteArray.toList_eq]; exact beq_eq_false_iff_ne.2 h1
  have e2 : (s.toList == [110, 111, 110, 101]) = false := by rw [ByteArray.toList_eq]; exact beq_eq_false_iff_ne.2 h2
  have HWE := Lib.hid (show wordE s.data.toList = if verE (baL (restL s.data.toList)) ≠ 0 then verE (baL (restL s.data.toList)) else if opK (opL s.data.toList) = 0 then 3 else 0 by unfold wordE; rw [if_neg (fun h => h.elim h1 h2)])
  have HWC := Lib.hid (show wordC s.data.toList = opC (opK (opL s.data.toList)) (verV (baL (restL s.data.toList))) by unfold wordC; rw [if_neg h1, if_neg h2])
  have hlen : (opL s.data.toList).length + (baL (restL s.data.toList)).size = s.size := by
    rw [baL_size, ← List.length_append, op_rest]
    rfl
  have hq : s.extract 0 (opL s.data.toList).length = baL (opL s.data.toList) := by
    rw [sub_to]
    congr 1
    conv => lhs; arg 2; rw [← op_rest s.data.toList]
    simp
  have hrs : (baL (restL s.data.toList)).size ≤ 21000 := by omega
  have hsub : (s.size : Int) - ((baL (restL s.data.toList)).size : Int) = ((opL s.data.toList).length : Int) := by omega
  have hsz : (opL s.data.toList).length ≤ s.size := by omega
  have HT := hide (trim_any s w)
  unfold TrimP at HT
  generalize baL (restL s.data.toList) = r at HWE HWC hrs hsub HT
  generalize opL s.data.toList = o at HWE HWC hq hsub hsz
  clear hlen
  generalize hk : o.length = k at hq hsub hsz
  have hkz : (k : Int) ≤ (s.size : Int) := by omega
  go_enter Tryz.func89, Tryz.ntmps89
  go_wp2_with fail
  refine HT.out.mono ?_
  rintro e wa ⟨rfl, hba⟩
  have HBA := hide hba
  go_wp2_with fail
  refine (refVerParse_any r wa (hG.below hba) hrs).mono ?_
  clear hba HT e1 e2
  rintro e wb ⟨rfl, hbb⟩
  unfold verArr
  have HBB := hide (HBA.out.trans (hbb.mono HBA.out.size))
  clear hbb
  by_cases hv : verE r = 0
  · have hle := verV_le hv
    rw [hv] at HWE
    rw [hv]
    have HNU := hide fun W => refNum_any (verV r) W (fun j hj => by have := hle j hj; omega)
    have HTI := hide fun W => refNum_any (fun3 (verV r 0) (verV r 1 + 1) 0) W (fun3_ok (by have := hle 0 (by omega); omega) (by have := hle 1 (by omega); omega) (by omega))
    have et : numV3 (fun3 (verV r 0) (verV r 1 + 1) 0) = tildeN (verV r) := by
      have h0 := hle 0 (by omega)
      have h1 := hle 1 (by omega)
      show (verV r 0).toNat * 1000000 + (verV r 1 + 1).toNat * 1000 + (0 : Int).toNat = (verV r 0).toNat * 1000000 + ((verV r 1).toNat + 1) * 1000
      omega
    rw [et] at HTI
    unfold verArr at HNU HTI
    simp only [fun3, if_true, if_neg (show ¬ (1 : Nat) = 0 by omega), if_neg (show ¬ (2 : Nat) = 0 by omega), if_neg (show ¬ (2 : Nat) = 1 by omega)] at HTI
    have HBV := hide (HBB.out.alloc HBB.out.size (.cells #[.int .i64 (verV r 0), .int .i64 (verV r 1), .int .i64 (verV r 2)] 23))
    have HVV := hide (Blk.new wb 23 #[.int .i64 (verV r 0), .int .i64 (verV r 1), .int .i64 (verV r 2)])
    generalize verV r = f at hle HWC HNU HTI et HBV HVV ⊢
    have h0' := hle 0 (by omega)
    have h1' := hle 1 (by omega)
    have h2' := hle 2 (by omega)
    have hN : numV3 f ≤ 999999999 := by
      unfold numV3
      omega
    generalize hNN : numV3 f = N at HNU hN
    have hN0 : (N : Int) ≤ 999999999 := by omega
    rcases op_cases o with rfl | rfl | rfl | rfl | rfl | rfl | rfl | rfl | rfl | ⟨q0, q1, q2, q3, q4, q5, q6, q7, q8⟩
    · have hq2 : s.extract 0 k = ⟨#[]⟩ := hq
      clear hq
      have HLL := Lib.hid (show opC (opK []) f = rowC (N) (N + 1) from by rw [← hNN]; rfl)
      go_wp2_with fail
      refine (HNU.out _).mono ?_
      generalize (wb.alloc (.cells #[.int .i64 (f 0), .int .i64 (f 1), .int .i64 (f 2)] 23)) = wc at HBV HVV ⊢
      generalize wb.heap.size = vb at HVV ⊢
      rintro e wd ⟨rfl, hbd⟩
      have HV2 := hide (HVV.out.below hbd HVV.out.lt)
      have HB2 := hide (HBV.out.trans (hbd.mono HBV.out.size))
      clear HBV HVV hbd
      have hrow := row_any (N) (N + 1) wd
      rw [Int.natCast_add] at hrow
      skip
      go_wp2_with fail
      refine hrow.mono ?_
      rintro e w8 ⟨v8, rfl, ho8, hb8⟩
      rw [← HLL.out, ← HWC.out] at ho8
      go_wp2_with fail
      go_ret2
      exact ⟨_, by rw [HWE.out]; rfl, fun _ => ho8.mono HB2.out.size, HB2.out.trans (hb8.mono HB2.out.size)⟩
    · have hq2 : s.extract 0 k = ⟨#[61]⟩ := hq
      clear hq
      have HLL := Lib.hid (show opC (opK [61]) f = rowC (N) (N + 1) from by rw [← hNN]; rfl)
      go_wp2_with fail
      refine (HNU.out _).mono ?_
      generalize (wb.alloc (.cells #[.int .i64 (f 0), .int .i64 (f 1), .int .i64 (f 2)] 23)) = wc at HBV HVV ⊢
      generalize wb.heap.size = vb at HVV ⊢
      rintro e wd ⟨rfl, hbd⟩
      have HV2 := hide (HVV.out.below hbd HVV.out.lt)
      have HB2 := hide (HBV.out.trans (hbd.mono HBV.out.size))
      clear HBV HVV hbd
      have hrow := row_any (N) (N + 1) wd
      rw [Int.natCast_add] at hrow
      skip
      go_wp2_with fail
      refine hrow.mono ?_
      rintro e w8 ⟨v8, rfl, ho8, hb8⟩
      rw [← HLL.out, ← HWC.out] at ho8
      go_wp2_with fail
      go_ret2
      exact ⟨_, by rw [HWE.out]; rfl, fun _ => ho8.mono HB2.out.size, HB2.out.trans (hb8.mono HB2.out.size)⟩
    · have hq2 : s.extract 0 k = ⟨#[33]⟩ := hq
      clear hq
      have HLL := Lib.hid (show opC (opK [33]) f = notC (rowC (N) (N + 1)) from by rw [← hNN]; rfl)
      go_wp2_with fail
      refine (HNU.out _).mono ?_
      generalize (wb.alloc (.cells #[.int .i64 (f 0), .int .i64 (f 1), .int .i64 (f 2)] 23)) = wc at HBV HVV ⊢
      generalize wb.heap.size = vb at HVV ⊢
      rintro e wd ⟨rfl, hbd⟩
      have HV2 := hide (HVV.out.below hbd HVV.out.lt)
      have HB2 := hide (HBV.out.trans (hbd.mono HBV.out.size))
      clear HBV HVV hbd
      have hrow := row_any N (N + 1) wd
      rw [Int.natCast_add] at hrow
      go_wp2_with fail
      refine hrow.mono ?_
      rintro e w7 ⟨v7, rfl, ho7, hb7⟩
      go_wp2_with fail
      refine (refNot_any v7 _ w7 (ho7.mono (Nat.zero_le _)) (row_can (f := N) (t := N + 1) (by unfold endR; omega))).mono ?_
      rintro e w8 ⟨v8, rfl, ho8, hb8⟩
      have HB3 := hide (HB2.out.trans (hb7.mono HB2.out.size))
      rw [← HLL.out, ← HWC.out] at ho8
      go_wp2_with fail
      go_ret2
      exact ⟨_, by rw [HWE.out]; rfl, fun _ => ho8.mono HB3.out.size, HB3.out.trans (hb8.mono HB3.out.size)⟩
    · have hq2 : s.extract 0 k = ⟨#[60]⟩ := hq
      clear hq
      have HLL := Lib.hid (show opC (opK [60]) f = rowC (0) (N) from by rw [← hNN]; rfl)
      go_wp2_with fail
      refine (HNU.out _).mono ?_
      generalize (wb.alloc (.cells #[.int .i64 (f 0), .int .i64 (f 1), .int .i64 (f 2)] 23)) = wc at HBV HVV ⊢
      generalize wb.heap.size = vb at HVV ⊢
      rintro e wd ⟨rfl, hbd⟩
      have HV2 := hide (HVV.out.below hbd HVV.out.lt)
      have HB2 := hide (HBV.out.trans (hbd.mono HBV.out.size))
      clear HBV HVV hbd
      have hrow := row_any (0) (N) wd
      skip
      skip
      go_wp2_with fail
      refine hrow.mono ?_
      rintro e w8 ⟨v8, rfl, ho8, hb8⟩
      rw [← HLL.out, ← HWC.out] at ho8
      go_wp2_with fail
      go_ret2
      exact ⟨_, by rw [HWE.out]; rfl, fun _ => ho8.mono HB2.out.size, HB2.out.trans (hb8.mono HB2.out.size)⟩
    · have hq2 : s.extract 0 k = ⟨#[60, 61]⟩ := hq
      clear hq
      have HLL := Lib.hid (show opC (opK [60, 61]) f = rowC (0) (N + 1) from by rw [← hNN]; rfl)
      go_wp2_with fail
      refine (HNU.out _).mono ?_
      generalize (wb.alloc (.cells #[.int .i64 (f 0), .int .i64 (f 1), .int .i64 (f 2)] 23)) = wc at HBV HVV ⊢
      generalize wb.heap.size = vb at HVV ⊢
      rintro e wd ⟨rfl, hbd⟩
      have HV2 := hide (HVV.out.below hbd HVV.out.lt)
      have HB2 := hide (HBV.out.trans (hbd.mono HBV.out.size))
      clear HBV HVV hbd
      have hrow := row_any (0) (N + 1) wd
      rw [Int.natCast_add] at hrow
      skip
      go_wp2_with fail
      refine hrow.mono ?_
      rintro e w8 ⟨v8, rfl, ho8, hb8⟩
      rw [← HLL.out, ← HWC.out] at ho8
      go_wp2_with fail
      go_ret2
      exact ⟨_, by rw [HWE.out]; rfl, fun _ => ho8.mono HB2.out.size, HB2.out.trans (hb8.mono HB2.out.size)⟩
    · have hq2 : s.extract 0 k = ⟨#[62]⟩ := hq
      clear hq
      have HLL := Lib.hid (show opC (opK [62]) f = rowC (N + 1) (endR) from by rw [← hNN]; rfl)
      go_wp2_with fail
      refine (HNU.out _).mono ?_
      generalize (wb.alloc (.cells #[.int .i64 (f 0), .int .i64 (f 1), .int .i64 (f 2)] 23)) = wc at HBV HVV ⊢
      generalize wb.heap.size = vb at HVV ⊢
      rintro e wd ⟨rfl, hbd⟩
      have HV2 := hide (HVV.out.below hbd HVV.out.lt)
      have HB2 := hide (HBV.out.trans (hbd.mono HBV.out.size))
      clear HBV HVV hbd
      have hrow := row_any (N + 1) (endR) wd
      rw [Int.natCast_add] at hrow
      rw [show ((endR : Nat) : Int) = 1000000000 from rfl] at hrow
      go_wp2_with fail
      refine hrow.mono ?_
      rintro e w8 ⟨v8, rfl, ho8, hb8⟩
      rw [← HLL.out, ← HWC.out] at ho8
      go_wp2_with fail
      go_ret2
      exact ⟨_, by rw [HWE.out]; rfl, fun _ => ho8.mono HB2.out.size, HB2.out.trans (hb8.mono HB2.out.size)⟩
    · have hq2 : s.extract 0 k = ⟨#[62, 61]⟩ := hq
      clear hq
      have HLL := Lib.hid (show opC (opK [62, 61]) f = rowC (N) (endR) from by rw [← hNN]; rfl)
      go_wp2_with fail
      refine (HNU.out _).mono ?_
      generalize (wb.alloc (.cells #[.int .i64 (f 0), .int .i64 (f 1), .int .i64 (f 2)] 23)) = wc at HBV HVV ⊢
      generalize wb.heap.size = vb at HVV ⊢
      rintro e wd ⟨rfl, hbd⟩
      have HV2 := hide (HVV.out.below hbd HVV.out.lt)
      have HB2 := hide (HBV.out.trans (hbd.mono HBV.out.size))
      clear HBV HVV hbd
      have hrow := row_any (N) (endR) wd
      skip
      rw [show ((endR : Nat) : Int) = 1000000000 from rfl] at hrow
      go_wp2_with fail
      refine hrow.mono ?_
      rintro e w8 ⟨v8, rfl, ho8, hb8⟩
      rw [← HLL.out, ← HWC.out] at ho8
      go_wp2_with fail
      go_ret2
      exact ⟨_, by rw [HWE.out]; rfl, fun _ => ho8.mono HB2.out.size, HB2.out.trans (hb8.mono HB2.out.size)⟩
    · have hq2 : s.extract 0 k = ⟨#[94]⟩ := hq
      clear hq
      have HLL := Lib.hid (show opC (opK [94]) f = rowC (N) (caretN f) from by rw [← hNN]; rfl)
      go_wp2_with fail
      refine (HNU.out _).mono ?_
      generalize (wb.alloc (.cells #[.int .i64 (f 0), .int .i64 (f 1), .int .i64 (f 2)] 23)) = wc at HBV HVV ⊢
      generalize wb.heap.size = vb at HVV ⊢
      rintro e wd ⟨rfl, hbd⟩
      have HV2 := hide (HVV.out.below hbd HVV.out.lt)
      have HB2 := hide (HBV.out.trans (hbd.mono HBV.out.size))
      clear HBV HVV hbd
      have y0 := HV2.out.cell 0
      have y1 := HV2.out.cell 1
      have y2 := HV2.out.cell 2
      have z0 : ∀ o, (wd.alloc o).cell? ⟨vb, 0, none⟩ = some (.int .i64 (f 0)) := fun o => (HV2.out.alloc o).cell 0
      have z1 : ∀ o, (wd.alloc o).cell? ⟨vb, 1, none⟩ = some (.int .i64 (f 1)) := fun o => (HV2.out.alloc o).cell 1
      have z2 : ∀ o, (wd.alloc o).cell? ⟨vb, 2, none⟩ = some (.int .i64 (f 2)) := fun o => (HV2.out.alloc o).cell 2
      by_cases ha : 0 < f 0
      · by_cases hb : 0 < f 1
        · have HCX := hide fun W => refNum_any (fun3 (f 0 + 1) 0 0) W (fun3_ok (by omega) (by omega) (by omega))
          have ec : numV3 (fun3 (f 0 + 1) 0 0) = caretN f := by
            show (f 0 + 1).toNat * 1000000 + (0 : Int).toNat * 1000 + (0 : Int).toNat = caretN f
            unfold caretN
            rw [if_pos ha]
            omega
          rw [ec] at HCX
          unfold verArr at HCX
          simp only [fun3, if_true, if_neg (show ¬ (1 : Nat) = 0 by omega), if_neg (show ¬ (2 : Nat) = 0 by omega), if_neg (show ¬ (2 : Nat) = 1 by omega)] at HCX
          go_wp2_with fail
          refine (HCX.out _).mono ?_
          rintro e we ⟨rfl, hbe⟩
          have HB3 := hide ((HB2.out.alloc HB2.out.size _).trans (hbe.mono (by have := HB2.out.size; simp; omega)))
          clear hbe HB2
          go_wp2_with fail
          refine (row_any N (caretN f) _).mono ?_
          rintro e w8 ⟨v8, rfl, ho8, hb8⟩
          rw [← HLL.out, ← HWC.out] at ho8
          go_wp2_with fail
          go_ret2
          exact ⟨_, by rw [HWE.out]; rfl, fun _ => ho8.mono HB3.out.size, HB3.out.trans (hb8.mono HB3.out.size)⟩
        · have HCX := hide fun W => refNum_any (fun3 (f 0 + 1) 0 0) W (fun3_ok (by omega) (by omega) (by omega))
          have ec : numV3 (fun3 (f 0 + 1) 0 0) = caretN f := by
            show (f 0 + 1).toNat * 1000000 + (0 : Int).toNat * 1000 + (0 : Int).toNat = caretN f
            unfold caretN
            rw [if_pos ha]
            omega
          rw [ec] at HCX
          unfold verArr at HCX
          simp only [fun3, if_true, if_neg (show ¬ (1 : Nat) = 0 by omega), if_neg (show ¬ (2 : Nat) = 0 by omega), if_neg (show ¬ (2 : Nat) = 1 by omega)] at HCX
          go_wp2_with fail
          refine (HCX.out _).mono ?_
          rintro e we ⟨rfl, hbe⟩
          have HB3 := hide ((HB2.out.alloc HB2.out.size _).trans (hbe.mono (by have := HB2.out.size; simp; omega)))
          clear hbe HB2
          go_wp2_with fail
          refine (row_any N (caretN f) _).mono ?_
          rintro e w8 ⟨v8, rfl, ho8, hb8⟩
          rw [← HLL.out, ← HWC.out] at ho8
          go_wp2_with fail
          go_ret2
          exact ⟨_, by rw [HWE.out]; rfl, fun _ => ho8.mono HB3.out.size, HB3.out.trans (hb8.mono HB3.out.size)⟩
      · by_cases hb : 0 < f 1
        · have HCX := hide fun W => refNum_any (fun3 (f 0) (f 1 + 1) 0) W (fun3_ok (by omega) (by omega) (by omega))
          have ec : numV3 (fun3 (f 0) (f 1 + 1) 0) = caretN f := by
            show (f 0).toNat * 1000000 + (f 1 + 1).toNat * 1000 + (0 : Int).toNat = caretN f
            unfold caretN
            rw [if_neg ha, if_pos hb]
            omega
          rw [ec] at HCX
          unfold verArr at HCX
          simp only [fun3, if_true, if_neg (show ¬ (1 : Nat) = 0 by omega), if_neg (show ¬ (2 : Nat) = 0 by omega), if_neg (show ¬ (2 : Nat) = 1 by omega)] at HCX
          go_wp2_with fail
          refine (HCX.out _).mono ?_
          rintro e we ⟨rfl, hbe⟩
          have HB3 := hide ((HB2.out.alloc HB2.out.size _).trans (hbe.mono (by have := HB2.out.size; simp; omega)))
          clear hbe HB2
          go_wp2_with fail
          refine (row_any N (caretN f) _).mono ?_
          rintro e w8 ⟨v8, rfl, ho8, hb8⟩
          rw [← HLL.out, ← HWC.out] at ho8
          go_wp2_with fail
          go_ret2
          exact ⟨_, by rw [HWE.out]; rfl, fun _ => ho8.mono HB3.out.size, HB3.out.trans (hb8.mono HB3.out.size)⟩
        · have HCX := hide fun W => refNum_any (fun3 (f 0) (f 1) (f 2 + 1)) W (fun3_ok (by omega) (by omega) (by omega))
          have ec : numV3 (fun3 (f 0) (f 1) (f 2 + 1)) = caretN f := by
            show (f 0).toNat * 1000000 + (f 1).toNat * 1000 + (f 2 + 1).toNat = caretN f
            unfold caretN
            rw [if_neg ha, if_neg hb]
            omega
          rw [ec] at HCX
          unfold verArr at HCX
          simp only [fun3, if_true, if_neg (show ¬ (1 : Nat) = 0 by omega), if_neg (show ¬ (2 : Nat) = 0 by omega), if_neg (show ¬ (2 : Nat) = 1 by omega)] at HCX
          go_wp2_with fail
          refine (HCX.out _).mono ?_
          rintro e we ⟨rfl, hbe⟩
          have HB3 := hide ((HB2.out.alloc HB2.out.size _).trans (hbe.mono (by have := HB2.out.size; simp; omega)))
          clear hbe HB2
          go_wp2_with fail
          refine (row_any N (caretN f) _).mono ?_
          rintro e w8 ⟨v8, rfl, ho8, hb8⟩
          rw [← HLL.out, ← HWC.out] at ho8
          go_wp2_with fail
          go_ret2
          exact ⟨_, by rw [HWE.out]; rfl, fun _ => ho8.mono HB3.out.size, HB3.out.trans (hb8.mono HB3.out.size)⟩
    · have hq2 : s.extract 0 k = ⟨#[126]⟩ := hq
      clear hq
      have HLL := Lib.hid (show opC (opK [126]) f = rowC (N) (tildeN f) from by rw [← hNN]; rfl)
      go_wp2_with fail
      refine (HNU.out _).mono ?_
      generalize (wb.alloc (.cells #[.int .i64 (f 0), .int .i64 (f 1), .int .i64 (f 2)] 23)) = wc at HBV HVV ⊢
      generalize wb.heap.size = vb at HVV ⊢
      rintro e wd ⟨rfl, hbd⟩
      have HV2 := hide (HVV.out.below hbd HVV.out.lt)
      have HB2 := hide (HBV.out.trans (hbd.mono HBV.out.size))
      clear HBV HVV hbd
      have y0 := HV2.out.cell 0
      have y1 := HV2.out.cell 1
      go_wp2_with fail
      refine (HTI.out _).mono ?_
      rintro e we ⟨rfl, hbe⟩
      have HB3 := hide (HB2.out.trans (hbe.mono HB2.out.size))
      clear y0 y1 hbe HB2 HV2
      go_wp2_with fail
      refine (row_any N (tildeN f) _).mono ?_
      rintro e w8 ⟨v8, rfl, ho8, hb8⟩
      rw [← HLL.out, ← HWC.out] at ho8
      go_wp2_with fail
      go_ret2
      exact ⟨_, by rw [HWE.out]; rfl, fun _ => ho8.mono HB3.out.size, HB3.out.trans (hb8.mono HB3.out.size)⟩
    · have hTL : (baL o).toList = o := baL_list o
      have b0 : (baL o).toList.isEmpty = false := by rw [hTL]; cases o with | nil => exact absurd rfl q0 | cons x r => rfl
      have b1 : ((baL o).toList == [61]) = false := by rw [hTL]; exact beq_eq_false_iff_ne.2 q1
      have b2 : ((baL o).toList == [33]) = false := by rw [hTL]; exact beq_eq_false_iff_ne.2 q2
      have b3 : ((baL o).toList == [60]) = false := by rw [hTL]; exact beq_eq_false_iff_ne.2 q3
      have b4 : ((baL o).toList == [60, 61]) = false := by rw [hTL]; exact beq_eq_false_iff_ne.2 q4
      have b5 : ((baL o).toList == [62]) = false := by rw [hTL]; exact beq_eq_false_iff_ne.2 q5
      have b6 : ((baL o).toList == [62, 61]) = false := by rw [hTL]; exact beq_eq_false_iff_ne.2 q6
      have b7 : ((baL o).toList == [94]) = false := by rw [hTL]; exact beq_eq_false_iff_ne.2 q7
      have b8 : ((baL o).toList == [126]) = false := by rw [hTL]; exact beq_eq_false_iff_ne.2 q8
      clear hTL
      have hk0 : opK o = 0 := by unfold opK; rw [if_neg (by simp [q0, q1]), if_neg q2, if_neg q3, if_neg q4, if_neg q5, if_neg q6, if_neg q8, if_neg q7]
      have hW3 : wordE s.data.toList = 3 := by rw [HWE.out, hk0]; rfl
      go_wp2_with fail
      refine (HNU.out _).mono ?_
      generalize (wb.alloc (.cells #[.int .i64 (f 0), .int .i64 (f 1), .int .i64 (f 2)] 23)) = wc at HBV HVV ⊢
      generalize wb.heap.size = vb at HVV ⊢
      rintro e wd ⟨rfl, hbd⟩
      have HV2 := hide (HVV.out.below hbd HVV.out.lt)
      have HB2 := hide (HBV.out.trans (hbd.mono HBV.out.size))
      clear HBV HVV hbd
      go_wp2_with fail
      go_ret2
      exact ⟨_, by rw [hW3]; rfl, fun h => absurd (hW3.symm.trans h) (by decide), HB2.out⟩
  · have hne : wordE s.data.toList = verE r := by rw [HWE.out, if_pos hv]
    have HBV := hide (HBB.out.alloc HBB.out.size (.cells #[.int .i64 (verV r 0), .int .i64 (verV r 1), .int .i64 (verV r 2)] 23))
    have hvb : (verE r == 0) = false := beq_eq_false_iff_ne.2 hv
    generalize verE r = E at hv hne hvb ⊢
    generalize verV r = f at HBV ⊢
    go_wp2_with fail
    go_ret2
    exact ⟨_, by rw [hne]; rfl, fun h => absurd (hne.symm.trans h) hv, HBV.out⟩
end Go.Proofs.YtmncoldaemcnlaaGreatDoor
namespace Go.Proofs.YtmncoldaemcnlaaGreatDoor
open Go.RowKit

theorem refWord_known (w : World) : Calls Tryz.prog 89 #[.string ⟨#[97, 110, 121]⟩] w (RefWordP ⟨#[97, 110, 121]⟩ w) := by
  have hE : wordE (ByteArray.mk #[97, 110, 121]).data.toList = 0 := by unfold wordE; rw [if_pos (.inl rfl)]
  have hC0 : wordC anyW = rowC 0 endR := by unfold wordC; rw [if_pos rfl]; rfl
  have hC : wordC (ByteArray.mk #[97, 110, 121]).data.toList = rowC 0 endR := hC0
  have hrow := row_any 0 endR w
  rw [show ((endR : Nat) : Int) = 1000000000 from rfl, show ((0 : Nat) : Int) = 0 from rfl] at hrow
  unfold RefWordP
  rw [hE, hC]
  go_enter Tryz.func89, Tryz.ntmps89
  go_wp2_with (go_at_call 88; refine hrow.mono ?_; rintro e w9 ⟨v, rfl, ho, hb9⟩)
  go_ret2
  first | exact ⟨_, rfl, fun _ => ho, hb9⟩ | exact ⟨_, rfl, ho, hb9⟩
theorem refWord_none (w : World) : Calls Tryz.prog 89 #[.string ⟨#[110, 111, 110, 101]⟩] w (RefWordP ⟨#[110, 111, 110, 101]⟩ w) := by
  have hE : wordE (ByteArray.mk #[110, 111, 110, 101]).data.toList = 0 := by unfold wordE; rw [if_pos (.inr rfl)]
  have hC0 : wordC noneW = [] := by unfold wordC; rw [if_neg (by decide), if_pos rfl]
  have hC : wordC (ByteArray.mk #[110, 111, 110, 101]).data.toList = [] := hC0
  unfold RefWordP
  rw [hE, hC]
  go_enter Tryz.func89, Tryz.ntmps89
  go_wp2_with fail
  go_ret2
  first | exact ⟨_, rfl, fun _ => ownI_nil _ _, Below.refl _ _⟩ | exact ⟨_, rfl, ownI_nil _ _, Below.refl _ _⟩
theorem refWord_any (s : ByteArray) (w : World) (hG : GlobV w) (hs : s.size ≤ 1000) : Calls Tryz.prog 89 #[.string s] w (RefWordP s w) := by
  by_cases h1 : s.data.toList = anyW
  · have e : s = ⟨#[97, 110, 121]⟩ := (bytes_back anyW s h1.symm).symm
    rw [e]
    exact refWord_known w
  · by_cases h2 : s.data.toList = noneW
    · have e : s = ⟨#[110, 111, 110, 101]⟩ := (bytes_back noneW s h2.symm).symm
      rw [e]
      exact refWord_none w
    · exact refWord_walk s w hG hs h1 h2
end Go.Proofs.YtmncoldaemcnlaaGreatDoor
