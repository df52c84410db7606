/-
  A part of the proof: PlanAny. Conditions: none.
-/
import Derived.Test.YtmncoldaemcnlaaGreatDoorOrCatAm
import Derived.Laws.Bits64b
namespace Go.Proofs.YtmncoldaemcnlaaGreatDoor
open Go.RowKit
set_option maxRecDepth 100000
theorem shr_bitP (v x : Nat) (hv : v < 18446744073709551616) : (bits BinOp.and IntKind.u64 ((v : Int) / 2 ^ x) 1 == 1) = v.testBit x := by
 have e : ((v : Int) / 2 ^ x) = ((v >>> x : Nat) : Int) := by rw [Nat.shiftRight_eq_div_pow]; norm_cast
 have hl : v >>> x < 18446744073709551616 := Nat.lt_of_le_of_lt (Nat.shiftRight_le v x) hv
 rw [e, show (1 : Int) = ((1 : Nat) : Int) from rfl, bits_and_u64_nat _ _ hl (by omega), Nat.testBit, Nat.and_comm]
 have h1 : 1 &&& v >>> x = 0 ∨ 1 &&& v >>> x = 1 := by rw [Nat.one_and_eq_mod_two]; omega
 rcases h1 with h1 | h1 <;> rw [h1] <;> rfl
def HasP (b : Bool) (w : World) (e : Ending) (w' : World) : Prop := e = .returned (.bool b) ∧ w' = w
theorem planHas_any (set i : Nat) (w : World) (hs : set < 18446744073709551616) (hi : i ≤ 64) : Calls Tryz.prog 54 #[.int .u64 (set : Int), .int .i64 (i : Int)] w (HasP (set.testBit i) w) := by
 have hm : min i 64 = i := Nat.min_eq_left hi
 have hb := shr_bitP set i hs
 go_enter Tryz.func54, Tryz.ntmps54
 go_wp2_with fail
 exact bodyPost_ret (v := .bool (set.testBit i)) (by simp [results, Tryz.results54, go_sem]) rfl ⟨rfl, rfl⟩
end Go.Proofs.YtmncoldaemcnlaaGreatDoor
namespace Go.Proofs.YtmncoldaemcnlaaGreatDoor
open Go.RowKit
set_option maxRecDepth 100000
theorem fits1_any (set i b : Nat) (w : World) (hs : set < 18446744073709551616) (hi : i ≤ 64) (hk : w.cell? ⟨b, 0, none⟩ = some (.int .u64 (set : Int))) : Calls Tryz.prog 56 #[.int .i64 (i : Int), .pointer (some ⟨b, 0, none⟩)] w (HasP (set.testBit i) w) := by
 have HH := hide (planHas_any set i w hs hi)
 go_enter Tryz.func56, Tryz.ntmps56
 go_wp2_with fail
 refine HH.out.mono ?_
 rintro e w1 ⟨rfl, rfl⟩
 go_wp2_with fail
 exact bodyPost_ret (v := .bool (set.testBit i)) (by simp [results, Tryz.results56, go_sem]) rfl ⟨rfl, rfl⟩
theorem fits2_any (set i b : Nat) (w : World) (hs : set < 18446744073709551616) (hi : i ≤ 64) (hk : w.cell? ⟨b, 0, none⟩ = some (.int .u64 (set : Int))) : Calls Tryz.prog 57 #[.int .i64 (i : Int), .pointer (some ⟨b, 0, none⟩)] w (HasP (set.testBit i) w) := by
 have HH := hide (planHas_any set i w hs hi)
 go_enter Tryz.func57, Tryz.ntmps57
 go_wp2_with fail
 refine HH.out.mono ?_
 rintro e w1 ⟨rfl, rfl⟩
 go_wp2_with fail
 exact bodyPost_ret (v := .bool (set.testBit i)) (by simp [results, Tryz.results57, go_sem]) rfl ⟨rfl, rfl⟩
end Go.Proofs.YtmncoldaemcnlaaGreatDoor
namespace Go.Proofs.YtmncoldaemcnlaaGreatDoor
open Go.RowKit
set_option maxRecDepth 100000
def IdxBP (set : Nat) (zs : List Int) (w : World) (e : Ending) (w' : World) : Prop := ∃ r : Int, e = .returned (.int .i64 r) ∧ decide (0 ≤ r) = (zs.any fun z => set.testBit z.toNat) ∧ w' = w
theorem idxB1_any (v : Value) (zs : List Int) (set b : Nat) (w : World) (h : OwnI w 0 v zs) (hz : ∀ z ∈ zs, 0 ≤ z ∧ z ≤ 64) (hl : zs.length ≤ 1000000) (hs : set < 18446744073709551616) (hk : w.cell? ⟨b, 0, none⟩ = some (.int .u64 (set : Int))) :
  Calls Tryz.prog 97 #[v, .func (.func 56) #[] #[.pointer (some ⟨b, 0, none⟩)]] w (IdxBP set zs w) := by
 obtain ⟨A, c, rfl⟩ := h.len
 have HO := hide h
 have HZ := Lib.hid hz
 have HF := Lib.hid (fun (i : Nat) (hi : i ≤ 64) => fits1_any set i b w hs hi hk)
 clear h hz hk hs
 go_enter Tryz.func97, Tryz.ntmps97
 go_wp2_with fail
 go_loopw [8] (fun iv wr => ∃ i : Nat, i ≤ zs.length ∧ iv = .int .i64 i ∧ wr = w ∧ Hid ((zs.drop i).any (fun z => set.testBit z.toNat) = zs.any fun z => set.testBit z.toNat)) (fun iv _ => zs.length - (intOf iv).toNat)
 case atStart => exact ⟨0, Nat.zero_le _, rfl, rfl, Lib.hid rfl⟩
 case round =>
  obtain ⟨i, hi, rfl, hw, HP⟩ := hrel
  subst hw
  by_cases hlt : i < zs.length
  ·have hltz : (i : Int) < (zs.length : Int) := by omega
   obtain ⟨g, cap, cur, e9, _, hk9, _, hc9⟩ := HO.out.form (by omega)
   injection e9 with e1 e2 e3
   subst e1
   have hp := HP.out
   rw [List.drop_eq_getElem_cons hlt, List.any_cons] at hp
   have hzi := HZ.out _ (List.getElem_mem hlt)
   have y0 := (hk9.cell i).trans (hc9 i hlt)
   rw [List.getD_eq_getElem?_getD, List.getElem?_eq_getElem hlt, Option.getD_some] at y0
   obtain ⟨k, hkz⟩ : ∃ k : Nat, zs[i] = (k : Int) := ⟨zs[i].toNat, by omega⟩
   rw [hkz] at y0 hp hzi
   have HFK := hide (HF.out k (by omega))
   rw [show ((k : Int)).toNat = k from rfl] at hp
   clear hk9 hc9 hkz e2 e3
   cases hb : set.testBit k with
   | true =>
    rw [hb] at HFK
    have HR := Lib.hid (show (zs.any fun z => set.testBit z.toNat) = true by rw [← hp, hb]; rfl)
    clear hp hb
    go_wp2_with fail
    refine HFK.out.mono ?_
    rintro e w1 ⟨rfl, rfl⟩
    go_wp2_with fail
    exact bodyPost_ret (v := .int .i64 (i : Int)) (by simp [results, Tryz.results97, go_sem]) rfl ⟨_, rfl, by rw [HR.out]; simp, rfl⟩
   | false =>
    rw [hb] at HFK
    have HN := Lib.hid (show (zs.drop (i + 1)).any (fun z => set.testBit z.toNat) = zs.any fun z => set.testBit z.toNat by rw [← hp, hb]; rfl)
    clear hp hb
    go_wp2_with fail
    refine HFK.out.mono ?_
    rintro e w1 ⟨rfl, rfl⟩
    go_wp2_with fail
    go_round
    case rel => exact ⟨i + 1, by omega, by go_num, by trivial, HN⟩
    case measure => simp [intOf]; omega
  ·have hltz : ¬ (i : Int) < (zs.length : Int) := by omega
   have hp := HP.out
   rw [List.drop_eq_nil_of_le (by omega)] at hp
   have HR := Lib.hid hp.symm
   clear hp
   go_wp2_with fail
   exact bodyPost_ret (v := .int .i64 (-1)) (by simp [results, Tryz.results97, go_sem]) rfl ⟨_, rfl, by rw [HR.out]; simp, rfl⟩
theorem hasB1_any (v : Value) (zs : List Int) (set b : Nat) (w : World) (h : OwnI w 0 v zs) (hz : ∀ z ∈ zs, 0 ≤ z ∧ z ≤ 64) (hl : zs.length ≤ 1000000) (hs : set < 18446744073709551616) (hk : w.cell? ⟨b, 0, none⟩ = some (.int .u64 (set : Int))) :
  Calls Tryz.prog 55 #[v, .func (.func 56) #[] #[.pointer (some ⟨b, 0, none⟩)]] w (HasP (zs.any fun z => set.testBit z.toNat) w) := by
 obtain ⟨A, c, rfl⟩ := h.len
 have HI := hide (idxB1_any _ zs set b w h hz hl hs hk)
 clear h hz hk hs
 go_enter Tryz.func55, Tryz.ntmps55
 go_wp2_with fail
 refine HI.out.mono ?_
 rintro e w1 ⟨r, rfl, hr, rfl⟩
 have HR := Lib.hid hr
 clear hr
 by_cases h0 : 0 ≤ r
 ·go_wp2_with fail
  exact bodyPost_ret (v := .bool true) (by simp [results, Tryz.results55, go_sem]) rfl ⟨by rw [← HR.out, decide_eq_true h0], rfl⟩
 ·have HN0 := Lib.hid h0
  go_wp2_with fail
  exact bodyPost_ret (v := .bool false) (by simp [results, Tryz.results55, go_sem]; exact HN0.out) rfl ⟨by rw [← HR.out, decide_eq_false (Int.not_le.2 HN0.out)], rfl⟩
theorem idxB2_any (v : Value) (zs : List Int) (set b : Nat) (w : World) (h : OwnI w 0 v zs) (hz : ∀ z ∈ zs, 0 ≤ z ∧ z ≤ 64) (hl : zs.length ≤ 1000000) (hs : set < 18446744073709551616) (hk : w.cell? ⟨b, 0, none⟩ = some (.int .u64 (set : Int))) :
  Calls Tryz.prog 97 #[v, .func (.func 57) #[] #[.pointer (some ⟨b, 0, none⟩)]] w (IdxBP set zs w) := by
 obtain ⟨A, c, rfl⟩ := h.len
 have HO := hide h
 have HZ := Lib.hid hz
 have HF := Lib.hid (fun (i : Nat) (hi : i ≤ 64) => fits2_any set i b w hs hi hk)
 clear h hz hk hs
 go_enter Tryz.func97, Tryz.ntmps97
 go_wp2_with fail
 go_loopw [8] (fun iv wr => ∃ i : Nat, i ≤ zs.length ∧ iv = .int .i64 i ∧ wr = w ∧ Hid ((zs.drop i).any (fun z => set.testBit z.toNat) = zs.any fun z => set.testBit z.toNat)) (fun iv _ => zs.length - (intOf iv).toNat)
 case atStart => exact ⟨0, Nat.zero_le _, rfl, rfl, Lib.hid rfl⟩
 case round =>
  obtain ⟨i, hi, rfl, hw, HP⟩ := hrel
  subst hw
  by_cases hlt : i < zs.length
  ·have hltz : (i : Int) < (zs.length : Int) := by omega
   obtain ⟨g, cap, cur, e9, _, hk9, _, hc9⟩ := HO.out.form (by omega)
   injection e9 with e1 e2 e3
   subst e1
   have hp := HP.out
   rw [List.drop_eq_getElem_cons hlt, List.any_cons] at hp
   have hzi := HZ.out _ (List.getElem_mem hlt)
   have y0 := (hk9.cell i).trans (hc9 i hlt)
   rw [List.getD_eq_getElem?_getD, List.getElem?_eq_getElem hlt, Option.getD_some] at y0
   obtain ⟨k, hkz⟩ : ∃ k : Nat, zs[i] = (k : Int) := ⟨zs[i].toNat, by omega⟩
   rw [hkz] at y0 hp hzi
   have HFK := hide (HF.out k (by omega))
   rw [show ((k : Int)).toNat = k from rfl] at hp
   clear hk9 hc9 hkz e2 e3
   cases hb : set.testBit k with
   | true =>
    rw [hb] at HFK
    have HR := Lib.hid (show (zs.any fun z => set.testBit z.toNat) = true by rw [← hp, hb]; rfl)
    clear hp hb
    go_wp2_with fail
    refine HFK.out.mono ?_
    rintro e w1 ⟨rfl, rfl⟩
    go_wp2_with fail
    exact bodyPost_ret (v := .int .i64 (i : Int)) (by simp [results, Tryz.results97, go_sem]) rfl ⟨_, rfl, by rw [HR.out]; simp, rfl⟩
   | false =>
    rw [hb] at HFK
    have HN := Lib.hid (show (zs.drop (i + 1)).any (fun z => set.testBit z.toNat) = zs.any fun z => set.testBit z.toNat by rw [← hp, hb]; rfl)
    clear hp hb
    go_wp2_with fail
    refine HFK.out.mono ?_
    rintro e w1 ⟨rfl, rfl⟩
    go_wp2_with fail
    go_round
    case rel => exact ⟨i + 1, by omega, by go_num, by trivial, HN⟩
    case measure => simp [intOf]; omega
  ·have hltz : ¬ (i : Int) < (zs.length : Int) := by omega
   have hp := HP.out
   rw [List.drop_eq_nil_of_le (by omega)] at hp
   have HR := Lib.hid hp.symm
   clear hp
   go_wp2_with fail
   exact bodyPost_ret (v := .int .i64 (-1)) (by simp [results, Tryz.results97, go_sem]) rfl ⟨_, rfl, by rw [HR.out]; simp, rfl⟩
theorem hasB2_any (v : Value) (zs : List Int) (set b : Nat) (w : World) (h : OwnI w 0 v zs) (hz : ∀ z ∈ zs, 0 ≤ z ∧ z ≤ 64) (hl : zs.length ≤ 1000000) (hs : set < 18446744073709551616) (hk : w.cell? ⟨b, 0, none⟩ = some (.int .u64 (set : Int))) :
  Calls Tryz.prog 55 #[v, .func (.func 57) #[] #[.pointer (some ⟨b, 0, none⟩)]] w (HasP (zs.any fun z => set.testBit z.toNat) w) := by
 obtain ⟨A, c, rfl⟩ := h.len
 have HI := hide (idxB2_any _ zs set b w h hz hl hs hk)
 clear h hz hk hs
 go_enter Tryz.func55, Tryz.ntmps55
 go_wp2_with fail
 refine HI.out.mono ?_
 rintro e w1 ⟨r, rfl, hr, rfl⟩
 have HR := Lib.hid hr
 clear hr
 by_cases h0 : 0 ≤ r
 ·go_wp2_with fail
  exact bodyPost_ret (v := .bool true) (by simp [results, Tryz.results55, go_sem]) rfl ⟨by rw [← HR.out, decide_eq_true h0], rfl⟩
 ·have HN0 := Lib.hid h0
  go_wp2_with fail
  exact bodyPost_ret (v := .bool false) (by simp [results, Tryz.results55, go_sem]; exact HN0.out) rfl ⟨by rw [← HR.out, decide_eq_false (Int.not_le.2 HN0.out)], rfl⟩
end Go.Proofs.YtmncoldaemcnlaaGreatDoor
