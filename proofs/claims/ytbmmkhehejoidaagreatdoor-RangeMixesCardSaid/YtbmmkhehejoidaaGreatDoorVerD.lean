/-
  Versions held against each other, and their texts, walked.
-/
import Derived.Test.YtbmmkhehejoidaaGreatDoorVerC
import Derived.Deep.RegionHeld3
namespace Go.Proofs.YtbmmkhehejoidaaGreatDoor
open Go.RowKit

def cmp1 (x y : Int) : Int := if x < y then -1 else if y < x then 1 else 0
theorem cmpOne_any (x y : Int) (w : World) : Calls Tryz.prog 63 #[.int .i64 x, .int .i64 y] w (fun e w' => e = .returned (.int .i64 (cmp1 x y)) ∧ w' = w) := by
  rcases (show x < y ∨ x = y ∨ y < x by omega) with h | h | h
  · go_enter Tryz.func63, Tryz.ntmps63
    go_wp2
    go_ret
    exact ⟨by unfold cmp1; rw [if_pos h]; rfl, rfl⟩
  · subst h
    go_enter Tryz.func63, Tryz.ntmps63
    go_wp2
    go_ret
    exact ⟨by unfold cmp1; rw [if_neg (by omega), if_neg (by omega)]; rfl, rfl⟩
  · have h2 : ¬ x < y := by omega
    go_enter Tryz.func63, Tryz.ntmps63
    go_wp2
    go_ret
    exact ⟨by unfold cmp1; rw [if_neg (by omega), if_pos h]; rfl, rfl⟩
/-- Older, the same, newer: part by part. -/
def cmpV (a b : Nat → Int) : Int := if cmp1 (a 0) (b 0) ≠ 0 then cmp1 (a 0) (b 0) else if cmp1 (a 1) (b 1) ≠ 0 then cmp1 (a 1) (b 1) else cmp1 (a 2) (b 2)
def sameTo (a b : Nat → Int) (i : Nat) : Prop := ∀ j, j < i → cmp1 (a j) (b j) = 0
theorem cmpV_at {a b : Nat → Int} {i : Nat} (hi : i < 3) (h : sameTo a b i) (hne : cmp1 (a i) (b i) ≠ 0) : cmpV a b = cmp1 (a i) (b i) := by
  unfold cmpV
  rcases (show i = 0 ∨ i = 1 ∨ i = 2 by omega) with rfl | rfl | rfl
  · rw [if_pos hne]
  · rw [if_neg (fun e => e (h 0 (by omega))), if_pos hne]
  · rw [if_neg (fun e => e (h 0 (by omega))), if_neg (fun e => e (h 1 (by omega)))]
theorem cmpV_same {a b : Nat → Int} (h : sameTo a b 3) : cmpV a b = 0 := by
  unfold cmpV
  rw [if_neg (fun e => e (h 0 (by omega))), if_neg (fun e => e (h 1 (by omega))), h 2 (by omega)]
theorem sameTo_succ {a b : Nat → Int} {i : Nat} (h : sameTo a b i) (he : cmp1 (a i) (b i) = 0) : sameTo a b (i + 1) := fun j hj => by
  rcases Nat.lt_or_ge j i with e | e
  · exact h j e
  · obtain rfl : j = i := by omega
    exact he
theorem cmp1_cases (x y : Int) : (x < y ∧ cmp1 x y = -1) ∨ (y < x ∧ ¬ x < y ∧ cmp1 x y = 1) ∨ (x = y ∧ cmp1 x y = 0) := by
  unfold cmp1
  rcases (show x < y ∨ x = y ∨ y < x by omega) with h | h | h
  · exact .inl ⟨h, if_pos h⟩
  · exact .inr (.inr ⟨h, by rw [if_neg (by omega), if_neg (by omega)]⟩)
  · exact .inr (.inl ⟨h, by omega, by rw [if_neg (by omega), if_pos h]⟩)
theorem arr_cell {w : World} {g : Nat} {t : TypeId} {f : Nat → Int} (h : Blk w g t (verArr f)) {i : Nat} (hi : i < 3) : w.cell? ⟨g, i, none⟩ = some (.int .i64 (f i)) := by
  rcases (show i = 0 ∨ i = 1 ∨ i = 2 by omega) with rfl | rfl | rfl
  · exact h.cell 0
  · exact h.cell 1
  · exact h.cell 2
def CmpP (a b : Nat → Int) (w : World) (e : Ending) (w' : World) : Prop := e = .returned (.int .i64 (cmpV a b)) ∧ ∃ q, w' = w.drewN q
theorem slice_ver (a : Addr) (w : World) : (Instr.sliceAt 42 (.pointer (some a)) none none none).run Tryz.prog w = .ok (.slice (some a) 3 3) w := by
  rw [run_sliceAt_array_all (P := Tryz.prog) w 42 a (by kernel_rfl), show Tryz.prog.arrayLen 42 = 3 by kernel_rfl, show ((sizeOf (Tryz.prog.elem 42)).run Tryz.prog w) = .ok 1 w by kernel_rfl]
  simp [slicedAt, Result.andThen, Addr.add]
theorem slice_refVer (a : Addr) (w : World) : (Instr.sliceAt 48 (.pointer (some a)) none none none).run Tryz.prog w = .ok (.slice (some a) 3 3) w := by
  rw [run_sliceAt_array_all (P := Tryz.prog) w 48 a (by kernel_rfl), show Tryz.prog.arrayLen 48 = 3 by kernel_rfl, show ((sizeOf (Tryz.prog.elem 48)).run Tryz.prog w) = .ok 1 w by kernel_rfl]
  simp [slicedAt, Result.andThen, Addr.add]
def CmpB (a b : Nat → Int) (w : World) (e : Ending) (w' : World) : Prop := e = .returned (.int .i64 (cmpV a b)) ∧ Below w.heap.size w w'
theorem verDr {u w : World} (h : Below u.heap.size u w) : Below u.heap.size u w.drew := h.drew
theorem verThen {u X Y : World} (h : Below u.heap.size u X) (k : Below X.heap.size X Y) : Below u.heap.size u Y := h.trans (k.mono h.size)
/-- A version's text. -/
def verS (f : Nat → Int) : ByteArray := ⟨(verL (f 0) (f 1) (f 2)).toArray⟩
def VerTxP (f : Nat → Int) (w : World) (e : Ending) (w' : World) : Prop := e = .returned (.string (verS f)) ∧ Below w.heap.size w w'
theorem itoa_size (n : Int) (h : I64 n) : (⟨(Lib.itoa n).toArray⟩ : ByteArray).size ≤ 21 := by
  have := Lib.itoa_length_le n h.1 h.2
  show (Lib.itoa n).toArray.size ≤ 21
  simpa using this
set_option maxRecDepth 100000 in
set_option maxHeartbeats 4000000 in
theorem verText_any (f : Nat → Int) (w : World) (hG : GlobV w) (hf : ∀ j, j < 3 → I64 (f j)) : Calls Tryz.prog 30 #[.agg (verArr f)] w (VerTxP f w) := by
  have ha := (Below.refl w.heap.size w).alloc (Nat.le_refl _) (.cells #[.int .i64 (f 0), .int .i64 (f 1), .int .i64 (f 2)] 42)
  have HB := hide ha
  have HG := hide (hG.below ha).t
  have HK := hide (Blk.new w 42 #[.int .i64 (f 0), .int .i64 (f 1), .int .i64 (f 2)])
  have HT : ∀ j, j < 3 → Hid (∀ w', GlobT w' → Calls Tryz.prog 54 #[.int .i64 (f j)] w' (TextP (f j) w')) := fun j hj => Lib.hid fun w' h => itoa_any (f j) w' h (hf j hj)
  have HT0 := HT 0 (by omega)
  have HT1 := HT 1 (by omega)
  have HT2 := HT 2 (by omega)
  have hs0 := itoa_size _ (hf 0 (by omega))
  have hs1 := itoa_size _ (hf 1 (by omega))
  have hs2 := itoa_size _ (hf 2 (by omega))
  have HV := Lib.hid (show verS f = ⟨(Lib.itoa (f 0)).toArray⟩ ++ ⟨#[46]⟩ ++ ⟨(Lib.itoa (f 1)).toArray⟩ ++ ⟨#[46]⟩ ++ ⟨(Lib.itoa (f 2)).toArray⟩ by
    apply ByteArray.ext
    simp [verS, verL])
  unfold TextP at HT0 HT1 HT2
  clear ha hG HT hf
  go_enter Tryz.func30, Tryz.ntmps30
  unfold verArr
  go_wp2
  generalize (w.alloc (.cells #[.int .i64 (f 0), .int .i64 (f 1), .int .i64 (f 2)] 42)) = w1 at HB HG HK ⊢
  generalize w.heap.size = g at HK ⊢
  generalize (⟨(Lib.itoa (f 0)).toArray⟩ : ByteArray) = s0 at HT0 HV hs0
  generalize (⟨(Lib.itoa (f 1)).toArray⟩ : ByteArray) = s1 at HT1 HV hs1
  generalize (⟨(Lib.itoa (f 2)).toArray⟩ : ByteArray) = s2 at HT2 HV hs2
  generalize f 0 = x0 at HT0 HK
  generalize f 1 = x1 at HT1 HK
  generalize f 2 = x2 at HT2 HK
  have adds : ∀ (a b : ByteArray), a.size + b.size ≤ 1000 → ∀ w : World, (Op.stringOp .add a b).run Tryz.prog w = .ok (.string (a ++ b)) w := fun a b h w => run_string_add_sum (P := Tryz.prog) w a b (by omega)
  have q1 := adds s0 ⟨#[46]⟩ (by show s0.size + 1 ≤ 1000; omega)
  have z1 : (s0 ++ ⟨#[46]⟩ : ByteArray).size ≤ 22 := by rw [ByteArray.size_append]; show s0.size + 1 ≤ 22; omega
  generalize (s0 ++ ⟨#[46]⟩ : ByteArray) = p1 at q1 z1 HV
  have q2 := adds p1 s1 (by omega)
  have z2 : (p1 ++ s1 : ByteArray).size ≤ 43 := by rw [ByteArray.size_append]; omega
  generalize (p1 ++ s1 : ByteArray) = p2 at q2 z2 HV
  have q3 := adds p2 ⟨#[46]⟩ (by show p2.size + 1 ≤ 1000; omega)
  have z3 : (p2 ++ ⟨#[46]⟩ : ByteArray).size ≤ 44 := by rw [ByteArray.size_append]; show p2.size + 1 ≤ 44; omega
  generalize (p2 ++ ⟨#[46]⟩ : ByteArray) = p3 at q3 z3 HV
  have q4 := adds p3 s2 (by omega)
  generalize (p3 ++ s2 : ByteArray) = p4 at q4 HV
  clear adds z1 z2 z3 hs0 hs1 hs2
  have HKP := Lib.hid (fun (w' : World) (hb : Below w1.heap.size w1 w') => show w'.cell? ⟨g, 0, none⟩ = some (.int .i64 x0) ∧ w'.cell? ⟨g, 1, none⟩ = some (.int .i64 x1) ∧ w'.cell? ⟨g, 2, none⟩ = some (.int .i64 x2) from
    ⟨(HK.out.below hb HK.out.lt).cell 0, (HK.out.below hb HK.out.lt).cell 1, (HK.out.below hb HK.out.lt).cell 2⟩)
  obtain ⟨c0, c1, c2⟩ := HKP.out w1 (Below.refl _ _)
  go_region_held3 (fun w' => w'.cell? ⟨g, 0, none⟩ = some (.int .i64 x0) ∧ w'.cell? ⟨g, 1, none⟩ = some (.int .i64 x1) ∧ w'.cell? ⟨g, 2, none⟩ = some (.int .i64 x2))
    (first | assumption | exact ⟨c0, c1, c2⟩ | (refine HKP.out _ ?_; (repeat (first | exact Below.refl _ _ | exact (Below.refl _ _).drew | exact hbq | refine verDr ?_)); done))
    (first
      | (go_at_call 54; refine (HT0.out _ (HG.out.below ?_)).mono ?_; (focus ((repeat (first | exact Below.refl _ _ | exact (Below.refl _ _).drew | exact hbq | refine verDr ?_)); done)); rintro e wa ⟨rfl, hq⟩; (refine (fun (hbq : Below w1.heap.size w1 wa) => ?_) ?_; rotate_left; (focus (refine verThen ?_ hq; (repeat (first | exact Below.refl _ _ | exact (Below.refl _ _).drew | exact hbq | refine verDr ?_)); done))); clear hq)
      | (go_at_call 54; refine (HT1.out _ (HG.out.below ?_)).mono ?_; (focus ((repeat (first | exact Below.refl _ _ | exact (Below.refl _ _).drew | exact hbq | refine verDr ?_)); done)); rintro e wa ⟨rfl, hq⟩; (refine (fun (hbq : Below w1.heap.size w1 wa) => ?_) ?_; rotate_left; (focus (refine verThen ?_ hq; (repeat (first | exact Below.refl _ _ | exact (Below.refl _ _).drew | exact hbq | refine verDr ?_)); done))); clear hq)
      | (go_at_call 54; refine (HT2.out _ (HG.out.below ?_)).mono ?_; (focus ((repeat (first | exact Below.refl _ _ | exact (Below.refl _ _).drew | exact hbq | refine verDr ?_)); done)); rintro e wa ⟨rfl, hq⟩; (refine (fun (hbq : Below w1.heap.size w1 wa) => ?_) ?_; rotate_left; (focus (refine verThen ?_ hq; (repeat (first | exact Below.refl _ _ | exact (Below.refl _ _).drew | exact hbq | refine verDr ?_)); done))); clear hq))
  all_goals
    go_wp2
    go_ret
    exact ⟨by rw [HV.out]; rfl, HB.out.trans (hbq.mono HB.out.size)⟩
theorem arr_ints {w : World} {g : Nat} {t : TypeId} {f : Nat → Int} (h : Blk w g t (verArr f)) (hf : ∀ j, j < 3 → I64 (f j)) : Ints w w.heap.size (some ⟨g, 0, none⟩) 3 [f 0, f 1, f 2] := by
  refine ⟨rfl, by simp [maxLen], fun z hz => ?_, rfl, fun _ => ⟨_, rfl, h.lt, fun j x hx => ?_⟩⟩
  · simp at hz
    rcases hz with rfl | rfl | rfl
    · exact hf 0 (by omega)
    · exact hf 1 (by omega)
    · exact hf 2 (by omega)
  · rw [add0 g j]
    match j, hx with
    | 0, hx => simp at hx; subst hx; exact h.cell 0
    | 1, hx => simp at hx; subst hx; exact h.cell 1
    | 2, hx => simp at hx; subst hx; exact h.cell 2
set_option maxHeartbeats 2000000 in
theorem refVerText_any (f : Nat → Int) (w : World) (hG : GlobV w) (hf : ∀ j, j < 3 → I64 (f j)) : Calls Tryz.prog 58 #[.agg (verArr f)] w (VerTxP f w) := by
  have ha := (Below.refl w.heap.size w).alloc (Nat.le_refl _) (.cells #[.int .i64 (f 0), .int .i64 (f 1), .int .i64 (f 2)] 48)
  have HB := hide ha
  have HG1 := hide (hG.below ha)
  have hk := Blk.new w 48 #[.int .i64 (f 0), .int .i64 (f 1), .int .i64 (f 2)]
  have HTD := hide (textW_any (some ⟨w.heap.size, 0, none⟩) 3 3 [f 0, f 1, f 2] _ (hG.below ha).t (arr_ints (f := f) hk hf) (by omega))
  have hlen := textF_len [f 0, f 1, f 2] (fun z hz => by
    simp at hz
    rcases hz with rfl | rfl | rfl
    · exact hf 0 (by omega)
    · exact hf 1 (by omega)
    · exact hf 2 (by omega))
  have hsz : (⟨(textF [f 0, f 1, f 2]).toArray⟩ : ByteArray).size ≤ 66 := by
    show (textF [f 0, f 1, f 2]).toArray.size ≤ 66
    simpa using hlen
  have hcn : Lib.countB (⟨(textF [f 0, f 1, f 2]).toArray⟩ : ByteArray) ⟨#[32]⟩ = 2 := count_three (f 0) (f 1) (f 2)
  have HRP := Lib.hid (fun (w' : World) (h : GlobV w') => show Calls Tryz.prog 85 #[.string ⟨(textF [f 0, f 1, f 2]).toArray⟩, .string ⟨#[32]⟩, .string ⟨#[46]⟩] w' (fun e w2 => e = .returned (.string (verS f)) ∧ Below w'.heap.size w' w2) from by
    obtain ⟨m, hm⟩ := h.mx
    refine (Tryz.strings_ReplaceAll ⟨(textF [f 0, f 1, f 2]).toArray⟩ ⟨#[32]⟩ ⟨#[46]⟩ m w' (by omega) hm (by decide) (by rw [hcn, show (⟨#[46]⟩ : ByteArray).size = 1 from rfl]; omega)).mono ?_
    rintro e w2 ⟨rfl, hb⟩
    refine ⟨?_, hb⟩
    rw [show (ByteArray.data ⟨(textF [f 0, f 1, f 2]).toArray⟩).toList = textF [f 0, f 1, f 2] by simp, show (ByteArray.data ⟨#[32]⟩).toList = [32] from rfl, show (ByteArray.data ⟨#[46]⟩).toList = [46] from rfl, verL_of]
    rfl)
  have hsl := slice_refVer
  unfold ToldPost at HTD
  generalize (⟨(textF [f 0, f 1, f 2]).toArray⟩ : ByteArray) = q at HTD HRP
  clear ha hG hk hlen hsz hcn hf
  go_enter Tryz.func58, Tryz.ntmps58
  unfold verArr
  go_wp2_with fail
  refine (HTD.out).mono ?_
  rintro e w2 ⟨rfl, hb2⟩
  have HB2 := hide (HB.out.trans (hb2.mono HB.out.size))
  have HR := hide (HRP.out _ (HG1.out.below hb2))
  clear hb2 HTD HRP
  go_wp2_with fail
  refine (HR.out).mono ?_
  rintro e w3 ⟨rfl, hb3⟩
  have HB3 := hide (HB2.out.trans (hb3.mono HB2.out.size))
  clear hb3
  go_wp2
  go_ret
  exact ⟨rfl, HB3.out⟩
end Go.Proofs.YtbmmkhehejoidaaGreatDoor
