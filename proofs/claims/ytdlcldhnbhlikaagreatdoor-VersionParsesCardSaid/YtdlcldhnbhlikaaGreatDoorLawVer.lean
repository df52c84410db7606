/-
  The law VersionParses, walked.
-/
import Derived.Test.YtdlcldhnbhlikaaGreatDoorVerD
import Derived.ChangeKeysEq
namespace Go.Proofs.YtdlcldhnbhlikaaGreatDoor
open Go.RowKit

theorem info_int : (Tryz.prog.info? 3).isSome = true := by kernel_rfl
theorem cells_int : Tryz.prog.cellsOf 3 = 1 := by kernel_rfl
theorem eql_ver (x y z : Int) (w : World) : (binOp .eql 62 (.agg #[.int .i64 x, .int .i64 y, .int .i64 z]) (.agg #[.int .i64 x, .int .i64 y, .int .i64 z])).run Tryz.prog w = .ok (.bool true) w := by
  obtain ⟨i, hi⟩ := Option.isSome_iff_exists.1 info_int
  have hp : ∀ (xs : Array Value) (j : Nat) (n : Int), xs[j]? = some (.int .i64 n) → (part 3 xs j).run Tryz.prog w = .ok (.int .i64 n) w := fun xs j n h => by simp [part, isAgg, run_underlying Tryz.underlying3, h]
  have he : ∀ (a b : Int), (Op.equalIn 9999 3 (.int .i64 a) (.int .i64 b)).run Tryz.prog w = .ok (a == b) w := fun a b => run_equalIn_int w 9998 3 .i64 .i64 a b Tryz.underlying3
  rw [run_eql_struct, run_equalIn_array w 9999 _ _ Tryz.underlying62 hi, cells_int, show List.range 3 = [0, 1, 2] from rfl]
  simp [Op.eqItems, hp _ 0 x, hp _ 1 y, hp _ 2 z, he]
set_option maxRecDepth 100000 in
set_option maxHeartbeats 8000000 in
theorem lawVer_walk (s : ByteArray) (a b : Nat → Int) (w : World) (hG : GlobV w) (ha : ∀ j, j < 3 → I64 (a j)) (_hb : ∀ j, j < 3 → I64 (b j)) (hs : s.size ≤ 9223372036854775807) :
    Calls Tryz.prog 5 #[.string s, .agg (verArr a), .agg (verArr b)] w (AtPost w true) := by
  have hal := (Below.refl w.heap.size w).alloc (Nat.le_refl _) (.cells #[.int .i64 (a 0), .int .i64 (a 1), .int .i64 (a 2)] 61)
  have hal2 := hal.alloc hal.size (.cells #[.int .i64 (b 0), .int .i64 (b 1), .int .i64 (b 2)] 61)
  have HB := hide hal2
  have hk4 := (Blk.new w 61 #[.int .i64 (a 0), .int .i64 (a 1), .int .i64 (a 2)]).alloc (.cells #[.int .i64 (b 0), .int .i64 (b 1), .int .i64 (b 2)] 61)
  have hk5 := Blk.new (w.alloc (.cells #[.int .i64 (a 0), .int .i64 (a 1), .int .i64 (a 2)] 61)) 61 #[.int .i64 (b 0), .int .i64 (b 1), .int .i64 (b 2)]
  rw [show (w.alloc (.cells #[.int .i64 (a 0), .int .i64 (a 1), .int .i64 (a 2)] 61)).heap.size = w.heap.size + 1 by simp] at hk5
  have HK4 := hide hk4
  have HK5 := hide hk5
  have HG := hide hG
  clear hal hal2 hk4 hk5 hG
  by_cases hl : 200 < s.size
  · have hlI : (200 : Int) < (s.size : Int) := by omega
    go_enter Tryz.func5, Tryz.ntmps5
    unfold verArr
    go_wp2
    go_ret
    exact ⟨rfl, HB.out⟩
  have hlI : ¬ (200 : Int) < (s.size : Int) := by omega
  have HRV := Lib.hid (fun (w' : World) (h : GlobV w') => refVerParse_any s w' h (by omega))
  have HPV := Lib.hid (fun (w' : World) (h : GlobV w') => verParse_any s w' h (by omega))
  unfold RefVerP verArr at HRV
  unfold VerP verArr at HPV
  go_enter Tryz.func5, Tryz.ntmps5
  unfold verArr
  go_wp2_with fail
  generalize ((w.alloc (.cells #[.int .i64 (a 0), .int .i64 (a 1), .int .i64 (a 2)] 61)).alloc (.cells #[.int .i64 (b 0), .int .i64 (b 1), .int .i64 (b 2)] 61)) = w1 at HB HK4 HK5 ⊢
  generalize hgA : w.heap.size = gA at HK4 HK5 ⊢
  clear hgA
  refine (HRV.out w1 (HG.out.below HB.out)).mono ?_
  rintro e w2 ⟨rfl, hb2⟩
  have HB2 := hide (HB.out.trans (hb2.mono HB.out.size))
  have HK42 := hide (HK4.out.below hb2 HK4.out.lt)
  have HK52 := hide (HK5.out.below hb2 HK5.out.lt)
  clear hb2 HB HK4 HK5 HRV
  have hal := (Below.refl w2.heap.size w2).alloc (Nat.le_refl _) (.cells #[.int .i64 (verV s 0), .int .i64 (verV s 1), .int .i64 (verV s 2)] 62)
  have HB3 := hide (HB2.out.trans (hal.mono HB2.out.size))
  have HK43 := hide (HK42.out.below hal HK42.out.lt)
  have HK53 := hide (HK52.out.below hal HK52.out.lt)
  have HK73 := hide (Blk.new w2 62 #[.int .i64 (verV s 0), .int .i64 (verV s 1), .int .i64 (verV s 2)])
  clear hal HB2 HK42 HK52
  go_wp2_with fail
  generalize (w2.alloc (.cells #[.int .i64 (verV s 0), .int .i64 (verV s 1), .int .i64 (verV s 2)] 62)) = w3 at HB3 HK43 HK53 HK73 ⊢
  generalize w2.heap.size = g7 at HK73 ⊢
  refine (HPV.out w3 (HG.out.below HB3.out)).mono ?_
  rintro e w4 ⟨ev, rfl, hev, hb4⟩
  have hal := (Below.refl w4.heap.size w4).alloc (Nat.le_refl _) (.cells #[.int .i64 (verV s 0), .int .i64 (verV s 1), .int .i64 (verV s 2)] 61)
  have HB5 := hide (HB3.out.trans ((hb4.trans (hal.mono hb4.size)).mono HB3.out.size))
  have HK45 := hide ((HK43.out.below hb4 HK43.out.lt).below hal (Nat.lt_of_lt_of_le HK43.out.lt hb4.size))
  have HK55 := hide ((HK53.out.below hb4 HK53.out.lt).below hal (Nat.lt_of_lt_of_le HK53.out.lt hb4.size))
  have HK75 := hide ((HK73.out.below hb4 HK73.out.lt).below hal (Nat.lt_of_lt_of_le HK73.out.lt hb4.size))
  have HK95 := hide (Blk.new w4 61 #[.int .i64 (verV s 0), .int .i64 (verV s 1), .int .i64 (verV s 2)])
  have HEV := hide (hev.below hal)
  clear hal hb4 hev HB3 HK43 HK53 HK73 HPV
  go_wp2_with fail
  generalize (w4.alloc (.cells #[.int .i64 (verV s 0), .int .i64 (verV s 1), .int .i64 (verV s 2)] 61)) = w5 at HB5 HK45 HK55 HK75 HK95 HEV ⊢
  generalize w4.heap.size = g9 at HK95 ⊢
  have HG5 := hide (HG.out.below HB5.out)
  have HBR := Lib.hid (fun (w' : World) (hb : Below w5.heap.size w5 w') => (bareB_any ev (verE s) w' (HG5.out.below hb).e (HEV.out.below hb)).mono fun e w2 hp => show e = .returned (.bool true) ∧ Below w'.heap.size w' w2 from hp)
  have HCM := Lib.hid (fun (w' : World) => verCmp_any a b w')
  have HRC := Lib.hid (fun (w' : World) => refVerCmp_any a b w')
  have HTX := Lib.hid (fun (w' : World) (h : GlobV w') => verText_any a w' h ha)
  have HRT := Lib.hid (fun (w' : World) (h : GlobV w') => refVerText_any a w' h ha)
  unfold CmpB verArr at HCM HRC
  unfold VerTxP verArr at HTX HRT
  generalize cmpV a b = C at HCM HRC
  generalize verS a = q at HTX HRT
  clear ha HEV hl hlI hs HG
  generalize a 0 = a0 at HCM HRC HTX HRT HK45 ⊢
  generalize a 1 = a1 at HCM HRC HTX HRT HK45 ⊢
  generalize a 2 = a2 at HCM HRC HTX HRT HK45 ⊢
  generalize b 0 = b0 at HCM HRC HK55 ⊢
  generalize b 1 = b1 at HCM HRC HK55 ⊢
  generalize b 2 = b2 at HCM HRC HK55 ⊢
  generalize verV s 0 = p0 at HK75 HK95 ⊢
  generalize verV s 1 = p1 at HK75 HK95 ⊢
  generalize verV s 2 = p2 at HK75 HK95 ⊢
  generalize verE s = E at HBR ⊢
  have heq := eql_ver p0 p1 p2
  have HKP := Lib.hid (fun (w' : World) (hb : Below w5.heap.size w5 w') => show w'.cell? ⟨gA, 0, none⟩ = some (.int .i64 a0) ∧ w'.cell? ⟨gA, 1, none⟩ = some (.int .i64 a1) ∧ w'.cell? ⟨gA, 2, none⟩ = some (.int .i64 a2) ∧ w'.cell? ⟨gA + 1, 0, none⟩ = some (.int .i64 b0) ∧ w'.cell? ⟨gA + 1, 1, none⟩ = some (.int .i64 b1) ∧ w'.cell? ⟨gA + 1, 2, none⟩ = some (.int .i64 b2) ∧ w'.cell? ⟨g7, 0, none⟩ = some (.int .i64 p0) ∧ w'.cell? ⟨g7, 1, none⟩ = some (.int .i64 p1) ∧ w'.cell? ⟨g7, 2, none⟩ = some (.int .i64 p2) ∧ w'.cell? ⟨g9, 0, none⟩ = some (.int .i64 p0) ∧ w'.cell? ⟨g9, 1, none⟩ = some (.int .i64 p1) ∧ w'.cell? ⟨g9, 2, none⟩ = some (.int .i64 p2) from
    ⟨(HK45.out.below hb HK45.out.lt).cell 0, (HK45.out.below hb HK45.out.lt).cell 1, (HK45.out.below hb HK45.out.lt).cell 2, (HK55.out.below hb HK55.out.lt).cell 0, (HK55.out.below hb HK55.out.lt).cell 1, (HK55.out.below hb HK55.out.lt).cell 2, (HK75.out.below hb HK75.out.lt).cell 0, (HK75.out.below hb HK75.out.lt).cell 1, (HK75.out.below hb HK75.out.lt).cell 2, (HK95.out.below hb HK95.out.lt).cell 0, (HK95.out.below hb HK95.out.lt).cell 1, (HK95.out.below hb HK95.out.lt).cell 2⟩)
  obtain ⟨c0, c1, c2, c3, c4, c5, c6, c7, c8, c9, c10, c11⟩ := HKP.out w5 (Below.refl _ _)
  go_region_held3 (fun w' => w'.cell? ⟨gA, 0, none⟩ = some (.int .i64 a0) ∧ w'.cell? ⟨gA, 1, none⟩ = some (.int .i64 a1) ∧ w'.cell? ⟨gA, 2, none⟩ = some (.int .i64 a2) ∧ w'.cell? ⟨gA + 1, 0, none⟩ = some (.int .i64 b0) ∧ w'.cell? ⟨gA + 1, 1, none⟩ = some (.int .i64 b1) ∧ w'.cell? ⟨gA + 1, 2, none⟩ = some (.int .i64 b2) ∧ w'.cell? ⟨g7, 0, none⟩ = some (.int .i64 p0) ∧ w'.cell? ⟨g7, 1, none⟩ = some (.int .i64 p1) ∧ w'.cell? ⟨g7, 2, none⟩ = some (.int .i64 p2) ∧ w'.cell? ⟨g9, 0, none⟩ = some (.int .i64 p0) ∧ w'.cell? ⟨g9, 1, none⟩ = some (.int .i64 p1) ∧ w'.cell? ⟨g9, 2, none⟩ = some (.int .i64 p2))
    (first | assumption | exact ⟨c0, c1, c2, c3, c4, c5, c6, c7, c8, c9, c10, c11⟩ | (refine HKP.out _ ?_; (repeat (first | exact Below.refl _ _ | exact (Below.refl _ _).drew | exact hbq | refine verDr ?_)); done))
    (first
      | (go_at_call 10; (refine (HBR.out _ ?_).mono ?_; (focus ((repeat (first | exact Below.refl _ _ | exact (Below.refl _ _).drew | exact hbq | refine verDr ?_)); done))); rintro e wa ⟨rfl, hq⟩; (refine (fun (hbq : Below w5.heap.size w5 wa) => ?_) ?_; rotate_left; (focus (refine verThen ?_ hq; (repeat (first | exact Below.refl _ _ | exact (Below.refl _ _).drew | exact hbq | refine verDr ?_)); done))); clear hq)
      | (go_at_call 21; refine (HCM.out _).mono ?_; rintro e wa ⟨rfl, hq⟩; (refine (fun (hbq : Below w5.heap.size w5 wa) => ?_) ?_; rotate_left; (focus (refine verThen ?_ hq; (repeat (first | exact Below.refl _ _ | exact (Below.refl _ _).drew | exact hbq | refine verDr ?_)); done))); clear hq)
      | (go_at_call 22; refine (HRC.out _).mono ?_; rintro e wa ⟨rfl, hq⟩; (refine (fun (hbq : Below w5.heap.size w5 wa) => ?_) ?_; rotate_left; (focus (refine verThen ?_ hq; (repeat (first | exact Below.refl _ _ | exact (Below.refl _ _).drew | exact hbq | refine verDr ?_)); done))); clear hq)
      | (go_at_call 23; (refine (HTX.out _ (HG5.out.below ?_)).mono ?_; (focus ((repeat (first | exact Below.refl _ _ | exact (Below.refl _ _).drew | exact hbq | refine verDr ?_)); done))); rintro e wa ⟨rfl, hq⟩; (refine (fun (hbq : Below w5.heap.size w5 wa) => ?_) ?_; rotate_left; (focus (refine verThen ?_ hq; (repeat (first | exact Below.refl _ _ | exact (Below.refl _ _).drew | exact hbq | refine verDr ?_)); done))); clear hq)
      | (go_at_call 24; (refine (HRT.out _ (HG5.out.below ?_)).mono ?_; (focus ((repeat (first | exact Below.refl _ _ | exact (Below.refl _ _).drew | exact hbq | refine verDr ?_)); done))); rintro e wa ⟨rfl, hq⟩; (refine (fun (hbq : Below w5.heap.size w5 wa) => ?_) ?_; rotate_left; (focus (refine verThen ?_ hq; (repeat (first | exact Below.refl _ _ | exact (Below.refl _ _).drew | exact hbq | refine verDr ?_)); done))); clear hq))
  all_goals
    go_wp2
    go_ret
    exact ⟨ret_bool (by simp), HB5.out.trans (hbq.mono HB5.out.size)⟩
end Go.Proofs.YtdlcldhnbhlikaaGreatDoor