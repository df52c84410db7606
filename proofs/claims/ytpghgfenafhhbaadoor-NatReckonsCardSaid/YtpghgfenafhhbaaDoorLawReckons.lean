/-
  The law NatReckons, walked.
-/
import Derived.Test.YtpghgfenafhhbaaDoorLawNat
import Derived.Test.YtpghgfenafhhbaaDoorLawParses
import Derived.Test.YtpghgfenafhhbaaDoorNatSub
import Derived.Test.YtpghgfenafhhbaaDoorNatDbl
import Derived.Test.YtpghgfenafhhbaaDoorBigG
namespace Go.Proofs.YtpghgfenafhhbaaDoor
open Go.RowKit

def topF : Nat := 414
theorem topF_is : topF = 414 := rfl
/-- A number of the law's size. -/
structure Fine (N : Nat) : Prop where
  lt : N < 10 ^ topF
theorem big_four : 10 ^ topF < 4294967296 ^ 1000 := by decide +kernel
theorem fine_big {N : Nat} (h : Fine N) : N < 4294967296 ^ 1000 := Nat.lt_of_lt_of_le h.lt (Nat.le_of_lt big_four)
theorem ten_mono {k m : Nat} (h : k ≤ m) : 10 ^ k ≤ 10 ^ m := Nat.pow_le_pow_right (by omega) h
theorem fine_of {N k : Nat} (h : N < 10 ^ k) (hk : k ≤ 414) : Fine N := ⟨Nat.lt_of_lt_of_le h (ten_mono (m := topF) hk)⟩
theorem fine_text {N t m : Nat} (h : N < 10 ^ m) (ht : 9 * t = m) : N < 10 ^ (9 * t) := by
  rw [ht]
  exact h
theorem Fine.less {N M : Nat} (h : Fine N) (hM : M ≤ N) : Fine M := ⟨Nat.lt_of_le_of_lt hM h.lt⟩
theorem fine_mul {N M a b : Nat} (h1 : N < 10 ^ a) (h2 : M < 10 ^ b) (h : a + b ≤ 414) : Fine (N * M) := by
  refine fine_of (k := a + b) ?_ h
  rw [Nat.pow_add]
  exact Nat.lt_of_le_of_lt (Nat.mul_le_mul_left _ (Nat.le_of_lt h2)) ((Nat.mul_lt_mul_right (Nat.pow_pos (by omega))).2 h1)
theorem two_thousand {K : Nat} (hK : K ≤ 1000) : 2 ^ K < 10 ^ 302 := Nat.lt_of_le_of_lt (Nat.pow_le_pow_right (by omega) hK) (by decide +kernel)
theorem fine_add {N M a : Nat} (h1 : N < 10 ^ a) (h2 : M < 10 ^ a) (h : a + 1 ≤ 414) : Fine (N + M) := by
  refine fine_of (k := a + 1) ?_ h
  rw [Nat.pow_succ]
  generalize 10 ^ a = P at h1 h2
  omega
theorem fine_46 {N : Nat} (h : Fine N) : N < 10 ^ (9 * 46) := by
  have h1 := h.lt
  have h2 := fine_text (t := 46) (m := topF) h1 (by rw [topF_is])
  exact h2
theorem natText (v : Value) (N : Nat) (w : World) (h : NatV w v N) (hN : Fine N) : Calls Tryd.prog 8 #[v] w (TextPost w N) :=
  text_any v N 46 1000 w h (fine_46 hN) (by omega) (h.few (fine_big hN)) (by omega)
theorem intStr (x N : Nat) (w : World) (h : IntAt w x N) (hN : Fine N) : Calls Tryd.prog 21 #[.pointer (some ⟨x, 0, none⟩)] w (TextPost w N) :=
  intString_any x N topF w h (Lib.hid (fine_big hN)) (Lib.hid hN.lt) (by rw [topF_is]; omega)

theorem ln_any {w w' : World} {s : ByteArray} {e : Ending} (h : LnPost w s e w') : ∃ A n c p, e = .returned (.tuple #[.agg #[.slice A n c], p, .bool (decide (numE s = 0))]) ∧ (p = .pointer none ∨ ∃ b, p = .pointer (some ⟨b, 0, none⟩)) ∧ Below w.heap.size w w' := by
  obtain ⟨v, p, rfl, hv, hp, hb⟩ := h
  obtain ⟨A, n, c, rfl⟩ := hv.form
  refine ⟨A, n, c, p, rfl, ?_, hb⟩
  rcases hp with ⟨_, b, _, rfl, _⟩ | ⟨_, rfl⟩
  · exact .inr ⟨b, rfl⟩
  · exact .inl rfl
theorem ln_yes {w w' : World} {s : ByteArray} {e : Ending} (hz : numE s = 0) (h : LnPost w s e w') : ∃ A n c b, e = .returned (.tuple #[.agg #[.slice A n c], .pointer (some ⟨b, 0, none⟩), .bool true]) ∧ NatV w' (.agg #[.slice A n c]) (numN s) ∧ IntAt w' b (numN s) ∧ Below w.heap.size w w' := by
  obtain ⟨v, p, rfl, hv, hp, hb⟩ := h
  obtain ⟨A, n, c, rfl⟩ := hv.form
  rcases hp with ⟨_, b, _, rfl, hi⟩ | ⟨hne, _⟩
  · exact ⟨A, n, c, b, by rw [decide_eq_true hz], hv, hi, hb⟩
  · exact absurd hz hne
theorem ref_any {w w' : World} {s : ByteArray} {e : Ending} (h : RefNumPost w s e w') : ∃ p, e = .returned (.tuple #[p, .int .i64 (numE s)]) ∧ Below w.heap.size w w' := by
  obtain ⟨p, rfl, _, hb⟩ := h
  exact ⟨p, rfl, hb⟩

/-- The two numbers, both ways, where they stand. -/
structure RecI (w0 : World) (g7 g10 : Nat) (v1 v2 : Value) (p q N M : Nat) (w : World) : Prop where
  bel : Below w0.heap.size w0 w
  bx : Blk w g7 25 #[v1]
  nx : NatV w (.agg #[v1]) N
  by_ : Blk w g10 25 #[v2]
  ny : NatV w (.agg #[v2]) M
  ip : IntAt w p N
  iq : IntAt w q M
theorem RecI.below {w0 : World} {g7 g10 : Nat} {v1 v2 : Value} {p q N M : Nat} {w w' : World} (h : RecI w0 g7 g10 v1 v2 p q N M w) (hb : Below w.heap.size w w') : RecI w0 g7 g10 v1 v2 p q N M w' :=
  ⟨h.bel.trans (hb.mono h.bel.size), h.bx.below hb h.bx.lt, h.nx.below hb, h.by_.below hb h.by_.lt, h.ny.below hb, h.ip.below hb, h.iq.below hb⟩
theorem RecI.al {w0 : World} {g7 g10 : Nat} {v1 v2 : Value} {p q N M : Nat} {w : World} (h : RecI w0 g7 g10 v1 v2 p q N M w) (o : Obj) : RecI w0 g7 g10 v1 v2 p q N M (w.alloc o) :=
  h.below ((Below.refl _ w).alloc (Nat.le_refl _) o)
/-- behind a call on a new Int. -/
theorem RecI.on {w0 : World} {g7 g10 : Nat} {v1 v2 : Value} {p q N M : Nat} {w w' : World} {o : Obj} (h : RecI w0 g7 g10 v1 v2 p q N M w) (hb : Below w.heap.size (w.alloc o) w') : RecI w0 g7 g10 v1 v2 p q N M w' :=
  h.below (((Below.refl _ w).alloc (Nat.le_refl _) o).trans hb)
structure RecT (w0 : World) (g7 g10 : Nat) (v1 v2 : Value) (p q N M gt R : Nat) (w : World) : Prop where
  r : RecI w0 g7 g10 v1 v2 p q N M w
  t : IntAt w gt R
theorem RecT.below {w0 : World} {g7 g10 : Nat} {v1 v2 : Value} {p q N M gt R : Nat} {w w' : World} (h : RecT w0 g7 g10 v1 v2 p q N M gt R w) (hb : Below w.heap.size w w') : RecT w0 g7 g10 v1 v2 p q N M gt R w' :=
  ⟨h.r.below hb, h.t.below hb⟩
theorem RecT.on {w0 : World} {g7 g10 : Nat} {v1 v2 : Value} {p q N M gt R : Nat} {w w' : World} {o : Obj} (h : RecT w0 g7 g10 v1 v2 p q N M gt R w) (hb : Below w.heap.size (w.alloc o) w') : RecT w0 g7 g10 v1 v2 p q N M gt R w' :=
  h.below (((Below.refl _ w).alloc (Nat.le_refl _) o).trans hb)
theorem IntAt.lt {w : World} {b N : Nat} (h : IntAt w b N) : b < w.heap.size := by
  obtain ⟨_, h1, _⟩ := h.is
  exact h1.lt

set_option maxRecDepth 100000 in
set_option maxHeartbeats 4000000 in
theorem lawReckons_no (s1 s2 : ByteArray) (z : Int) (w : World) (h1 : s1.size ≤ 150) (h2 : s2.size ≤ 150) (hno : numE s1 ≠ 0 ∨ numE s2 ≠ 0) :
    Calls Tryd.prog 5 #[.string s1, .string s2, .int .i64 z] w (AtPost w true) := by
  have HN1 := hide (fun (w' : World) => lawNat_any s1 w' (by omega))
  have HN2 := hide (fun (w' : World) => lawNat_any s2 w' (by omega))
  have HR1 := hide (fun (w' : World) => refParse_any s1 w' (by omega))
  have HR2 := hide (fun (w' : World) => refParse_any s2 w' (by omega))
  have d1 : decide ((150 : Int) < (s1.size : Int)) = false := decide_eq_false (by omega)
  have d2 : decide ((150 : Int) < (s2.size : Int)) = false := decide_eq_false (by omega)
  rcases (show numE s1 ≠ 0 ∨ (numE s1 = 0 ∧ numE s2 ≠ 0) by omega) with h | ⟨h, h'⟩
  all_goals
    obtain ⟨E1, HE1⟩ : ∃ E1, Hid (numE s1 = E1) := ⟨_, Lib.hid rfl⟩
    obtain ⟨E2, HE2⟩ : ∃ E2, Hid (numE s2 = E2) := ⟨_, Lib.hid rfl⟩
  case' inl =>
    rw [HE1.out] at h
    have hb1 : ((E1 : Int) == 0) = false := beq_eq_false_iff_ne.2 h
    have hd1 : decide (E1 = 0) = false := decide_eq_false h
  case' inr =>
    rw [HE1.out] at h
    rw [HE2.out] at h'
    subst h
    have hb1 : ((E2 : Int) == 0) = false := beq_eq_false_iff_ne.2 h'
    have hd1 : decide (E2 = 0) = false := decide_eq_false h'
  all_goals
    clear hno
    go_enter Tryd.func5, Tryd.ntmps5
    go_wp2_with fail
    refine (HN1.out _).mono ?_
    rintro e w1 h9
    obtain ⟨A1, n1, c1, p1, rfl, hp1, hb1⟩ := ln_any h9
    rw [HE1.out]
    clear h9
    have HB1 := hide (hb1.alloc hb1.size (.cells #[.slice A1 n1 c1] 25))
    clear hb1
    go_wp2_with fail
    generalize (w1.alloc (.cells #[.slice A1 n1 c1] 25)) = w2 at HB1 ⊢
    refine (HN2.out _).mono ?_
    rintro e w3 h9
    obtain ⟨A2, n2, c2, p2, rfl, hp2, hb3⟩ := ln_any h9
    rw [HE2.out]
    clear h9
    have HB3 := hide (HB1.out.trans (hb3.mono HB1.out.size))
    have HB4 := hide (HB3.out.alloc HB3.out.size (.cells #[.slice A2 n2 c2] 25))
    clear hb3 HB3 HB1
    go_wp2_with fail
    generalize (w3.alloc (.cells #[.slice A2 n2 c2] 25)) = w4 at HB4 ⊢
    refine (HR1.out _).mono ?_
    rintro e w5 h9
    obtain ⟨p3, rfl, hb5⟩ := ref_any h9
    rw [HE1.out]
    clear h9
    have HB5 := hide (HB4.out.trans (hb5.mono HB4.out.size))
    clear hb5 HB4
    go_wp2_with fail
    refine (HR2.out _).mono ?_
    rintro e w6 h9
    obtain ⟨p4, rfl, hb6⟩ := ref_any h9
    rw [HE2.out]
    clear h9
    have HB6 := hide (HB5.out.trans (hb6.mono HB5.out.size))
    clear hb6 HB5
    go_wp2
    go_ret
    exact ⟨ret_bool (by first | (simp; done) | simpa using h'), HB6.out⟩

theorem num_lt {s : ByteArray} (h : numE s = 0) : numN s < 10 ^ 100 := by
  obtain ⟨h1, h2⟩ := numE_zero h
  unfold numN
  rw [if_pos h]
  exact Nat.lt_of_lt_of_le (decV_lt h1.dig) (ten_mono (by rw [size_len]; exact h2))
theorem fines {s1 s2 : ByteArray} {K : Nat} (h1 : numE s1 = 0) (h2 : numE s2 = 0) (hK : K ≤ 1000) : Fine (numN s1) ∧ Fine (numN s2) ∧ Fine (numN s1 + numN s2) ∧ Fine (numN s1 * numN s2) ∧ Fine (numN s1 * 2 ^ K) :=
  ⟨fine_of (num_lt h1) (by omega), fine_of (num_lt h2) (by omega), fine_add (num_lt h1) (num_lt h2) (by omega), fine_mul (num_lt h1) (num_lt h2) (by omega), fine_mul (num_lt h1) (two_thousand hK) (by omega)⟩

set_option maxRecDepth 100000 in
set_option maxHeartbeats 8000000 in
theorem lawReckons_yes (s1 s2 : ByteArray) (z : Int) (w : World) (hG : GlobE w) (h1 : s1.size ≤ 150) (h2 : s2.size ≤ 150) (hz1 : numE s1 = 0) (hz2 : numE s2 = 0) (hz : -9223372036854775808 ≤ z ∧ z ≤ 9223372036854775807) :
    Calls Tryd.prog 5 #[.string s1, .string s2, .int .i64 z] w (AtPost w true) := by
  have HG := hide hG
  have HN1 := hide (fun (w' : World) => lawNat_any s1 w' (by omega))
  have HN2 := hide (fun (w' : World) => lawNat_any s2 w' (by omega))
  have d1 : decide ((150 : Int) < (s1.size : Int)) = false := decide_eq_false (by omega)
  have d2 : decide ((150 : Int) < (s2.size : Int)) = false := decide_eq_false (by omega)
  obtain ⟨K, HK⟩ : ∃ K, Hid (K = (max 0 (min z 1000)).toNat) := ⟨_, Lib.hid rfl⟩
  have hK : K ≤ 1000 := by rw [HK.out]; omega
  obtain ⟨f1, f2, f3, f4, f5⟩ := fines (K := K) hz1 hz2 hK
  have HZ1 := Lib.hid hz1
  have HZ2 := Lib.hid hz2
  obtain ⟨N, HN⟩ : ∃ N, Hid (numN s1 = N) := ⟨_, Lib.hid rfl⟩
  obtain ⟨M, HM⟩ : ∃ M, Hid (numN s2 = M) := ⟨_, Lib.hid rfl⟩
  rw [HN.out] at f1 f3 f4 f5
  rw [HM.out] at f2 f3 f4
  clear hG hz1 hz2
  go_enter Tryd.func5, Tryd.ntmps5
  go_wp2_with fail
  refine (HN1.out _).mono ?_
  rintro e w1 h9
  obtain ⟨A1, n1, c1, p, rfl, hv1, hp1, hb1⟩ := ln_yes HZ1.out h9
  clear h9
  have hal1 := (Below.refl w1.heap.size w1).alloc (Nat.le_refl _) (.cells #[.slice A1 n1 c1] 25)
  have HB1 := hide (hb1.alloc hb1.size (.cells #[.slice A1 n1 c1] 25))
  have HV1 := hide (hv1.below hal1)
  have HP1 := hide (hp1.below hal1)
  have HX1 := hide (Blk.new w1 25 #[.slice A1 n1 c1])
  clear hb1 hv1 hp1 hal1
  rw [HN.out] at HV1 HP1
  go_wp2_with fail
  generalize w1.heap.size = g7 at HX1 ⊢
  generalize (w1.alloc (.cells #[.slice A1 n1 c1] 25)) = w2 at HB1 HV1 HP1 HX1 ⊢
  refine (HN2.out _).mono ?_
  rintro e w3 h9
  obtain ⟨A2, n2, c2, q, rfl, hv2, hp2, hb3⟩ := ln_yes HZ2.out h9
  clear h9
  have hal2 := (Below.refl w3.heap.size w3).alloc (Nat.le_refl _) (.cells #[.slice A2 n2 c2] 25)
  rw [HM.out] at hv2 hp2
  have HRC := hide (show RecI w g7 w3.heap.size (.slice A1 n1 c1) (.slice A2 n2 c2) p q N M (w3.alloc (.cells #[.slice A2 n2 c2] 25)) from
    ⟨(HB1.out.trans (hb3.mono HB1.out.size)).alloc (HB1.out.trans (hb3.mono HB1.out.size)).size _, (HX1.out.below hb3 HX1.out.lt).alloc _, (HV1.out.below hb3).below hal2, Blk.new w3 _ _, hv2.below hal2, (HP1.out.below hb3).below hal2, hp2.below hal2⟩)
  clear hb3 hv2 hp2 hal2 HB1 HV1 HP1 HX1 HN1 HN2 HN HM HZ1 HZ2
  have a0 := HRC.out.bx.cell 0
  have a1 := HRC.out.by_.cell 0
  go_wp2_with fail
  generalize w3.heap.size = g10 at HRC a1 ⊢
  generalize (w3.alloc (.cells #[.slice A2 n2 c2] 25)) = w4 at HRC a0 a1 ⊢
  refine (natSub_any _ _ N M w4 HRC.out.nx HRC.out.ny (fine_big f1) (fine_big f2)).mono ?_
  rintro e w5 ⟨v5, rfl, hv5, hb5⟩
  obtain ⟨A3, n3, c3, e5⟩ := hv5.form
  subst e5
  have hal5 := (Below.refl w5.heap.size w5).alloc (Nat.le_refl _) (.cells #[.slice A3 n3 c3] 25)
  have HR6 := hide ((HRC.out.below hb5).al (.cells #[.slice A3 n3 c3] 25))
  have HV6 := hide (hv5.below hal5)
  have HX6 := hide (Blk.new w5 25 #[.slice A3 n3 c3])
  clear hb5 hv5 hal5 HRC a0 a1
  rcases Nat.lt_or_ge N M with hNM | hNM
  case' inl =>
    rw [if_pos hNM]
    have HCZ := Lib.hid (cmpZ_lt hNM)
    have hz0 : N - M = 0 := by omega
    rw [hz0] at HV6
    clear hNM hz0
    go_wp2_with fail
    generalize w5.heap.size = g17 at HX6 ⊢
    generalize (w5.alloc (.cells #[.slice A3 n3 c3] 25)) = w6 at HR6 HV6 HX6 ⊢
    refine (intCmp_any _ _ N M w6 HR6.out.ip HR6.out.iq (fine_big f1) (fine_big f2)).mono ?_
    rintro e w7 ⟨rfl, n7, rfl⟩
    rw [HCZ.out]
    have hd7 := below_drewN (Below.refl w6.heap.size w6) n7
    have HR7 := hide (HR6.out.below hd7)
    have HV7 := hide (HV6.out.below hd7)
    have HX7 := hide (HX6.out.below hd7 HX6.out.lt)
    clear hd7 HR6 HV6 HX6
    generalize (w6.drewN n7) = w7 at HR7 HV7 HX7 ⊢
    go_wp2_with fail
    refine (bareN_any _ 2 w7 (HG.out.below HR7.out.bel) (.inr (.inl ⟨rfl, by omega, by omega, rfl⟩))).mono ?_
    rintro e w8 ⟨rfl, hb8⟩
    have HR8 := hide (HR7.out.below hb8)
    have HV8 := hide (HV7.out.below hb8)
    have HX8 := hide (HX7.out.below hb8 HX7.out.lt)
    have a8 := HX8.out.cell 0
    clear hb8 HR7 HV7 HX7
    go_wp2_with fail
    refine (zero_any _ 0 w8 HV8.out).mono ?_
    rintro e w9 ⟨rfl, hb9⟩
    have HRT := hide (HR8.out.below hb9)
    clear hb9 HR8 HV8 HX8 a8
    go_wp2_with fail
  case' inr =>
    rw [if_neg (by omega)]
    have HCZ := Lib.hid (show (decide (cmpZ N M < 0)) = false by
      rcases Nat.eq_or_lt_of_le hNM with h | h
      · rw [cmpZ_eq h.symm]; rfl
      · rw [cmpZ_gt h]; rfl)
    obtain ⟨D, HD⟩ : ∃ D, Hid (N - M = D) := ⟨_, Lib.hid rfl⟩
    have fd : Fine D := by rw [← HD.out]; exact f1.less (Nat.sub_le _ _)
    rw [HD.out] at HV6
    have HNM := Lib.hid hNM
    clear hNM
    go_wp2_with fail
    generalize w5.heap.size = g17 at HX6 ⊢
    generalize (w5.alloc (.cells #[.slice A3 n3 c3] 25)) = w6 at HR6 HV6 HX6 ⊢
    refine (intCmp_any _ _ N M w6 HR6.out.ip HR6.out.iq (fine_big f1) (fine_big f2)).mono ?_
    rintro e w7 ⟨rfl, n7, rfl⟩
    have hcz := HCZ.out
    have hd7 := below_drewN (Below.refl w6.heap.size w6) n7
    have HR7 := hide (HR6.out.below hd7)
    have HV7 := hide (HV6.out.below hd7)
    have HX7 := hide (HX6.out.below hd7 HX6.out.lt)
    clear hd7 HR6 HV6 HX6
    generalize (w6.drewN n7) = w7 at HR7 HV7 HX7 ⊢
    have a7 := HX7.out.cell 0
    go_wp2_with fail
    clear hcz a7
    refine (natText _ D w7 HV7.out fd).mono ?_
    rintro e w8 ⟨rfl, hb8⟩
    have HR8 := hide (HR7.out.below hb8)
    clear hb8 HR7 HV7 HX7
    go_wp2_with fail
    refine (intSub_any w8.heap.size p q N M _ _ _ (Blk.new w8 49 #[.bool false, .slice none 0 0]) ((HR8.out.al _).ip) ((HR8.out.al _).iq) (fine_big f1) (fine_big f2) HNM.out (Nat.ne_of_gt HR8.out.ip.lt) (Nat.ne_of_gt HR8.out.iq.lt)).mono ?_
    rintro e wa ⟨rfl, hia, hba⟩
    rw [HD.out] at hia
    have HRA := hide (HR8.out.on hba)
    have HIA := hide hia
    clear hia hba HR8
    generalize w8.heap.size = g8 at HIA ⊢
    go_wp2_with fail
    refine (intStr g8 D wa HIA.out fd).mono ?_
    rintro e w9 ⟨rfl, hb9⟩
    have HRT := hide (HRA.out.below hb9)
    clear hb9 HRA HIA
    go_wp2_with fail
  all_goals
    have hki : max 0 (min z 1000) = (K : Int) := by rw [HK.out]; omega
    rw [hki]
    refine (intLsh_any w9.heap.size p N K _ _ _ (Blk.new w9 49 #[.bool false, .slice none 0 0]) ((HRT.out.al _).ip) (fine_big f1) hK (Nat.ne_of_gt HRT.out.ip.lt)).mono ?_
    rintro e w10 ⟨rfl, hi10, hb10⟩
    have HR10 := hide (show RecT w g7 g10 (.slice A1 n1 c1) (.slice A2 n2 c2) p q N M w9.heap.size (N * 2 ^ K) w10 from ⟨HRT.out.on hb10, hi10⟩)
    clear hi10 hb10 HRT
    generalize w9.heap.size = gt at HR10 ⊢
    obtain ⟨R, HRR⟩ : ∃ R, Hid (N * 2 ^ K = R) := ⟨_, Lib.hid rfl⟩
    have a0 := HR10.out.r.bx.cell 0
    have a1 := HR10.out.r.by_.cell 0
    go_wp2_with fail
    clear a0 a1
    refine (natAddV_any _ _ N M w10 HR10.out.r.nx HR10.out.r.ny (fine_big f1) (fine_big f2)).mono ?_
    rintro e w11 ⟨v11, rfl, hv11, hb11⟩
    have HR11 := hide (HR10.out.below hb11)
    have HV11 := hide hv11
    clear hv11 hb11 HR10
    go_wp2_with fail
    refine (natText _ (N + M) w11 HV11.out f3).mono ?_
    rintro e w12 ⟨rfl, hb12⟩
    have HR12 := hide (HR11.out.below hb12)
    clear hb12 HR11 HV11
    go_wp2_with fail
    refine (intAdd_any w12.heap.size p q N M _ _ _ (Blk.new w12 49 #[.bool false, .slice none 0 0]) ((HR12.out.r.al _).ip) ((HR12.out.r.al _).iq) (fine_big f1) (fine_big f2) (Nat.ne_of_gt HR12.out.r.ip.lt) (Nat.ne_of_gt HR12.out.r.iq.lt)).mono ?_
    rintro e w13 ⟨rfl, hi13, hb13⟩
    have HR13 := hide (HR12.out.on hb13)
    have HI13 := hide hi13
    clear hi13 hb13 HR12
    generalize w12.heap.size = g12 at HI13 ⊢
    go_wp2_with fail
    refine (intStr g12 (N + M) w13 HI13.out f3).mono ?_
    rintro e w14 ⟨rfl, hb14⟩
    have HR14 := hide (HR13.out.below hb14)
    clear hb14 HR13 HI13
    have a0 := HR14.out.r.bx.cell 0
    have a1 := HR14.out.r.by_.cell 0
    go_wp2_with fail
    clear a0 a1
    refine (natMul_any _ _ N M w14 HR14.out.r.nx HR14.out.r.ny (fine_big f1) (fine_big f2)).mono ?_
    rintro e w15 ⟨v15, rfl, hv15, hb15⟩
    have HR15 := hide (HR14.out.below hb15)
    have HV15 := hide hv15
    clear hv15 hb15 HR14
    go_wp2_with fail
    refine (natText _ (N * M) w15 HV15.out f4).mono ?_
    rintro e w16 ⟨rfl, hb16⟩
    have HR16 := hide (HR15.out.below hb16)
    clear hb16 HR15 HV15
    go_wp2_with fail
    refine (intMul_any w16.heap.size p q N M _ _ _ (Blk.new w16 49 #[.bool false, .slice none 0 0]) ((HR16.out.r.al _).ip) ((HR16.out.r.al _).iq) (fine_big f1) (fine_big f2) (Nat.ne_of_gt HR16.out.r.ip.lt) (Nat.ne_of_gt HR16.out.r.iq.lt)).mono ?_
    rintro e w17 ⟨rfl, hi17, hb17⟩
    have HR17 := hide (HR16.out.on hb17)
    have HI17 := hide hi17
    clear hi17 hb17 HR16
    generalize w16.heap.size = g16 at HI17 ⊢
    go_wp2_with fail
    refine (intStr g16 (N * M) w17 HI17.out f4).mono ?_
    rintro e w18 ⟨rfl, hb18⟩
    have HR18 := hide (HR17.out.below hb18)
    clear hb18 HR17 HI17
    have a0 := HR18.out.r.bx.cell 0
    have a1 := HR18.out.r.by_.cell 0
    go_wp2_with fail
    clear a0 a1
    refine (natCmp_any _ _ N M w18 HR18.out.r.nx HR18.out.r.ny (fine_big f1) (fine_big f2)).mono ?_
    rintro e w19 ⟨rfl, hb19⟩
    have HR19 := hide (HR18.out.below hb19)
    clear hb19 HR18
    go_wp2_with fail
    refine (intCmp_any _ _ N M w19 HR19.out.r.ip HR19.out.r.iq (fine_big f1) (fine_big f2)).mono ?_
    rintro e w20 ⟨rfl, n20, rfl⟩
    have HR20 := hide (HR19.out.below (below_drewN (Below.refl w19.heap.size w19) n20))
    clear HR19
    generalize (w19.drewN n20) = w20 at HR20 ⊢
    generalize cmpZ N M = cz
    have a0 := HR20.out.r.bx.cell 0
    go_wp2_with fail
    clear a0
    refine (double_any _ N K z w20 HR20.out.r.nx HK.out (Lib.hid (fine_big f5)) hz).mono ?_
    rintro e w21 ⟨v21, rfl, hv21, hb21⟩
    have HR21 := hide (HR20.out.below hb21)
    have HV21 := hide hv21
    clear hv21 hb21 HR20
    go_wp2_with fail
    refine (natText _ (N * 2 ^ K) w21 HV21.out f5).mono ?_
    rintro e w22 ⟨rfl, hb22⟩
    have HR22 := hide (HR21.out.below hb22)
    clear hb22 HR21 HV21
    go_wp2_with fail
    refine (intStr gt (N * 2 ^ K) w22 HR22.out.t f5).mono ?_
    rintro e w23 ⟨rfl, hb23⟩
    have HBE := hide (HR22.out.below hb23).r.bel
    clear hb23 HR22
    go_wp2
    go_ret
    exact ⟨ret_bool (by simp), HBE.out⟩

theorem lawReckons_walk (s1 s2 : ByteArray) (z : Int) (w : World) (hG : GlobE w) (_h1 : s1.size ≤ 9223372036854775807) (_h2 : s2.size ≤ 9223372036854775807) (hz : -9223372036854775808 ≤ z ∧ z ≤ 9223372036854775807) :
    Calls Tryd.prog 5 #[.string s1, .string s2, .int .i64 z] w (AtPost w true) := by
  by_cases h1 : 150 < s1.size
  · go_enter Tryd.func5, Tryd.ntmps5
    go_wp2
    go_ret
    exact ⟨rfl, Below.refl _ _⟩
  by_cases h2 : 150 < s2.size
  · have d1 : decide ((150 : Int) < (s1.size : Int)) = false := decide_eq_false (by omega)
    go_enter Tryd.func5, Tryd.ntmps5
    go_wp2
    go_ret
    exact ⟨rfl, Below.refl _ _⟩
  by_cases hz1 : numE s1 = 0
  · by_cases hz2 : numE s2 = 0
    · exact lawReckons_yes s1 s2 z w hG (by omega) (by omega) hz1 hz2 hz
    · exact lawReckons_no s1 s2 z w (by omega) (by omega) (.inr hz2)
  · exact lawReckons_no s1 s2 z w (by omega) (by omega) (.inl hz1)
end Go.Proofs.YtpghgfenafhhbaaDoor
