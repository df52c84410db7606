/-
  A store's One, Free, walked; what a step of plain families asks and answers. A family's In.
-/
import Derived.Test.YtdlcldhnbhlikaaDoorFamLeast
import Derived.Test.YtdlcldhnbhlikaaDoorBddG
namespace Go.Proofs.YtdlcldhnbhlikaaDoor
open Go.RowKit Go.Maps

/-- A set's things from the k-th on. -/
def hiN (s k : Nat) : Nat := (s >>> k) <<< k
theorem hi_bit (s k y : Nat) : (hiN s k).testBit y = (decide (k ≤ y) && s.testBit y) := by
  unfold hiN
  rw [Nat.testBit_shiftLeft, Nat.testBit_shiftRight]
  by_cases h : k ≤ y
  · rw [decide_eq_true h, show k + (y - k) = y by omega]
  · rw [decide_eq_false h]; rfl
theorem hi_zero (s : Nat) : hiN s 0 = s := Nat.eq_of_testBit_eq fun y => by rw [hi_bit]; simp
theorem hi_all {s k : Nat} (h : s < 2 ^ k) : hiN s k = 0 := by
  unfold hiN
  rw [Nat.shiftRight_eq_div_pow, Nat.div_eq_of_lt h, Nat.zero_shiftLeft]
theorem hi_not {s k : Nat} (h : s.testBit k = false) : hiN s k = hiN s (k + 1) := Nat.eq_of_testBit_eq fun y => by
  rw [hi_bit, hi_bit]
  by_cases e : y = k
  · subst e; rw [h]; simp
  · congr 1
    exact decide_eq_decide.2 (by omega)
theorem hi_is {s k u : Nat} (h : s.testBit k = true) : (u = hiN s k) ↔ (u.testBit k = true ∧ clrN u k = hiN s (k + 1)) := by
  constructor
  · rintro rfl
    refine ⟨by rw [hi_bit, h]; simp, Nat.eq_of_testBit_eq fun y => ?_⟩
    rw [clr_bit, hi_bit, hi_bit]
    by_cases e : k = y
    · subst e; simp; intro e; omega
    · rw [decide_eq_false e, Bool.not_false, Bool.and_true]
      congr 1
      exact decide_eq_decide.2 (by omega)
  · rintro ⟨h1, h2⟩
    refine Nat.eq_of_testBit_eq fun y => ?_
    have h3 := congrArg (fun x => x.testBit y) h2
    simp only [clr_bit, hi_bit] at h3
    rw [hi_bit]
    by_cases e : k = y
    · subst e; rw [h1, h]; simp
    · rw [decide_eq_false e, Bool.not_false, Bool.and_true] at h3
      rw [h3]
      congr 1
      exact decide_eq_decide.2 (by omega)
theorem one_node {A : Ar} {set j : Nat} {h : Int} (hb : set.testBit j = true) (hf : ∀ s, fam A h s = (s == hiN set (j + 1))) (s : Nat) : nodeZ A ⟨(j : Int), 0, h⟩ s = (s == hiN set j) := by
  unfold nodeZ
  simp only
  rw [show ((j : Int)).toNat = j by omega, hf, fam_zero, Bool.eq_iff_iff, beq_iff_eq, hi_is hb]
  by_cases e : s.testBit j = true
  · rw [if_pos e, beq_iff_eq]
    exact ⟨fun h => ⟨e, h⟩, fun h => h.2⟩
  · rw [if_neg e]
    exact ⟨fun h => (by cases h), fun h => absurd h.1 e⟩
/-- Where One stands. -/
structure OneI (w : World) (S B gn gu gt : Nat) (things : Int) (A : Ar) (set k : Nat) (hv : Value) (wr : World) : Prop where
  is : ∃ A' h, hv = .int .i64 h ∧ FsM wr S B gn gu gt things A' ∧ ExtA A A' ∧ low3 A' ≤ low3 A + (3 - k) ∧ hasA A' h = true ∧ (k : Int) ≤ topA A' h ∧ ∀ s, fam A' h s = (s == hiN set k)
  fr : Fr (arB B gn gu gt) w wr
section
variable (S B gn gu gt : Nat) (things : Int) (A : Ar) (w : World)
set_option maxRecDepth 100000 in
set_option maxHeartbeats 4000000 in
theorem fzOne_any (vn set : Nat) (h : FsM w S B gn gu gt (vn : Int) A) (hset : set < 2 ^ vn) (hl : low3 A + 3 ≤ 2000) :
    Calls Tryd.prog 18 #[.pointer (some ⟨S, 0, none⟩), .int .u64 (set : Int)] w (ZP w S B gn gu gt (vn : Int) A 3 0 (fun s => s == set)) := by
  have h6 := h.t6
  have s1 := h.kS.cell 1
  have hmin : min vn 64 = vn := by omega
  have hq : (set : Int) / 2 ^ vn = 0 := by
    have e : ((set : Int) / 2 ^ vn) = ((set >>> vn : Nat) : Int) := by rw [Nat.shiftRight_eq_div_pow]; norm_cast
    rw [e, Nat.shiftRight_eq_div_pow, Nat.div_eq_of_lt hset]
    rfl
  have hs64 : set < 18446744073709551616 := Nat.lt_of_lt_of_le hset (Nat.le_trans (Nat.pow_le_pow_right (by omega) (show vn ≤ 6 by omega)) (by decide))
  have HST := hide (show OneI w S B gn gu gt (vn : Int) A set vn (.int .i64 1) w from ⟨⟨A, 1, rfl, h, .refl A, by omega, has_ends.2, by rw [top_one]; omega, fun s => by rw [fam_one, hi_all hset]⟩, .refl _ _⟩)
  have HSP := h.sp
  clear h
  go_enter Tryd.func18, Tryd.ntmps18
  go_wp2
  go_loopw [6, 7] (fun hv iv wr => ∃ k : Nat, k ≤ vn ∧ iv = .int .i64 ((k : Int) - 1) ∧ Hid (OneI w S B gn gu gt (vn : Int) A set k hv wr)) (fun _ iv _ => (intOf iv + 1).toNat)
  case atStart => exact ⟨vn, Nat.le_refl _, rfl, HST⟩
  case round =>
    clear HST hq hmin s1
    obtain ⟨k, hk, rfl, hI⟩ := hrel
    rcases Nat.eq_zero_or_pos k with rfl | hk0
    · obtain ⟨A', h, rfl, h2, h3, h4, h5, h7, h8⟩ := hI.out.is
      have HP := hide (show ZP w S B gn gu gt (vn : Int) A 3 0 (fun s => s == set) (.returned (.tuple #[.int .i64 h, .nilIface])) wr from
        ⟨A', h, rfl, h2, ⟨h2.sp, h3, h4, h5, by have := (h2.sp.wf.topR h).1; omega, fun s => by rw [h8, hi_zero]⟩, hI.out.fr⟩)
      clear hI h2 h3 h4 h5 h7 h8
      go_wp2
      go_ret2
      exact HP.out
    · obtain ⟨j, rfl⟩ : ∃ j, k = j + 1 := ⟨k - 1, by omega⟩
      rw [show ((j + 1 : Nat) : Int) - 1 = (j : Int) by omega]
      obtain ⟨A', h, rfl, h2, h3, h4, h5, h7, h8⟩ := hI.out.is
      have hbit := shr_bit set j hs64
      have hmin : min j 64 = j := by omega
      have HFR := hide hI.out.fr
      cases hb : set.testBit j
      · rw [hb] at hbit
        have HN := hide (show OneI w S B gn gu gt (vn : Int) A set j (.int .i64 h) wr from ⟨⟨A', h, rfl, h2, h3, by omega, h5, by omega, fun s => by rw [h8, hi_not hb]⟩, HFR.out⟩)
        clear hI h2 h3 h4 h5 h7 h8
        go_wp2
        go_roundw
        case rel => exact ⟨j, by omega, by go_num, HN⟩
        case measure => first | (simp [intOf]; done) | (simp [intOf]; omega)
      · rw [hb] at hbit
        have HND := hide (fzNode_any S B gn gu gt (vn : Int) A' wr 0 h (j : Int) h2 (by omega) (by omega) has_ends.1 (by rw [top_zero]; omega) h5 (by omega) (by split <;> omega))
        have HJ := Lib.hid (fun (A'' : Ar) (x : Int) (wx : World) (hs : FsM wx S B gn gu gt (vn : Int) A'') (T : StpZ A' A'' (vn : Int) (if (j : Int) < 3 then 1 else 0) (j : Int) x (nodeZ A' ⟨(j : Int), 0, h⟩)) (hf : Fr (arB B gn gu gt) wr wx) =>
          show OneI w S B gn gu gt (vn : Int) A set j (.int .i64 x) wx from ⟨⟨A'', x, rfl, hs, h3.trans T.ext, by have := T.few; split at this <;> omega, T.has, T.top, fun s => by rw [T.fam]; exact one_node hb h8 s⟩, HFR.out.trans hf⟩)
        clear hI h2 h3 h4 h5 h7 h8
        go_wp2_with fail
        refine (HND.out).mono ?_
        rintro e w1 ⟨A'', x, rfl, hs, T, hf⟩
        have HN := hide (HJ.out A'' x w1 hs T hf)
        clear hs T hf HND HJ
        go_wp2
        go_roundw
        case rel => exact ⟨j, by omega, by go_num, HN⟩
        case measure => first | (simp [intOf]; done) | (simp [intOf]; omega)
end
end Go.Proofs.YtdlcldhnbhlikaaDoor
namespace Go.Proofs.YtdlcldhnbhlikaaDoor
open Go.RowKit Go.Maps

theorem hi_step {A : Ar} {h : Int} {set v : Nat} (hw : WfA A) (h24 : v < 24) (hv : (v : Int) ≤ topA A h) : fam A h (hiN set v) = fam A (atZ A h v (set.testBit v)) (hiN set (v + 1)) := by
  have hb : (hiN set v).testBit v = set.testBit v := by rw [hi_bit]; simp
  rw [fam_part hw h24 hv, hb]
  cases hs : set.testBit v
  · rw [if_neg (by simp), hi_not hs]
  · rw [if_pos rfl, ((hi_is hs).1 rfl).2]
/-- Where In stands. -/
structure InI (w : World) (A : Ar) (x : Int) (set v : Nat) (y : Int) (wr : World) : Prop where
  has : hasA A y = true
  top : (v : Int) ≤ topA A y
  fam : fam A x set = fam A y (hiN set v)
  bel : Below w.heap.size w wr
def InP (w : World) (A : Ar) (x : Int) (set : Nat) (e : Ending) (w' : World) : Prop := e = .returned (.tuple #[.bool (fam A x set), .nilIface]) ∧ Below w.heap.size w w'
theorem in_end {w wr : World} {A : Ar} {x y : Int} {set vn : Nat} (hs : SpZ A (vn : Int)) (hset : set < 2 ^ vn) (h : InI w A x set vn y wr) : (y == 1) = Go.Proofs.YtdlcldhnbhlikaaDoor.fam A x set := by
  have hg : gotA A y = none := by
    cases e : gotA A y with
    | none => rfl
    | some d =>
      have h1 := hs.var _ _ e
      have h2 := top_some e
      have h3 := h.top
      omega
  rw [h.fam, hi_all hset, fam_none hg]
  simp
section
variable (S B gn gu gt : Nat) (A : Ar) (w : World)
set_option maxRecDepth 100000 in
set_option maxHeartbeats 4000000 in
theorem fzIn_any (vn set : Nat) (x : Int) (h : FsM w S B gn gu gt (vn : Int) A) (p : hasA A x = true) (hset : set < 2 ^ vn) :
    Calls Tryd.prog 17 #[.pointer (some ⟨S, 0, none⟩), .int .i64 x, .int .u64 (set : Int)] w (InP w A x set) := by
  have h6 := h.t6
  have s0 := h.kS.cell 0
  have s1 := h.kS.cell 1
  have hmin : min vn 64 = vn := by omega
  have hq : (set : Int) / 2 ^ vn = 0 := by
    have e : ((set : Int) / 2 ^ vn) = ((set >>> vn : Nat) : Int) := by rw [Nat.shiftRight_eq_div_pow]; norm_cast
    rw [e, Nat.shiftRight_eq_div_pow, Nat.div_eq_of_lt hset]
    rfl
  have hs64 : set < 18446744073709551616 := Nat.lt_of_lt_of_le hset (Nat.le_trans (Nat.pow_le_pow_right (by omega) (show vn ≤ 6 by omega)) (by decide))
  have HST := hide (show InI w A x set 0 x w from ⟨p, (h.sp.wf.topR x).1, by rw [hi_zero], .refl _ _⟩)
  have HS := hide h
  have HH := hide (has_call_z S B gn gu gt (vn : Int) A w x h p)
  have HE := Lib.hid (fun (wr : World) (y : Int) (hI : InI w A x set vn y wr) => in_end h.sp hset hI)
  clear h p
  go_enter Tryd.func17, Tryd.ntmps17
  go_wp2_with fail
  refine (HH.out).mono ?_
  rintro e w1 ⟨rfl, rfl⟩
  go_wp2
  go_loopw [1, 31] (fun hv iv wr => ∃ (k : Nat) (y : Int), k ≤ vn ∧ iv = .int .i64 (k : Int) ∧ hv = .int .i64 y ∧ Hid (InI w A x set k y wr)) (fun _ iv _ => vn - (intOf iv).toNat)
  case atStart => exact ⟨0, x, Nat.zero_le _, rfl, rfl, HST⟩
  case round =>
    clear HST hq hmin s0 s1 HH
    obtain ⟨k, y, hk, rfl, rfl, hI⟩ := hrel
    by_cases hlt : k < vn
    · have hkI : (k : Int) < (vn : Int) := by omega
      have hbit := shr_bit set k hs64
      have hmin : min k 64 = k := by omega
      have hs := HS.out.below hI.out.bel
      have HAT := hide (fzAt_any S B gn gu gt (vn : Int) A wr y (k : Int) hs.kS hs.ar (hs.i64 hI.out.has))
      have hw := hs.sp.wf
      have HN := Lib.hid (fun (w2 : World) (hb : Below wr.heap.size wr w2) => show InI w A x set (k + 1) (atZ A y k (set.testBit k)) w2 from
        ⟨atZ_has hw hI.out.has _, by have := atZ_top hw (show k < 24 by omega) hI.out.top (set.testBit k); omega, by rw [hI.out.fam, hi_step hw (by omega) hI.out.top], hI.out.bel.trans (hb.mono hI.out.bel.size)⟩)
      clear hs hw hI
      cases hb : set.testBit k
      all_goals
        rw [hb] at hbit HN
        go_wp2_with fail
        refine (HAT.out).mono ?_
        rintro e w2 ⟨rfl, hb2⟩
        have HN2 := hide (HN.out _ hb2)
        clear hb2 HN HAT
        go_wp2
        go_roundw
        case rel => exact ⟨k + 1, _, by omega, by go_num, rfl, HN2⟩
        case measure => simp [intOf]; omega
    · obtain rfl : k = vn := by omega
      have he := HE.out _ _ hI.out
      go_wp2
      go_ret2
      exact ⟨by rw [← he]; rfl, hI.out.bel⟩
end
end Go.Proofs.YtdlcldhnbhlikaaDoor
