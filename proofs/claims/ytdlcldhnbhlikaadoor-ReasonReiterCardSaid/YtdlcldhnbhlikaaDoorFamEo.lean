/-
  The empty store of any room: In, One, a new store of any numbers.
-/
import Derived.Test.YtdlcldhnbhlikaaDoorFamE
import Derived.Test.YtdlcldhnbhlikaaDoorFamOne
import Derived.Test.YtdlcldhnbhlikaaDoorFamPlain
namespace Go.Proofs.YtdlcldhnbhlikaaDoor
open Go.RowKit Go.Maps

theorem shr_nat (s v : Nat) : ((s : Int) / 2 ^ v) = ((s >>> v : Nat) : Int) := by rw [Nat.shiftRight_eq_div_pow]; norm_cast
theorem shr_zero (s v : Nat) (h : s >>> v = 0) : ((s : Int) / 2 ^ v) = 0 := by rw [shr_nat, h]; rfl
theorem shr_some (s v : Nat) (h : s >>> v ≠ 0) : ((s : Int) / 2 ^ v == 0) = false := by
  rw [shr_nat]
  exact beq_eq_false_iff_ne.2 (by omega)
/-- The error of In. -/
def inC (vn set : Nat) (x : Int) : Int := if endB x then (if set >>> vn = 0 then 0 else 2) else 7
/-- The error of One, where there is room. -/
def oneC (vn set : Nat) : Int := if set >>> vn = 0 then 0 else 2
section
variable (S B gn gu gt : Nat) (R : Nat) (w : World)
/-- Where In stands. -/
structure InE (w : World) (S B gn gu gt vn R : Nat) (y : Int) (wr : World) : Prop where
  is : endB y = true
  s : FsE wr S B gn gu gt (vn : Int) R
  bel : Below w.heap.size w wr
def AtE (w : World) (x : Int) (e : Ending) (w' : World) : Prop := e = .returned (.tuple #[.int .i64 x, .int .i64 0]) ∧ Below w.heap.size w w'
set_option maxHeartbeats 1000000 in
theorem fAt_any (vn : Int) (x t : Int) (h : FsE w S B gn gu gt vn R) (hx : I64 x) :
    Calls Tryd.prog 48 #[.pointer (some ⟨S, 0, none⟩), .int .i64 x, .int .i64 t] w (AtE w x) :=
  (fzAt_any S B gn gu gt vn (emptyA R) w x t h.kS h.ar hx).mono fun e w' hp => ⟨by rw [hp.1, atZ_noneI (got_empty R x), atZ_noneI (got_empty R x)]; rfl, hp.2⟩
set_option maxRecDepth 100000 in
set_option maxHeartbeats 4000000 in
theorem fIn_x (vn set : Nat) (x : Int) (h : FsE w S B gn gu gt (vn : Int) R) (hx : I64 x) (hv : vn ≤ 24) (hs64 : set < 18446744073709551616) :
    Calls Tryd.prog 17 #[.pointer (some ⟨S, 0, none⟩), .int .i64 x, .int .u64 (set : Int)] w (ErrP w (inC vn set x)) := by
  have s0 := h.kS.cell 0
  have s1 := h.kS.cell 1
  have hmin : min vn 64 = vn := by omega
  unfold inC
  cases p : endB x with
  | false =>
    have HH := hide (fHas_call S B gn gu gt (vn : Int) R w x h hx _ p)
    rw [if_neg (by decide)]
    clear h p
    go_enter Tryd.func17, Tryd.ntmps17
    go_wp2_with fail
    refine (HH.out).mono ?_
    rintro e w1 ⟨rfl, rfl⟩
    go_wp2
    go_ret2
    exact ⟨_, by rw [errV_ne (by decide)]; rfl, Below.refl _ _⟩
  | true =>
    have HH := hide (fHas_call S B gn gu gt (vn : Int) R w x h hx _ p)
    rw [if_pos rfl]
    by_cases hz : set >>> vn = 0
    · have hzb := shr_zero set vn hz
      rw [if_pos hz]
      have HST := hide (show InE w S B gn gu gt vn R x w from ⟨p, h, .refl _ _⟩)
      clear h p hz
      go_enter Tryd.func17, Tryd.ntmps17
      go_wp2_with fail
      refine (HH.out).mono ?_
      rintro e w1 ⟨rfl, rfl⟩
      go_wp2
      go_loopw [1, 31] (fun hv iv wr => ∃ (k : Nat) (y : Int), k ≤ vn ∧ iv = .int .i64 (k : Int) ∧ hv = .int .i64 y ∧ Hid (InE w S B gn gu gt vn R y wr)) (fun _ iv _ => vn - (intOf iv).toNat)
      case atStart => exact ⟨0, x, Nat.zero_le _, rfl, rfl, HST⟩
      case round =>
        clear HST hzb hmin s0 s1 HH
        obtain ⟨k, y, hk, rfl, rfl, hI⟩ := hrel
        by_cases hlt : k < vn
        · have hkI : (k : Int) < (vn : Int) := by omega
          have hbit := shr_bit set k hs64
          have hmin : min k 64 = k := by omega
          have HAT := hide (fAt_any S B gn gu gt R wr (vn : Int) y (k : Int) hI.out.s (end_i64 hI.out.is))
          have HN := Lib.hid (fun (w2 : World) (z : Int) (hb : Below wr.heap.size wr w2) (hz : z = y ∨ z = 0) => show InE w S B gn gu gt vn R z w2 from
            ⟨by rcases hz with rfl | rfl; exact hI.out.is; rfl, hI.out.s.below hb, hI.out.bel.trans (hb.mono hI.out.bel.size)⟩)
          clear hI
          cases hb : set.testBit k
          · rw [hb] at hbit
            go_wp2_with fail
            refine (HAT.out).mono ?_
            rintro e w2 ⟨rfl, hb2⟩
            have HN2 := hide (HN.out _ _ hb2 (.inl rfl))
            clear hb2 HN HAT
            go_wp2
            go_roundw
            case rel => exact ⟨k + 1, _, by omega, by go_num, rfl, HN2⟩
            case measure => simp [intOf]; omega
          · rw [hb] at hbit
            go_wp2_with fail
            refine (HAT.out).mono ?_
            rintro e w2 ⟨rfl, hb2⟩
            have HN2 := hide (HN.out _ _ hb2 (.inr rfl))
            clear hb2 HN HAT
            go_wp2
            go_roundw
            case rel => exact ⟨k + 1, _, by omega, by go_num, rfl, HN2⟩
            case measure => simp [intOf]; omega
        · obtain rfl : k = vn := by omega
          go_wp2
          go_ret2
          exact ⟨_, by rw [errV_zero]; rfl, hI.out.bel⟩
    · have hzb := shr_some set vn hz
      rw [if_neg hz]
      clear h p hz
      go_enter Tryd.func17, Tryd.ntmps17
      go_wp2_with fail
      refine (HH.out).mono ?_
      rintro e w1 ⟨rfl, rfl⟩
      go_wp2
      go_ret2
      exact ⟨_, by rw [errV_ne (by decide)]; rfl, Below.refl _ _⟩
end
/-- A node that may be made: there is no room, or it lies there. -/
theorem make_one {A : Ar} {n : Nd} (hm : MayA A n) : makeE A n = 12 ∨ (makeE A n = 0 ∧ hasA (makeA A n) (makeH A n) = true ∧ topA (makeA A n) (makeH A n) = n.var ∧ makeH A n ≠ 0) := by
  have key : ∀ (A' : Ar) (k : Nat), A'.getD k none = some n → hasA A' ((k : Int) + 2) = true ∧ topA A' ((k : Int) + 2) = n.var ∧ ((k : Int) + 2) ≠ 0 := fun A' k e => by
    have hg : gotA A' ((k : Int) + 2) = some n := by rw [gotA_k, e]
    exact ⟨by unfold hasA; rw [hg]; simp, top_some hg, by omega⟩
  cases hl : liesA A n with
  | some k =>
    obtain ⟨h1, h2, h3⟩ := make_lies hm hl
    rw [h2, h3]
    exact .inr ⟨h1, key A k (liesA_some hl)⟩
  | none =>
    cases hf : freeA A with
    | none => exact .inl (make_full hm hl hf)
    | some k =>
      obtain ⟨h1, h2, h3⟩ := make_new hm hl hf
      rw [h2, h3]
      exact .inr ⟨h1, key _ k (by rw [List.getD_eq_getElem?_getD, List.getElem?_set]; simp [(freeA_some hf).1])⟩
/-- Where One stands, in any room. -/
structure OneJ (w : World) (S B gn gu gt vn : Nat) (k : Nat) (hv : Value) (wr : World) : Prop where
  is : ∃ A h, hv = .int .i64 h ∧ ArM wr B gn gu gt A ∧ hasA A h = true ∧ (k : Int) ≤ topA A h ∧ h ≠ 0
  kS : Blk wr S 58 #[.pointer (some ⟨B, 0, none⟩), .int .i64 (vn : Int)]
  fr : Fr (arB B gn gu gt) w wr
/-- What One answers: the error; or there is no room. -/
def OneQ (w : World) (B gn gu gt R vn set : Nat) (e : Ending) (w' : World) : Prop :=
  ∃ x c, e = .returned (.tuple #[x, errV c]) ∧ (c = oneC vn set ∨ (oneC vn set = 0 ∧ c = 12 ∧ ¬ (R = 4000 ∧ vn ≤ 6))) ∧ Fr (arB B gn gu gt) w w'
theorem i64_has {w : World} {B gn gu gt : Nat} {A : Ar} (h : ArM w B gn gu gt A) {y : Int} (hy : hasA A y = true) : I64 y := by
  have hr := h.room
  cases e : gotA A y with
  | none => rcases end_two hy e with rfl | rfl <;> (unfold I64; omega)
  | some d =>
    obtain ⟨k, rfl, hk, _⟩ := gotA_is e
    unfold I64
    omega
section
variable (S B gn gu gt : Nat) (R : Nat) (w : World)
set_option maxHeartbeats 1000000 in
theorem fNode_any (vn : Int) (A : Ar) (t h : Int) (hk : Blk w S 58 #[.pointer (some ⟨B, 0, none⟩), .int .i64 vn]) (ha : ArM w B gn gu gt A) (h0 : h ≠ 0) (ht : I64 t) (hh : hasA A h = true) :
    Calls Tryd.prog 33 #[.pointer (some ⟨S, 0, none⟩), .int .i64 t, .int .i64 0, .int .i64 h] w (MakePost w B gn gu gt A ⟨t, 0, h⟩) := by
  have hneb : (h == 0) = false := beq_eq_false_iff_ne.2 h0
  have s0 := hk.cell 0
  have HMK := hide (arMake_any B gn gu gt A ⟨t, 0, h⟩ w ha ⟨ht, i64_zero, i64_has ha hh⟩)
  clear hk ha
  go_enter Tryd.func33, Tryd.ntmps33
  go_wp2_with fail
  refine (HMK.out).mono ?_
  rintro e w1 hp
  have hq := hide hp
  obtain ⟨rfl, _, _⟩ := hp
  go_wp2
  go_ret2
  exact hq.out
set_option maxRecDepth 100000 in
set_option maxHeartbeats 4000000 in
theorem fOne_room (vn set : Nat) (h : FsE w S B gn gu gt (vn : Int) R) (hv : vn ≤ 24) (hs64 : set < 18446744073709551616) (hroom : ¬ (R = 4000 ∧ vn ≤ 6)) :
    Calls Tryd.prog 18 #[.pointer (some ⟨S, 0, none⟩), .int .u64 (set : Int)] w (OneQ w B gn gu gt R vn set) := by
  have s1 := h.kS.cell 1
  have hmin : min vn 64 = vn := by omega
  have HRM := Lib.hid hroom
  clear hroom
  by_cases hz : set >>> vn = 0
  · have hzb := shr_zero set vn hz
    have HOC := Lib.hid (show oneC vn set = 0 by unfold oneC; rw [if_pos hz])
    have HST := hide (show OneJ w S B gn gu gt vn vn (.int .i64 1) w from ⟨⟨emptyA R, 1, rfl, h.ar, (hasE R 1).trans end_one, by rw [top_one]; omega, by omega⟩, h.kS, .refl _ _⟩)
    clear h hz
    go_enter Tryd.func18, Tryd.ntmps18
    go_wp2
    go_loopw [6, 7] (fun hv iv wr => ∃ k : Nat, k ≤ vn ∧ iv = .int .i64 ((k : Int) - 1) ∧ Hid (OneJ w S B gn gu gt vn k hv wr)) (fun _ iv _ => (intOf iv + 1).toNat)
    case atStart => exact ⟨vn, Nat.le_refl _, rfl, HST⟩
    case round =>
      clear HST hzb hmin s1
      obtain ⟨k, hk, rfl, hI⟩ := hrel
      obtain ⟨A, h, rfl, ha, hh, ht, h0⟩ := hI.out.is
      rcases Nat.eq_zero_or_pos k with rfl | hk0
      · have HFR := hide hI.out.fr
        clear hI ha hh ht h0
        go_wp2
        go_ret2
        exact ⟨_, 0, by rw [errV_zero]; rfl, .inl HOC.out.symm, HFR.out⟩
      · obtain ⟨j, rfl⟩ : ∃ j, k = j + 1 := ⟨k - 1, by omega⟩
        rw [show ((j + 1 : Nat) : Int) - 1 = (j : Int) by omega]
        have hbit := shr_bit set j hs64
        have hmin : min j 64 = j := by omega
        cases hb : set.testBit j
        · rw [hb] at hbit
          have HN := hide (show OneJ w S B gn gu gt vn j (.int .i64 h) wr from ⟨⟨A, h, rfl, ha, hh, by omega, h0⟩, hI.out.kS, hI.out.fr⟩)
          clear hI ha hh ht h0
          go_wp2
          go_roundw
          case rel => exact ⟨j, by omega, by go_num, HN⟩
          case measure => first | (simp [intOf]; done) | (simp [intOf]; omega)
        · rw [hb] at hbit
          have hm : MayA A ⟨(j : Int), 0, h⟩ := ⟨⟨by show (0 : Int) ≤ (j : Int); omega, by show (j : Int) < 24; omega⟩, ⟨has_ends.1, by show (j : Int) < topA A 0; rw [top_zero]; omega⟩, ⟨hh, by show (j : Int) < topA A h; omega⟩⟩
          have HND := hide (fNode_any S B gn gu gt wr (vn : Int) A (j : Int) h hI.out.kS ha h0 (i64_small (by omega) (by omega)) hh)
          have hne := notAr ha hI.out.kS (by decide) (by decide) (by decide) (by decide)
          have HNE := Lib.hid hne
          have HI := hide hI.out
          have hmk := make_one hm
          clear hI ha hh ht h0 hm hne
          rcases hmk with hE | ⟨hE, hm1, hm2, hm3⟩
          · go_wp2_with fail
            refine (HND.out).mono ?_
            rintro e w1 ⟨rfl, ha1, hf1⟩
            have HF := hide (HI.out.fr.trans hf1)
            clear ha1 hf1 HND
            rw [hE, errV_ne (by decide)]
            go_wp2
            go_ret2
            exact ⟨_, 12, by rw [errV_ne (by decide)]; rfl, .inr ⟨HOC.out, rfl, HRM.out⟩, HF.out⟩
          · go_wp2_with fail
            refine (HND.out).mono ?_
            rintro e w1 ⟨rfl, ha1, hf1⟩
            have HN := hide (show OneJ w S B gn gu gt vn j (.int .i64 (makeH A ⟨(j : Int), 0, h⟩)) w1 from ⟨⟨_, _, rfl, ha1, hm1, by rw [hm2]; exact Int.le_refl _, hm3⟩, HI.out.kS.fr hf1 HNE.out, HI.out.fr.trans hf1⟩)
            generalize makeH A ⟨(j : Int), 0, h⟩ = x at HN ⊢
            clear ha1 hf1 HND hm1 hm2 hm3
            rw [hE, errV_zero]
            go_wp2
            go_roundw
            case rel => exact ⟨j, by omega, by go_num, HN⟩
            case measure => first | (simp [intOf]; done) | (simp [intOf]; omega)
  · have hzb := shr_some set vn hz
    have HOC := Lib.hid (show oneC vn set = 2 by unfold oneC; rw [if_neg hz])
    clear h hz
    go_enter Tryd.func18, Tryd.ntmps18
    go_wp2
    go_ret2
    exact ⟨_, 2, by rw [errV_ne (by decide)]; rfl, .inl HOC.out.symm, .refl _ _⟩
set_option maxHeartbeats 4000000 in
theorem fOne_bad (vn set : Nat) (h : FsE w S B gn gu gt (vn : Int) R) (hv : vn ≤ 24) (hz : set >>> vn ≠ 0) :
    Calls Tryd.prog 18 #[.pointer (some ⟨S, 0, none⟩), .int .u64 (set : Int)] w (OneQ w B gn gu gt R vn set) := by
  have s1 := h.kS.cell 1
  have hmin : min vn 64 = vn := by omega
  have hzb := shr_some set vn hz
  have HOC := Lib.hid (show oneC vn set = 2 by unfold oneC; rw [if_neg hz])
  clear h hz
  go_enter Tryd.func18, Tryd.ntmps18
  go_wp2
  go_ret2
  exact ⟨_, 2, by rw [errV_ne (by decide)]; rfl, .inl HOC.out.symm, .refl _ _⟩
theorem fOne_x (vn set : Nat) (h : FsE w S B gn gu gt (vn : Int) R) (hv : vn ≤ 24) (hs64 : set < 18446744073709551616) :
    Calls Tryd.prog 18 #[.pointer (some ⟨S, 0, none⟩), .int .u64 (set : Int)] w (OneQ w B gn gu gt R vn set) := by
  by_cases hz : set >>> vn = 0
  · by_cases hr : R = 4000 ∧ vn ≤ 6
    · obtain ⟨rfl, h6⟩ := hr
      have hset : set < 2 ^ vn := by
        rw [Nat.shiftRight_eq_div_pow] at hz
        exact (Nat.div_eq_zero_iff_lt (Nat.two_pow_pos vn)).1 hz
      refine (fzOne_any S B gn gu gt (emptyA 4000) w vn set ⟨h.kS, h.ar, spZ_empty _, by omega⟩ hset (by rw [low3_empty]; omega)).mono fun e w' hp => ?_
      obtain ⟨A', x, he, _, _, hf⟩ := hp
      exact ⟨_, 0, by rw [he, errV_zero], .inl (by unfold oneC; rw [if_pos hz]), hf⟩
    · exact fOne_room S B gn gu gt R w vn set h hv hs64 hr
  · exact fOne_bad S B gn gu gt R w vn set h hv hz
end
/-- What family.New answers, of any numbers. -/
def FNewE (w : World) (things room : Int) (e : Ending) (w' : World) : Prop :=
  (¬ (0 ≤ things ∧ things ≤ 24 ∧ 0 ≤ room ∧ room ≤ 4000) ∧ e = .returned (.tuple #[.pointer none, errV 2]) ∧ Below w.heap.size w w') ∨
  (∃ vn R : Nat, things = (vn : Int) ∧ vn ≤ 24 ∧ room = (R : Int) ∧ R ≤ 4000 ∧ ∃ S B gn gu gt, e = .returned (.tuple #[.pointer (some ⟨S, 0, none⟩), .nilIface]) ∧ FsE w' S B gn gu gt (vn : Int) R ∧ (∀ k, arB B gn gu gt k → w.heap.size ≤ k) ∧ Below w.heap.size w w')
theorem fs_newE {w w1 : World} {R B gn gu gt : Nat} {things : Int} (ha : ArM w1 B gn gu gt (emptyA R)) (hb : Below w.heap.size w w1) :
    FsE (w1.alloc (.cells #[.pointer (some ⟨B, 0, none⟩), .int .i64 things] 58)) w1.heap.size B gn gu gt things R ∧
    Below w.heap.size w (w1.alloc (.cells #[.pointer (some ⟨B, 0, none⟩), .int .i64 things] 58)) := by
  have h1 : Below w1.heap.size w1 (w1.alloc (.cells #[.pointer (some ⟨B, 0, none⟩), .int .i64 things] 58)) := (Below.refl w1.heap.size w1).alloc (Nat.le_refl _) _
  exact ⟨fsE_of (Blk.new w1 58 _) (ha.below h1 (fun k hk => ha.lt hk)), hb.trans (h1.mono hb.size)⟩
set_option maxRecDepth 100000 in
set_option maxHeartbeats 4000000 in
theorem fNewE_any (things room : Int) (w : World) (hz : I64 room) : Calls Tryd.prog 5 #[.int .i64 things, .int .i64 room] w (FNewE w things room) := by
  have HNW := hide (arNew_any room w hz)
  by_cases h1 : things < 0
  · have HN := hide (show FNewE w things room (.returned (.tuple #[.pointer none, errV 2])) w from .inl ⟨by omega, rfl, Below.refl _ _⟩)
    rw [errV_ne (by decide)] at HN
    go_enter Tryd.func5, Tryd.ntmps5
    go_wp2
    go_ret2
    exact HN.out
  have h1b : decide (things < 0) = false := decide_eq_false h1
  by_cases h2 : 24 < things
  · have HN := hide (show FNewE w things room (.returned (.tuple #[.pointer none, errV 2])) w from .inl ⟨by omega, rfl, Below.refl _ _⟩)
    rw [errV_ne (by decide)] at HN
    go_enter Tryd.func5, Tryd.ntmps5
    go_wp2
    go_ret2
    exact HN.out
  have h2b : decide (24 < things) = false := decide_eq_false h2
  go_enter Tryd.func5, Tryd.ntmps5
  go_wp2_with fail
  refine (HNW.out).mono ?_
  rintro e w1 (⟨hno, rfl, hb1⟩ | ⟨hyes, B, gn, gu, gt, rfl, har, hlow, hb1⟩)
  · have HN := hide (show FNewE w things room (.returned (.tuple #[.pointer none, errV 2])) w1 from .inl ⟨by omega, rfl, hb1⟩)
    rw [errV_ne (by decide)] at HN ⊢
    clear hb1
    go_wp2
    go_ret2
    exact HN.out
  · obtain ⟨vn, rfl⟩ : ∃ vn : Nat, things = (vn : Int) := ⟨things.toNat, by omega⟩
    have hsp := fs_newE (things := (vn : Int)) har hb1
    have HN := hide (show FNewE w (vn : Int) room (.returned (.tuple #[.pointer (some ⟨w1.heap.size, 0, none⟩), .nilIface])) _ from .inr ⟨vn, room.toNat, rfl, by omega, by omega, by omega, _, _, _, _, _, rfl, hsp.1, hlow, hsp.2⟩)
    clear har hlow hb1 hsp HNW
    go_wp2
    go_ret2
    exact HN.out
end Go.Proofs.YtdlcldhnbhlikaaDoor
