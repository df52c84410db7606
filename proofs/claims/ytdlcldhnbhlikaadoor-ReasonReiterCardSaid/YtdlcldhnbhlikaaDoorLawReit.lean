/-
  The law ReasonReiter, walked (gen_lawreit.py prints it).
-/
import Derived.Test.YtdlcldhnbhlikaaDoorReit
import Derived.Test.YtdlcldhnbhlikaaDoorRefHits
import Derived.Test.YtdlcldhnbhlikaaDoorBareC
import Derived.Deep.CutBlock
namespace Go.Proofs.YtdlcldhnbhlikaaDoor
open Go.RowKit Go.Maps

/-- The error that the law reckons, number by number. -/
def eAt (things : Int) (l : List Nat) : Nat → Int
  | 0 => if things < 0 ∨ 24 < things then 2 else if 200 < l.length then 4 else 0
  | i + 1 => if eAt things l i = 0 ∧ l.getD i 0 >>> things.toNat ≠ 0 then 2 else eAt things l i
theorem eAt_is (things : Int) (l : List Nat) : ∀ i, i ≤ l.length → eAt things l i = if things < 0 ∨ 24 < things then 2 else if 200 < l.length then 4 else if (l.take i).any (fun x => decide (x >>> things.toNat ≠ 0)) then 2 else 0 := by
  intro i
  induction i with
  | zero =>
    intro _
    show (if things < 0 ∨ 24 < things then 2 else if 200 < l.length then 4 else 0) = _
    rw [List.take_zero]
    rfl
  | succ i ih =>
    intro hi
    have hil : i < l.length := hi
    have ht : l.take (i + 1) = l.take i ++ [l.getD i 0] := by rw [List.take_add_one, List.getD_eq_getElem?_getD, List.getElem?_eq_getElem hil]; rfl
    show (if eAt things l i = 0 ∧ l.getD i 0 >>> things.toNat ≠ 0 then 2 else eAt things l i) = _
    rw [ih (by omega), ht, List.any_append]
    by_cases h1 : things < 0 ∨ 24 < things
    · rw [if_pos h1, if_pos h1, if_neg (by omega)]
    · rw [if_neg h1, if_neg h1]
      by_cases h2 : 200 < l.length
      · rw [if_pos h2, if_pos h2, if_neg (by omega)]
      · rw [if_neg h2, if_neg h2]
        simp only [List.any_cons, List.any_nil, Bool.or_false]
        generalize l.getD i 0 >>> things.toNat = z
        generalize (l.take i).any (fun x => decide (x >>> things.toNat ≠ 0)) = t
        cases t <;> by_cases hz : z = 0 <;> simp [hz]
theorem eAt_end (things : Int) (l : List Nat) : eAt things l l.length = reitC things l := by
  rw [eAt_is things l l.length (Nat.le_refl _), List.take_length]
  rfl
theorem eAt_few (things : Int) (l : List Nat) : ∀ i, eAt things l i = 0 ∨ (1 ≤ eAt things l i ∧ eAt things l i ≤ 13) := by
  intro i
  induction i with
  | zero =>
    show (if things < 0 ∨ 24 < things then (2 : Int) else if 200 < l.length then 4 else 0) = 0 ∨ _ ∧ (if things < 0 ∨ 24 < things then (2 : Int) else if 200 < l.length then 4 else 0) ≤ 13
    split
    · exact .inr ⟨by show (1 : Int) ≤ (if _ then _ else _); split <;> omega, by omega⟩
    · split
      · exact .inr ⟨by show (1 : Int) ≤ (if _ then _ else (if _ then _ else _)); split <;> first | omega | (split <;> omega), by omega⟩
      · exact .inl rfl
  | succ i ih =>
    have e : eAt things l (i + 1) = if eAt things l i = 0 ∧ l.getD i 0 >>> things.toNat ≠ 0 then 2 else eAt things l i := rfl
    rw [e]
    split
    · exact .inr ⟨by omega, by omega⟩
    · exact ih
theorem eAt_in {things : Int} {l : List Nat} {i : Nat} (hi : i ≤ l.length) (h : eAt things l i = 0) : 0 ≤ things ∧ things ≤ 24 := by
  rw [eAt_is things l i hi] at h
  by_cases h1 : things < 0 ∨ 24 < things
  · rw [if_pos h1] at h; omega
  · omega
/-- Where the law's loop stands. -/
structure LwI (w : World) (gm : Nat) (l : List Nat) (i : Nat) (wr : World) : Prop where
  map : MapB wr gm i (inL (l.take i))
  bel : Below w.heap.size w wr
  ge : w.heap.size ≤ gm
theorem LwI.next {w wr w9 : World} {gm i x : Nat} {l : List Nat} (h : LwI w gm l i wr) (ht : l.take (i + 1) = l.take i ++ [x]) (hm : MapB w9 gm (i + 1) (fun y => if y = x then true else inL (l.take i) y)) (hg : wr.grownBy w9 (some gm)) : LwI w gm l (i + 1) w9 :=
  ⟨hm.congr fun s => by rw [← inL_snoc ht]; by_cases e : s = x <;> simp [e], h.bel.grown hg h.bel.size (fun k hk => by cases hk; exact h.ge), h.ge⟩
theorem inL_small {things : Int} {l : List Nat} {vn : Nat} (hv : things = (vn : Int)) (h6 : vn ≤ 6) (h : reitC things l = 0) (s : Nat) (hs : inL l s = true) : s < 64 := by
  subst hv
  unfold reitC at h
  rw [if_neg (by omega)] at h
  split at h
  · omega
  · split at h
    · omega
    · rename_i hn
      have hm : s ∈ l := of_decide_eq_true hs
      have : s >>> vn = 0 := Decidable.byContradiction fun e => hn (List.any_eq_true.2 ⟨s, hm, decide_eq_true e⟩)
      have h1 := shr_lt this
      have h2 : 2 ^ vn ≤ 2 ^ 6 := Nat.pow_le_pow_right (by omega) h6
      omega
set_option maxRecDepth 100000 in
set_option maxHeartbeats 16000000 in
theorem lawReit_walk (things : Int) (A : Option Addr) (n c : Nat) (l : List Nat) (w : World) (hG : GlobE w) (hr : RowN w A n l) :
    Calls Tryd.prog 4 #[.int .i64 things, .slice A n c] w (AtPost w true) := by
  have hmm := @run_makeMap Tryd.prog
  have ec : ∀ (args : Array Value) (w : World), (callFunc 19 args).run Tryd.prog w = .ok (.enter 19 args) w := fun args w => enters_of Tryd.func19 (by kernel_rfl) rfl args w
  have HG := hide hG
  have HR := hide hr
  have HLN := Lib.hid hr.len
  have HLT := Lib.hid (smal_lt hr.lt)
  clear hG hr
  obtain ⟨sk, HSK⟩ : ∃ sk, Hid (decide ((30 < n ∧ n ≤ 200) ∨ 250 < n ∨ (6 < things ∧ things ≤ 24)) = sk) := ⟨_, Lib.hid rfl⟩
  go_enter Tryd.func4, Tryd.ntmps4
  go_upto_region 1 with fail
  go_cut [33] from 13 (fun s33 wc => s33 = .bool sk ∧ wc = w)
  case first => as_aux_lemma =>
    by_cases q1 : 30 < n
    · have q1I : (30 : Int) < (n : Int) := by omega
      by_cases q2 : n ≤ 200
      · have q2I : (n : Int) ≤ 200 := by omega
        have HS2 := Lib.hid (show sk = true by rw [← HSK.out]; exact decide_eq_true (.inl ⟨q1, q2⟩))
        clear q1 q2
        go_wp2
        go_meet
        case rel => exact ⟨by rw [HS2.out], rfl⟩
      · have q2I : decide ((n : Int) ≤ 200) = false := decide_eq_false (by omega)
        by_cases q3 : 250 < n
        · have q3I : (250 : Int) < (n : Int) := by omega
          have HS2 := Lib.hid (show sk = true by rw [← HSK.out]; exact decide_eq_true (.inr (.inl q3)))
          clear q1 q2 q3
          go_wp2
          go_meet
          case rel => exact ⟨by rw [HS2.out], rfl⟩
        · have q3I : decide ((250 : Int) < (n : Int)) = false := decide_eq_false (by omega)
          by_cases q4 : 6 < things
          · by_cases q5 : things ≤ 24
            · have HS2 := Lib.hid (show sk = true by rw [← HSK.out]; exact decide_eq_true (.inr (.inr ⟨q4, q5⟩)))
              clear q1 q2 q3
              go_wp2
              go_meet
              case rel => exact ⟨by rw [HS2.out], rfl⟩
            · have q5I : decide (things ≤ 24) = false := decide_eq_false q5
              have HS2 := Lib.hid (show sk = false by rw [← HSK.out]; exact decide_eq_false (by omega))
              clear q1 q2 q3
              go_wp2
              go_meet
              case rel => exact ⟨by rw [HS2.out], rfl⟩
          · have q4I : decide (6 < things) = false := decide_eq_false q4
            have HS2 := Lib.hid (show sk = false by rw [← HSK.out]; exact decide_eq_false (by omega))
            clear q1 q2 q3
            go_wp2
            go_meet
            case rel => exact ⟨by rw [HS2.out], rfl⟩
    · have q1I : decide ((30 : Int) < (n : Int)) = false := decide_eq_false (by omega)
      have q3I : decide ((250 : Int) < (n : Int)) = false := decide_eq_false (by omega)
      by_cases q4 : 6 < things
      · by_cases q5 : things ≤ 24
        · have HS2 := Lib.hid (show sk = true by rw [← HSK.out]; exact decide_eq_true (.inr (.inr ⟨q4, q5⟩)))
          clear q1
          go_wp2
          go_meet
          case rel => exact ⟨by rw [HS2.out], rfl⟩
        · have q5I : decide (things ≤ 24) = false := decide_eq_false q5
          have HS2 := Lib.hid (show sk = false by rw [← HSK.out]; exact decide_eq_false (by omega))
          clear q1
          go_wp2
          go_meet
          case rel => exact ⟨by rw [HS2.out], rfl⟩
      · have q4I : decide (6 < things) = false := decide_eq_false q4
        have HS2 := Lib.hid (show sk = false by rw [← HSK.out]; exact decide_eq_false (by omega))
        clear q1
        go_wp2
        go_meet
        case rel => exact ⟨by rw [HS2.out], rfl⟩
  case rest => as_aux_lemma =>
    obtain ⟨rfl, rfl⟩ := hcut
    cases sk with
    | true =>
      go_wp2
      go_ret
      exact ⟨rfl, Below.refl _ _⟩
    | false =>
      obtain ⟨wz, rfl⟩ : ∃ wz, wz = wc := ⟨_, rfl⟩
      have hns : ¬ ((30 < n ∧ n ≤ 200) ∨ 250 < n ∨ (6 < things ∧ things ≤ 24)) := of_decide_eq_false HSK.out
      have hn250 : n ≤ 250 := by omega
      have hTT : things < 0 ∨ 24 < things ∨ (0 ≤ things ∧ things ≤ 6) := by omega
      have HTT := Lib.hid hTT
      have HSM := hide (fun wx (hb : Below wz.heap.size wz wx) => smallest_any A n c l wx (HR.out.below hb) (by omega))
      have HRT := hide (fun wx (hb : Below wz.heap.size wz wx) => reiter_any wx things A n c l (HR.out.below hb) (by omega) HTT.out)
      obtain ⟨E0, HE0⟩ : ∃ E0, Hid (eAt things l 0 = E0) := ⟨_, Lib.hid rfl⟩
      have HEE := Lib.hid (show (if things < 0 ∨ 24 < things then 2 else if 200 < n then 4 else 0) = E0 from by rw [← HE0.out, ← HLN.out]; rfl)
      have HST := hide (show LwI wz wz.heap.size l 0 (wz.alloc (.map #[] 0)) from ⟨(mapB_made wz).congr fun s => by rw [List.take_zero]; rfl, (Below.refl _ _).alloc (Nat.le_refl _) _, Nat.le_refl _⟩)
      clear hTT hns HSK
      go_upto_block 0 with fail
      obtain ⟨gm, HGM⟩ : ∃ gm, Hid (wz.heap.size = gm) := ⟨_, Lib.hid rfl⟩
      rw [HGM.out] at HST ⊢
      generalize wz.alloc (.map #[] 0) = w1 at HST ⊢
      go_cut [5] from 13 (fun s5 wd2 => s5 = .int .i64 E0 ∧ Hid (LwI wz gm l 0 wd2))
      case first => as_aux_lemma =>
        by_cases q1 : things < 0
        · have hE : E0 = 2 := by rw [← HEE.out, if_pos (.inl q1)]
          subst hE
          go_wp2
          go_meet
          case rel => exact ⟨rfl, HST⟩
        · have q1b : decide (things < 0) = false := decide_eq_false q1
          by_cases q2 : 24 < things
          · have hE : E0 = 2 := by rw [← HEE.out, if_pos (.inr q2)]
            subst hE
            go_wp2
            go_meet
            case rel => exact ⟨rfl, HST⟩
          · have q2b : decide (24 < things) = false := decide_eq_false q2
            have q : ¬ (things < 0 ∨ 24 < things) := by omega
            by_cases q3 : 200 < n
            · have q3I : (200 : Int) < (n : Int) := by omega
              have hE : E0 = 4 := by rw [← HEE.out, if_neg q, if_pos q3]
              subst hE
              clear q q3 q1 q2
              go_wp2
              go_meet
              case rel => exact ⟨rfl, HST⟩
            · have q3I : ¬ (200 : Int) < (n : Int) := by omega
              have hE : E0 = 0 := by rw [← HEE.out, if_neg q, if_neg q3]
              subst hE
              clear q q3 q1 q2
              go_wp2
              go_meet
              case rel => exact ⟨rfl, HST⟩
      case rest => as_aux_lemma =>
          obtain ⟨rfl, HS1⟩ := hcut
          clear HST HEE
          go_wp2
          go_loopw [5, 7, 9] (fun ev bv iv wr => ∃ i : Nat, i ≤ n ∧ iv = .int .i64 (i : Int) ∧ ev = .int .i64 (eAt things l i) ∧ bv = .int .u64 (smal l i : Int) ∧ Hid (LwI wz gm l i wr)) (fun _ _ iv _ => n - (intOf iv).toNat)
          case atStart => exact ⟨0, Nat.zero_le _, rfl, by rw [HE0.out], rfl, HS1⟩
          case round =>
            clear HS1 HE0
            obtain ⟨i, hi, rfl, rfl, rfl, hI⟩ := hrel
            by_cases hlt : i < n
            · have hiI : (i : Int) < (n : Int) := by omega
              obtain ⟨a, rfl, hc, hx64⟩ := (HR.out.below hI.out.bel).at_ hlt
              have hil : i < l.length := by rw [HLN.out]; exact hlt
              have HTK := Lib.hid (show l.take (i + 1) = l.take i ++ [l.getD i 0] by rw [List.take_add_one, List.getD_eq_getElem?_getD, List.getElem?_eq_getElem hil]; rfl)
              have HIN := Lib.hid (fun (h : eAt things l i = 0) => eAt_in (Nat.le_of_lt hil) h)
              have HES := Lib.hid (show eAt things l (i + 1) = if eAt things l i = 0 ∧ l.getD i 0 >>> things.toNat ≠ 0 then 2 else eAt things l i from rfl)
              have HBS := Lib.hid (show smal l (i + 1) = if i = 0 ∨ pop (l.getD i 0) < pop (smal l i) then l.getD i 0 else smal l i from rfl)
              have hb64 := HLT.out i
              obtain ⟨x, HXE⟩ : ∃ x, Hid (l.getD i 0 = x) := ⟨_, Lib.hid rfl⟩
              obtain ⟨b, HBE⟩ : ∃ b, Hid (smal l i = b) := ⟨_, Lib.hid rfl⟩
              obtain ⟨ei, HEI⟩ : ∃ ei, Hid (eAt things l i = ei) := ⟨_, Lib.hid rfl⟩
              rw [HXE.out] at hc hx64 HTK HES HBS
              rw [HBE.out] at hb64 HBS ⊢
              rw [HEI.out] at HES HIN ⊢
              have HC1 := hide (fun wx => lawOnes_any x wx hx64)
              have HC2 := hide (fun wx => lawOnes_any b wx hb64)
              have HCA := Lib.hid (fun (wx : World) (hm : MapB wx gm (i + 1) (fun y => if y = x then true else inL (l.take i) y)) (hg : wr.grownBy wx (some gm)) => show wx.cell? (a.add i) = some (.int .u64 (x : Int)) from by
                have hb := hI.out.bel.grown hg hI.out.bel.size (fun k hk => by cases hk; exact hI.out.ge)
                obtain ⟨a2, ha2, hc2, _⟩ := (HR.out.below hb).at_ hlt
                cases ha2
                rw [HXE.out] at hc2
                exact hc2)
              have HI := hide hI.out
              have HMB := hide hI.out.map
              have hi6 : i ≤ 1000000 := by omega
              clear hI HR HSM HRT HG hil HXE HBE HEI
              by_cases he : ei = 0
              · have hin := HIN.out he
                subst he
                obtain ⟨vn, rfl⟩ : ∃ vn : Nat, things = (vn : Int) := ⟨things.toNat, by omega⟩
                have hmin : min vn 64 = vn := by omega
                rw [Int.toNat_natCast] at HES
                by_cases hz : x >>> vn = 0
                · have hzb := shr_zero x vn hz
                  have HE2 := Lib.hid (show eAt (vn : Int) l (i + 1) = 0 by rw [HES.out, if_neg (fun e => e.2 hz)])
                  clear hz hin
                  by_cases h0 : i = 0
                  · have h0b : ((i : Int) == 0) = true := beq_iff_eq.2 (by omega)
                    have HB2 := Lib.hid (show smal l (i + 1) = x by rw [HBS.out, if_pos (.inl h0)])
                    clear h0
                    go_wp2_with (first | (at_mapUpdate; refine storeB rfl _ _ _ 46 rfl Tryd.underlying46 rfl HMB.out x rfl rfl hx64 hi6 ?_; intro w9 hm9 hg9; have hc9 := HCA.out w9 hm9 hg9; have HN9 := hide (HI.out.next HTK.out hm9 hg9); clear hm9 hg9 hc) | fail)
                    go_roundw
                    case rel => exact ⟨i + 1, by omega, by go_num, by rw [HE2.out], by rw [HB2.out], HN9⟩
                    case measure => simp [intOf]; omega
                  · have h0b : ((i : Int) == 0) = false := beq_eq_false_iff_ne.2 (by omega)
                    by_cases hp : pop x < pop b
                    · have hpI : (pop x : Int) < (pop b : Int) := by omega
                      have HB2 := Lib.hid (show smal l (i + 1) = x by rw [HBS.out, if_pos (.inr hp)])
                      clear hp h0
                      go_wp2_with (first | (at_mapUpdate; refine storeB rfl _ _ _ 46 rfl Tryd.underlying46 rfl HMB.out x rfl rfl hx64 hi6 ?_; intro w9 hm9 hg9; have hc9 := HCA.out w9 hm9 hg9; have HN9 := hide (HI.out.next HTK.out hm9 hg9); clear hm9 hg9 hc) | fail)
                      refine (HC1.out _).mono ?_
                      rintro e w1 ⟨rfl, rfl⟩
                      go_wp2_with fail
                      refine (HC2.out _).mono ?_
                      rintro e w1 ⟨rfl, rfl⟩
                      go_wp2
                      go_roundw
                      case rel => exact ⟨i + 1, by omega, by go_num, by rw [HE2.out], by rw [HB2.out], HN9⟩
                      case measure => simp [intOf]; omega
                    · have hpI : ¬ (pop x : Int) < (pop b : Int) := by omega
                      have HB2 := Lib.hid (show smal l (i + 1) = b by rw [HBS.out, if_neg (by omega)])
                      clear hp h0
                      go_wp2_with (first | (at_mapUpdate; refine storeB rfl _ _ _ 46 rfl Tryd.underlying46 rfl HMB.out x rfl rfl hx64 hi6 ?_; intro w9 hm9 hg9; have hc9 := HCA.out w9 hm9 hg9; have HN9 := hide (HI.out.next HTK.out hm9 hg9); clear hm9 hg9 hc) | fail)
                      refine (HC1.out _).mono ?_
                      rintro e w1 ⟨rfl, rfl⟩
                      go_wp2_with fail
                      refine (HC2.out _).mono ?_
                      rintro e w1 ⟨rfl, rfl⟩
                      go_wp2
                      go_roundw
                      case rel => exact ⟨i + 1, by omega, by go_num, by rw [HE2.out], by rw [HB2.out], HN9⟩
                      case measure => simp [intOf]; omega
                · have hzb := shr_some x vn hz
                  have HE2 := Lib.hid (show eAt (vn : Int) l (i + 1) = 2 by rw [HES.out, if_pos ⟨rfl, hz⟩])
                  clear hz hin
                  by_cases h0 : i = 0
                  · have h0b : ((i : Int) == 0) = true := beq_iff_eq.2 (by omega)
                    have HB2 := Lib.hid (show smal l (i + 1) = x by rw [HBS.out, if_pos (.inl h0)])
                    clear h0
                    go_wp2_with (first | (at_mapUpdate; refine storeB rfl _ _ _ 46 rfl Tryd.underlying46 rfl HMB.out x rfl rfl hx64 hi6 ?_; intro w9 hm9 hg9; have hc9 := HCA.out w9 hm9 hg9; have HN9 := hide (HI.out.next HTK.out hm9 hg9); clear hm9 hg9 hc) | fail)
                    go_roundw
                    case rel => exact ⟨i + 1, by omega, by go_num, by rw [HE2.out], by rw [HB2.out], HN9⟩
                    case measure => simp [intOf]; omega
                  · have h0b : ((i : Int) == 0) = false := beq_eq_false_iff_ne.2 (by omega)
                    by_cases hp : pop x < pop b
                    · have hpI : (pop x : Int) < (pop b : Int) := by omega
                      have HB2 := Lib.hid (show smal l (i + 1) = x by rw [HBS.out, if_pos (.inr hp)])
                      clear hp h0
                      go_wp2_with (first | (at_mapUpdate; refine storeB rfl _ _ _ 46 rfl Tryd.underlying46 rfl HMB.out x rfl rfl hx64 hi6 ?_; intro w9 hm9 hg9; have hc9 := HCA.out w9 hm9 hg9; have HN9 := hide (HI.out.next HTK.out hm9 hg9); clear hm9 hg9 hc) | fail)
                      refine (HC1.out _).mono ?_
                      rintro e w1 ⟨rfl, rfl⟩
                      go_wp2_with fail
                      refine (HC2.out _).mono ?_
                      rintro e w1 ⟨rfl, rfl⟩
                      go_wp2
                      go_roundw
                      case rel => exact ⟨i + 1, by omega, by go_num, by rw [HE2.out], by rw [HB2.out], HN9⟩
                      case measure => simp [intOf]; omega
                    · have hpI : ¬ (pop x : Int) < (pop b : Int) := by omega
                      have HB2 := Lib.hid (show smal l (i + 1) = b by rw [HBS.out, if_neg (by omega)])
                      clear hp h0
                      go_wp2_with (first | (at_mapUpdate; refine storeB rfl _ _ _ 46 rfl Tryd.underlying46 rfl HMB.out x rfl rfl hx64 hi6 ?_; intro w9 hm9 hg9; have hc9 := HCA.out w9 hm9 hg9; have HN9 := hide (HI.out.next HTK.out hm9 hg9); clear hm9 hg9 hc) | fail)
                      refine (HC1.out _).mono ?_
                      rintro e w1 ⟨rfl, rfl⟩
                      go_wp2_with fail
                      refine (HC2.out _).mono ?_
                      rintro e w1 ⟨rfl, rfl⟩
                      go_wp2
                      go_roundw
                      case rel => exact ⟨i + 1, by omega, by go_num, by rw [HE2.out], by rw [HB2.out], HN9⟩
                      case measure => simp [intOf]; omega
              · have heb : (ei == 0) = false := beq_eq_false_iff_ne.2 he
                have HE2 := Lib.hid (show eAt things l (i + 1) = ei by rw [HES.out, if_neg (fun e => he e.1)])
                clear he
                by_cases h0 : i = 0
                · have h0b : ((i : Int) == 0) = true := beq_iff_eq.2 (by omega)
                  have HB2 := Lib.hid (show smal l (i + 1) = x by rw [HBS.out, if_pos (.inl h0)])
                  clear h0
                  go_wp2_with (first | (at_mapUpdate; refine storeB rfl _ _ _ 46 rfl Tryd.underlying46 rfl HMB.out x rfl rfl hx64 hi6 ?_; intro w9 hm9 hg9; have hc9 := HCA.out w9 hm9 hg9; have HN9 := hide (HI.out.next HTK.out hm9 hg9); clear hm9 hg9 hc) | fail)
                  go_roundw
                  case rel => exact ⟨i + 1, by omega, by go_num, by rw [HE2.out], by rw [HB2.out], HN9⟩
                  case measure => simp [intOf]; omega
                · have h0b : ((i : Int) == 0) = false := beq_eq_false_iff_ne.2 (by omega)
                  by_cases hp : pop x < pop b
                  · have hpI : (pop x : Int) < (pop b : Int) := by omega
                    have HB2 := Lib.hid (show smal l (i + 1) = x by rw [HBS.out, if_pos (.inr hp)])
                    clear hp h0
                    go_wp2_with (first | (at_mapUpdate; refine storeB rfl _ _ _ 46 rfl Tryd.underlying46 rfl HMB.out x rfl rfl hx64 hi6 ?_; intro w9 hm9 hg9; have hc9 := HCA.out w9 hm9 hg9; have HN9 := hide (HI.out.next HTK.out hm9 hg9); clear hm9 hg9 hc) | fail)
                    refine (HC1.out _).mono ?_
                    rintro e w1 ⟨rfl, rfl⟩
                    go_wp2_with fail
                    refine (HC2.out _).mono ?_
                    rintro e w1 ⟨rfl, rfl⟩
                    go_wp2
                    go_roundw
                    case rel => exact ⟨i + 1, by omega, by go_num, by rw [HE2.out], by rw [HB2.out], HN9⟩
                    case measure => simp [intOf]; omega
                  · have hpI : ¬ (pop x : Int) < (pop b : Int) := by omega
                    have HB2 := Lib.hid (show smal l (i + 1) = b by rw [HBS.out, if_neg (by omega)])
                    clear hp h0
                    go_wp2_with (first | (at_mapUpdate; refine storeB rfl _ _ _ 46 rfl Tryd.underlying46 rfl HMB.out x rfl rfl hx64 hi6 ?_; intro w9 hm9 hg9; have hc9 := HCA.out w9 hm9 hg9; have HN9 := hide (HI.out.next HTK.out hm9 hg9); clear hm9 hg9 hc) | fail)
                    refine (HC1.out _).mono ?_
                    rintro e w1 ⟨rfl, rfl⟩
                    go_wp2_with fail
                    refine (HC2.out _).mono ?_
                    rintro e w1 ⟨rfl, rfl⟩
                    go_wp2
                    go_roundw
                    case rel => exact ⟨i + 1, by omega, by go_num, by rw [HE2.out], by rw [HB2.out], HN9⟩
                    case measure => simp [intOf]; omega
            · obtain rfl : i = n := by omega
              have hEE : eAt things l i = reitC things l := by rw [← HLN.out]; exact eAt_end things l
              have hfew := eAt_few things l i
              rw [hEE] at hfew ⊢
              have HI := hide hI.out
              have HBR := hide (fun wx (hb : Below wz.heap.size wz wx) => bareS_any (reitC things l) wx (HG.out.below hb) hfew)
              have htl : l.take i = l := List.take_of_length_le (by rw [HLN.out]; exact Nat.le_refl _)
              have HMB := hI.out.map
              rw [htl] at HMB
              have HMB := hide HMB
              unfold ReitP at HRT
              obtain ⟨E, HEC⟩ : ∃ E, Hid (reitC things l = E) := ⟨_, Lib.hid rfl⟩
              rw [HEC.out] at HBR HRT ⊢
              clear hI hfew hEE htl ec
              by_cases he : E = 0
              · subst he
                obtain ⟨h1, h2⟩ := eAt_in (things := things) (l := l) (i := i) (by rw [HLN.out]; exact Nat.le_refl _) (by rw [← HLN.out, eAt_end]; exact HEC.out)
                obtain ⟨vn, rfl⟩ : ∃ vn : Nat, things = (vn : Int) := ⟨things.toNat, by omega⟩
                have h6 : vn ≤ 6 := by have := HTT.out; omega
                have HMU := HMB.out.small fun s hs => inL_small rfl h6 HEC.out s hs
                have HRH := hide (refHits_any gm vn (inL l) wr HMU h6)
                have hlen := sets_len (leastG (transG vn (inL l)))
                clear HMU h1 h2
                go_wp2_with fail
                refine (HRH.out).mono ?_
                rintro e w4 ⟨pg, rfl, hm4, hb4, _⟩
                have HB4 := hide (HI.out.bel.trans (hb4.mono HI.out.bel.size))
                have HSE := hide (refSets_any pg _ w4 hm4)
                clear hm4 hb4 HRH
                go_wp2_with fail
                refine (HSE.out).mono ?_
                rintro e w5 ⟨v5, rfl, hv5, hb5⟩
                have HB5 := hide (HB4.out.trans (hb5.mono HB4.out.size))
                have HV5 := hide hv5
                have HRR := hide (HRT.out w5 HB5.out)
                clear hv5 hb5 HSE HB4 HRT
                go_wp2_with fail
                refine (HRR.out).mono ?_
                rintro e w6 ⟨⟨_, vn2, v6, hvn, _, rfl, hv6⟩ | ⟨hbad, _⟩, hb6⟩
                case inr => exact absurd rfl hbad
                obtain rfl : vn2 = vn := by omega
                have HB6 := hide (HB5.out.trans (hb6.mono HB5.out.size))
                have HV6 := hide hv6
                have HV56 := hide (HV5.out.below hb6)
                clear hv6 hb6 HRR HB5 HV5
                have HBA := hide (HBR.out w6 HB6.out)
                rw [errV_zero] at HBA
                go_wp2_with fail
                refine (HBA.out).mono ?_
                rintro e w7 ⟨rfl, hb7⟩
                have HB7 := hide (HB6.out.trans (hb7.mono HB6.out.size))
                have HSS := hide ((sameSets_any _ _ _ _ _ _ w7 (HV6.out.below hb7) (HV56.out.below hb7) (by omega)).mono fun e w' hp => show e = .returned (.bool true) ∧ Below w7.heap.size w7 w' from ⟨by rw [hp.1, decide_eq_true rfl], by obtain ⟨q, hq⟩ := hp.2; rw [hq]; exact below_drewN (Below.refl _ _) q⟩)
                clear hb7 HBA HBR
                go_wp2_with fail
                refine (HSS.out).mono ?_
                rintro e w8 ⟨rfl, hb8⟩
                have HB8 := hide (HB7.out.trans (hb8.mono HB7.out.size))
                have HSL := hide (HSM.out w8 HB8.out)
                clear hb8 HSS HSM
                go_wp2_with fail
                refine (HSL.out).mono ?_
                rintro e w9 ⟨rfl, rfl⟩
                go_wp2
                go_ret
                exact ⟨ret_bool (by simp), HB8.out⟩
              · have heb : (E == 0) = false := beq_eq_false_iff_ne.2 he
                have HRR := hide (HRT.out wr HI.out.bel)
                have HNE := Lib.hid he
                clear he
                go_wp2_with fail
                refine (HRR.out).mono ?_
                rintro e w6 ⟨⟨hbad, _⟩ | ⟨_, rfl⟩, hb6⟩
                case inl => exact absurd hbad HNE.out
                have HB6 := hide (HI.out.bel.trans (hb6.mono HI.out.bel.size))
                clear hb6 HRR HRT
                have HBA := hide (HBR.out w6 HB6.out)
                generalize errV E = ev at HBA ⊢
                go_wp2_with fail
                refine (HBA.out).mono ?_
                rintro e w7 ⟨rfl, hb7⟩
                have HB7 := hide (HB6.out.trans (hb7.mono HB6.out.size))
                have HSS := hide ((sameSets_any 0 0 _ _ [] [] w7 (ownU_nil w7 0) (ownU_nil w7 0) (by simp)).mono fun e w' hp => show e = .returned (.bool true) ∧ Below w7.heap.size w7 w' from ⟨by rw [hp.1, decide_eq_true rfl], by obtain ⟨q, hq⟩ := hp.2; rw [hq]; exact below_drewN (Below.refl _ _) q⟩)
                clear hb7 HBA HBR
                go_wp2_with fail
                refine (HSS.out).mono ?_
                rintro e w8 ⟨rfl, hb8⟩
                have HB8 := hide (HB7.out.trans (hb8.mono HB7.out.size))
                have HSL := hide (HSM.out w8 HB8.out)
                clear hb8 HSS HSM
                go_wp2_with fail
                refine (HSL.out).mono ?_
                rintro e w9 ⟨rfl, rfl⟩
                go_wp2
                go_ret
                exact ⟨ret_bool (by simp), HB8.out⟩
end Go.Proofs.YtdlcldhnbhlikaaDoor
