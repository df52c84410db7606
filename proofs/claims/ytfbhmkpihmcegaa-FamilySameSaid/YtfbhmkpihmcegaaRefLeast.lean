/-
  The document's part and Least of families.
-/
import Derived.Test.YtfbhmkpihmcegaaFamMap
import Derived.Test.YtfbhmkpihmcegaaFamPlain
namespace Go.Proofs.Ytfbhmkpihmcegaa
open Go.RowKit Go.Maps

theorem partB : ∀ a, a < 64 → ∀ b, b < 64 → (bits BinOp.andNot IntKind.u64 ((a : Nat) : Int) ((b : Nat) : Int) == 0) = subN a b := by decide +kernel
theorem part_any (a b : Nat) (w : World) (ha : a < 64) (hb : b < 64) : Calls Try.prog 54 #[.int .u64 (a : Int), .int .u64 (b : Int)] w (fun e w' => e = .returned (.bool (subN a b)) ∧ w = w') := by
  have h := partB a ha b hb
  go_enter Try.func54, Try.ntmps54
  go_wp2
  go_ret
  exact ⟨by rw [← h]; rfl, rfl⟩
open Classical in
/-- Is a least, by those that are no longer to come? -/
noncomputable def lstB (F : Nat → Bool) (a : Nat) (left : Nat → Bool) : Bool := decide (∀ b, F b = true → left b = false → subN b a = true → b = a)
theorem lstB_iff {F : Nat → Bool} {a : Nat} {left : Nat → Bool} : lstB F a left = true ↔ ∀ b, F b = true → left b = false → subN b a = true → b = a := by simp [lstB]
theorem lstB_start (F : Nat → Bool) (a : Nat) : lstB F a F = true := lstB_iff.2 fun b h1 h2 _ => by rw [h1] at h2; cases h2
theorem lstB_step {F left : Nat → Bool} {a s : Nat} (hs : F s = true) (hl : left s = true) : lstB F a (fun u => left u && !(u == s)) = (lstB F a left && (a == s || !subN s a)) := by
  rw [Bool.eq_iff_iff, Bool.and_eq_true, lstB_iff, lstB_iff]
  constructor
  · intro h
    refine ⟨fun b h1 h2 h3 => h b h1 (by rw [h2]; rfl) h3, ?_⟩
    cases hp : subN s a with
    | false => simp
    | true =>
      have := h s hs (by simp) hp
      simp [this]
  · rintro ⟨h1, h2⟩ b hb hlb hsb
    by_cases e : b = s
    · subst e
      rw [hsb] at h2
      simp at h2
      exact h2.symm
    · refine h1 b hb ?_ hsb
      rw [show (b == s) = false from beq_eq_false_iff_ne.2 e] at hlb
      simpa using hlb
theorem lstB_end {F left : Nat → Bool} {a : Nat} (hF : F a = true) (hd : ∀ s, F s = true → s < 64) (hl : ∀ s, s < 64 → left s = false) : lstB F a left = leastG F a := by
  rw [Bool.eq_iff_iff, lstB_iff, leastG_iff]
  exact ⟨fun h => ⟨hF, fun t ht hs => h t ht (hl t (hd t ht)) hs⟩, fun h b hb _ hs => h.2 b hb hs⟩
/-- Where the walk over a family stands. -/
structure LstI (w : World) (gF gm r : Nat) (F left : Nat → Bool) (wr : World) : Prop where
  rng : RngU wr gF r F left
  out : MapU wr gm (fun s => leastG F s && !left s)
  bel : Below w.heap.size w wr
  ge : w.heap.size ≤ gm ∧ w.heap.size ≤ r ∧ gm ≠ r
theorem LstI.below {w wr wr' : World} {gF gm r : Nat} {F left : Nat → Bool} (h : LstI w gF gm r F left wr) (hb : Below wr.heap.size wr wr') : LstI w gF gm r F left wr' := by
  obtain ⟨D, lf, cnt, h1, h2, h3⟩ := h.rng
  have hg : wr.grownBy wr' none := ⟨hb.os, hb.tape, hb.output, hb.size, fun i hi _ => hb.block i hi⟩
  exact ⟨⟨D, lf, cnt, h1.kept hg (by simp) (by simp), h2, h3⟩, h.out.below hb h.out.lt, h.bel.trans (hb.mono h.bel.size), h.ge⟩
theorem MapU.ltw {w wr : World} {gF gm r : Nat} {F left : Nat → Bool} (h : LstI w gF gm r F left wr) : gF < wr.heap.size := h.rng.own.lt
theorem Fr.grow1 {w w' : World} {r : Nat} (h : Fr (fun k => k = r) w w') : w.grownBy w' (some r) := ⟨h.os, h.tape, h.output, h.size, fun k hk hn => h.block k hk (fun e => hn (by rw [e]))⟩
theorem grown_fr {w w' : World} {r : Nat} (h : w.grownBy w' (some r)) : Fr (fun k => k = r) w w' := ⟨h.os, h.tape, h.output, h.size, fun k hk hn => h.block k hk (fun e => hn (by injection e))⟩
/-- Where a second walk over a family stands. -/
structure RunI (w : World) (gF r : Nat) (F left : Nat → Bool) (wr : World) : Prop where
  rng : RngU wr gF r F left
  fr : Fr (fun k => k = r) w wr
def RefLeastP (w : World) (F : Nat → Bool) (e : Ending) (w' : World) : Prop := ∃ g, e = .returned (.map (some g)) ∧ MapU w' g (leastG F) ∧ Below w.heap.size w w' ∧ w.heap.size ≤ g
set_option maxRecDepth 100000 in
set_option maxHeartbeats 8000000 in
theorem refLeast_any (gF : Nat) (F : Nat → Bool) (w : World) (h : MapU w gF F) :
    Calls Try.prog 35 #[.map (some gF)] w (RefLeastP w F) := by
  have hmm := @run_makeMap Try.prog
  have hgl := h.lt
  have hdom := Lib.hid (fun s (e : F s = true) => h.dom e)
  have hal := (Below.refl w.heap.size w).alloc (Nat.le_refl _) (.map #[] 0)
  have HM := hide (h.below hal h.lt)
  have HO := hide (mapU_made w)
  have HA := hide hal
  have e1 : (w.alloc (.map #[] 0)).heap.size = w.heap.size + 1 := by simp
  clear h hal
  go_enter Try.func35, Try.ntmps35
  go_wp2_with (first
    | (at_range; refine rangeU rfl _ 46 rfl Try.underlying46 rfl HM.out ?_; intro w1 hr1 hg1 hs1)
    | fail)
  go_frame
  rw [e1] at hr1 hs1 ⊢
  have HST := hide (show LstI w gF w.heap.size (w.heap.size + 1) F F w1 from ⟨hr1, (HO.out.kept hg1 (by simp)).congr fun s => by
      cases hF : F s with
      | true => simp
      | false => rw [show leastG F s = false from Bool.eq_false_iff.2 fun e => by rw [(leastG_iff.1 e).1] at hF; cases hF]; rfl, HA.out.grown hg1 HA.out.size (fun j hj => by cases hj), Nat.le_refl _, by omega, by omega⟩)
  clear hr1 hg1 hs1 e1
  have HHE := Lib.hid (show w.heap.size ≤ w.heap.size from Nat.le_refl _)
  generalize hgm : w.heap.size = gm at HST HHE hgl ⊢
  have HGM := Lib.hid hgm
  clear hgm HHE HM HO HA
  go_loopw [4] (fun _ wr => ∃ left : Nat → Bool, Hid (LstI w gF gm (gm + 1) F left wr)) (fun _ wr => wr.rangeLeft gF (gm + 1))
  case atStart => exact ⟨F, HST⟩
  case round =>
    clear HST
    obtain ⟨left, hI⟩ := hrel
    have HRG := hide hI.out.rng
    go_wp2_with (first
      | (at_next; refine nextU rfl _ rfl rfl HRG.out ?_ ?_)
      | fail)
    · intro hl0
      have HP := hide (show RefLeastP w F (.returned (.map (some gm))) wr from ⟨gm, rfl, hI.out.out.congr fun s => by
        cases hs : leastG F s with
        | false => rfl
        | true => rw [hl0 s (hdom.out s (leastG_iff.1 hs).1)]; rfl, hI.out.bel, hI.out.ge.1⟩)
      clear hI HRG hl0
      go_wp2
      go_ret
      exact HP.out
    · intro s w1 hs64 hls hFs hr1 hg1 hsz1 hlt1 hen
      have HR1 := hide hr1
      have HO1 := hide (hI.out.out.kept hg1 (by simp))
      have HB1 := hide (hI.out.bel.grown hg1 hI.out.bel.size (fun j hj => by cases hj; exact hI.out.ge.2.1))
      have hltr := hI.out.rng.own.lt
      have hltm := hI.out.out.lt
      have hltg : gm + 1 < wr.heap.size := by
        obtain ⟨D, lf, cnt, h1, _⟩ := hI.out.rng
        exact h1.lt
      have hge := hI.out.ge
      clear hI HRG hr1 hg1
      have HMU := hide HR1.out.own
      go_wp2_with (first
        | (at_range; refine rangeU rfl _ 46 rfl Try.underlying46 rfl HMU.out ?_; intro w2 hr2 hg2 hs2)
        | fail)
      go_frame
      have HR2 := hide (HR1.out.kept hg2 (by simp) (by simp))
      have HO2 := hide (HO1.out.kept hg2 (by simp))
      have HB2 := hide (HB1.out.grown hg2 HB1.out.size (fun j hj => by cases hj))
      have hn2 : w1.heap.size ≠ gm + 1 := by omega
      have hn3 : w1.heap.size ≠ gm := by omega
      have hn4 : w1.heap.size ≠ gF := by omega
      have hgeq : w.heap.size ≤ w1.heap.size := by have := hge.1; omega
      have HRI := hide (show RunI w2 gF w1.heap.size F F w2 from ⟨hr2, .refl _ _⟩)
      have hltm2 : w2.rangeLeft gF (gm + 1) < wr.rangeLeft gF (gm + 1) := by
        obtain ⟨D, lf, cnt, h1, _⟩ := HR1.out
        have h3 := h1.kept hg2 (by simp) (by simp)
        rw [h3.left_eq, ← h1.left_eq]
        exact hlt1
      have HLM := Lib.hid hltm2
      clear hr2 hg2 hs2 HR1 HO1 HB1 hlt1 hen hltm2 HMU
      generalize w1.heap.size = r2 at HRI hn2 hn3 hn4 hgeq ⊢
      go_loopw [5, 6] (fun lv _ wr2 => ∃ left2 : Nat → Bool, lv = .bool (lstB F s left2) ∧ Hid (RunI w2 gF r2 F left2 wr2)) (fun _ _ wr2 => wr2.rangeLeft gF r2)
      case atStart => exact ⟨F, by rw [lstB_start], HRI⟩
      case round =>
        clear HRI
        obtain ⟨left2, rfl, hI2⟩ := hrel
        have HRG2 := hide hI2.out.rng
        go_wp2_with (first
          | (at_next; refine nextU rfl _ rfl rfl HRG2.out ?_ ?_)
          | fail)
        · intro hl0
          have hlb := lstB_end (a := s) (left := left2) hFs (fun u => hdom.out u) hl0
          have HG := hide hI2.out.fr.grow1
          have HRW := hide (HR2.out.kept HG.out (by simp; omega) (by simp; omega))
          have HOW := hide (HO2.out.kept HG.out (by simp; omega))
          have HBW := hide (HB2.out.grown HG.out HB2.out.size (fun j hj => by cases hj; exact hgeq))
          have hlm : wr.rangeLeft gF (gm + 1) = w2.rangeLeft gF (gm + 1) := HR2.out.left_kept HG.out (by simp; omega) (by simp; omega)
          have HLM2 := Lib.hid hlm
          rw [hlb]
          clear hI2 HRG2 hlb hl0 hlm
          cases hls2 : leastG F s
          · have HN := hide (show LstI w gF gm (gm + 1) F (fun u => left u && !(u == s)) wr from ⟨HRW.out, HOW.out.congr fun y => by
              by_cases e : y = s
              · subst e; rw [hls2]; rfl
              · rw [beq_eq_false_iff_ne.2 e, Bool.not_false, Bool.and_true], HBW.out, hge⟩)
            go_wp2
            go_roundw
            case rel => exact ⟨_, HN⟩
            case measure => rw [HLM2.out]; exact HLM.out
          · go_wp2_with (first
              | (at_mapUpdate; refine storeU rfl _ _ _ 46 rfl Try.underlying46 rfl HOW.out s rfl rfl hs64 ?_; intro w9 ho9 hg9; have HO9 := hide ho9; have HG9 := hide hg9; clear ho9 hg9; go_frame)
              | fail)
            have HN := hide (show LstI w gF gm (gm + 1) F (fun u => left u && !(u == s)) w9 from ⟨HRW.out.kept HG9.out (by simp; omega) (by simp), HO9.out.congr fun y => by
              by_cases e : y = s
              · subst e; rw [if_pos rfl, hls2]; simp
              · rw [if_neg e, beq_eq_false_iff_ne.2 e, Bool.not_false, Bool.and_true], HBW.out.grown HG9.out HBW.out.size (fun j hj => by cases hj; exact hge.1), hge⟩)
            have HLM3 := Lib.hid (HRW.out.left_kept HG9.out (by simp; omega) (by simp))
            go_roundw
            case rel => exact ⟨_, HN⟩
            case measure => rw [HLM3.out, HLM2.out]; exact HLM.out
        · intro u w3 hu64 hlu hFu hr3 hg3 hsz3 hlt3 hen3
          have HNI := hide (show RunI w2 gF r2 F (fun x => left2 x && !(x == u)) w3 from ⟨hr3, hI2.out.fr.trans (grown_fr hg3)⟩)
          have hst := lstB_step (a := s) hFu hlu
          clear hI2 HRG2 hr3 hg3
          cases hlv : lstB F s left2
          · have HV := Lib.hid (show lstB F s (fun x => left2 x && !(x == u)) = false by rw [hst, hlv]; rfl)
            clear hst
            go_wp2
            go_roundw
            case rel => exact ⟨_, by rw [HV.out], HNI⟩
            case measure => exact hlt3
          · by_cases e : s = u
            · subst e
              have HV := Lib.hid (show lstB F s (fun x => left2 x && !(x == s)) = true by rw [hst, hlv]; simp)
              clear hst
              go_wp2
              go_roundw
              case rel => exact ⟨_, by rw [HV.out], HNI⟩
              case measure => exact hlt3
            · have hne : ((s : Int) == (u : Int)) = false := beq_eq_false_iff_ne.2 (by omega)
              have HV := Lib.hid (show lstB F s (fun x => left2 x && !(x == u)) = !subN u s by rw [hst, hlv, beq_eq_false_iff_ne.2 e]; rfl)
              have HPT := hide (part_any u s w3 hu64 hs64)
              clear hst
              go_wp2_with fail
              refine (HPT.out).mono ?_
              rintro e' w4 ⟨rfl, rfl⟩
              cases hsub : subN u s
              all_goals
                rw [hsub] at HV
                go_wp2
                go_roundw
                case rel => exact ⟨_, by rw [HV.out]; rfl, HNI⟩
                case measure => exact hlt3
end Go.Proofs.Ytfbhmkpihmcegaa
