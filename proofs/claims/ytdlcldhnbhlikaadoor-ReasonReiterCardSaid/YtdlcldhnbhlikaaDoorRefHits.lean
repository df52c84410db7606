/-
  The document's Hits of a family.
-/
import Derived.Test.YtdlcldhnbhlikaaDoorBerge
namespace Go.Proofs.YtdlcldhnbhlikaaDoor
open Go.RowKit Go.Maps

/-- Has x something of each set that is no longer to come? -/
noncomputable def hitB (F : Nat → Bool) (x : Nat) (left : Nat → Bool) : Bool := @decide (∀ a, F a = true → left a = false → a &&& x ≠ 0) (Classical.propDecidable _)
theorem hitB_iff {F : Nat → Bool} {x : Nat} {left : Nat → Bool} : hitB F x left = true ↔ ∀ a, F a = true → left a = false → a &&& x ≠ 0 := @decide_eq_true_iff _ (Classical.propDecidable _)
theorem hitB_start (F : Nat → Bool) (x : Nat) : hitB F x F = true := hitB_iff.2 fun a h1 h2 => by rw [h1] at h2; cases h2
theorem hitB_step {F left : Nat → Bool} {x s : Nat} (hs : F s = true) (hl : left s = true) : hitB F x (fun u => left u && !(u == s)) = (hitB F x left && !(s &&& x == 0)) := by
  rw [Bool.eq_iff_iff, Bool.and_eq_true, hitB_iff, hitB_iff]
  constructor
  · intro h
    refine ⟨fun a h1 h2 => h a h1 (by rw [h2]; rfl), ?_⟩
    have := h s hs (by simp)
    simpa using this
  · rintro ⟨h1, h2⟩ a ha hla
    by_cases e : a = s
    · subst e
      simpa using h2
    · refine h1 a ha ?_
      rw [show (a == s) = false from beq_eq_false_iff_ne.2 e] at hla
      simpa using hla
theorem hitB_end {vn : Nat} {F left : Nat → Bool} {x : Nat} (hx : x < 2 ^ vn) (hd : ∀ s, F s = true → s < 64) (hl : ∀ s, s < 64 → left s = false) : hitB F x left = transG vn F x := by
  rw [Bool.eq_iff_iff, hitB_iff, transG_iff]
  exact ⟨fun h => ⟨hx, fun a ha => h a ha (hl a (hd a ha))⟩, fun h a ha _ => h.2 a ha⟩
/-- Where the walk over all sets stands. -/
structure HtsI (w : World) (gF gm vn k : Nat) (F : Nat → Bool) (wr : World) : Prop where
  mp : MapU wr gF F
  out : MapU wr gm (fun s => decide (s < k) && transG vn F s)
  bel : Below w.heap.size w wr
  ge : w.heap.size ≤ gm ∧ gF < w.heap.size
def RefHitsP (w : World) (vn : Nat) (F : Nat → Bool) (e : Ending) (w' : World) : Prop := ∃ g, e = .returned (.map (some g)) ∧ MapU w' g (leastG (transG vn F)) ∧ Below w.heap.size w w' ∧ w.heap.size ≤ g
theorem hts_next {vn k : Nat} {F : Nat → Bool} (b : Bool) (hb : transG vn F k = b) (s : Nat) : (decide (s < k + 1) && transG vn F s) = if s = k then b else (decide (s < k) && transG vn F s) := by
  by_cases e : s = k
  · subst e; rw [if_pos rfl, hb]; simp
  · rw [if_neg e]
    congr 1
    exact decide_eq_decide.2 (by omega)
set_option maxRecDepth 100000 in
set_option maxHeartbeats 8000000 in
theorem refHits_any (gF vn : Nat) (F : Nat → Bool) (w : World) (h : MapU w gF F) (h6 : vn ≤ 6) :
    Calls Tryd.prog 20 #[.map (some gF), .int .i64 (vn : Int)] w (RefHitsP w vn F) := by
  have hmm := @run_makeMap Tryd.prog
  have hgl := h.lt
  have hdom := Lib.hid (fun s (e : F s = true) => h.dom e)
  have hal := (Below.refl w.heap.size w).alloc (Nat.le_refl _) (.map #[] 0)
  have hmin : min vn 64 = vn := by omega
  obtain ⟨hp1, _⟩ := pow_u6 vn h6
  have hp64 : 2 ^ vn ≤ 64 := Nat.pow_le_pow_right (show 0 < 2 by omega) h6
  have HST := hide (show HtsI w gF w.heap.size vn 0 F (w.alloc (.map #[] 0)) from ⟨h.below hal h.lt, (mapU_made w).congr fun s => by simp, hal, Nat.le_refl _, hgl⟩)
  clear h hal
  obtain ⟨pv, hpv⟩ : ∃ pv, 2 ^ vn = pv := ⟨_, rfl⟩
  rw [hpv] at hp1 hp64
  have HPV := Lib.hid hpv
  clear hpv
  go_enter Tryd.func20, Tryd.ntmps20
  go_wp2
  generalize (w.alloc (.map #[] 0)) = w1 at HST ⊢
  generalize hgm : w.heap.size = gm at HST ⊢
  have HGM := Lib.hid hgm
  clear hgm
  go_loopw [12] (fun iv wr => ∃ k : Nat, k ≤ pv ∧ iv = .int .u64 (k : Int) ∧ Hid (HtsI w gF gm vn k F wr)) (fun iv _ => pv - (intOf iv).toNat)
  case atStart => exact ⟨0, Nat.zero_le _, rfl, HST⟩
  case round =>
    clear HST
    obtain ⟨k, hk, rfl, hI⟩ := hrel
    by_cases hlt : k < pv
    · have hkI : (k : Int) < (pv : Int) := by omega
      have hge := hI.out.ge
      have hgm := hI.out.out.lt
      have HMP := hide hI.out.mp
      obtain ⟨w0, rfl⟩ : ∃ w0, w0 = wr := ⟨_, rfl⟩
      go_wp2_with (first
        | (at_range; refine rangeU rfl _ 46 rfl Tryd.underlying46 rfl HMP.out ?_; intro w2 hr2 hg2 hs2)
        | fail)
      go_frame
      have HM2 := hide (HMP.out.kept hg2 (by simp))
      have HO2 := hide (hI.out.out.kept hg2 (by simp))
      have HB2 := hide (hI.out.bel.grown hg2 hI.out.bel.size (fun j hj => by cases hj))
      have hn2 : w0.heap.size ≠ gF := by have := hI.out.mp.lt; omega
      have hn3 : w0.heap.size ≠ gm := by omega
      have hgeq : w.heap.size ≤ w0.heap.size := hI.out.bel.size
      have HRI := hide (show RunI w2 gF w0.heap.size F F w2 from ⟨hr2, .refl _ _⟩)
      clear hr2 hg2 hs2 hI HMP
      generalize w0.heap.size = r2 at HRI hn2 hn3 hgeq ⊢
      go_loopw [7, 8] (fun lv _ wr2 => ∃ left2 : Nat → Bool, lv = .bool (hitB F k left2) ∧ Hid (RunI w2 gF r2 F left2 wr2)) (fun _ _ wr2 => wr2.rangeLeft gF r2)
      case atStart => exact ⟨F, by rw [hitB_start], HRI⟩
      case round =>
        clear HRI
        obtain ⟨left2, rfl, hI2⟩ := hrel
        have HRG2 := hide hI2.out.rng
        go_wp2_with (first
          | (at_next; refine nextU rfl _ rfl rfl HRG2.out ?_ ?_)
          | fail)
        · intro hl0
          have hhb := hitB_end (vn := vn) (x := k) (left := left2) (by rw [HPV.out]; exact hlt) (fun u => hdom.out u) hl0
          have HG := hide hI2.out.fr.grow1
          have HMW := hide (HM2.out.kept HG.out (by simp; omega))
          have HOW := hide (HO2.out.kept HG.out (by simp; omega))
          have HBW := hide (HB2.out.grown HG.out HB2.out.size (fun j hj => by cases hj; exact hgeq))
          rw [hhb]
          clear hI2 HRG2 hhb hl0
          cases hts : transG vn F k
          · have HN := hide (show HtsI w gF gm vn (k + 1) F wr from ⟨HMW.out, HOW.out.congr fun y => by
              rw [hts_next false hts]
              by_cases e : y = k
              · subst e; rw [if_pos rfl]; simp
              · rw [if_neg e], HBW.out, hge⟩)
            go_wp2
            go_roundw
            case rel => exact ⟨k + 1, by omega, by go_num, HN⟩
            case measure => simp [intOf]; omega
          · go_wp2_with (first
              | (at_mapUpdate; refine storeU rfl _ _ _ 46 rfl Tryd.underlying46 rfl HOW.out k rfl rfl (by omega) ?_; intro w9 ho9 hg9; have HO9 := hide ho9; have HG9 := hide hg9; clear ho9 hg9; go_frame)
              | fail)
            have HN := hide (show HtsI w gF gm vn (k + 1) F w9 from ⟨HMW.out.kept HG9.out (by simp; omega), HO9.out.congr fun y => by
              rw [hts_next true hts], HBW.out.grown HG9.out HBW.out.size (fun j hj => by cases hj; exact hge.1), hge⟩)
            go_roundw
            case rel => exact ⟨k + 1, by omega, by go_num, HN⟩
            case measure => simp [intOf]; omega
        · intro u w3 hu64 hlu hFu hr3 hg3 hsz3 hlt3 hen3
          have HNI := hide (show RunI w2 gF r2 F (fun x => left2 x && !(x == u)) w3 from ⟨hr3, hI2.out.fr.trans (grown_fr hg3)⟩)
          have hst := hitB_step (x := k) hFu hlu
          have hbit : bits BinOp.and IntKind.u64 (u : Int) (k : Int) = ((u &&& k : Nat) : Int) := bits_and_u64_nat u k (by omega) (by omega)
          clear hI2 HRG2 hr3 hg3
          cases hlv : hitB F k left2
          · have HV := Lib.hid (show hitB F k (fun x => left2 x && !(x == u)) = false by rw [hst, hlv]; rfl)
            clear hst
            go_wp2
            go_roundw
            case rel => exact ⟨_, by rw [HV.out], HNI⟩
            case measure => exact hlt3
          · have HV := Lib.hid (show hitB F k (fun x => left2 x && !(x == u)) = !(u &&& k == 0) by rw [hst, hlv]; rfl)
            clear hst
            cases hz : (u &&& k == 0)
            · have hzn : ¬ ((u &&& k : Nat) : Int) = 0 := fun e => by
                have : u &&& k = 0 := by omega
                rw [this] at hz; cases hz
              rw [hz] at HV
              generalize u &&& k = q at hbit hzn
              have hqb : ((q : Int) != 0) = true := bne_iff_ne.2 hzn
              go_wp2
              go_roundw
              case rel => exact ⟨_, by first | (rw [HV.out]; rfl) | (rw [HV.out, hqb]; rfl), HNI⟩
              case measure => exact hlt3
            · have hz0 : u &&& k = 0 := by simpa using hz
              rw [hz0] at hbit
              rw [hz] at HV
              go_wp2
              go_roundw
              case rel => exact ⟨_, by rw [HV.out]; rfl, HNI⟩
              case measure => exact hlt3
    · obtain rfl : k = pv := by omega
      have HL := hide (refLeast_any gm (transG vn F) wr (hI.out.out.congr fun s => by
        cases hs : transG vn F s with
        | false => simp
        | true => rw [decide_eq_true (by have := (transG_iff.1 hs).1; rw [HPV.out] at this; exact this)]; rfl))
      have HB := hide hI.out.bel
      clear hI
      go_wp2_with fail
      refine (HL.out).mono ?_
      rintro e w9 ⟨g, rfl, hm, hb, hg⟩
      have HP := hide (show RefHitsP w vn F (.returned (.map (some g))) w9 from ⟨g, rfl, hm, HB.out.trans (hb.mono HB.out.size), Nat.le_trans HB.out.size hg⟩)
      clear hm hb hg HL
      go_wp2
      go_ret
      exact HP.out
end Go.Proofs.YtdlcldhnbhlikaaDoor
