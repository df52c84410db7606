/-
  The reference's Shows: tells 'showsF'.
-/
import Derived.Test.YtkkgdlfjblmbjaaDoorStuck
import Derived.Test.YtkkgdlfjblmbjaaDoorOwnC
import Derived.Test.YtkkgdlfjblmbjaaDoorRefSpread
namespace Go.Proofs.YtkkgdlfjblmbjaaDoor
open Go.RowKit

/-- After j literals of the clause: what is told; whether a literal and its denial are in it. -/
structure ShI (vars : Int) (zs : List Int) (j : Nat) (tl : List Int) (both : Bool) : Prop where
  mem : ∀ y, y ∈ tl ↔ -y ∈ zs.take j
  nd : tl.Nodup
  bt : both = true ↔ ∃ x ∈ zs.take j, -x ∈ zs
  ok : ∀ x ∈ zs.take j, badB vars x = false
theorem ShI.start (vars : Int) (zs : List Int) : ShI vars zs 0 [] false := ⟨fun y => by simp, List.nodup_nil, by simp, by simp⟩
theorem ShI.step {vars : Int} {zs tl tl' : List Int} {j : Nat} {both both' : Bool} (h : ShI vars zs j tl both) {x : Int} (hd : zs.take (j + 1) = zs.take j ++ [x]) (hx : badB vars x = false)
    (ht : tl' = if -x ∈ tl then tl else tl ++ [-x]) (hb : both' = (both || decide (-x ∈ zs))) : ShI vars zs (j + 1) tl' both' := by
  refine ⟨fun y => ?_, ?_, ?_, fun y hy => ?_⟩
  · rw [hd, List.mem_append, List.mem_singleton, ← h.mem y, ht]
    split
    · refine ⟨.inl, fun k => k.elim id fun e => ?_⟩
      rename_i h0
      rw [← e, Int.neg_neg] at h0
      exact h0
    · rw [List.mem_append, List.mem_singleton]
      constructor <;> rintro (h | h) <;> first | exact .inl h | (right; omega)
  · rw [ht]
    split
    · exact h.nd
    · rename_i h0
      rw [List.Nodup, List.pairwise_append]
      refine ⟨h.nd, List.pairwise_singleton _ _, fun a ha b hb e => ?_⟩
      rw [List.mem_singleton.1 hb] at e
      exact h0 (e ▸ ha)
  · rw [hb, hd, Bool.or_eq_true, h.bt, decide_eq_true_iff]
    constructor
    · rintro (⟨y, hy, e⟩ | e)
      · exact ⟨y, List.mem_append.2 (.inl hy), e⟩
      · exact ⟨x, List.mem_append.2 (.inr (List.mem_singleton.2 rfl)), e⟩
    · rintro ⟨y, hy, e⟩
      rcases List.mem_append.1 hy with hy | hy
      · exact .inl ⟨y, hy, e⟩
      · rw [List.mem_singleton.1 hy] at e; exact .inr e
  · rw [hd] at hy
    rcases List.mem_append.1 hy with hy | hy
    · exact h.ok y hy
    · rw [List.mem_singleton.1 hy]; exact hx
theorem ShI.lits {vars : Int} {zs tl : List Int} {j : Nat} {both : Bool} (h : ShI vars zs j tl both) (hv : vars ≤ 24) : ∀ y ∈ tl, litOk y := by
  intro y hy
  have := h.ok _ ((h.mem y).1 hy)
  unfold badB at this
  simp at this
  unfold litOk
  omega
theorem ShI.any {vars : Int} {zs tl : List Int} {j : Nat} {both : Bool} (h : ShI vars zs j tl both) (hj : zs.length ≤ j) : zs.any (badB vars) = false := by
  rw [List.any_eq_false]
  intro x hx
  have := h.ok x (by rw [List.take_of_length_le hj]; exact hx)
  rw [this]; decide
theorem ShI.both {vars : Int} {zs tl : List Int} {j : Nat} {both : Bool} (h : ShI vars zs j tl both) (hj : zs.length ≤ j) : bothB zs = both := by
  rcases both with _ | _
  · refine bothB_f fun x hx hn => ?_
    have := h.bt.2 ⟨x, by rw [List.take_of_length_le hj]; exact hx, hn⟩
    cases this
  · obtain ⟨x, hx, hn⟩ := h.bt.1 rfl
    rw [List.take_of_length_le hj] at hx
    exact bothB_t hx hn
theorem ShI.cons {vars : Int} {zs tl : List Int} {j : Nat} (h : ShI vars zs j tl false) (hj : zs.length ≤ j) (hv : vars ≤ 24) : Cons tl := by
  refine ⟨h.lits hv, h.nd.imp_of_mem fun {a b} ha hb hne e => ?_⟩
  rcases Int.natAbs_eq_natAbs_iff.1 e with e | e
  · exact hne e
  · have h1 := (h.mem a).1 ha
    have h2 := (h.mem b).1 hb
    rw [List.take_of_length_le hj] at h1 h2
    have := h.bt.2 ⟨-a, by rw [List.take_of_length_le hj]; exact h1, by rw [Int.neg_neg, e]; exact h2⟩
    cases this
theorem ShI.stuck {vars : Int} {zs tl : List Int} {j : Nat} {both : Bool} (h : ShI vars zs j tl both) (hj : zs.length ≤ j) (ls : List (List Int)) : stuck ls (zs.map fun x => -x) ↔ stuck ls tl := stuck_same fun x => by
  rw [h.mem x, List.take_of_length_le hj, List.mem_map]
  exact ⟨fun ⟨y, hy, e⟩ => by rw [← e, Int.neg_neg]; exact hy, fun h => ⟨-x, h, Int.neg_neg x⟩⟩

theorem showsF_hit {vars : Int} {ls ps : List (List Int)} {i : Nat} (h : showsGo vars ls ps 0 = some i) : showsF vars ls ps = (false, (i : Int)) := by unfold showsF; rw [h]
theorem showsF_end {vars : Int} {ls ps : List (List Int)} (h : showsGo vars ls ps 0 = none) : showsF vars ls ps = (decide (ps ≠ [] ∧ ps.getLastD [] = []), (ps.length : Int)) := by unfold showsF; rw [h]
theorem okRows_snoc {ls : List (List Int)} {c : List Int} (h : okRows ls) (hc : ∀ x ∈ c, litOk x) : okRows (ls ++ [c]) := by
  intro k hk x hx
  rw [List.length_append, List.length_singleton] at hk
  by_cases h1 : k < ls.length
  · rw [List.getD_eq_getElem?_getD, List.getElem?_append_left h1, ← List.getD_eq_getElem?_getD] at hx
    exact h k h1 x hx
  · rw [List.getD_eq_getElem?_getD, List.getElem?_append_right (by omega), show k - ls.length = 0 by omega] at hx
    exact hc x hx

def ShowsPost (w : World) (r : Bool × Int) (e : Ending) (w' : World) : Prop := e = .returned (.tuple #[.bool r.1, .int .i64 r.2, .int .i64 0]) ∧ Below w.heap.size w w'

/-- Ahead of clause k of the proof. -/
structure RefSh (vars : Int) (ls ps : List (List Int)) (w : World) (k : Nat) (v : Value) (wr : World) : Prop where
  bel : Below w.heap.size w wr
  own : OwnC wr w.heap.size (· < w.heap.size) v (ls ++ ps.take k)
  ok : okRows (ls ++ ps.take k)
  go : showsGo vars (ls ++ ps.take k) (ps.drop k) k = showsGo vars ls ps 0
structure RefShI (wo : World) (v : Value) (tl : List Int) (wi : World) : Prop where
  bel : Below wo.heap.size wo wi
  own : Own wi wo.heap.size v tl

set_option maxRecDepth 100000 in
set_option maxHeartbeats 4000000 in
theorem refShows_any (vars : Int) (A A2 : Option Addr) (n c n2 c2 : Nat) (ls ps : List (List Int)) (w : World) (hcl : Cls w w.heap.size A n ls) (hok : okRows ls) (hps : Cls w w.heap.size A2 n2 ps) (hv0 : 0 ≤ vars) (hv1 : vars ≤ 24) (hn : n ≤ 1000000) (hn2 : n2 ≤ 5000) :
    Calls Tryd.prog 25 #[.int .i64 vars, .slice A n c, .slice A2 n2 c2] w (ShowsPost w (showsF vars ls ps)) := by
  have hlen := Lib.hid hcl.1
  have hplen := Lib.hid hps.1
  have HOK := hide hok
  have HPS := hide hps
  obtain ⟨us, hr, hu⟩ := hcl.cells
  have Hr := hide hr
  have Hu := hide hu
  have hmk := hide (ownC_empty w w.heap.size (· < w.heap.size) (Nat.le_refl _))
  clear hok hcl hps hr hu
  go_enter Tryd.func25, Tryd.ntmps25
  go_wp2_with (at_builtin; refine appC _ rfl _ _ _ rfl w.heap.size (· < w.heap.size) Tryd.underlying22 _ [] rfl hmk.out w.heap.size _ n c us ls rfl (Hr.out.alloc (Nat.le_refl _) _) (Hu.out.keep (.alloc (fun i hi => hi) _)) (by have := hlen.out; simp; omega) (by simp) (fun i hi => hi) ?_; intro v' w1 ho hg hor; have HO := hide ho; have HG := hide hg; clear ho hg hor)
  go_loopw [9, 26] (fun v i wr => ∃ k : Nat, k ≤ n2 ∧ i = .int .i64 k ∧ Hid (RefSh vars ls ps w k v wr)) (fun _ i _ => n2 - (intOf i).toNat)
  case atStart =>
    refine ⟨0, Nat.zero_le _, rfl, hide ⟨?_, by simpa using HO.out, by simpa using HOK.out, by simp⟩⟩
    have hb0 : Below w.heap.size w (w.alloc (.cells #[] 35)) := (Below.refl _ _).alloc (Nat.le_refl _) _
    exact hb0.grown HG.out hb0.size (fun j hj => by cases hj; exact Nat.le_refl _)
  case round =>
    obtain ⟨k, hk, rfl, hR⟩ := hrel
    by_cases hlt : k < n2
    · obtain ⟨ad, A', n', c', rfl, hb, hc, hcc, hi'⟩ := HPS.out.at_ hlt
      have hc2 : wr.cell? (ad.add k) = some (.slice A' n' c') := (hR.out.bel.cell (by rw [block_of_add]; exact hb)).trans hc
      have hkl := Lib.hid (show k < ps.length by rw [hplen.out]; exact hlt)
      have HI2 := hide hi'
      have hn' := hi'.le
      have HIL := Lib.hid hi'.len
      have HT := hide (take_snoc ps k [] hkl.out)
      have HNEXT := hide (fun h => showsGo_drop (vars := vars) (ls := ls) (ps := ps) hkl.out h)
      have HHIT := hide (fun h => showsGo_hit (vars := vars) (ls := ls) (ps := ps) hkl.out h)
      generalize ps.getD k [] = zs at hi' HI2 HIL HT HNEXT HHIT
      clear hi' hc
      obtain ⟨wo, rfl⟩ : ∃ wo : World, wo = wr := ⟨_, rfl⟩
      go_wp2
      go_loopw [12, 13, 33] (fun v b i wi => ∃ (j : Nat) (tl : List Int) (both : Bool), j ≤ n' ∧ i = .int .i64 j ∧ b = .bool both ∧ Hid (ShI vars zs j tl both) ∧ Hid (RefShI wo v tl wi)) (fun _ _ i _ => n' - (intOf i).toNat)
      case atStart => exact ⟨0, [], false, Nat.zero_le _, rfl, rfl, hide (ShI.start _ _), hide ⟨Below.refl _ _, Own.nil _ _⟩⟩
      case round =>
        obtain ⟨j, tl, both, hj, rfl, rfl, hS, hI⟩ := hrel
        have HBW := hide (hR.out.bel.trans (hI.out.bel.mono hR.out.bel.size))
        by_cases hlt2 : j < n'
        · obtain ⟨ad2, rfl, hb2, hcx⟩ := HI2.out.at_ hlt2
          have hjl := Lib.hid (show j < zs.length by rw [HIL.out]; exact hlt2)
          have hcx2 : wr.cell? (ad2.add j) = some (.int .i64 (zs.getD j 0)) := (HBW.out.cell (by rw [block_of_add]; exact hb2)).trans hcx
          have HTJ := hide (take_snoc zs j 0 hjl.out)
          have HMEM := hide (show zs.getD j 0 ∈ zs by
            rw [List.getD_eq_getElem?_getD, List.getElem?_eq_getElem hjl.out]; exact List.getElem_mem hjl.out)
          clear hcx
          generalize zs.getD j 0 = x at hcx2 HTJ HMEM
          have HW := hide (within_any x (-vars) vars)
          rcases hbad : badB vars x with _ | _
          · have HSTEP := hide (fun (tl' : List Int) (both' : Bool) h1 h2 => hS.out.step (tl' := tl') (both' := both') HTJ.out hbad h1 h2)
            obtain ⟨b0, b1, b2⟩ : x ≠ 0 ∧ x ≤ vars ∧ -vars ≤ x := by
              unfold badB at hbad
              have := of_decide_eq_false hbad
              omega
            have hx0 : (x == 0) = false := beq_eq_false_iff_ne.2 b0
            rw [show withinB x (-vars) vars = true by unfold withinB; exact decide_eq_true ⟨b2, b1⟩] at HW
            obtain ⟨At, ct, rfl, hcap⟩ := hI.out.own.form
            have H1 := hide (has_any (-x) (some ad2) n' c' zs wr ((HI2.out.below HBW.out).more HBW.out.size))
            have H2 := hide (has_any (-x) At tl.length ct tl wr hI.out.own.ints)
            have htl := lits_len tl hS.out.nd (hS.out.lits hv1)
            have HXI := Lib.hid (show I64 (-x) by unfold I64; omega)
            have HOA := hide (hI.out.own.alloc (.cells #[.int .i64 (-x)] 3))
            have HCA := Lib.hid (show (wr.alloc (.cells #[.int .i64 (-x)] 3)).cell? ⟨wr.heap.size, 0, none⟩ = some (.int .i64 (-x)) by simp)
            have HBA := Lib.hid (show wo.heap.size ≤ (wr.alloc (.cells #[.int .i64 (-x)] 3)).heap.size by have := hI.out.bel.size; simp; omega)
            clear b0 hbad
            rcases both with _ | _
            · by_cases h1 : -x ∈ zs
              · rw [decide_eq_true h1] at H1
                by_cases h2 : -x ∈ tl
                · rw [decide_eq_true h2] at H2
                  have HN := hide (HSTEP.out tl true (by rw [if_pos h2]) (by simp [*]))
                  clear h2
                  go_wp2_with fail
                  refine (HW.out _).mono ?_
                  rintro e w' ⟨rfl, rfl⟩
                  go_wp2_with fail
                  refine (H1.out).mono ?_
                  rintro e w' ⟨rfl, rfl⟩
                  go_wp2_with fail
                  refine (H2.out).mono ?_
                  rintro e w' ⟨rfl, rfl⟩
                  go_wp2
                  go_roundw
                  case rel => exact ⟨j + 1, tl, true, by omega, by go_num, rfl, HN, hI⟩
                  case measure => simp [intOf]; omega
                · rw [decide_eq_false h2] at H2
                  have HN := hide (HSTEP.out (tl ++ [-x]) true (by rw [if_neg h2]) (by simp [*]))
                  clear h2
                  go_wp2_with fail
                  refine (HW.out _).mono ?_
                  rintro e w' ⟨rfl, rfl⟩
                  go_wp2_with fail
                  refine (H1.out).mono ?_
                  rintro e w' ⟨rfl, rfl⟩
                  go_wp2_with fail
                  refine (H2.out).mono ?_
                  rintro e w' ⟨rfl, rfl⟩
                  go_wp2_with (at_builtin; refine app1 _ rfl _ _ 34 rfl wo.heap.size Tryd.underlying34 _ tl rfl HOA.out wr.heap.size 1 (-x) rfl HCA.out HXI.out (by omega) HBA.out ?_; intro v' w1 ho1 hg1 hor; have HO1 := hide ho1; have HG1 := hide hg1; have HLT := hide (hI.out.own.lt); clear ho1 hg1 hor)
                  go_roundw
                  case rel => exact ⟨j + 1, tl ++ [-x], true, by omega, by go_num, rfl, HN, hide ⟨(hI.out.bel.alloc hI.out.bel.size _).grown HG1.out HBA.out (fun k hk => (HLT.out k hk).1), HO1.out⟩⟩
                  case measure => simp [intOf]; omega
              · rw [decide_eq_false h1] at H1
                by_cases h2 : -x ∈ tl
                · rw [decide_eq_true h2] at H2
                  have HN := hide (HSTEP.out tl false (by rw [if_pos h2]) (by simp [*]))
                  clear h2
                  go_wp2_with fail
                  refine (HW.out _).mono ?_
                  rintro e w' ⟨rfl, rfl⟩
                  go_wp2_with fail
                  refine (H1.out).mono ?_
                  rintro e w' ⟨rfl, rfl⟩
                  go_wp2_with fail
                  refine (H2.out).mono ?_
                  rintro e w' ⟨rfl, rfl⟩
                  go_wp2
                  go_roundw
                  case rel => exact ⟨j + 1, tl, false, by omega, by go_num, rfl, HN, hI⟩
                  case measure => simp [intOf]; omega
                · rw [decide_eq_false h2] at H2
                  have HN := hide (HSTEP.out (tl ++ [-x]) false (by rw [if_neg h2]) (by simp [*]))
                  clear h2
                  go_wp2_with fail
                  refine (HW.out _).mono ?_
                  rintro e w' ⟨rfl, rfl⟩
                  go_wp2_with fail
                  refine (H1.out).mono ?_
                  rintro e w' ⟨rfl, rfl⟩
                  go_wp2_with fail
                  refine (H2.out).mono ?_
                  rintro e w' ⟨rfl, rfl⟩
                  go_wp2_with (at_builtin; refine app1 _ rfl _ _ 34 rfl wo.heap.size Tryd.underlying34 _ tl rfl HOA.out wr.heap.size 1 (-x) rfl HCA.out HXI.out (by omega) HBA.out ?_; intro v' w1 ho1 hg1 hor; have HO1 := hide ho1; have HG1 := hide hg1; have HLT := hide (hI.out.own.lt); clear ho1 hg1 hor)
                  go_roundw
                  case rel => exact ⟨j + 1, tl ++ [-x], false, by omega, by go_num, rfl, HN, hide ⟨(hI.out.bel.alloc hI.out.bel.size _).grown HG1.out HBA.out (fun k hk => (HLT.out k hk).1), HO1.out⟩⟩
                  case measure => simp [intOf]; omega
            · by_cases h2 : -x ∈ tl
              · rw [decide_eq_true h2] at H2
                have HN := hide (HSTEP.out tl true (by rw [if_pos h2]) (by simp [*]))
                clear h2
                go_wp2_with fail
                refine (HW.out _).mono ?_
                rintro e w' ⟨rfl, rfl⟩
                go_wp2_with fail
                refine (H2.out).mono ?_
                rintro e w' ⟨rfl, rfl⟩
                go_wp2
                go_roundw
                case rel => exact ⟨j + 1, tl, true, by omega, by go_num, rfl, HN, hI⟩
                case measure => simp [intOf]; omega
              · rw [decide_eq_false h2] at H2
                have HN := hide (HSTEP.out (tl ++ [-x]) true (by rw [if_neg h2]) (by simp [*]))
                clear h2
                go_wp2_with fail
                refine (HW.out _).mono ?_
                rintro e w' ⟨rfl, rfl⟩
                go_wp2_with fail
                refine (H2.out).mono ?_
                rintro e w' ⟨rfl, rfl⟩
                go_wp2_with (at_builtin; refine app1 _ rfl _ _ 34 rfl wo.heap.size Tryd.underlying34 _ tl rfl HOA.out wr.heap.size 1 (-x) rfl HCA.out HXI.out (by omega) HBA.out ?_; intro v' w1 ho1 hg1 hor; have HO1 := hide ho1; have HG1 := hide hg1; have HLT := hide (hI.out.own.lt); clear ho1 hg1 hor)
                go_roundw
                case rel => exact ⟨j + 1, tl ++ [-x], true, by omega, by go_num, rfl, HN, hide ⟨(hI.out.bel.alloc hI.out.bel.size _).grown HG1.out HBA.out (fun k hk => (HLT.out k hk).1), HO1.out⟩⟩
                case measure => simp [intOf]; omega
          · have HF := Lib.hid (showsF_hit (vars := vars) (ls := ls) (ps := ps) (by rw [← hR.out.go]; exact HHIT.out (showB_bad (List.any_eq_true.2 ⟨x, HMEM.out, hbad⟩))))
            have hbi : x = 0 ∨ vars < x ∨ x < -vars := by unfold badB at hbad; exact of_decide_eq_true hbad
            clear hbad
            by_cases hx0 : x = 0
            · have hx1 : (x == 0) = true := beq_iff_eq.2 hx0
              clear hbi hx0
              go_wp2
              go_ret3
              rw [HF.out]
              exact ⟨rfl, HBW.out⟩
            · rw [show withinB x (-vars) vars = false by unfold withinB; exact decide_eq_false (by omega)] at HW
              have hx1 : (x == 0) = false := beq_eq_false_iff_ne.2 hx0
              clear hbi hx0
              go_wp2_with (go_at_call 40; refine (HW.out _).mono ?_; rintro e w' ⟨rfl, rfl⟩)
              go_ret3
              rw [HF.out]
              exact ⟨rfl, HBW.out⟩
        · have hjl : zs.length ≤ j := by have := HIL.out; omega
          have HLZ := hide (show ∀ x ∈ zs, litOk x from fun x hx => by
            have := List.any_eq_false.1 (hS.out.any hjl) x hx
            unfold badB at this
            simp at this
            unfold litOk
            omega)
          obtain ⟨Av, cv, hvf, hcapv⟩ := hR.out.own.form
          have HCV := hide hcapv
          generalize (ls ++ ps.take k).length = nv at hvf
          clear hcapv
          subst hvf
          obtain ⟨At, ct, rfl, hcapt⟩ := hI.out.own.form
          rcases both with _ | _
          · have hcn := hS.out.cons hjl hv1
            have HSP := hide (spread_stuck (lits_rows hR.out.ok) hcn)
            have HSS := hide (hS.out.stuck hjl (ls ++ ps.take k))
            have HBB := hide (hS.out.both hjl)
            have HANY := hide (hS.out.any hjl)
            have HSR := hide (refSpread_any tl Av At nv cv _ ct (ls ++ ps.take k) wr ((hR.out.own.below hI.out.bel (fun i hi => Nat.lt_of_lt_of_le hi hR.out.bel.size)).cls (fun i hi => Nat.lt_of_lt_of_le hi HBW.out.size)) hI.out.own.ints hcapt hcn hR.out.ok)
            clear hcn
            generalize spreadR (ls ++ ps.take k) tl = R at HSP HSR
            by_cases hneg : R.2 < 0
            · have HF := Lib.hid (showsF_hit (vars := vars) (ls := ls) (ps := ps) (by rw [← hR.out.go]; exact HHIT.out (showB_f HBB.out (HSS.out.2 (HSP.out.1 hneg)))))
              go_wp2_with fail
              refine (HSR.out).mono ?_
              rintro e w2 ⟨A9, n9, c9, rfl, _, _, _, hbw⟩
              have HB2 := hide hbw
              clear hbw
              go_wp2
              go_ret3
              rw [HF.out]
              exact ⟨rfl, HBW.out.trans (HB2.out.mono HBW.out.size)⟩
            · have HN := Lib.hid (HNEXT.out (showB_t HANY.out (fun h => hneg (HSP.out.2 (HSS.out.1 h)))))
              go_wp2_with fail
              refine (HSR.out).mono ?_
              rintro e w2 ⟨A9, n9, c9, rfl, _, _, _, hbw⟩
              have HB2 := hide hbw
              clear hbw
              have HBX := hide (hI.out.bel.trans (HB2.out.mono hI.out.bel.size))
              have HOA := hide ((hR.out.own.below HBX.out (fun i hi => Nat.lt_of_lt_of_le hi hR.out.bel.size)).below ((Below.refl w2.heap.size w2).alloc (Nat.le_refl _) (.cells #[.slice A' n' c'] 35)) (fun i hi => Nat.lt_of_lt_of_le hi (Nat.le_trans hR.out.bel.size HBX.out.size)))
              have HCA := Lib.hid (show (w2.alloc (.cells #[.slice A' n' c'] 35)).cell? ⟨w2.heap.size, 0, none⟩ = some (.slice A' n' c') by simp)
              have HBW2 := hide (hR.out.bel.trans (HBX.out.mono hR.out.bel.size))
              have HBA := Lib.hid (show w.heap.size ≤ (w2.alloc (.cells #[.slice A' n' c'] 35)).heap.size by have := HBW2.out.size; simp; omega)
              have HIZ := hide ((IntsP.of HI2.out).keep ((Keep.of_below (S := (· < w.heap.size)) (B := w.heap.size) (fun i hi => hi) (HBW2.out.alloc HBW2.out.size (.cells #[.slice A' n' c'] 35)))))
              have HLL := Lib.hid (show (ls ++ ps.take k).length ≤ 1099511627 by have := hlen.out; have := hplen.out; rw [List.length_append, List.length_take]; omega)
              go_wp2_with (at_builtin; refine appC1 _ rfl _ _ _ rfl w.heap.size (· < w.heap.size) Tryd.underlying22 _ (ls ++ ps.take k) rfl HOA.out w2.heap.size 1 rfl A' n' c' zs HCA.out hcc HIZ.out HLL.out HBA.out (fun i hi => hi) ?_; intro v3 w3 ho hg hor; have HO := hide ho; have HG := hide hg; have HLT := hide (HOA.out.lt); clear ho hg hor)
              go_roundw
              case rel => exact ⟨k + 1, by omega, by go_num, hide ⟨(HBW2.out.alloc HBW2.out.size _).grown HG.out HBA.out (fun k hk => (HLT.out k hk).1), by rw [HT.out, ← List.append_assoc]; exact HO.out, by rw [HT.out, ← List.append_assoc]; exact okRows_snoc hR.out.ok HLZ.out, by rw [← HN.out]; exact hR.out.go⟩⟩
              case measure => simp [intOf]; omega
          · have HN := Lib.hid (HNEXT.out (showB_both (hS.out.any hjl) (hS.out.both hjl)))
            have HBX := hide (hI.out.bel)
            have HOA := hide ((hR.out.own.below HBX.out (fun i hi => Nat.lt_of_lt_of_le hi hR.out.bel.size)).below ((Below.refl wr.heap.size wr).alloc (Nat.le_refl _) (.cells #[.slice A' n' c'] 35)) (fun i hi => Nat.lt_of_lt_of_le hi (Nat.le_trans hR.out.bel.size HBX.out.size)))
            have HCA := Lib.hid (show (wr.alloc (.cells #[.slice A' n' c'] 35)).cell? ⟨wr.heap.size, 0, none⟩ = some (.slice A' n' c') by simp)
            have HBW2 := hide (hR.out.bel.trans (HBX.out.mono hR.out.bel.size))
            have HBA := Lib.hid (show w.heap.size ≤ (wr.alloc (.cells #[.slice A' n' c'] 35)).heap.size by have := HBW2.out.size; simp; omega)
            have HIZ := hide ((IntsP.of HI2.out).keep ((Keep.of_below (S := (· < w.heap.size)) (B := w.heap.size) (fun i hi => hi) (HBW2.out.alloc HBW2.out.size (.cells #[.slice A' n' c'] 35)))))
            have HLL := Lib.hid (show (ls ++ ps.take k).length ≤ 1099511627 by have := hlen.out; have := hplen.out; rw [List.length_append, List.length_take]; omega)
            go_wp2_with (at_builtin; refine appC1 _ rfl _ _ _ rfl w.heap.size (· < w.heap.size) Tryd.underlying22 _ (ls ++ ps.take k) rfl HOA.out wr.heap.size 1 rfl A' n' c' zs HCA.out hcc HIZ.out HLL.out HBA.out (fun i hi => hi) ?_; intro v3 w3 ho hg hor; have HO := hide ho; have HG := hide hg; have HLT := hide (HOA.out.lt); clear ho hg hor)
            go_roundw
            case rel => exact ⟨k + 1, by omega, by go_num, hide ⟨(HBW2.out.alloc HBW2.out.size _).grown HG.out HBA.out (fun k hk => (HLT.out k hk).1), by rw [HT.out, ← List.append_assoc]; exact HO.out, by rw [HT.out, ← List.append_assoc]; exact okRows_snoc hR.out.ok HLZ.out, by rw [← HN.out]; exact hR.out.go⟩⟩
            case measure => simp [intOf]; omega
    · obtain rfl : k = n2 := by omega
      have HNO := Lib.hid (show showsGo vars ls ps 0 = none by rw [← hR.out.go, ← hplen.out]; exact showsGo_end)
      have HF := Lib.hid (showsF_end HNO.out)
      rcases Nat.eq_zero_or_pos k with h0 | h0
      · subst h0
        obtain rfl : ps = [] := List.eq_nil_of_length_eq_zero hplen.out
        go_wp2
        go_ret3
        rw [HF.out]
        exact ⟨rfl, hR.out.bel⟩
      · obtain ⟨m, rfl⟩ : ∃ m, k = m + 1 := ⟨k - 1, by omega⟩
        obtain ⟨ad, A', n', c', rfl, hb, hc, hcc, hi'⟩ := HPS.out.at_ (k := m) (by omega)
        have hc2 : wr.cell? (ad.add m) = some (.slice A' n' c') := (hR.out.bel.cell (by rw [block_of_add]; exact hb)).trans hc
        have HLAST := Lib.hid (show ps.getLastD [] = ps.getD m [] by
          rw [List.getLastD_eq_getLast?, List.getLast?_eq_getElem?, hplen.out, List.getD_eq_getElem?_getD]; rfl)
        have HNE := Lib.hid (show ps ≠ [] from fun h => by have := hplen.out; rw [h] at this; cases this)
        have HIL := Lib.hid hi'.len
        have hn' := hi'.le
        clear hc hi'
        have hb0 : ((m : Int) + 1 == 0) = false := by simp; omega
        by_cases hz : n' = 0
        · subst hz
          have HD := Lib.hid (show ps.getD m [] = [] from List.eq_nil_of_length_eq_zero HIL.out)
          have HFT := Lib.hid (show showsF vars ls ps = (true, (((m + 1 : Nat)) : Int)) by rw [HF.out, hplen.out, decide_eq_true ⟨HNE.out, HLAST.out.trans HD.out⟩])
          go_wp2
          go_ret3
          rw [HFT.out]
          exact ⟨rfl, hR.out.bel⟩
        · have HD := Lib.hid (show ps.getD m [] ≠ [] from fun h => by have := HIL.out; rw [h] at this; exact hz this.symm)
          have HFT := Lib.hid (show showsF vars ls ps = (false, (((m + 1 : Nat)) : Int)) by rw [HF.out, hplen.out, decide_eq_false (fun h => HD.out (HLAST.out.symm.trans h.2))])
          have hb1 : ((n' : Int) != 0) = true := by simp [hz]
          go_wp2
          go_ret3
          rw [HFT.out]
          exact ⟨rfl, hR.out.bel⟩

theorem refShows_big (vars : Int) (A A2 : Option Addr) (n c n2 c2 : Nat) (w : World) (hn2 : 5000 < n2) (hn : n2 ≤ 9223372036854775807) :
    Calls Tryd.prog 25 #[.int .i64 vars, .slice A n c, .slice A2 n2 c2] w fun e w' => e = .returned (.tuple #[.bool false, .int .i64 0, .int .i64 4]) ∧ w = w' := by
  go_enter Tryd.func25, Tryd.ntmps25
  go_wp2
  go_ret3
  exact ⟨rfl, rfl⟩
end Go.Proofs.YtkkgdlfjblmbjaaDoor
