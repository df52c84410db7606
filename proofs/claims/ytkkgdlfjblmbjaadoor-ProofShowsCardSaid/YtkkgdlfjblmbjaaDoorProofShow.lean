/-
  proof.Shows: checks the clauses, then tells 'showsF'.
-/
import Derived.Test.YtkkgdlfjblmbjaaDoorShow
import Derived.Test.YtkkgdlfjblmbjaaDoorRefShow
import Derived.Test.YtkkgdlfjblmbjaaDoorFollows
namespace Go.Proofs.YtkkgdlfjblmbjaaDoor
open Go.RowKit

noncomputable def pshowF (vars : Int) (ls ps : List (List Int)) : (Bool × Int) × (Int × Int) := if checkF vars ls = (0, -1) then (showsF vars ls ps, (0, -1)) else ((false, 0), checkF vars ls)
theorem pshowF_bad {vars : Int} {ls ps : List (List Int)} (h : checkF vars ls ≠ (0, -1)) : pshowF vars ls ps = ((false, 0), checkF vars ls) := by unfold pshowF; rw [if_neg h]
theorem pshowF_ok {vars : Int} {ls ps : List (List Int)} (h : checkF vars ls = (0, -1)) : pshowF vars ls ps = (showsF vars ls ps, (0, -1)) := by unfold pshowF; rw [if_pos h]
def PShowsPost (w : World) (r : (Bool × Int) × (Int × Int)) (e : Ending) (w' : World) : Prop := ∃ v, e = .returned (.tuple #[.bool r.1.1, .int .i64 r.1.2, v]) ∧ IsErr w' v r.2 ∧ Below w.heap.size w w'

/-- Ahead of clause k of the proof. -/
structure ProSh (vars : Int) (ls ps : List (List Int)) (w : World) (k : Nat) (v : Value) (wr : World) : Prop where
  bel : Below w.heap.size w wr
  own : OwnC wr w.heap.size (· < w.heap.size) v (ls ++ ps.take k)
  ok : okRows (ls ++ ps.take k)
  go : showsGo vars (ls ++ ps.take k) (ps.drop k) k = showsGo vars ls ps 0
theorem showB_lits {vars : Int} {ls : List (List Int)} {c : List Int} (hv : vars ≤ 24) (h : showB vars ls c = true) : ∀ x ∈ c, litOk x := by
  intro x hx
  have hany : c.any (badB vars) = false := by
    rcases he : c.any (badB vars) with _ | _
    · rfl
    · rw [showB_bad he] at h; cases h
  have := List.any_eq_false.1 hany x hx
  exact badB_lit (by simpa using this) hv

set_option maxRecDepth 100000 in
set_option maxHeartbeats 4000000 in
theorem proofShows_any (vars : Int) (A A2 : Option Addr) (n c n2 c2 : Nat) (ls ps : List (List Int)) (w : World) (hcl : Cls w w.heap.size A n ls) (hps : Cls w w.heap.size A2 n2 ps) (hnil : A = none → n = 0) (hn5 : checkF vars ls = (0, -1) → n2 ≤ 5000) :
    Calls Tryd.prog 26 #[.int .i64 vars, .slice A n c, .slice A2 n2 c2] w (PShowsPost w (pshowF vars ls ps)) := by
  have hlen := Lib.hid hcl.1
  have hplen := Lib.hid hps.1
  have HK := hide (check_any vars A n c ls w hcl)
  have HC := hide hcl
  have HPS := hide hps
  clear hcl hps
  by_cases hck : checkF vars ls = (0, -1)
  · have HOK := hide (checkF_ok hck)
    have hn2 := hn5 hck
    clear hn5
    rw [hck] at HK
    have HP := hide (pshowF_ok (ps := ps) hck)
    clear hck
    have hv0 := HOK.out.v0
    have hv1 := HOK.out.v1
    have hn200 : n ≤ 200 := by have := HOK.out.many; have := hlen.out; omega
    go_enter Tryd.func26, Tryd.ntmps26
    go_wp2_with fail
    refine (HK.out).mono ?_
    rintro e w1 ⟨ve, rfl, hE, hb1⟩
    obtain rfl : ve = .nilIface := by
      rcases hE with ⟨_, h⟩ | ⟨_, h, _⟩ | ⟨b, _, h, _⟩
      · exact h
      · simp at h
      · simp at h
    clear hE
    have HB1 := hide hb1
    have HCL := hide (clone_any A n c w.heap.size ls w1 (HC.out.below hb1) hb1.size (by omega) hnil)
    clear hb1
    go_wp2_with fail
    refine (HCL.out).mono ?_
    rintro e w2 ⟨v2, rfl, ho2, hb2⟩
    have HO2 := hide ho2
    have HB2 := hide (HB1.out.trans (hb2.mono HB1.out.size))
    clear ho2 hb2
    go_wp2
    go_loopw [10, 28] (fun v i wr => ∃ k : Nat, k ≤ n2 ∧ i = .int .i64 k ∧ Hid (ProSh vars ls ps w k v wr)) (fun _ i _ => n2 - (intOf i).toNat)
    case atStart => exact ⟨0, Nat.zero_le _, rfl, hide ⟨HB2.out, by simpa using HO2.out.more HB1.out.size, by simpa using HOK.out.lits, by simp⟩⟩
    case round =>
      obtain ⟨k, hk, rfl, hR⟩ := hrel
      by_cases hlt : k < n2
      · obtain ⟨ad, A', n', c', rfl, hb, hc, hcc, hi'⟩ := HPS.out.at_ hlt
        have hc2 : wr.cell? (ad.add k) = some (.slice A' n' c') := (hR.out.bel.cell (by rw [block_of_add]; exact hb)).trans hc
        have hkl := Lib.hid (show k < ps.length by rw [hplen.out]; exact hlt)
        have HI2 := hide hi'
        have hn' := hi'.le
        have HT := hide (take_snoc ps k [] hkl.out)
        have HNEXT := hide (fun h => showsGo_drop (vars := vars) (ls := ls) (ps := ps) hkl.out h)
        have HHIT := hide (fun h => showsGo_hit (vars := vars) (ls := ls) (ps := ps) hkl.out h)
        generalize ps.getD k [] = zs at hi' HI2 HT HNEXT HHIT
        clear hi' hc
        obtain ⟨Av, cv, hvf, hcapv⟩ := hR.out.own.form
        have HCV := hide hcapv
        generalize (ls ++ ps.take k).length = nv at hvf
        clear hcapv
        subst hvf
        have HS := hide (proofFollows_any vars Av A' nv cv n' c' (ls ++ ps.take k) zs wr (hR.out.own.cls (fun i hi => Nat.lt_of_lt_of_le hi hR.out.bel.size)) hR.out.ok ((HI2.out.below hR.out.bel).more hR.out.bel.size) hv0 hv1)
        rcases hsb : showB vars (ls ++ ps.take k) zs with _ | _
        · rw [hsb] at HS
          have HF := Lib.hid (showsF_hit (vars := vars) (ls := ls) (ps := ps) (by rw [← hR.out.go]; exact HHIT.out hsb))
          clear hsb
          go_wp2_with fail
          refine (HS.out).mono ?_
          rintro e w3 ⟨rfl, hb3⟩
          have HB3 := hide (hR.out.bel.trans (hb3.mono hR.out.bel.size))
          clear hb3
          go_wp2
          go_ret3
          rw [HP.out, HF.out]
          exact ⟨_, rfl, .inl ⟨rfl, rfl⟩, HB3.out⟩
        · rw [hsb] at HS
          have HN := Lib.hid (HNEXT.out hsb)
          have HLZ := hide (showB_lits hv1 hsb)
          clear hsb
          go_wp2_with fail
          refine (HS.out).mono ?_
          rintro e w3 ⟨rfl, hb3⟩
          have HBX := hide hb3
          clear hb3
          have HOA := hide ((hR.out.own.below HBX.out (fun i hi => Nat.lt_of_lt_of_le hi hR.out.bel.size)).below ((Below.refl w3.heap.size w3).alloc (Nat.le_refl _) (.cells #[.slice A' n' c'] 35)) (fun i hi => Nat.lt_of_lt_of_le hi (Nat.le_trans hR.out.bel.size HBX.out.size)))
          have HCA := Lib.hid (show (w3.alloc (.cells #[.slice A' n' c'] 35)).cell? ⟨w3.heap.size, 0, none⟩ = some (.slice A' n' c') by simp)
          have HBW2 := hide (hR.out.bel.trans (HBX.out.mono hR.out.bel.size))
          have HBA := Lib.hid (show w.heap.size ≤ (w3.alloc (.cells #[.slice A' n' c'] 35)).heap.size by have := HBW2.out.size; simp; omega)
          have HIZ := hide ((IntsP.of HI2.out).keep ((Keep.of_below (S := (· < w.heap.size)) (B := w.heap.size) (fun i hi => hi) (HBW2.out.alloc HBW2.out.size (.cells #[.slice A' n' c'] 35)))))
          have HLL := Lib.hid (show (ls ++ ps.take k).length ≤ 1099511627 by have := hlen.out; have := hplen.out; rw [List.length_append, List.length_take]; omega)
          go_wp2_with (at_builtin; refine appC1 _ rfl _ _ _ rfl w.heap.size (· < w.heap.size) Tryd.underlying22 _ (ls ++ ps.take k) rfl HOA.out w3.heap.size 1 rfl A' n' c' zs HCA.out hcc HIZ.out HLL.out HBA.out (fun i hi => hi) ?_; intro v3 w4 ho hg hor; have HO := hide ho; have HG := hide hg; have HLT := hide (HOA.out.lt); clear ho hg hor)
          go_roundw
          case rel => exact ⟨k + 1, by omega, by go_num, hide ⟨(HBW2.out.alloc HBW2.out.size _).grown HG.out HBA.out (fun k hk => (HLT.out k hk).1), by rw [HT.out, ← List.append_assoc]; exact HO.out, by rw [HT.out, ← List.append_assoc]; exact okRows_snoc hR.out.ok HLZ.out, by rw [← HN.out]; exact hR.out.go⟩⟩
          case measure => simp [intOf]; omega
      · obtain rfl : k = n2 := by omega
        have HNO := Lib.hid (show showsGo vars ls ps 0 = none by rw [← hR.out.go, ← hplen.out]; exact showsGo_end)
        have HF := Lib.hid (showsF_end HNO.out)
        rcases Nat.eq_zero_or_pos k with h0 | h0
        · subst h0
          obtain rfl : ps = [] := List.eq_nil_of_length_eq_zero hplen.out
          go_wp2
          go_ret3
          rw [HP.out, HF.out]
          exact ⟨_, rfl, .inl ⟨rfl, rfl⟩, hR.out.bel⟩
        · obtain ⟨m, rfl⟩ : ∃ m, k = m + 1 := ⟨k - 1, by omega⟩
          obtain ⟨ad, A', n', c', rfl, hb, hc, hcc, hi'⟩ := HPS.out.at_ (k := m) (by omega)
          have hc2 : wr.cell? (ad.add m) = some (.slice A' n' c') := (hR.out.bel.cell (by rw [block_of_add]; exact hb)).trans hc
          have HLAST := Lib.hid (show ps.getLastD [] = ps.getD m [] by
            rw [List.getLastD_eq_getLast?, List.getLast?_eq_getElem?, hplen.out, List.getD_eq_getElem?_getD]; rfl)
          have HNE := Lib.hid (show ps ≠ [] from fun h => by have := hplen.out; rw [h] at this; cases this)
          have HIL := Lib.hid hi'.len
          have hn' := hi'.le
          clear hc hi'
          have hb0 : ((m : Int) + 1 == 0) = false := by simp; omega
          by_cases hz : n' = 0
          · subst hz
            have HD := Lib.hid (show ps.getD m [] = [] from List.eq_nil_of_length_eq_zero HIL.out)
            have HFT := Lib.hid (show showsF vars ls ps = (true, (((m + 1 : Nat)) : Int)) by rw [HF.out, hplen.out, decide_eq_true ⟨HNE.out, HLAST.out.trans HD.out⟩])
            go_wp2
            go_ret3
            rw [HP.out, HFT.out]
            exact ⟨_, rfl, .inl ⟨rfl, rfl⟩, hR.out.bel⟩
          · have HD := Lib.hid (show ps.getD m [] ≠ [] from fun h => by have := HIL.out; rw [h] at this; exact hz this.symm)
            have HFT := Lib.hid (show showsF vars ls ps = (false, (((m + 1 : Nat)) : Int)) by rw [HF.out, hplen.out, decide_eq_false (fun h => HD.out (HLAST.out.symm.trans h.2))])
            have hb1 : (0 : Int) < (n' : Int) := by omega
            go_wp2
            go_ret3
            rw [HP.out, HFT.out]
            exact ⟨_, rfl, .inl ⟨rfl, rfl⟩, hR.out.bel⟩
  · clear hn5
    have HF := Lib.hid (pshowF_bad (ps := ps) hck)
    have HCK := hide hck
    clear hck
    go_enter Tryd.func26, Tryd.ntmps26
    go_wp2_with fail
    refine (HK.out).mono ?_
    rintro e w1 ⟨ve, rfl, hE, hb1⟩
    have HE := hide hE
    have HB1 := hide hb1
    clear hb1
    rcases hE with ⟨h, _⟩ | ⟨_, _, _, rfl⟩ | ⟨b, _, _, _, _, rfl, _⟩
    · exact absurd h HCK.out
    · go_wp2
      go_ret3
      rw [HF.out]
      exact ⟨_, rfl, HE.out, HB1.out⟩
    · go_wp2
      go_ret3
      rw [HF.out]
      exact ⟨_, rfl, HE.out, HB1.out⟩

set_option maxHeartbeats 1000000 in
theorem proofShows_big (vars : Int) (A A2 : Option Addr) (n c n2 c2 : Nat) (ls : List (List Int)) (w : World) (hcl : Cls w w.heap.size A n ls) (hck : checkF vars ls = (0, -1)) (hn2 : 5000 < n2) (hn : n2 ≤ 9223372036854775807) :
    Calls Tryd.prog 26 #[.int .i64 vars, .slice A n c, .slice A2 n2 c2] w (PShowsPost w ((false, 0), (4, -1))) := by
  have HK := hide (check_any vars A n c ls w hcl)
  rw [hck] at HK
  clear hcl hck
  go_enter Tryd.func26, Tryd.ntmps26
  go_wp2_with fail
  refine (HK.out).mono ?_
  rintro e w1 ⟨ve, rfl, hE, hb1⟩
  obtain rfl : ve = .nilIface := by
    rcases hE with ⟨_, h⟩ | ⟨_, h, _⟩ | ⟨b, _, h, _⟩
    · exact h
    · simp at h
    · simp at h
  clear hE
  have HB1 := hide hb1
  clear hb1
  go_wp2
  go_ret3
  exact ⟨_, rfl, isErr_code (c := 4) (by omega) (by omega), HB1.out⟩
end Go.Proofs.YtkkgdlfjblmbjaaDoor
