/-
  The program's Follows.
-/
import Derived.Test.YtkkgdlfjblmbjaaDoorFollow
namespace Go.Proofs.YtkkgdlfjblmbjaaDoor
open Go.RowKit

theorem isErr_code {w : World} {c : Int} (h1 : 1 ≤ c) (h2 : c ≤ 13) : IsErr w (.iface 29 (.int .i64 c)) (c, -1) := .inr (.inl ⟨rfl, h1, h2, rfl⟩)

theorem firstBad_ok (vars : Int) : ∀ (ls : List (List Int)) (i : Nat), firstBad vars ls i = (0, -1) → ∀ k, k < ls.length → (ls.getD k []).length ≤ 48 ∧ (ls.getD k []).any (badB vars) = false := by
  intro ls
  induction ls with
  | nil => intro i _ k hk; exact absurd hk (Nat.not_lt_zero _)
  | cons c cs ih =>
    intro i h k hk
    unfold firstBad at h
    by_cases h1 : 48 < c.length
    · rw [if_pos h1] at h
      simp at h
    · rw [if_neg h1] at h
      by_cases h2 : c.any (badB vars) = true
      · rw [if_pos h2] at h
        simp at h
      · rw [if_neg h2] at h
        cases k with
        | zero => exact ⟨by simp; omega, by simpa using h2⟩
        | succ k => exact ih (i + 1) h k (by simpa using hk)
structure CheckOk (vars : Int) (ls : List (List Int)) : Prop where
  v0 : 0 ≤ vars
  v1 : vars ≤ 24
  many : ls.length ≤ 200
  rows : ∀ k, k < ls.length → (ls.getD k []).length ≤ 48 ∧ (ls.getD k []).any (badB vars) = false
theorem checkF_ok {vars : Int} {ls : List (List Int)} (h : checkF vars ls = (0, -1)) : CheckOk vars ls := by
  unfold checkF at h
  by_cases h1 : vars < 0 ∨ 24 < vars
  · rw [if_pos h1] at h; simp at h
  · rw [if_neg h1] at h
    by_cases h2 : 200 < ls.length
    · rw [if_pos h2] at h; simp at h
    · rw [if_neg h2] at h
      exact ⟨by omega, by omega, by omega, firstBad_ok vars ls 0 h⟩
theorem CheckOk.lits {vars : Int} {ls : List (List Int)} (h : CheckOk vars ls) : okRows ls := by
  intro k hk x hx
  have := List.any_eq_false.1 (h.rows k hk).2 x hx
  exact badB_lit (by simpa using this) h.v1

def lawF (vars : Int) (ls : List (List Int)) (a : List Int) : List Int × Int × (Int × Int) :=
  if checkF vars ls = (0, -1) then ((followF vars ls a).1, (followF vars ls a).2.1, if (followF vars ls a).2.2 = 0 then (0, -1) else ((followF vars ls a).2.2, -1)) else ([], 0, checkF vars ls)
theorem lawF_bad {vars : Int} {ls : List (List Int)} {a : List Int} (h : checkF vars ls ≠ (0, -1)) : lawF vars ls a = ([], 0, checkF vars ls) := by unfold lawF; rw [if_neg h]
theorem lawF_arg {vars : Int} {ls : List (List Int)} {a : List Int} (h : checkF vars ls = (0, -1)) (h2 : assumeGo vars [] a = none) : lawF vars ls a = ([], 0, (1, -1)) := by
  unfold lawF; rw [if_pos h, followF_none h2]; rfl
theorem lawF_some {vars : Int} {ls : List (List Int)} {a tr : List Int} (h : checkF vars ls = (0, -1)) (h2 : assumeGo vars [] a = some tr) : lawF vars ls a = ((spreadR ls tr).1, (spreadR ls tr).2, (0, -1)) := by
  unfold lawF; rw [if_pos h, followF_some h2]; rfl

def FolProgPost (w : World) (r : List Int × Int × (Int × Int)) (e : Ending) (w' : World) : Prop :=
  ∃ A n c v, e = .returned (.tuple #[.slice A n c, .int .i64 r.2.1, v]) ∧ Ints w' w'.heap.size A n r.1 ∧ IsErr w' v r.2.2 ∧ Below w.heap.size w w'

theorem stCells_nil : stCells [] (.slice none 0 0) = #[.int .i64 0, .int .i64 0, .int .i64 0, .int .i64 0, .int .i64 0, .int .i64 0, .int .i64 0, .int .i64 0, .int .i64 0, .int .i64 0, .int .i64 0, .int .i64 0, .int .i64 0, .int .i64 0, .int .i64 0, .int .i64 0, .int .i64 0, .int .i64 0, .int .i64 0, .int .i64 0, .int .i64 0, .int .i64 0, .int .i64 0, .int .i64 0, .slice none 0 0] := by
  unfold stCells litT
  rfl

structure AsmRel (S : Nat → Prop) (b base : Nat) (vars : Int) (asm : List Int) (w : World) (k : Nat) (tr : List Int) (v : Value) (wr : World) : Prop where
  st : St wr S b base v tr
  kp : Keep S w wr
  go : assumeGo vars tr (asm.drop k) = assumeGo vars [] asm

theorem St.start (w : World) (cs : Array Value) (hcs : cs = stCells [] (.slice none 0 0)) : St (w.alloc (.cells cs 91)) (· < w.heap.size) w.heap.size w.heap.size (.slice none 0 0) [] := by
  subst hcs
  exact ⟨Cons.nil, Blk.new w _ _, Own.nil _ _, fun i hi => ⟨by simp; omega, by have : i < w.heap.size := hi; omega, by simp [Value.ownBlock]⟩, by simp⟩

set_option maxRecDepth 100000 in
set_option maxHeartbeats 4000000 in
theorem follows_any (vars : Int) (A Aa : Option Addr) (n c na ca : Nat) (ls : List (List Int)) (asm : List Int) (w : World) (h : Cls w w.heap.size A n ls) (ha : Ints w w.heap.size Aa na asm) :
    Calls Tryd.prog 21 #[.int .i64 vars, .slice A n c, .slice Aa na ca] w (FolProgPost w (lawF vars ls asm)) := by
  have hna := ha.le
  have hlen := Lib.hid ha.len
  have HK := hide (check_any vars A n c ls w h)
  have HC := hide h
  have HA := hide ha
  clear h ha
  by_cases hck : checkF vars ls = (0, -1)
  · have HOK := hide (checkF_ok hck)
    rw [hck] at HK
    have HCK := hide hck
    clear hck
    have hv0 := HOK.out.v0
    have hv1 := HOK.out.v1
    go_enter Tryd.func21, Tryd.ntmps21
    go_wp2_with fail
    refine (HK.out).mono ?_
    rintro e w1 ⟨ve, rfl, hE, hb1⟩
    obtain rfl : ve = .nilIface := by
      rcases hE with ⟨_, h⟩ | ⟨_, h, _⟩ | ⟨b, _, h, _⟩
      · exact h
      · simp at h
      · simp at h
    clear hE
    have HB1 := hide hb1
    have HST := hide (St.start w1 _ stCells_nil.symm)
    have HKP := hide ((Keep.refl (· < w1.heap.size) w1).trans (Keep.alloc (fun i hi => hi) (.cells #[.int .i64 0, .int .i64 0, .int .i64 0, .int .i64 0, .int .i64 0, .int .i64 0, .int .i64 0, .int .i64 0, .int .i64 0, .int .i64 0, .int .i64 0, .int .i64 0, .int .i64 0, .int .i64 0, .int .i64 0, .int .i64 0, .int .i64 0, .int .i64 0, .int .i64 0, .int .i64 0, .int .i64 0, .int .i64 0, .int .i64 0, .int .i64 0, .slice none 0 0] 91)))
    have ha1 := HA.out.below hb1
    have hs1 := hb1.size
    clear hb1
    go_wp2
    go_loopw [12, 22] (fun _ i wr => ∃ (k : Nat) (tr : List Int) (v : Value), k ≤ na ∧ i = .int .i64 k ∧ Hid (AsmRel (· < w1.heap.size) w1.heap.size w1.heap.size vars asm w1 k tr v wr)) (fun _ i _ => na - (intOf i).toNat)
    case atStart => exact ⟨0, [], _, Nat.zero_le _, rfl, hide ⟨HST.out, HKP.out, rfl⟩⟩
    case round =>
      clear HST HKP
      obtain ⟨k, tr, v, hk, rfl, hR⟩ := hrel
      by_cases hlt : k < na
      · obtain ⟨ad, rfl, hba, hc1⟩ := ha1.at_ hlt
        have e1 : wr.cell? (ad.add k) = some (.int .i64 (asm.getD k 0)) := (hR.out.kp.cell (by rw [block_of_add]; show _ < _; omega)).trans hc1
        have hkl := Lib.hid (show k < asm.length by rw [hlen.out]; exact hlt)
        have HD := Lib.hid (getD_cons_drop asm k 0 hkl.out)
        clear hc1
        generalize asm.getD k 0 = x at e1 HD
        rcases hbad : badB vars x with _ | _
        · obtain ⟨b0, b1, b2⟩ := badB_not hbad
          have hxo := badB_lit hbad hv1
          have HIS := is_any x w1.heap.size tr v wr hR.out.st.blk hR.out.st.cons hxo
          by_cases h1 : -x ∈ tr
          · have h2 : x ∉ tr := fun h => hR.out.st.cons.no_both h h1
            rw [litT_neg h2 h1] at HIS
            have HI := hide HIS
            have HF := Lib.hid (lawF_arg HCK.out (show assumeGo vars [] asm = none by rw [← hR.out.go, HD.out, assumeGo, if_pos (.inr h1)]))
            have hx0 : (x == 0) = false := beq_eq_false_iff_ne.2 b0
            clear HIS h1 h2 hxo b0 hbad
            go_wp2_with (go_at_call 46; refine (HI.out).mono ?_; rintro e w' ⟨rfl, rfl⟩)
            go_ret3
            rw [HF.out]
            exact ⟨none, 0, 0, _, rfl, Ints.nil _ _, isErr_code (c := 1) (by omega) (by omega), HB1.out.trans ((hR.out.kp.below (fun i hi => hi)).mono HB1.out.size)⟩
          · by_cases h2 : x ∈ tr
            · rw [litT_mem h2] at HIS
              have HI := hide HIS
              have HG := Lib.hid (show assumeGo vars tr (asm.drop (k + 1)) = assumeGo vars [] asm by rw [← hR.out.go, HD.out, assumeGo, if_neg (by rw [hbad]; simp [h1]), if_pos h2])
              have hx0 : (x == 0) = false := beq_eq_false_iff_ne.2 b0
              clear HIS h1 h2 hxo b0 hbad
              go_wp2_with (go_at_call 46; refine (HI.out).mono ?_; rintro e w' ⟨rfl, rfl⟩)
              go_roundw
              case rel => exact ⟨k + 1, tr, v, by omega, by go_num, hide ⟨hR.out.st, hR.out.kp, HG.out⟩⟩
              case measure => simp [intOf]; omega
            · rw [litT_none h2 h1] at HIS
              have HI := hide HIS
              have HG := Lib.hid (show assumeGo vars (tr ++ [x]) (asm.drop (k + 1)) = assumeGo vars [] asm by rw [← hR.out.go, HD.out, assumeGo, if_neg (by rw [hbad]; simp [h1]), if_neg h2])
              have HS := hide (set_any (· < w1.heap.size) x w1.heap.size w1.heap.size v tr wr hR.out.st hxo h2 h1)
              have hx0 : (x == 0) = false := beq_eq_false_iff_ne.2 b0
              clear HIS h1 h2 hxo b0 hbad
              go_wp2_with (first | (go_at_call 46; refine (HI.out).mono ?_; rintro e w' ⟨rfl, rfl⟩) | (go_at_call 47; refine (HS.out).mono ?_; rintro e w2 ⟨rfl, v2, hst2, hkp2⟩; have HST2 := hide hst2; have HKP2 := hide hkp2; clear hst2 hkp2))
              go_roundw
              case rel => exact ⟨k + 1, tr ++ [x], v2, by omega, by go_num, hide ⟨HST2.out, hR.out.kp.trans HKP2.out, HG.out⟩⟩
              case measure => simp [intOf]; omega
        · have HF := Lib.hid (lawF_arg HCK.out (show assumeGo vars [] asm = none by rw [← hR.out.go, HD.out, assumeGo, if_pos (.inl hbad)]))
          have hbi := badB_is hbad
          clear hbad
          by_cases hx0 : x = 0
          · have hx1 : (x == 0) = true := beq_iff_eq.2 hx0
            clear hbi hx0
            go_wp2
            go_ret3
            rw [HF.out]
            exact ⟨none, 0, 0, _, rfl, Ints.nil _ _, isErr_code (c := 1) (by omega) (by omega), HB1.out.trans ((hR.out.kp.below (fun i hi => hi)).mono HB1.out.size)⟩
          · have hx1 : (x == 0) = false := beq_eq_false_iff_ne.2 hx0
            by_cases hx2 : vars < x
            · clear hbi hx0
              go_wp2
              go_ret3
              rw [HF.out]
              exact ⟨none, 0, 0, _, rfl, Ints.nil _ _, isErr_code (c := 1) (by omega) (by omega), HB1.out.trans ((hR.out.kp.below (fun i hi => hi)).mono HB1.out.size)⟩
            · have hx3 : x < -vars := by omega
              clear hbi hx0
              go_wp2
              go_ret3
              rw [HF.out]
              exact ⟨none, 0, 0, _, rfl, Ints.nil _ _, isErr_code (c := 1) (by omega) (by omega), HB1.out.trans ((hR.out.kp.below (fun i hi => hi)).mono HB1.out.size)⟩
      · have HF := Lib.hid (lawF_some HCK.out (show assumeGo vars [] asm = some tr by rw [← hR.out.go, List.drop_eq_nil_of_le (by have := hlen.out; omega)]; rfl))
        have hcp : ClsP wr (· < w1.heap.size) A n ls := ((ClsP.of (HC.out.below HB1.out)).mono (fun i hi => by have : i < w.heap.size := hi; show _ < _; omega)).keep hR.out.kp
        have HS := hide (spread_any (· < w1.heap.size) w1.heap.size w1.heap.size v tr A n c ls wr hR.out.st hcp HOK.out.lits)
        clear hcp
        go_wp2_with (go_at_call 48; refine (HS.out).mono ?_; rintro e w3 ⟨rfl, v3, hst3, hkp3⟩; have HST3 := hide hst3; have HKP3 := hide hkp3; clear hst3 hkp3; obtain ⟨A3, c3, hv3, hcap3⟩ := HST3.out.own.form; have hc24 := (HST3.out.blk.cell 24).trans (stCells_last _ v3); rw [hv3] at hc24)
        go_ret3
        have hi3 := HST3.out.own
        rw [hv3] at hi3
        rw [HF.out]
        exact ⟨A3, _, c3, _, rfl, hi3.ints, .inl ⟨rfl, rfl⟩, HB1.out.trans (((hR.out.kp.trans HKP3.out).below (fun i hi => hi)).mono HB1.out.size)⟩
  · have HF := Lib.hid (lawF_bad (a := asm) hck)
    have HCK := hide hck
    clear hck
    go_enter Tryd.func21, Tryd.ntmps21
    go_wp2_with fail
    refine (HK.out).mono ?_
    rintro e w1 ⟨ve, rfl, hE, hb1⟩
    have HE := hide hE
    have HB1 := hide hb1
    clear hb1
    rcases hE with ⟨h, _⟩ | ⟨_, _, _, rfl⟩ | ⟨b, _, _, _, _, rfl, _⟩
    · exact absurd h HCK.out
    · go_wp2
      go_ret3
      rw [HF.out]
      exact ⟨none, 0, 0, _, rfl, Ints.nil _ _, HE.out, HB1.out⟩
    · go_wp2
      go_ret3
      rw [HF.out]
      exact ⟨none, 0, 0, _, rfl, Ints.nil _ _, HE.out, HB1.out⟩
end Go.Proofs.YtkkgdlfjblmbjaaDoor
