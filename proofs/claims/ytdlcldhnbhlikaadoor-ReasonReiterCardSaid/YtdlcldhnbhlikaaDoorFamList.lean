/-
  family.sortUp: an insertion sort of uints. How many sets a family of an arena has. No program in sight. A family's List: its closure, which fills a map of sets.
-/
import Derived.Test.YtdlcldhnbhlikaaDoorRefSets
import Derived.BigRegion
import Derived.BigQuiet
import Derived.Deep.QuietTactic
namespace Go.Proofs.YtdlcldhnbhlikaaDoor
open Go.RowKit Go.Maps

theorem OwnU.setAt {w : World} {base g n c : Nat} {zs : List Nat} (h : OwnU w base (.slice (some ⟨g, 0, none⟩) n c) zs) (k x : Nat) :
    OwnU (w.setCell ⟨g, k, none⟩ (.int .u64 (x : Int))) base (.slice (some ⟨g, 0, none⟩) n c) (zs.set k x) := by
  obtain ⟨h1, h2⟩ := h
  rcases h2 with ⟨h9, _⟩ | ⟨g', cap, cur, e, hg, hgc, hle, hcm, hcs, hct⟩
  · cases h9
  · cases e
    have hgc' : Blk w g 22 cur := hgc
    have hv : uintsV (zs.set k x) = (uintsV zs).set k (.int .u64 (x : Int)) := by unfold uintsV; rw [List.map_set]
    refine ⟨by rw [hv, List.length_set, List.length_set]; exact h1, .inr ⟨g, c, cur.setIfInBounds k (.int .u64 (x : Int)), by rw [List.length_set], hg, hgc'.set_ k _, by rw [List.length_set]; exact hle, hcm, by simpa using hcs, ?_⟩⟩
    rw [hv, List.length_set, Array.toList_setIfInBounds, List.take_set, hct]
theorem OwnU.cellAt {w : World} {base g n c k : Nat} {zs : List Nat} (h : OwnU w base (.slice (some ⟨g, 0, none⟩) n c) zs) (hk : k < zs.length) : w.cell? ⟨g, k, none⟩ = some (.int .u64 ((zs.getD k 0 : Nat) : Int)) := by
  obtain ⟨g1, c1, e1, hc, _⟩ := h.at_ hk
  cases e1
  exact hc
theorem OwnU.loose {w : World} {base g n c : Nat} {zs : List Nat} (h : OwnU w base (.slice (some ⟨g, 0, none⟩) n c) zs) (k : Nat) : w.frozen? ⟨g, k, none⟩ = false := by
  rcases h.2 with ⟨h9, _⟩ | ⟨g', cap, cur, e, hg, hgc, hle, hcm, hcs, hct⟩
  · cases h9
  · cases e
    exact Blk.frozen (show Blk w g 22 cur from hgc) k
/-- Where sortUp stands. -/
structure SrtI (w : World) (base g n c : Nat) (zs l : List Nat) (wr : World) : Prop where
  own : OwnU wr base (.slice (some ⟨g, 0, none⟩) n c) l
  perm : l.Perm zs
  fr : Fr (fun k => k = g) w wr
/-- Rising up to i, but for what lies at k. -/
def UpBut (l : List Nat) (i k : Nat) : Prop := ∀ a b, a < b → b ≤ i → b ≠ k → l.getD a 0 < l.getD b 0
/-- Two neighbours swapped. -/
def swp (l : List Nat) (k : Nat) : List Nat := (l.set k (l.getD (k - 1) 0)).set (k - 1) (l.getD k 0)
theorem swp_len (l : List Nat) (k : Nat) : (swp l k).length = l.length := by unfold swp; simp
theorem swp_perm {l : List Nat} {k : Nat} (h0 : 0 < k) (hk : k < l.length) : (swp l k).Perm l := by
  have := @List.set_set_perm _ l k (k - 1) hk (show k - 1 < l.length by omega)
  unfold swp
  rwa [List.getD_eq_getElem?_getD, List.getD_eq_getElem?_getD, List.getElem?_eq_getElem hk, List.getElem?_eq_getElem (show k - 1 < l.length by omega)]
theorem swp_at {l : List Nat} {k : Nat} (h0 : 0 < k) (hk : k < l.length) (j : Nat) : (swp l k).getD j 0 = if j = k - 1 then l.getD k 0 else if j = k then l.getD (k - 1) 0 else l.getD j 0 := by
  unfold swp
  rw [List.getD_eq_getElem?_getD, List.getElem?_set]
  by_cases h1 : j = k - 1
  · rw [if_pos h1.symm, if_pos h1, List.length_set, if_pos (by omega)]; rfl
  · rw [if_neg (fun e => h1 e.symm), if_neg h1, List.getElem?_set]
    by_cases h2 : j = k
    · rw [if_pos h2.symm, if_pos h2, if_pos hk]; rfl
    · rw [if_neg (fun e => h2 e.symm), if_neg h2, ← List.getD_eq_getElem?_getD]
theorem UpBut.swap {l : List Nat} {i k : Nat} (h : UpBut l i k) (h0 : 0 < k) (hi : k ≤ i) (hl : i < l.length) (hlt : l.getD k 0 < l.getD (k - 1) 0) : UpBut (swp l k) i (k - 1) := by
  intro a b hab hbi hbk
  rw [swp_at h0 (by omega), swp_at h0 (by omega), if_neg hbk]
  by_cases h1 : a = k - 1
  · rw [if_pos h1]
    by_cases h2 : b = k
    · rw [if_pos h2]; exact hlt
    · rw [if_neg h2]; exact h k b (by omega) hbi h2
  · rw [if_neg h1]
    by_cases h2 : b = k
    · rw [if_pos h2, if_neg (by omega)]; exact h a (k - 1) (by omega) (by omega) (by omega)
    · rw [if_neg h2]
      by_cases h3 : a = k
      · rw [if_pos h3]; exact h (k - 1) b (by omega) hbi h2
      · rw [if_neg h3]; exact h a b hab hbi h2
theorem UpBut.done {l : List Nat} {i k : Nat} (h : UpBut l i k) (hi : k ≤ i) (hd : k = 0 ∨ l.getD (k - 1) 0 < l.getD k 0) : UpBut l (i + 1) (i + 1) := by
  intro a b hab hbi hbk
  by_cases h2 : b = k
  · rcases hd with e | e
    · omega
    · by_cases h3 : a = k - 1
      · rw [h3, h2]; exact e
      · rw [h2]; exact Nat.lt_trans (h a (k - 1) (by omega) (by omega) (by omega)) e
  · exact h a b hab (by omega) h2
theorem UpBut.rise {l : List Nat} {i : Nat} (h : UpBut l i i) (hi : l.length ≤ i) : l.Pairwise (· < ·) := by
  rw [List.pairwise_iff_getElem]
  intro a b ha hb hab
  have := h a b hab (by omega) (by omega)
  rwa [List.getD_eq_getElem?_getD, List.getD_eq_getElem?_getD, List.getElem?_eq_getElem ha, List.getElem?_eq_getElem hb] at this
theorem nodup_ne {l : List Nat} (h : l.Nodup) {a b : Nat} (ha : a < l.length) (hb : b < l.length) (hab : a ≠ b) : l.getD a 0 ≠ l.getD b 0 := by
  rw [List.getD_eq_getElem?_getD, List.getD_eq_getElem?_getD, List.getElem?_eq_getElem ha, List.getElem?_eq_getElem hb]
  intro e
  exact hab ((List.getElem_inj h).1 e)
theorem SrtI.drawN {w wr : World} {base g n c : Nat} {zs l : List Nat} (h : SrtI w base g n c zs l wr) (N : Nat) : SrtI w base g n c zs l (wr.drewN N) :=
  ⟨h.own.below (below_drewN (Below.refl _ _) N), h.perm, h.fr.trans (.of_below (below_drewN (Below.refl wr.heap.size wr) N) (Nat.le_refl _))⟩
theorem SrtI.swap {w wr : World} {base g n c k x y : Nat} {zs l : List Nat} (h : SrtI w base g n c zs l wr) (h0 : 0 < k) (hk : k < l.length) (hx : l.getD k 0 = x) (hy : l.getD (k - 1) 0 = y) (N : Nat) :
    SrtI w base g n c zs (swp l k) (((wr.drewN N).setCell ⟨g, k, none⟩ (.int .u64 (y : Int))).setCell ⟨g, k - 1, none⟩ (.int .u64 (x : Int))).drew := by
  subst hx hy
  have h1 := h.drawN N
  exact ⟨((h1.own.setAt k _).setAt (k - 1) _).below (Below.refl _ _).drew, (swp_perm h0 hk).trans h.perm, ((h1.fr.set_ rfl _).set_ rfl _).drew⟩
def SortP (w : World) (base g n c : Nat) (zs : List Nat) (e : Ending) (w' : World) : Prop := e = .returned (.tuple #[]) ∧ ∃ l, SrtI w base g n c zs l w' ∧ l.Pairwise (· < ·)
set_option maxRecDepth 100000 in
set_option maxHeartbeats 4000000 in
theorem sortUp_any (base g n c : Nat) (zs : List Nat) (w : World) (h : OwnU w base (.slice (some ⟨g, 0, none⟩) n c) zs) (hn : zs.length = n) (hl : n ≤ 1000000) (hd : zs.Nodup) :
    Calls Tryd.prog 45 #[.slice (some ⟨g, 0, none⟩) n c] w (SortP w base g n c zs) := by
  have HST := hide (show SrtI w base g n c zs zs w from ⟨h, .refl _, .refl _ _⟩)
  have HD := Lib.hid hd
  have HN := Lib.hid hn
  clear h hd hn
  go_enter Tryd.func45, Tryd.ntmps45
  go_wp2
  go_loopw [2] (fun iv wr => ∃ i : Nat, 1 ≤ i ∧ (i ≤ n ∨ i = 1) ∧ iv = .int .i64 i ∧ ∃ l, Hid (SrtI w base g n c zs l wr ∧ UpBut l i i)) (fun iv _ => n + 1 - (intOf iv).toNat)
  case atStart => exact ⟨1, Nat.le_refl _, .inr rfl, rfl, zs, hide ⟨HST.out, fun a b hab hb hk => by omega⟩⟩
  case round =>
    clear HST
    obtain ⟨i, h1, hi, rfl, l, HI⟩ := hrel
    by_cases hlt : i < n
    · have hiI : (i : Int) < (n : Int) := by omega
      go_wp2
      go_loopw [3] (fun kv wr => ∃ k : Nat, k ≤ i ∧ kv = .int .i64 k ∧ ∃ l, Hid (SrtI w base g n c zs l wr ∧ UpBut l i k)) (fun kv _ => (intOf kv).toNat)
      case atStart => exact ⟨i, Nat.le_refl _, rfl, l, HI⟩
      case round =>
        clear HI
        obtain ⟨k, hk, rfl, l, HK⟩ := hrel
        have hln : l.length = n := HK.out.1.perm.length_eq.trans HN.out
        have HLN := Lib.hid hln
        have hnd : l.Nodup := HK.out.1.perm.nodup_iff.2 HD.out
        have HND := Lib.hid hnd
        clear hln hnd
        by_cases h0 : 0 < k
        · have hc1 : wr.cell? ⟨g, k, none⟩ = some (.int .u64 ((l.getD k 0 : Nat) : Int)) := HK.out.1.own.cellAt (by rw [HLN.out]; omega)
          have hc0 : wr.cell? ⟨g, k - 1, none⟩ = some (.int .u64 ((l.getD (k - 1) 0 : Nat) : Int)) := HK.out.1.own.cellAt (by rw [HLN.out]; omega)
          have h0I : (0 : Int) < (k : Int) := by omega
          have hk1 : ((k : Int) - 1) = ((k - 1 : Nat) : Int) := by omega
          by_cases hlt2 : l.getD k 0 < l.getD (k - 1) 0
          · have HNX := hide (show UpBut (swp l k) i (k - 1) from HK.out.2.swap h0 hk (by rw [HLN.out]; omega) hlt2)
            obtain ⟨x, hx⟩ : ∃ x, Hid (l.getD k 0 = x) := ⟨_, hide rfl⟩
            obtain ⟨y, hy⟩ : ∃ y, Hid (l.getD (k - 1) 0 = y) := ⟨_, hide rfl⟩
            rw [hx.out] at hc1 hlt2
            rw [hy.out] at hc0 hlt2
            have hxy : (x : Int) < (y : Int) := by omega
            clear hlt2
            go_wp2_with fail
            go_quiet (fail)
            go_wp2_with fail
            generalize hwq : wr.drewN nq = wq
            have hq1 : wq.cell? ⟨g, k, none⟩ = some (.int .u64 (x : Int)) := by rw [← hwq]; exact hc1
            have hq0 : wq.cell? ⟨g, k - 1, none⟩ = some (.int .u64 (y : Int)) := by rw [← hwq]; exact hc0
            have HO1 := HK.out.1.own.below (below_drewN (Below.refl _ _) nq)
            rw [hwq] at HO1
            have fq1 := HO1.loose k
            have fq0 := HO1.loose (k - 1)
            have HO := hide HO1
            clear HO1
            have HQ := Lib.hid hwq
            clear hwq hc1 hc0
            go_region
            go_wp2
            go_roundw
            case rel => exact ⟨k - 1, by omega, by go_num, _, hide ⟨by rw [← HQ.out]; exact HK.out.1.swap h0 (by rw [HLN.out]; omega) hx.out hy.out nq, HNX.out⟩⟩
            case measure => simp [intOf]; omega
          · have hlt3 : l.getD (k - 1) 0 < l.getD k 0 := by
              have := nodup_ne HND.out (a := k) (b := k - 1) (by rw [HLN.out]; omega) (by rw [HLN.out]; omega) (by omega)
              omega
            have HNX := hide (show UpBut l (i + 1) (i + 1) from HK.out.2.done hk (.inr hlt3))
            generalize l.getD k 0 = x at hc1 hlt3
            generalize l.getD (k - 1) 0 = y at hc0 hlt3
            have hxy : ¬ ((x : Int) < (y : Int)) := by omega
            clear hlt2 hlt3
            go_wp2_with fail
            go_quiet (fail)
            go_wp2_with fail
            go_roundw
            case rel => exact ⟨i + 1, by omega, by omega, by go_num, l, hide ⟨HK.out.1.drawN nq, HNX.out⟩⟩
            case measure => simp [intOf]; omega
        · have HNX := hide (show UpBut l (i + 1) (i + 1) from HK.out.2.done hk (.inl (by omega)))
          have h0I : ¬ ((0 : Int) < (k : Int)) := by omega
          have h0B : decide ((0 : Int) < (k : Int)) = false := decide_eq_false h0I
          go_wp2_with fail
          go_quiet (fail)
          go_wp2_with fail
          go_roundw
          case rel => exact ⟨i + 1, by omega, by omega, by go_num, l, hide ⟨HK.out.1.drawN nq, HNX.out⟩⟩
          case measure => simp [intOf]; omega
    · have HNX := hide (HI.out.2.rise (show l.length ≤ i by rw [HI.out.1.perm.length_eq, HN.out]; omega))
      have hiI : ¬ ((i : Int) < (n : Int)) := by omega
      go_wp2
      (try simp only [Exit.inBlock, Exit.then]); first | refine bodyPost_end (results_none rfl _ _ _) rfl ?_ | refine bodyPost_ret (results_none rfl _ _ _) rfl ?_
      exact ⟨rfl, l, HI.out.1, HNX.out⟩
end Go.Proofs.YtdlcldhnbhlikaaDoor
namespace Go.Proofs.YtdlcldhnbhlikaaDoor

/-- How many sets a family has. -/
def numS (F : Nat → Bool) : Nat := (setsL F).length
theorem setsL_nodup (F : Nat → Bool) : (setsL F).Nodup := List.nodup_range.filter _
theorem setsL_in {F : Nat → Bool} {x : Nat} : x ∈ setsL F ↔ x < 64 ∧ F x = true := by unfold setsL; rw [List.mem_filter, List.mem_range]
theorem numS_or {F G H : Nat → Bool} (h : ∀ s, F s = (G s || H s)) (hn : ∀ s, ¬ (G s = true ∧ H s = true)) : numS F = numS G + numS H := by
  unfold numS setsL
  have key : ∀ l : List Nat, (l.filter F).length = (l.filter G).length + (l.filter H).length := by
    intro l
    induction l with
    | nil => rfl
    | cons a l ih =>
      simp only [List.filter_cons]
      rw [h a]
      have := hn a
      cases hG : G a <;> cases hH : H a <;> simp_all <;> omega
  exact key _
section
variable {A : Ar} {h : Int} {d : Nd} {things : Int}
theorem numS_none (e : gotA A h = none) (hh : h = 0 ∨ h = 1) : numS (fam A h) = h.toNat := by
  have e2 : fam A h = fun s => h == 1 && s == 0 := funext fun s => fam_none e
  rw [e2]
  rcases hh with rfl | rfl <;> decide
theorem numS_some (hw : WfA A) (hV : VarA A things) (h6 : things ≤ 6) (e : gotA A h = some d) : numS (fam A h) = numS (fam A d.low) + numS (fam A d.high) := by
  have hd := hw.var _ _ e
  have hd6 := hV _ _ e
  have kl := hw.kid e false
  have kh := hw.kid e true
  have hv : ((d.var.toNat : Nat) : Int) = d.var := by omega
  have hv6 : d.var.toNat < 6 := by omega
  have tl : ∀ s, fam A d.low s = true → s.testBit d.var.toNat = false := fun s hs => fam_top hw _ d.low s (Nat.le_refl _) hs d.var.toNat (by rw [hv]; exact kl.1)
  have th : ∀ s, fam A d.high s = true → s.testBit d.var.toNat = false := fun s hs => fam_top hw _ d.high s (Nat.le_refl _) hs d.var.toNat (by rw [hv]; exact kh.1)
  generalize d.var.toNat = v at hv6 tl th e hv
  have hF : ∀ s, fam A h s = (fam A d.low s || (s.testBit v && fam A d.high (clrN s v))) := fun s => by
    have := fam_some (s := s) hw e
    rw [show d.var.toNat = v by omega] at this
    rw [this]
    cases hb : s.testBit v
    · simp
    · cases hl : fam A d.low s
      · simp
      · rw [tl s hl] at hb; cases hb
  rw [numS_or hF fun s hs => by
    have h1 := tl s hs.1
    have h2 := hs.2
    rw [h1] at h2
    simp at h2]
  have hc64 : ∀ s, s < 64 → clrN s v < 64 := fun s hs => by
    refine Nat.lt_pow_two_of_testBit (n := 6) _ fun y hy => ?_
    rw [clr_bit, Nat.testBit_lt_two_pow (Nat.lt_of_lt_of_le (show s < 2 ^ 6 from hs) (Nat.pow_le_pow_right (by decide) hy))]
    rfl
  have hp64 : ∀ s, s < 64 → putN s v < 64 := fun s hs => Nat.or_lt_two_pow (n := 6) hs (Nat.pow_lt_pow_right (by decide) hv6)
  have e2 : numS (fun s => s.testBit v && fam A d.high (clrN s v)) = numS (fam A d.high) := by
    apply Nat.le_antisymm
    · refine inj_len (f := fun s => clrN s v) _ _ (setsL_nodup _) (fun x hx y hy hxy => ?_) fun x hx => ?_
      · rw [setsL_in, Bool.and_eq_true] at hx hy
        refine Nat.eq_of_testBit_eq fun j => ?_
        have := congrArg (fun z => Nat.testBit z j) hxy
        simp only [clr_bit] at this
        by_cases hj : v = j
        · rw [← hj, hx.2.1, hy.2.1]
        · simpa [hj] using this
      · rw [setsL_in, Bool.and_eq_true] at hx
        exact setsL_in.2 ⟨hc64 x hx.1, hx.2.2⟩
    · refine inj_len (f := fun s => putN s v) _ _ (setsL_nodup _) (fun x hx y hy hxy => ?_) fun x hx => ?_
      · rw [setsL_in] at hx hy
        have : clrN (putN x v) v = clrN (putN y v) v := congrArg (fun z => clrN z v) hxy
        rwa [clr_put (th x hx.2), clr_put (th y hy.2)] at this
      · rw [setsL_in] at hx
        refine setsL_in.2 ⟨hp64 x hx.1, ?_⟩
        rw [Bool.and_eq_true, clr_put (th x hx.2)]
        exact ⟨by rw [put_bit]; simp, hx.2⟩
  rw [e2]
end
end Go.Proofs.YtdlcldhnbhlikaaDoor
namespace Go.Proofs.YtdlcldhnbhlikaaDoor
open Go.RowKit Go.Maps

/-- The sets that a walk from h with c so far comes to. -/
noncomputable def lstF (A : Ar) (h : Int) (c s : Nat) : Bool := @decide (∃ m, fam A h m = true ∧ s = c ||| m) (Classical.propDecidable _)
section
variable {A : Ar} {h : Int} {d : Nd} {c s : Nat}
theorem lstF_iff : lstF A h c s = true ↔ ∃ m, fam A h m = true ∧ s = c ||| m := @decide_eq_true_iff _ (Classical.propDecidable _)
theorem lst_zero (e : gotA A 0 = none) : lstF A 0 c s = false := by
  rw [Bool.eq_false_iff]
  intro h
  obtain ⟨m, h1, _⟩ := lstF_iff.1 h
  rw [fam_none e] at h1
  simp at h1
theorem lst_one (e : gotA A 1 = none) : lstF A 1 c s = decide (s = c) := by
  by_cases h : s = c
  · rw [decide_eq_true h]
    exact lstF_iff.2 ⟨0, by rw [fam_none e]; rfl, by rw [h]; simp⟩
  · rw [decide_eq_false h, Bool.eq_false_iff]
    intro h2
    obtain ⟨m, h1, h3⟩ := lstF_iff.1 h2
    rw [fam_none e] at h1
    have : m = 0 := by simpa using h1
    subst this
    exact h (by rw [h3]; simp)
theorem lst_some (hw : WfA A) (e : gotA A h = some d) : lstF A h c s = (lstF A d.low c s || lstF A d.high (c ||| 2 ^ d.var.toNat) s) := by
  have hd := hw.var _ _ e
  have kl := hw.kid e false
  have kh := hw.kid e true
  have hv : ((d.var.toNat : Nat) : Int) = d.var := by omega
  rw [Bool.eq_iff_iff, Bool.or_eq_true, lstF_iff, lstF_iff, lstF_iff]
  constructor
  · rintro ⟨m, h1, h2⟩
    rw [fam_some hw e] at h1
    split at h1
    · rename_i hb
      refine .inr ⟨_, h1, ?_⟩
      rw [h2]
      refine Nat.eq_of_testBit_eq fun y => ?_
      simp only [Nat.testBit_or, clr_bit, Nat.testBit_two_pow]
      by_cases hy : d.var.toNat = y
      · rw [← hy, hb]; simp
      · simp [hy]
    · exact .inl ⟨m, h1, h2⟩
  · rintro (⟨m, h1, h2⟩ | ⟨m, h1, h2⟩)
    · have hb := fam_top hw _ d.low m (Nat.le_refl _) h1 d.var.toNat (by rw [hv]; exact kl.1)
      exact ⟨m, by rw [fam_some hw e, hb]; exact h1, h2⟩
    · have hb := fam_top hw _ d.high m (Nat.le_refl _) h1 d.var.toNat (by rw [hv]; exact kh.1)
      refine ⟨putN m d.var.toNat, by rw [fam_some hw e, if_pos (by rw [put_bit]; simp), clr_put hb]; exact h1, ?_⟩
      rw [h2]
      unfold putN
      rw [Nat.or_assoc, Nat.or_comm (2 ^ _) m]
theorem lst_top : lstF A h 0 s = fam A h s := by
  rw [Bool.eq_iff_iff, lstF_iff]
  constructor
  · rintro ⟨m, h1, h2⟩
    rw [h2]; simpa using h1
  · exact fun h1 => ⟨s, h1, by simp⟩
end
/-- Where List's boxes lie. -/
structure LsB where
  s : Nat
  m : Nat
  f : Nat
  gm : Nat
def listV (K : LsB) : Value := .func (.func 44) #[] #[.pointer (some ⟨K.s, 0, none⟩), .pointer (some ⟨K.m, 0, none⟩), .pointer (some ⟨K.f, 0, none⟩)]
structure LsI (K : LsB) (S B gn gu gt : Nat) (things : Int) (A : Ar) (F : Nat → Bool) (w : World) : Prop where
  kS : Blk w S 58 #[.pointer (some ⟨B, 0, none⟩), .int .i64 things]
  ar : ArM w B gn gu gt A
  ks : Blk w K.s 23 #[.pointer (some ⟨S, 0, none⟩)]
  km : Blk w K.m 45 #[.map (some K.gm)]
  kf : Blk w K.f 81 #[listV K]
  mp : MapU w K.gm F
theorem mapU_blk {w : World} {g b : Nat} {F : Nat → Bool} {t : TypeId} {cs : Array Value} (hm : MapU w g F) (hk : Blk w b t cs) : b ≠ g := by
  obtain ⟨D, ⟨es, clock, hb, _⟩, _⟩ := hm
  rintro rfl
  have h2 : w.heap[b]? = some (.cells cs t (0, 0)) := hk
  rw [h2] at hb
  cases hb
section
variable {K : LsB} {S B gn gu gt : Nat} {things : Int} {A : Ar} {F G : Nat → Bool} {w w' : World}
theorem LsI.below (h : LsI K S B gn gu gt things A F w) (hb : Below w.heap.size w w') : LsI K S B gn gu gt things A F w' :=
  ⟨h.kS.below hb h.kS.lt, h.ar.below hb (fun _ hk => h.ar.lt hk), h.ks.below hb h.ks.lt, h.km.below hb h.km.lt, h.kf.below hb h.kf.lt, h.mp.below hb h.mp.lt⟩
theorem LsI.put (h : LsI K S B gn gu gt things A F w) (hg : w.grownBy w' (some K.gm)) (hm : MapU w' K.gm G) : LsI K S B gn gu gt things A G w' := by
  have bx : ∀ {t : TypeId} {g : Nat} {cs : Array Value}, Blk w g t cs → Blk w' g t cs := fun hk => hk.grown hg fun e => by injection e with e; exact mapU_blk h.mp hk e
  refine ⟨bx h.kS, h.ar.keep fun k hk => hg.block k (h.ar.lt hk) (fun e => ?_), bx h.ks, bx h.km, bx h.kf, hm⟩
  injection e with e
  subst e
  obtain ⟨ns, us, tab, _, h2, h3, h4, h5⟩ := h.ar.is
  rcases hk with e | e | e | e
  · exact mapU_blk h.mp h2 e.symm
  · exact mapU_blk h.mp h3 e.symm
  · exact mapU_blk h.mp h4 e.symm
  · exact mapU_blk h.mp h5 e.symm
theorem LsI.congr (h : LsI K S B gn gu gt things A F w) (e : ∀ s, F s = G s) : LsI K S B gn gu gt things A G w := by rw [← show F = G from funext e]; exact h
end
/-- What a walk of the closure answers. -/
def LsP (K : LsB) (S B gn gu gt : Nat) (things : Int) (A : Ar) (F L : Nat → Bool) (w : World) (e : Ending) (w' : World) : Prop :=
  e = .returned (.tuple #[]) ∧ LsI K S B gn gu gt things A (fun s => F s || L s) w' ∧ Fr (fun k => k = K.gm) w w'
theorem or_shl {c v : Nat} (hc : c < 64) (hv : v < 6) : bits BinOp.or IntKind.u64 (c : Int) (IntKind.u64.wrap (2 ^ v)) = ((c ||| 2 ^ v : Nat) : Int) := by
  have h1 : (2 : Nat) ^ v < 2 ^ 6 := Nat.pow_lt_pow_right (by decide) hv
  rw [(pow_u6 v (by omega)).1]
  exact u64_or_nat c (2 ^ v) (by omega) (by omega)
section
variable (K : LsB) (S B gn gu gt : Nat) (things : Int) (A : Ar)
set_option maxRecDepth 100000 in
set_option maxHeartbeats 4000000 in
theorem list_end (v h : Int) (c : Nat) (F : Nat → Bool) (w : World) (hI : LsI K S B gn gu gt things A F w) (hh : h = 0 ∨ h = 1) (hg : gotA A h = none) (hc : c < 64) :
    Calls Tryd.prog 44 #[.int .i64 v, .int .i64 h, .int .u64 (c : Int), .pointer (some ⟨K.s, 0, none⟩), .pointer (some ⟨K.m, 0, none⟩), .pointer (some ⟨K.f, 0, none⟩)] w (LsP K S B gn gu gt things A F (lstF A h c) w) := by
  have HGT := hide (arGet_none B gn gu gt A h w hI.ar (by unfold I64; omega) hg)
  have HI := hide hI
  have HG := Lib.hid hg
  have s0 := hI.kS.cell 0
  have s1 := hI.ks.cell 0
  clear hI hg
  rcases hh with rfl | rfl
  · go_enter Tryd.func44, Tryd.ntmps44
    go_wp2_with fail
    refine (HGT.out).mono ?_
    rintro e w1 ⟨rfl, hb⟩
    have HB := hide (hb.alloc hb.size (.cells #[.int .i64 0, .int .i64 0, .int .i64 0] 71))
    clear hb
    go_wp2
    (try simp only [Exit.inBlock, Exit.then]); first | refine bodyPost_end (results_none rfl _ _ _) rfl ?_ | refine bodyPost_ret (results_none rfl _ _ _) rfl ?_
    exact ⟨rfl, (HI.out.below HB.out).congr fun s => by rw [lst_zero HG.out]; simp, .of_below HB.out (Nat.le_refl _)⟩
  · go_enter Tryd.func44, Tryd.ntmps44
    go_wp2_with fail
    refine (HGT.out).mono ?_
    rintro e w1 ⟨rfl, hb⟩
    have HB := hide (hb.alloc hb.size (.cells #[.int .i64 0, .int .i64 0, .int .i64 0] 71))
    have HI2 := hide (HI.out.below HB.out)
    have m0 := HI2.out.km.cell 0
    have HMU := HI2.out.mp
    clear hb
    go_wp2_with (first
      | (at_mapUpdate; refine storeU rfl _ _ _ 45 rfl Tryd.underlying45 rfl HMU c rfl rfl hc ?_; intro w9 ho9 hg9; have HO9 := hide ho9; have HG9 := hide hg9; clear ho9 hg9)
      | fail)
    (try simp only [Exit.inBlock, Exit.then]); first | refine bodyPost_end (results_none rfl _ _ _) rfl ?_ | refine bodyPost_ret (results_none rfl _ _ _) rfl ?_
    refine ⟨rfl, (HI2.out.put HG9.out HO9.out).congr fun s => ?_, (Fr.of_below (S := fun k => k = K.gm) HB.out (Nat.le_refl _)).grown HG9.out (fun k e => by cases e; rfl)⟩
    rw [lst_one HG.out]
    by_cases e : s = c <;> simp [e]
/-- What a walk of the closure asks for, of handles below a thing. -/
def LsC (t : Int) : Prop := ∀ (v h : Int) (c : Nat) (F : Nat → Bool) (w : World), t < topA A h → hasA A h = true → LsI K S B gn gu gt things A F w → c < 64 →
  Calls Tryd.prog 44 #[.int .i64 v, .int .i64 h, .int .u64 (c : Int), .pointer (some ⟨K.s, 0, none⟩), .pointer (some ⟨K.m, 0, none⟩), .pointer (some ⟨K.f, 0, none⟩)] w (LsP K S B gn gu gt things A F (lstF A h c) w)
set_option maxRecDepth 100000 in
set_option maxHeartbeats 8000000 in
theorem list_some (hw : WfA A) (hV : VarA A 6) (v h : Int) (d : Nd) (c : Nat) (F : Nat → Bool) (w : World) (hI : LsI K S B gn gu gt things A F w) (hx : I64 h) (hg : gotA A h = some d) (hc : c < 64)
    (hR : LsC K S B gn gu gt things A d.var) :
    Calls Tryd.prog 44 #[.int .i64 v, .int .i64 h, .int .u64 (c : Int), .pointer (some ⟨K.s, 0, none⟩), .pointer (some ⟨K.m, 0, none⟩), .pointer (some ⟨K.f, 0, none⟩)] w (LsP K S B gn gu gt things A F (lstF A h c) w) := by
  have HGT := hide (arGet_some B gn gu gt A h d w hI.ar hx hg)
  have HI := hide hI
  have HSM := Lib.hid (fun s => lst_some (c := c) (s := s) hw hg)
  have hd0 := (hw.var _ _ hg).1
  have hd6 := hV _ _ hg
  have kl := hw.kid hg false
  have kh := hw.kid hg true
  obtain ⟨dv, dl, dh⟩ := d
  simp only at *
  obtain ⟨x, rfl⟩ : ∃ x : Nat, dv = (x : Int) := ⟨dv.toNat, by omega⟩
  have hx6 : x < 6 := by omega
  have hor := or_shl hc hx6
  have hc2 : c ||| 2 ^ x < 64 := by
    have h1 : 2 ^ x < 2 ^ 6 := Nat.pow_lt_pow_right (by decide) hx6
    exact Nat.or_lt_two_pow (show c < 2 ^ 6 by omega) h1
  have HRC := Lib.hid hR
  have s0 := hI.kS.cell 0
  have s1 := hI.ks.cell 0
  have hfl := Lib.hid hI.kf.lt
  simp only [Int.toNat_natCast] at HSM
  generalize hCY : c ||| 2 ^ x = c2 at hor hc2 HSM
  clear hI hg hw hV hR hCY hx
  go_enter Tryd.func44, Tryd.ntmps44
  go_wp2_with fail
  refine (HGT.out).mono ?_
  rintro e w1 ⟨rfl, hb⟩
  have HB := hide (hb.alloc hb.size (.cells #[.int .i64 (x : Int), .int .i64 dl, .int .i64 dh] 71))
  have HX := hide (Blk.new w1 71 #[.int .i64 (x : Int), .int .i64 dl, .int .i64 dh])
  have HI2 := hide (HI.out.below HB.out)
  have hgx : w1.heap.size ≠ K.gm := fun e => by have := HI.out.mp.lt; have := hb.size; omega
  have f0 := HI2.out.kf.cell 0
  have x0 := HX.out.cell 0
  have x1 := HX.out.cell 1
  have HR1 := hide (HRC.out ((x : Int) + 1) dl c F _ kl.1 kl.2 HI2.out hc)
  unfold listV at f0
  clear hb HGT s0 s1 HI
  go_wp2_with fail
  refine (HR1.out).mono ?_
  rintro e w2 ⟨rfl, hI3, hf3⟩
  have HI3 := hide hI3
  have HX3 := hide (HX.out.fr hf3 hgx)
  have HF3 := hide ((Fr.of_below (S := fun k => k = K.gm) HB.out (Nat.le_refl _)).trans hf3)
  clear hI3 hf3 HR1 f0 x0 x1 HX HB HI2
  generalize w1.heap.size = bx at HX3 hgx ⊢
  have f0 := HI3.out.kf.cell 0
  have x0 := HX3.out.cell 0
  have x2 := HX3.out.cell 2
  unfold listV at f0
  have HR2 := hide (fun (wx : World) (hb : Below w2.heap.size w2 wx) (v2 : Int) => HRC.out v2 dh c2 _ wx kh.1 kh.2 (HI3.out.below hb) hc2)
  go_wp2_with fail
  go_region_held3 (fun w' => w'.cell? ⟨K.f, 0, none⟩ = some (.func (.func 44) #[] #[.pointer (some ⟨K.s, 0, none⟩), .pointer (some ⟨K.m, 0, none⟩), .pointer (some ⟨K.f, 0, none⟩)]) ∧ w'.cell? ⟨bx, 0, none⟩ = some (.int .i64 (x : Int)) ∧ w'.cell? ⟨bx, 2, none⟩ = some (.int .i64 dh))
    (first | assumption | exact ⟨f0, x0, x2⟩ | exact ⟨hq9.1, hq9.2.1, hq9.2.2⟩)
    (first
      | (go_at_call 44; refine (HR2.out _ ?_ _).mono ?_; (focus ((first | exact Below.refl _ _ | exact (Below.refl _ _).drew); done)); rintro e w3 ⟨rfl, hI4, hf4⟩; (refine (fun (hf5 : Fr (fun k => k = K.gm) w2 w3) => ?_) ?_; rotate_left; (focus (first | exact hf4 | exact (Fr.refl _ w2).drew.trans hf4)));
         (refine (fun hq9 => ?_) (show w3.cell? ⟨K.f, 0, none⟩ = some (.func (.func 44) #[] #[.pointer (some ⟨K.s, 0, none⟩), .pointer (some ⟨K.m, 0, none⟩), .pointer (some ⟨K.f, 0, none⟩)]) ∧ w3.cell? ⟨bx, 0, none⟩ = some (.int .i64 (x : Int)) ∧ w3.cell? ⟨bx, 2, none⟩ = some (.int .i64 dh) from ⟨hI4.kf.cell 0, (HX3.out.fr hf5 hgx).cell 0, (HX3.out.fr hf5 hgx).cell 2⟩))))
  all_goals
    (try simp only [Exit.inBlock, Exit.then]); first | refine bodyPost_end (results_none rfl _ _ _) rfl ?_ | refine bodyPost_ret (results_none rfl _ _ _) rfl ?_
    exact ⟨rfl, hI4.congr fun s => by rw [HSM.out]; simp [Bool.or_assoc], HF3.out.trans hf5⟩
theorem list_all (hw : WfA A) (hV : VarA A 6) : ∀ (n : Nat) (v h : Int) (c : Nat) (F : Nat → Bool) (w : World), dep A h ≤ n → hasA A h = true → LsI K S B gn gu gt things A F w → c < 64 →
    Calls Tryd.prog 44 #[.int .i64 v, .int .i64 h, .int .u64 (c : Int), .pointer (some ⟨K.s, 0, none⟩), .pointer (some ⟨K.m, 0, none⟩), .pointer (some ⟨K.f, 0, none⟩)] w (LsP K S B gn gu gt things A F (lstF A h c) w) := by
  intro n
  induction n with
  | zero =>
    intro v h c F w hn hp hI hc
    cases hg : gotA A h with
    | none => exact list_end K S B gn gu gt things A v h c F w hI (end_two hp hg) hg hc
    | some d => have := hw.dep hg; unfold dep at hn; omega
  | succ n ih =>
    intro v h c F w hn hp hI hc
    cases hg : gotA A h with
    | none => exact list_end K S B gn gu gt things A v h c F w hI (end_two hp hg) hg hc
    | some d =>
      have hd := hw.dep hg
      have ht := top_some hg
      have hi : I64 h := by
        obtain ⟨k, rfl, hk, _⟩ := gotA_is hg
        have := hI.ar.room
        unfold I64; omega
      exact list_some K S B gn gu gt things A hw hV v h d c F w hI hi hg hc fun v' h' c' F' w' h1 h2 h3 h4 => ih v' h' c' F' w' (by unfold dep at hn ⊢; omega) h2 h3 h4
end
end Go.Proofs.YtdlcldhnbhlikaaDoor
