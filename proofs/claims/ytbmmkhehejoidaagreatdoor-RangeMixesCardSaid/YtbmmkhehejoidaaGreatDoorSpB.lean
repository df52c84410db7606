/-
  slices.DeleteFunc of empty spans; semver.made.
-/
import Derived.Test.YtbmmkhehejoidaaGreatDoorSpA
import Derived.Shelf.SlSortCmp.NoneTotal
namespace Go.Proofs.YtbmmkhehejoidaaGreatDoor
open Go.RowKit

def DelP (w : World) (g cap : Nat) (d : Array (Nat × Nat)) (e : Ending) (w' : World) : Prop :=
  e = .returned (.slice (some ⟨g, 0, none⟩) (fullS d.toList).length cap) ∧ RowS w' g cap (fullS d.toList).toArray ∧ w.grownBy w' (some g)
theorem full_kept (d : Array (Nat × Nat)) : fullS d.toList = Lib.keptUpTo (fun j => !emptyS d[j]!) d d.size := by
  rw [Lib.keptUpTo_filter (fun x => !emptyS x) d]
  unfold fullS emptyS
  congr 1
  funext x
  by_cases h : x.2 ≤ x.1
  · simp [h]
  · simp [h]; omega
theorem kept_row {kp : Nat → Bool} {d dk : Array (Nat × Nat)} {m k : Nat} (h : Lib.KeptInv kp d m k dk) (hm : m ≤ dk.size) : dk.extract 0 k = (Lib.keptUpTo kp d m).toArray := by
  have hk := h.lt
  apply Array.ext
  · simp [h.len]; omega
  · intro j h1 h2
    have hj : j < k := by simp at h1; omega
    have hl := h.low j hj
    rw [getElem!_pos dk j (by omega), List.getElem?_eq_getElem (by rw [h.len]; exact hj)] at hl
    injection hl with hl
    simp [hl]
theorem full_all {d : Array (Nat × Nat)} (h : ∀ j, j < d.toList.length → emptyS d.toList[j]! = false) : fullS d.toList = d.toList := by
  unfold fullS
  refine List.filter_eq_self.2 fun x hx => ?_
  obtain ⟨j, hj, rfl⟩ := List.getElem_of_mem hx
  have := h j hj
  rw [getElem!_pos d.toList j hj] at this
  unfold emptyS at this
  simp at this ⊢
  exact this
theorem grown_below {a w w' : World} {r : Option Nat} (h : a.grownBy w r) (hb : Below w.heap.size w w') : a.grownBy w' r :=
  ⟨hb.os.trans h.os, hb.tape.trans h.tape, hb.output.trans h.output, Nat.le_trans h.size hb.size, fun k hk hne => (hb.block k (Nat.lt_of_lt_of_le hk h.size)).trans (h.block k hk hne)⟩
theorem grown_more {a w w' : World} {r : Option Nat} (h : a.grownBy w r) (k : w.grownBy w' r) : a.grownBy w' r :=
  ⟨k.os.trans h.os, k.tape.trans h.tape, k.output.trans h.output, Nat.le_trans h.size k.size, fun i hi hne => (k.block i (Nat.lt_of_lt_of_le hi h.size) hne).trans (h.block i hi hne)⟩
theorem grown_refl (w : World) (r : Option Nat) : w.grownBy w r := ⟨rfl, rfl, rfl, Nat.le_refl _, fun _ _ _ => rfl⟩
set_option maxRecDepth 100000 in
set_option maxHeartbeats 2000000 in
theorem delete_any (g cap : Nat) (d : Array (Nat × Nat)) (w : World) (h : RowS w g cap d) (hsz : d.size ≤ 4000000000) :
    Calls Tryz.prog 59 #[.slice (some ⟨g, 0, none⟩) d.size cap, .func (.func 60) #[] #[]] w (DelP w g cap d) := by
  have hI := idx_any g cap d w h (by omega)
  have hcc := h.cap_
  have HR := hide h
  unfold IdxP at hI
  rcases idx_spec emptyS d.toList 0 with ⟨e1, hall⟩ | ⟨k0, hk0, e1, ht, hall⟩
  · rw [e1] at hI
    have HA := Lib.hid hall
    clear hall e1 h
    go_enter Tryz.func59, Tryz.ntmps59
    go_wp2_with (go_at_call 65; refine hI.mono ?_; rintro e w9 ⟨rfl, hb9⟩)
    go_ret
    unfold DelP
    rw [full_all HA.out]
    exact ⟨by simp, by simpa using HR.out.below hb9 HR.out.lt, only_of_below hb9 _⟩
  · have hk0' : k0 < d.size := by simpa using hk0
    rw [e1, Nat.zero_add] at hI
    have tl : ∀ j, j < d.size → d.toList[j]! = d[j]! := fun j hj => by
      rw [getElem!_pos d _ hj, getElem!_pos d.toList _ (by simpa using hj)]
      simp
    obtain ⟨kp, hkp⟩ : ∃ kp : Nat → Bool, kp = fun j => !emptyS d[j]! := ⟨_, rfl⟩
    have hst : Lib.KeptInv kp d (k0 + 1) k0 d := .start (fun j hj => by rw [hkp]; show (!emptyS d[j]!) = true; rw [← tl j (by omega), hall j hj]; rfl) (by rw [hkp]; show (!emptyS d[k0]!) = false; rw [← tl k0 hk0', ht]; rfl)
    have HST := hide hst
    have hK : fullS d.toList = Lib.keptUpTo kp d d.size := by rw [hkp]; exact full_kept d
    have HK := Lib.hid hK
    have hne1 : ((k0 : Int) == -1) = false := beq_eq_false_iff_ne.2 (by omega)
    have HKP := Lib.hid hkp
    clear hall e1 ht hk0 tl hkp hst hK h
    go_enter Tryz.func59, Tryz.ntmps59
    go_wp2_with (go_at_call 65; refine hI.mono ?_; rintro e w9 ⟨rfl, hb9⟩)
    have HR9 := hide (HR.out.below hb9 HR.out.lt)
    have HG9 := hide (only_of_below hb9 (some g))
    clear hI hb9
    go_loopw [5, 6, 7] (fun v5 v6 v7 wr => ∃ (i j : Nat) (dk : Array (Nat × Nat)), v5 = .int .i64 i ∧ v6 = .int .i64 j ∧ j ≤ d.size ∧ Hid (RowS wr g cap dk) ∧ Hid (w.grownBy wr (some g)) ∧ Hid (Lib.KeptInv kp d j i dk)) (fun _ v6 _ _ => d.size - (intOf v6).toNat)
    case atStart => exact ⟨k0, k0 + 1, d, rfl, by go_num, by omega, HR9, HG9, HST⟩
    case round =>
      clear HST HR9 HG9
      obtain ⟨i, j, dk, rfl, rfl, hjd, HRk, HGk, HI⟩ := hrel
      have hij := HI.out.lt
      have hds := HI.out.size
      by_cases hlt : j < d.size
      · have hltz : (j : Int) < (d.size : Int) := by omega
        obtain ⟨c0, c1⟩ := HRk.out.cell (show j < dk.size by omega)
        rw [HI.out.high j (by omega)] at c0 c1
        have HM := hide (fun W => made1_any d[j]! W)
        have hu := Lib.hid (rfl : d[j]! = d[j]!)
        have hkj : kp j = !emptyS d[j]! := by rw [HKP.out]
        have HKJ := Lib.hid hkj
        have HPUT := hide (HI.out.keep hlt)
        clear hkj
        generalize d[j]! = u at c0 c1 HM HKJ HPUT
        obtain ⟨ua, ub⟩ := u
        simp only at c0 c1 HM
        have HA1 := hide (HRk.out.alloc (.cells #[.int .i64 (ua : Int), .int .i64 (ub : Int)] 67))
        have HB1 := hide (Blk.new wr 67 #[.int .i64 (ua : Int), .int .i64 (ub : Int)])
        have HG1 := hide (grown_below HGk.out ((Below.refl wr.heap.size wr).alloc (Nat.le_refl _) (.cells #[.int .i64 (ua : Int), .int .i64 (ub : Int)] 67)))
        go_wp2_with fail
        refine (HM.out _).mono ?_
        generalize wr.heap.size = xb at HB1 ⊢
        generalize (wr.alloc (.cells #[.int .i64 (ua : Int), .int .i64 (ub : Int)] 67)) = wx at HA1 HB1 HG1 ⊢
        rintro e wy ⟨rfl, hby⟩
        have HA2 := hide (HA1.out.below hby HA1.out.lt)
        have HB2 := hide (HB1.out.below hby HB1.out.lt)
        have HG2 := hide (grown_below HG1.out hby)
        clear hby HA1 HB1 HG1 HM c0 c1
        cases he : emptyS (ua, ub) with
        | true =>
          go_wp2_with fail
          go_round
          case rel => exact ⟨i, j + 1, dk, rfl, by go_num, by omega, HA2, HG2, HI.out.skip (by rw [HKJ.out, he]; rfl)⟩
          case measure => simp [intOf]; omega
        | false =>
          have y0 := HB2.out.cell 0
          have y1 := HB2.out.cell 1
          obtain ⟨z0, z1⟩ := HA2.out.cell (show i < dk.size by omega)
          have f0 := HA2.out.frozen (i * 2)
          have f1 := HA2.out.frozen (i * 2 + 1)
          have hiz : (i : Int) < (d.size : Int) := by omega
          have HP := hide (HA2.out.put (show i < dk.size by omega) ua ub)
          have HG3 := hide (only_setCell (only_setCell HG2.out (p := ⟨g, i * 2, none⟩) (.inl rfl) (.int .i64 (ua : Int))) (p := ⟨g, i * 2 + 1, none⟩) (.inl rfl) (.int .i64 (ub : Int)))
          have HKE := HPUT.out (by rw [HKJ.out, he]; rfl)
          go_wp2_with fail
          go_round
          case rel => exact ⟨i + 1, j + 1, _, by go_num, by go_num, by omega, HP, HG3, HKE⟩
          case measure => simp [intOf]; omega
      · obtain rfl : j = d.size := by omega
        have hltz : ¬ (d.size : Int) < (d.size : Int) := by omega
        obtain ⟨wc, hcl, HRc, HGc⟩ := clear_tail (t := 29) (c := cap - i) HRk.out (show 0 < d.size - i by omega) (show i + (d.size - i) ≤ cap by omega) (by omega) (by kernel_rfl) 0
        have hiz : (i : Int) ≤ (d.size : Int) := by omega
        go_wp2_with fail
        go_ret
        unfold DelP
        rw [HK.out]
        refine ⟨by rw [HI.out.len]; rfl, ?_, grown_more HGk.out HGc⟩
        rw [← kept_row HI.out (by omega)]
        exact HRc
set_option maxRecDepth 100000 in
theorem deleteNil_any (w : World) : Calls Tryz.prog 59 #[.slice none 0 0, .func (.func 60) #[] #[]] w (fun e w' => e = .returned (.slice none 0 0) ∧ Below w.heap.size w w') := by
  have hI := idxNil_any w
  unfold IdxP at hI
  rw [show Lib.idxByFrom (fun _ y => emptyS y) default (#[] : Array (Nat × Nat)).toList 0 = -1 from rfl] at hI
  go_enter Tryz.func59, Tryz.ntmps59
  go_wp2_with (go_at_call 65; refine hI.mono ?_; rintro e w9 ⟨rfl, hb9⟩)
  go_ret
  exact ⟨rfl, hb9⟩
/-- DeleteFunc, of any slice. -/
def DelVP (w : World) (v : Value) (l : List (Nat × Nat)) (e : Ending) (w' : World) : Prop := ∃ v', e = .returned v' ∧ OwnP w' 0 v' (fullS l) ∧ v'.ownBlock = v.ownBlock ∧ w.grownBy w' v.ownBlock
theorem del_any (v : Value) (l : List (Nat × Nat)) (w : World) (h : OwnP w 0 v l) (hl : l.length ≤ 4000000000) :
    Calls Tryz.prog 59 #[v, .func (.func 60) #[] #[]] w (DelVP w v l) := by
  rcases h.form with ⟨rfl, rfl⟩ | ⟨g, cap, rfl, _, hm, hr⟩
  · refine (deleteNil_any w).mono ?_
    rintro e w' ⟨rfl, hb⟩
    exact ⟨_, rfl, ownP_nil _ _, rfl, only_of_below hb _⟩
  · have hd := delete_any g cap l.toArray w hr (by simpa using hl)
    rw [show l.toArray.size = l.length by simp] at hd
    refine hd.mono ?_
    rintro e w' ⟨rfl, hr2, hg⟩
    refine ⟨_, rfl, ?_, rfl, hg⟩
    have h3 := hr2.own (base := 0) (Nat.zero_le _) hm
    simpa using h3
set_option maxRecDepth 100000 in
theorem sortNil_any (w : World) : Calls Tryz.prog 61 #[.slice none 0 0, .func (.func 62) #[] #[]] w (fun e w' => e = .returned (.tuple #[]) ∧ w' = w) :=
  AnyF.slices_SortFunc_none Tryz.sortSp none 0 _ w
def SortVP (w : World) (v : Value) (l : List (Nat × Nat)) (e : Ending) (w' : World) : Prop := e = .returned (.tuple #[]) ∧ ∃ l', OwnP w' 0 v l' ∧ l'.Perm l ∧ RiseS l' ∧ w.grownBy w' v.ownBlock
theorem sortV_any (v : Value) (l : List (Nat × Nat)) (w : World) (h : OwnP w 0 v l) (hl : l.length ≤ 4000000000) :
    Calls Tryz.prog 61 #[v, .func (.func 62) #[] #[]] w (SortVP w v l) := by
  rcases h.form with ⟨rfl, rfl⟩ | ⟨g, cap, rfl, _, hm, hr⟩
  · refine (sortNil_any w).mono ?_
    rintro e w' ⟨rfl, rfl⟩
    exact ⟨rfl, [], ownP_nil _ _, .refl _, List.Pairwise.nil, grown_refl _ _⟩
  · have hd := sort_any g cap l.toArray w hr (by simp; omega)
    rw [show l.toArray.size = l.length by simp] at hd
    refine hd.mono ?_
    rintro e w' ⟨rfl, hg, d', hr2, hp, hs⟩
    refine ⟨rfl, d'.toList, ?_, by simpa using hp, hs, hg⟩
    have h3 := hr2.own (base := 0) (Nat.zero_le _) hm
    have hsz : d'.size = l.length := by have := hp.length_eq; simpa using this
    rw [hsz] at h3
    exact h3
/-! ### semver.made -/
theorem grown_new {a w : World} {r : Option Nat} (h : a.grownBy w r) {p : Addr} (hp : a.heap.size ≤ p.block) (u : Value) : a.grownBy (w.setCell p u) r :=
  ⟨h.os, h.tape, h.output, by simpa [World.setCell] using h.size, fun i hi hne => (Below.heap_setCell w p u i (by omega)).trans (h.block i hi hne)⟩
theorem grown_own {a w w' : World} {r r' : Option Nat} (h : a.grownBy w r) (k : w.grownBy w' r') (hr : ∀ b, r' = some b → a.heap.size ≤ b) : a.grownBy w' r :=
  ⟨k.os.trans h.os, k.tape.trans h.tape, k.output.trans h.output, Nat.le_trans h.size k.size, fun i hi hne => (k.block i (Nat.lt_of_lt_of_le hi h.size) (fun e => by have := hr i e.symm; omega)).trans (h.block i hi hne)⟩
theorem OwnP.base_le {w : World} {base : Nat} {v : Value} {l : List (Nat × Nat)} (h : OwnP w base v l) : ∀ b, v.ownBlock = some b → base ≤ b ∧ b < w.heap.size := fun b e => World.ownsRow.lt h b e
/-- The last element's end, anew. -/
theorem OwnP.last {w : World} {base gv cap : Nat} {done : List (Nat × Nat)} {c : Nat × Nat} (h : OwnP w base (.slice (some ⟨gv, 0, none⟩) (done.length + 1) cap) (done ++ [c])) (m : Nat) :
    OwnP (w.setCell ⟨gv, done.length * 2 + 1, none⟩ (.int .i64 (m : Int))) base (.slice (some ⟨gv, 0, none⟩) (done.length + 1) cap) (done ++ [(c.1, m)]) := by
  rcases h.2 with ⟨h9, _⟩ | ⟨g', cap', cur, e, hg, hgc, hle, hcm, hcs, hct⟩
  · cases h9
  · injection e with e1 _ e2
    injection e1 with e1
    injection e1 with e1
    subst e1 e2
    have hk : Blk w gv 67 cur := hgc
    rw [List.length_append, List.length_singleton] at hle hct
    refine ⟨spsV_len _, .inr ⟨gv, cap, _, by simp, hg, hk.set_ (done.length * 2 + 1) (.int .i64 (m : Int)), by simpa using hle, hcm, by simpa using hcs, ?_⟩⟩
    rw [List.length_append, List.length_singleton, spsV_app]
    rw [spsV_app] at hct
    apply List.ext_getElem?
    intro j
    have hj0 := congrArg (fun z : List Value => z[j]?) hct
    have hsd := spsV_len done
    by_cases hj : j < (done.length + 1) * 2
    · simp only [List.getElem?_take_of_lt hj] at hj0 ⊢
      rw [Array.getElem?_toList] at hj0 ⊢
      rw [Array.getElem?_setIfInBounds]
      by_cases hl : done.length * 2 + 1 = j
      · rw [if_pos hl, if_pos (by omega), List.getElem?_append_right (by omega), hsd, show j - done.length * 2 = 1 by omega]
        rfl
      · rw [if_neg hl, hj0]
        by_cases hl2 : j < done.length * 2
        · rw [List.getElem?_append_left (by omega), List.getElem?_append_left (by omega)]
        · rw [List.getElem?_append_right (by omega), List.getElem?_append_right (by omega), hsd, show j - done.length * 2 = 0 by omega]
          rfl
    · rw [List.getElem?_eq_none (by simp; omega), List.getElem?_eq_none (by simp [hsd, spsV_len]; omega)]
end Go.Proofs.YtbmmkhehejoidaaGreatDoor
