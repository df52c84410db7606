/-
  semver's ranges: Or, Not, And.
-/
import Derived.Test.YtbmmkhehejoidaaGreatDoorSpOps
namespace Go.Proofs.YtbmmkhehejoidaaGreatDoor
open Go.RowKit

theorem own_low {w W : World} {v : Value} {l : List (Nat × Nat)} (h : OwnP W w.heap.size v l) : ∀ b, v.ownBlock = some b → w.heap.size ≤ b := fun b e => (h.base_le b e).1
/-- made, of a slice of the call's own. -/
def MadeC (w : World) (v0 : Value) (F : Nat → Bool) (e : Ending) (w' : World) : Prop := ∃ v, e = .returned (.agg #[v]) ∧ OwnP w' w.heap.size v (canOf F) ∧ w.grownBy w' v0.ownBlock
theorem made_own (w : World) (v : Value) (l : List (Nat × Nat)) (F : Nat → Bool) (h : OwnP w 0 v l) (hl : l.length ≤ 4000000000) (he : ∀ s ∈ l, s.2 ≤ endR) (hF : ∀ n, n < endR → setS l n = F n) :
    Calls Tryz.prog 37 #[v] w (MadeC w v F) := by
  refine (made_any v l w h hl he).mono ?_
  rintro e w' ⟨v', l', rfl, ho, hc, hs, hg⟩
  have hc2 : canOf F = l' := canOf_eq hc fun n hn => (hs n).trans (hF n hn)
  exact ⟨v', rfl, by rw [hc2]; exact ho, hg⟩
/-- A range, put into the result's cell. -/
theorem rg_end {w wy wz : World} {v v' : Value} {l' : List (Nat × Nat)} {res : Nat} {t : TypeId} {cs : Array Value} (hb : Below w.heap.size w wy) (ho : OwnP wz wy.heap.size v' l') (hg : wy.grownBy wz v.ownBlock) (hv : ∀ b, v.ownBlock = some b → w.heap.size ≤ b ∧ b ≠ res) (hr : Blk wy res t cs) (hw : w.heap.size ≤ res) (u : Value) :
    Blk wz res t cs ∧ OwnP (wz.setCell ⟨res, 0, none⟩ u) w.heap.size v' l' ∧ Below w.heap.size w (wz.setCell ⟨res, 0, none⟩ u) := by
  have hrl := hr.lt
  refine ⟨hr.grown hg (fun e => (hv _ e.symm).2 rfl), (ho.kept (only_setCell (g := res) (grown_refl _ _) (.inl rfl) u) (.inr fun e => by have := (ho.base_le _ e).1; omega)).mono hb.size, (hb.grown hg hb.size fun b e => (hv b e).1).setCell hw u⟩
set_option maxRecDepth 100000 in
theorem or_any (v1 v2 : Value) (a b : List (Nat × Nat)) (w : World) (h1 : OwnP w 0 v1 a) (h2 : OwnP w 0 v2 b) (ha : CanF 0 a) (hb : CanF 0 b) :
    Calls Tryz.prog 14 #[.agg #[v1], .agg #[v2]] w (RgP w (orC a b)) := by
  have la := can_len ha
  have lb := can_len hb
  unfold endR at la lb
  have b1 := (((Below.refl w.heap.size w).alloc (Nat.le_refl _) (.cells #[v1] 31)).alloc (by simp) (.cells #[v2] 31)).alloc (by simp; omega) (.cells #[.slice none 0 0] 31)
  have b2 := b1.alloc (by simp; omega) (.cells #[v1, v2] 29)
  have hk := Blk.new (((w.alloc (.cells #[v1] 31)).alloc (.cells #[v2] 31)).alloc (.cells #[.slice none 0 0] 31)) 29 #[v1, v2]
  have hr := (Blk.new ((w.alloc (.cells #[v1] 31)).alloc (.cells #[v2] 31)) 31 #[.slice none 0 0]).alloc (.cells #[v1, v2] 29)
  simp only [World.size_alloc] at hk hr
  have HK := hide hk
  have HRES := hide hr
  have H1 := hide (h1.below b2)
  have H2 := hide (h2.below b2)
  have HB := hide b2
  have HA := Lib.hid ha
  have HBB := Lib.hid hb
  obtain ⟨A1, c1, rfl⟩ := h1.len
  obtain ⟨A2, c2, rfl⟩ := h2.len
  clear h1 h2 ha hb b1 b2 hk hr
  go_enter Tryz.func14, Tryz.ntmps14
  go_wp2_with fail
  generalize ((((w.alloc (.cells #[.slice A1 a.length c1] 31)).alloc (.cells #[.slice A2 b.length c2] 31)).alloc (.cells #[.slice none 0 0] 31)).alloc (.cells #[.slice A1 a.length c1, .slice A2 b.length c2] 29)) = wx at HK HRES H1 H2 HB ⊢
  refine (concat_any _ _ _ a b wx HK.out H1.out H2.out la lb).mono ?_
  rintro e wy ⟨v, rfl, hov, hbv⟩
  have hby := hide (HB.out.trans (hbv.mono HB.out.size))
  have HRY := hide (HRES.out.below hbv HRES.out.lt)
  have HM := hide (made_own wy v (a ++ b) (fun n => setS a n || setS b n) (hov.mono (Nat.zero_le _)) (by simp; omega) (fun s hs => by
    rcases List.mem_append.1 hs with h | h
    · exact can_end HA.out s h
    · exact can_end HBB.out s h) (fun n _ => by rw [setS_app]))
  have HV := Lib.hid (fun b (e : v.ownBlock = some b) => show w.heap.size ≤ b ∧ b ≠ w.heap.size + 1 + 1 from by have h1 := (hov.base_le b e).1; have h2 := HRES.out.lt; omega)
  clear HK HRES H1 H2 HB hov hbv
  go_wp2_with fail
  refine HM.out.mono ?_
  rintro e wz ⟨v', rfl, ho, hg⟩
  obtain ⟨r1, r2, r3⟩ := rg_end hby.out ho hg HV.out HRY.out (by omega) v'
  have n0 := (r1.set_ 0 v').cell 0
  have o0 := r1.cell 0
  have f0 := r1.frozen 0
  have R2 := hide r2
  have R3 := hide r3
  have ev := ho.len
  clear r1 r2 r3 ho hg HM HRY HV hby
  obtain ⟨A3, c3, rfl⟩ := ev
  go_wp2_with fail
  exact bodyPost_ret (v := .agg #[.slice A3 (canOf fun n => setS a n || setS b n).length c3]) (by simp [results, Tryz.results14, go_sem, n0]) rfl ⟨_, rfl, R2.out, R3.out⟩
/-- Where Not's loop stands. -/
structure NotI (w : World) (vl : Value) (a : List (Nat × Nat)) (i k : Nat) (v : Value) (wr : World) : Prop where
  is : ∃ out, OwnP wr (w.heap.size + 2) v out ∧ out ++ notL k (a.drop i) = notL 0 a ∧ out.length = i
  row : OwnP wr 0 vl a
  low : ∀ b, vl.ownBlock = some b → b < w.heap.size
  res : Blk wr (w.heap.size + 1) 31 #[.slice none 0 0]
  bel : Below w.heap.size w wr
section
variable {w wr wr' w9 : World} {vl v v9 : Value} {a : List (Nat × Nat)} {i k : Nat}
theorem NotI.below (h : NotI w vl a i k v wr) (hb : Below wr.heap.size wr wr') : NotI w vl a i k v wr' := by
  obtain ⟨out, ho, hl, hs⟩ := h.is
  exact ⟨⟨out, ho.below hb, hl, hs⟩, h.row.below hb, h.low, h.res.below hb h.res.lt, h.bel.trans (hb.mono h.bel.size)⟩
theorem NotI.next {out : List (Nat × Nat)} {s : Nat × Nat} (h : NotI w vl a i k v wr) (hown : OwnP wr (w.heap.size + 2) v out) (he : out ++ notL k (a.drop i) = notL 0 a) (hl : out.length = i) (ho : OwnP w9 (w.heap.size + 2) v9 (out ++ [(k, s.1)])) (hg : wr.grownBy w9 v.ownBlock) (hd : a.drop i = s :: a.drop (i + 1)) :
    NotI w vl a (i + 1) s.2 v9 w9 := by
  have hb := hown.base_le
  refine ⟨⟨_, ho, ?_, by simp; omega⟩, h.row.kept hg (own_apart h.low fun x e => by have := (hb x e).1; omega), h.low, h.res.grown hg (fun e => by have := (hb _ e.symm).1; omega), h.bel.grown hg h.bel.size fun b e => by have := (hb b e).1; omega⟩
  rw [hd] at he
  rw [← he]
  simp [notL]
end
theorem notL_len : ∀ (a : List (Nat × Nat)) (k : Nat), (notL k a).length = a.length + 1
  | [], _ => rfl
  | s :: r, k => by rw [notL, List.length_cons, notL_len r, List.length_cons]
set_option maxRecDepth 100000 in
set_option maxHeartbeats 2000000 in
theorem not_any (v : Value) (a : List (Nat × Nat)) (w : World) (h : OwnP w 0 v a) (ha : CanF 0 a) : Calls Tryz.prog 16 #[.agg #[v]] w (RgP w (notC a)) := by
  have la := can_len ha
  unfold endR at la
  have HA := Lib.hid ha
  have hlow := h.base_le
  have b1 := ((Below.refl w.heap.size w).alloc (Nat.le_refl _) (.cells #[v] 31)).alloc (by simp) (.cells #[.slice none 0 0] 31)
  have hr := Blk.new (w.alloc (.cells #[v] 31)) 31 #[.slice none 0 0]
  simp only [World.size_alloc] at hr
  have HST := hide (show NotI w v a 0 0 (.slice none 0 0) ((w.alloc (.cells #[v] 31)).alloc (.cells #[.slice none 0 0] 31)) from ⟨⟨[], ownP_nil _ _, by simp, rfl⟩, h.below b1, fun b e => (hlow b e).2, hr, b1⟩)
  obtain ⟨A, c, rfl⟩ := h.len
  clear h ha b1 hr hlow
  go_enter Tryz.func16, Tryz.ntmps16
  go_wp2_with fail
  generalize ((w.alloc (.cells #[.slice A a.length c] 31)).alloc (.cells #[.slice none 0 0] 31)) = wS at HST ⊢
  go_loopw [3, 4, 6, 10] (fun v3 v4 _ iv wr => ∃ (i k : Nat), i ≤ a.length ∧ iv = .int .i64 i ∧ v4 = .int .i64 k ∧ Hid (NotI w (.slice A a.length c) a i k v3 wr)) (fun _ _ _ iv _ => a.length - (intOf iv).toNat)
  case atStart => exact ⟨0, 0, Nat.zero_le _, rfl, rfl, HST⟩
  case round =>
    clear HST
    obtain ⟨i, k, hi, rfl, rfl, HM⟩ := hrel
    by_cases hlt : i < a.length
    · have hltz : (i : Int) < (a.length : Int) := by omega
      rcases HM.out.row.form with ⟨h9, h8⟩ | ⟨g, cap, h9, _, _, hrow⟩
      · subst h8
        exact absurd hlt (Nat.not_lt_zero _)
      · injection h9 with h9 _ h9c
        subst h9 h9c
        obtain ⟨c0, c1'⟩ := hrow.cell (show i < a.toArray.size by simpa using hlt)
        have eki : a.toArray[i]! = a[i]! := by simp
        rw [eki] at c0 c1'
        have hdrop : a.drop i = a[i]! :: a.drop (i + 1) := by
          rw [getElem!_pos a i hlt]
          exact List.drop_eq_getElem_cons hlt
        have HDR := Lib.hid hdrop
        clear hdrop eki hrow
        generalize a[i]! = s at c0 c1' HDR
        obtain ⟨sa, sb⟩ := s
        simp only at c0 c1'
        obtain ⟨out, hown, heq, hol⟩ := HM.out.is
        have b1 := (Below.refl wr.heap.size wr).alloc (Nat.le_refl _) (.cells #[.int .i64 (sa : Int), .int .i64 (sb : Int)] 67)
        have b2 := b1.alloc (by simp) (.cells #[.int .i64 (k : Int), .int .i64 (sa : Int)] 67)
        have HB := hide ((Blk.new wr 67 #[.int .i64 (sa : Int), .int .i64 (sb : Int)]).alloc (.cells #[.int .i64 (k : Int), .int .i64 (sa : Int)] 67))
        have hn := Blk.new (wr.alloc (.cells #[.int .i64 (sa : Int), .int .i64 (sb : Int)] 67)) 67 #[.int .i64 (k : Int), .int .i64 (sa : Int)]
        simp only [World.size_alloc] at hn
        have HN := hide hn
        have HM2 := hide (HM.out.below b2)
        have HOW := hide (hown.below b2)
        have HSZ := Lib.hid (show w.heap.size + 2 ≤ ((wr.alloc (.cells #[.int .i64 (sa : Int), .int .i64 (sb : Int)] 67)).alloc (.cells #[.int .i64 (k : Int), .int .i64 (sa : Int)] 67)).heap.size by have := HM.out.res.lt; simp; omega)
        have HLT := Lib.hid (fun b e => (hown.base_le b e).2)
        have HEQ := Lib.hid heq
        clear hown heq b1 b2 hn HM
        go_wp2_with (at_builtin; refine appP _ rfl _ _ _ rfl (w.heap.size + 2) Tryz.underlying29 _ out rfl HOW.out (wr.heap.size + 1) 1 (k, sa) rfl HN.out (by omega) HSZ.out ?_; intro v9 w9 ho9 hg9 hor9; have HN9 := hide (HM2.out.next (s := (sa, sb)) HOW.out HEQ.out hol ho9 hg9 HDR.out); have HB9 := hide (HB.out.grown hg9 (fun e => Nat.lt_irrefl _ (HLT.out _ e.symm))); have y1 := HB9.out.cell 1; clear ho9 hg9 hor9)
        go_round
        case rel => exact ⟨i + 1, sb, by omega, by go_num, rfl, HN9⟩
        case measure => simp [intOf]; omega
    · obtain rfl : i = a.length := by omega
      have hltz : ¬ (a.length : Int) < (a.length : Int) := by omega
      obtain ⟨out, hown, heq, hol⟩ := HM.out.is
      rw [List.drop_length] at heq
      have b1 := (Below.refl wr.heap.size wr).alloc (Nat.le_refl _) (.cells #[.int .i64 (k : Int), .int .i64 1000000000] 67)
      have HN := hide (Blk.new wr 67 #[.int .i64 (k : Int), .int .i64 1000000000])
      have HOW := hide (hown.below b1)
      have HM2 := hide (HM.out.below b1)
      have HSZ := Lib.hid (show w.heap.size + 2 ≤ (wr.alloc (.cells #[.int .i64 (k : Int), .int .i64 1000000000] 67)).heap.size by have := HM.out.res.lt; simp; omega)
      have HLL := Lib.hid (show out.length ≤ 4000000000 by omega)
      have HEQ := Lib.hid (show out ++ [(k, endR)] = notL 0 a from heq)
      clear hown heq b1 HM
      go_wp2_with (at_builtin; refine appP _ rfl _ _ _ rfl (w.heap.size + 2) Tryz.underlying29 _ out rfl HOW.out wr.heap.size 1 (k, endR) rfl HN.out HLL.out HSZ.out ?_; intro v9 w9 ho9 hg9 hor9; rw [HEQ.out] at ho9; have HO9 := hide ho9; have HR9 := hide (HM2.out.res.grown hg9 (fun e => by have := (HOW.out.base_le _ e.symm).1; omega)); have HB9 := hide (HM2.out.bel.grown hg9 HM2.out.bel.size (fun b e => by have := (HOW.out.base_le b e).1; omega)); clear ho9 hg9 hor9)
      refine (made_own w9 v9 (notL 0 a) (fun n => !setS a n) (HO9.out.mono (Nat.zero_le _)) (by rw [notL_len]; omega) (notL_end a 0 0 HA.out) (fun n hn => notL_set a 0 0 HA.out (Nat.le_refl _) n (Nat.zero_le _) hn)).mono ?_
      rintro e wz ⟨v', rfl, ho, hg⟩
      obtain ⟨r1, r2, r3⟩ := rg_end HB9.out ho hg (fun b e => by have := (HO9.out.base_le b e).1; omega) HR9.out (by omega) v'
      have n0 := (r1.set_ 0 v').cell 0
      have o0 := r1.cell 0
      have f0 := r1.frozen 0
      have R2 := hide r2
      have R3 := hide r3
      have ev := ho.len
      clear r1 r2 r3 ho hg HO9 HR9 HB9 HM2 HOW HN
      obtain ⟨A3, c3, rfl⟩ := ev
      go_wp2_with fail
      exact bodyPost_ret (v := .agg #[.slice A3 (canOf fun n => !setS a n).length c3]) (by simp [results, Tryz.results16, go_sem, n0]) rfl ⟨_, rfl, R2.out, R3.out⟩
end Go.Proofs.YtbmmkhehejoidaaGreatDoor
