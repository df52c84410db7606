/-
  semver.made: the spans in order, put together where they touch.
-/
import Derived.Test.YtbmmkhehejoidaaGreatDoorSpB
namespace Go.Proofs.YtbmmkhehejoidaaGreatDoor
open Go.RowKit

/-- Where made's loop stands. -/
structure MadI (w : World) (r : Option Nat) (vl : Value) (k : List (Nat × Nat)) (i : Nat) (v : Value) (wr : World) : Prop where
  is : ∃ out, OwnP wr (w.heap.size + 1) v out ∧ out.length ≤ i ∧ ((i = 0 ∧ out = []) ∨ ∃ done c, out = done ++ [c] ∧ madeS k = done ++ mgR c (k.drop i) ∧ 0 < i)
  row : OwnP wr 0 vl k
  low : ∀ b, vl.ownBlock = some b → b < w.heap.size
  res : Blk wr w.heap.size 31 #[.slice none 0 0]
  fr : w.grownBy wr r
section
variable {w wr wr' w9 : World} {r : Option Nat} {vl v v9 : Value} {k : List (Nat × Nat)} {i : Nat}
theorem MadI.below (h : MadI w r vl k i v wr) (hb : Below wr.heap.size wr wr') : MadI w r vl k i v wr' := by
  obtain ⟨out, ho, hl, hs⟩ := h.is
  exact ⟨⟨out, ho.below hb, hl, hs⟩, h.row.below hb, h.low, h.res.below hb h.res.lt, grown_below h.fr hb⟩
theorem own_apart {a : Nat} {v vl : Value} (h1 : ∀ x, vl.ownBlock = some x → x < a) (h2 : ∀ x, v.ownBlock = some x → a < x) : vl.ownBlock = none ∨ vl.ownBlock ≠ v.ownBlock := by
  cases e : vl.ownBlock with
  | none => exact .inl rfl
  | some x =>
    refine .inr fun e2 => ?_
    have := h1 x e
    have := h2 x e2.symm
    omega
/-- One more span. -/
theorem MadI.app {out : List (Nat × Nat)} {s : Nat × Nat} (h : MadI w r vl k i v wr) (hown : OwnP wr (w.heap.size + 1) v out) (ho : OwnP w9 (w.heap.size + 1) v9 (out ++ [s])) (hg : wr.grownBy w9 v.ownBlock) (hd : k.drop i = s :: k.drop (i + 1)) (hl : out.length ≤ i)
    (hc : (i = 0 ∧ out = []) ∨ ∃ done c, out = done ++ [c] ∧ madeS k = done ++ mgR c (k.drop i) ∧ ¬ s.1 ≤ c.2) : MadI w r vl k (i + 1) v9 w9 := by
  have hb := hown.base_le
  refine ⟨⟨out ++ [s], ho, by simp; omega, .inr ⟨out, s, rfl, ?_, by omega⟩⟩, h.row.kept hg (own_apart h.low fun x e => Nat.lt_of_succ_le (hb x e).1), h.low, h.res.grown hg (fun e => by have := (hb _ e.symm).1; omega), grown_own h.fr hg (fun b e => Nat.le_trans (Nat.le_succ _) (hb b e).1)⟩
  rcases hc with ⟨rfl, rfl⟩ | ⟨done, c, rfl, hm, hn⟩
  · rw [show k = k.drop 0 from rfl, hd]
    rfl
  · rw [hm, hd, mgR_out _ hn]
    simp
/-- The last span, longer. -/
theorem MadI.ext {done : List (Nat × Nat)} {c s : Nat × Nat} {gv cap : Nat} (h : MadI w r vl k i (.slice (some ⟨gv, 0, none⟩) (done.length + 1) cap) wr) (hown : OwnP wr (w.heap.size + 1) (.slice (some ⟨gv, 0, none⟩) (done.length + 1) cap) (done ++ [c])) (hd : k.drop i = s :: k.drop (i + 1)) (hl : done.length + 1 ≤ i)
    (hm : madeS k = done ++ mgR c (k.drop i)) (hn : s.1 ≤ c.2) : MadI w r vl k (i + 1) (.slice (some ⟨gv, 0, none⟩) (done.length + 1) cap) (wr.setCell ⟨gv, done.length * 2 + 1, none⟩ (.int .i64 ((max c.2 s.2 : Nat) : Int))) := by
  have hb := hown.base_le gv rfl
  have hg : wr.grownBy (wr.setCell ⟨gv, done.length * 2 + 1, none⟩ (.int .i64 ((max c.2 s.2 : Nat) : Int))) (some gv) := only_setCell (grown_refl _ _) (.inl rfl) _
  refine ⟨⟨_, hown.last (max c.2 s.2), by simp; omega, .inr ⟨done, _, rfl, ?_, by omega⟩⟩, h.row.kept hg (own_apart (v := .slice (some ⟨gv, 0, none⟩) (done.length + 1) cap) h.low fun x e => by have e2 : gv = x := Option.some.inj e; omega), h.low, h.res.far (by show w.heap.size ≠ gv; omega) _, grown_new h.fr (by show w.heap.size ≤ gv; omega) _⟩
  rw [hm, hd, mgR_in _ hn]
end
def MadeP (w : World) (v : Value) (l : List (Nat × Nat)) (e : Ending) (w' : World) : Prop :=
  ∃ v' l', e = .returned (.agg #[v']) ∧ OwnP w' w.heap.size v' l' ∧ CanF 0 l' ∧ (∀ n, setS l' n = setS l n) ∧ w.grownBy w' v.ownBlock
set_option maxRecDepth 100000 in
set_option maxHeartbeats 4000000 in
theorem made_any (v : Value) (l : List (Nat × Nat)) (w : World) (h : OwnP w 0 v l) (hl : l.length ≤ 4000000000) (he : ∀ s ∈ l, s.2 ≤ endR) :
    Calls Tryz.prog 37 #[v] w (MadeP w v l) := by
  have HD := hide fun W (h2 : OwnP W 0 v l) => del_any v l W h2 hl
  have HS := hide fun v1 W (h2 : OwnP W 0 v1 (fullS l)) => sortV_any v1 (fullS l) W h2 (Nat.le_trans (List.length_filter_le _ _) hl)
  have hlow := h.base_le
  have HL := Lib.hid hlow
  have HE := Lib.hid he
  have ba := (Below.refl w.heap.size w).alloc (Nat.le_refl _) (.cells #[.slice none 0 0] 31)
  have HO := hide (h.below ba)
  have HB := hide (Blk.new w 31 #[.slice none 0 0])
  have HG := hide (only_of_below ba v.ownBlock)
  clear h he hlow ba
  go_enter Tryz.func37, Tryz.ntmps37
  go_wp2_with fail
  refine (HD.out _ HO.out).mono ?_
  generalize (w.alloc (.cells #[.slice none 0 0] 31)) = wa at HO HB HG ⊢
  rintro e wb ⟨v1, rfl, ho1, hb1, hg1⟩
  have hne : some w.heap.size ≠ v.ownBlock := fun e => by have := HL.out _ e.symm; omega
  have HB1 := hide (HB.out.grown hg1 hne)
  have HG1 := hide (grown_more HG.out hg1)
  have HO1 := hide ho1
  clear ho1 hg1 HO HB HG HD
  go_wp2_with fail
  refine (HS.out _ _ HO1.out).mono ?_
  rintro e wc ⟨rfl, k, ho2, hp2, hr2, hg2⟩
  rw [hb1] at hg2
  have HB2 := hide (HB1.out.grown hg2 hne)
  have HG2 := hide (grown_more HG1.out hg2)
  have HP := Lib.hid hp2
  have HR := Lib.hid hr2
  have hlow1 : ∀ b, v1.ownBlock = some b → b < w.heap.size := fun b e => (HL.out b (hb1 ▸ e)).2
  have hkl : k.length ≤ 4000000000 := by rw [hp2.length_eq]; exact Nat.le_trans (List.length_filter_le _ _) hl
  have HST := hide (show MadI w v.ownBlock v1 k 0 (.slice none 0 0) wc from ⟨⟨[], ownP_nil _ _, Nat.le_refl _, .inl ⟨rfl, rfl⟩⟩, ho2, hlow1, HB2.out, HG2.out⟩)
  obtain ⟨A1, c1, hv1⟩ := ho2.len
  subst hv1
  clear ho2 hp2 hr2 hg2 HB1 HG1 HO1 HS HB2 HG2 hlow1
  go_wp2_with fail
  go_loopw [3, 5, 6, 13] (fun v3 _ _ iv wr => ∃ i : Nat, i ≤ k.length ∧ iv = .int .i64 i ∧ Hid (MadI w v.ownBlock (.slice A1 k.length c1) k i v3 wr)) (fun _ _ _ iv _ => k.length - (intOf iv).toNat)
  case atStart => exact ⟨0, Nat.zero_le _, rfl, HST⟩
  case round =>
    clear HST
    obtain ⟨i, hi, rfl, HM⟩ := hrel
    by_cases hlt : i < k.length
    · have hltz : (i : Int) < (k.length : Int) := by omega
      rcases HM.out.row.form with ⟨h9, h8⟩ | ⟨g, cap, h9, _, _, hrow⟩
      · subst h8
        exact absurd hlt (Nat.not_lt_zero _)
      · injection h9 with h9 _ h9c
        subst h9 h9c
        have hgl := HM.out.low g rfl
        obtain ⟨c0, c1'⟩ := hrow.cell (show i < k.toArray.size by simpa using hlt)
        have eki : k.toArray[i]! = k[i]! := by simp
        rw [eki] at c0 c1'
        have hdrop : k.drop i = k[i]! :: k.drop (i + 1) := by
          rw [getElem!_pos k i hlt]
          exact List.drop_eq_getElem_cons hlt
        have HDR := Lib.hid hdrop
        clear hdrop eki hrow
        generalize k[i]! = s at c0 c1' HDR
        obtain ⟨sa, sb⟩ := s
        simp only at c0 c1'
        obtain ⟨out, hown, hol, hst⟩ := HM.out.is
        have hwl : w.heap.size < wr.heap.size := HM.out.res.lt
        have HB := hide (Blk.new wr 67 #[.int .i64 (sa : Int), .int .i64 (sb : Int)])
        have ba := (Below.refl wr.heap.size wr).alloc (Nat.le_refl _) (.cells #[.int .i64 (sa : Int), .int .i64 (sb : Int)] 67)
        have HOW := hide (hown.below ba)
        have HM1 := hide (HM.out.below ba)
        clear hown HM ba
        rcases hst with ⟨rfl, rfl⟩ | ⟨done, c, rfl, hm, h0⟩
        · obtain ⟨A3, c3, hv3⟩ := HOW.out.len
          subst hv3
          go_wp2_with fail
          generalize wr.heap.size = xb at HB hwl ⊢
          generalize (wr.alloc (.cells #[.int .i64 (sa : Int), .int .i64 (sb : Int)] 67)) = wx at HB HOW HM1 ⊢
          go_quiet (fail)
          have bd := below_drewN (Below.refl wx.heap.size wx) nq
          have HB2 := hide (HB.out.below bd HB.out.lt)
          have HOW2 := hide (HOW.out.below bd)
          have HM2 := hide (HM1.out.below bd)
          clear bd HB HOW HM1
          generalize wx.drewN nq = wy at HB2 HOW2 HM2 ⊢
          have y0 := HB2.out.cell 0
          have y1 := HB2.out.cell 1
          have ba := (Below.refl wy.heap.size wy).alloc (Nat.le_refl _) (.cells #[.int .i64 (sa : Int), .int .i64 (sb : Int)] 67)
          have HN := hide (Blk.new wy 67 #[.int .i64 (sa : Int), .int .i64 (sb : Int)])
          have HOW3 := hide (HOW2.out.below ba)
          have HM3 := hide (HM2.out.below ba)
          have HSZ := Lib.hid (show w.heap.size + 1 ≤ (wy.alloc (.cells #[.int .i64 (sa : Int), .int .i64 (sb : Int)] 67)).heap.size by have := HM3.out.res.lt; omega)
          clear ba HOW2 HM2
          go_wp2_with (at_builtin; refine appP _ rfl _ _ _ rfl (w.heap.size + 1) Tryz.underlying29 _ [] rfl HOW3.out wy.heap.size 1 (sa, sb) rfl HN.out (by simp) HSZ.out ?_; intro v9 w9 ho9 hg9 hor9; have HN9 := hide (HM3.out.app HOW3.out ho9 hg9 HDR.out (Nat.le_refl _) (.inl ⟨rfl, rfl⟩)); clear ho9 hg9 hor9)
          go_round
          case rel => exact ⟨1, by omega, by go_num, HN9⟩
          case measure => simp [intOf]; omega
        · rcases HOW.out.form with ⟨_, h9⟩ | ⟨gv, cv, rfl, hgv, hcv, hrv⟩
          · exact absurd h9 (by simp)
          · rw [List.length_append, List.length_singleton] at HOW HM1 hol ⊢
            have ec : (done ++ [c]).toArray[done.length]! = c := by simp
            obtain ⟨_, z1⟩ := hrv.cell (show done.length < (done ++ [c]).toArray.size by simp)
            rw [ec] at z1
            have fz := hrv.frozen (done.length * 2 + 1)
            clear hrv ec
            go_wp2_with fail
            generalize wr.heap.size = xb at HB hwl ⊢
            generalize (wr.alloc (.cells #[.int .i64 (sa : Int), .int .i64 (sb : Int)] 67)) = wx at HB HOW HM1 z1 fz ⊢
            by_cases hle : sa ≤ c.2
            · have x0 := HB.out.cell 0
              have hlez : (sa : Int) ≤ (c.2 : Int) := by omega
              go_quiet (fail)
              have bd := below_drewN (Below.refl wx.heap.size wx) nq
              have HB2 := hide (HB.out.below bd HB.out.lt)
              have HOW2 := hide (HOW.out.below bd)
              have HM2 := hide (HM1.out.below bd)
              have z2 : (wx.drewN nq).cell? ⟨gv, done.length * 2 + 1, none⟩ = some (.int .i64 (c.2 : Int)) := z1
              have f2 : (wx.drewN nq).frozen? ⟨gv, done.length * 2 + 1, none⟩ = false := fz
              clear bd HB HOW HM1 z1 fz
              generalize wx.drewN nq = wy at HB2 HOW2 HM2 z2 f2 ⊢
              have y1 := HB2.out.cell 1
              go_wp2_with fail
              have HX := hide ((HM2.out.ext HOW2.out HDR.out hol hm hle).below (below_drewN (Below.refl _ _) 1))
              have hmx : max (c.2 : Int) (sb : Int) = ((max c.2 sb : Nat) : Int) := by omega
              go_region
              go_wp2_with fail
              go_round
              case rel => exact ⟨i + 1, by omega, by go_num, HX⟩
              case measure => simp [intOf]; omega
            · have x0 := HB.out.cell 0
              have hlez : ¬ (sa : Int) ≤ (c.2 : Int) := by omega
              go_quiet (fail)
              have bd := below_drewN (Below.refl wx.heap.size wx) nq
              have HB2 := hide (HB.out.below bd HB.out.lt)
              have HOW2 := hide (HOW.out.below bd)
              have HM2 := hide (HM1.out.below bd)
              clear bd HB HOW HM1 z1 fz
              generalize wx.drewN nq = wy at HB2 HOW2 HM2 ⊢
              have y0 := HB2.out.cell 0
              have y1 := HB2.out.cell 1
              have ba := (Below.refl wy.heap.size wy).alloc (Nat.le_refl _) (.cells #[.int .i64 (sa : Int), .int .i64 (sb : Int)] 67)
              have HN := hide (Blk.new wy 67 #[.int .i64 (sa : Int), .int .i64 (sb : Int)])
              have HOW3 := hide (HOW2.out.below ba)
              have HM3 := hide (HM2.out.below ba)
              have HSZ := Lib.hid (show w.heap.size + 1 ≤ (wy.alloc (.cells #[.int .i64 (sa : Int), .int .i64 (sb : Int)] 67)).heap.size by have := HM3.out.res.lt; omega)
              clear ba HOW2 HM2
              go_wp2_with (at_builtin; refine appP _ rfl _ _ _ rfl (w.heap.size + 1) Tryz.underlying29 _ (done ++ [c]) rfl HOW3.out wy.heap.size 1 (sa, sb) rfl HN.out (by simp; omega) HSZ.out ?_; intro v9 w9 ho9 hg9 hor9; have HN9 := hide (HM3.out.app HOW3.out ho9 hg9 HDR.out (by simp; omega) (.inr ⟨done, c, rfl, hm, hle⟩)); clear ho9 hg9 hor9)
              go_round
              case rel => exact ⟨i + 1, by omega, by go_num, HN9⟩
              case measure => simp [intOf]; omega
    · obtain rfl : i = k.length := by omega
      have hltz : ¬ (k.length : Int) < (k.length : Int) := by omega
      obtain ⟨out, hown, hol, hst⟩ := HM.out.is
      obtain ⟨A3, c3, rfl⟩ := hown.len
      have hset : CanF 0 out ∧ ∀ n, setS out n = setS l n := by
        have hs := made_spec l k HP.out HR.out HE.out
        rcases hst with ⟨h9, rfl⟩ | ⟨done, c, rfl, hm, h0⟩
        · obtain rfl : k = [] := List.length_eq_zero_iff.1 h9
          exact hs
        · rw [List.drop_length, mgR_nil] at hm
          rw [← hm]
          exact hs
      have HB := hide HM.out.res
      have y := HB.out.cell 0
      have fy := HB.out.frozen 0
      have HF := hide (grown_new HM.out.fr (p := ⟨w.heap.size, 0, none⟩) (Nat.le_refl _) (.slice A3 out.length c3))
      have HO := hide (show OwnP (wr.setCell ⟨w.heap.size, 0, none⟩ (.slice A3 out.length c3)) (w.heap.size + 1) (.slice A3 out.length c3) out from hown.kept (only_setCell (g := w.heap.size) (grown_refl _ _) (.inl rfl) _) (.inr fun e => by have := (hown.base_le _ e).1; omega))
      clear hown HM hst
      have n0 := (HB.out.set_ 0 (.slice A3 out.length c3)).cell 0
      go_wp2_with fail
      exact bodyPost_ret (v := .agg #[.slice A3 out.length c3]) (by simp [results, Tryz.results37, go_sem, n0]) rfl ⟨_, out, rfl, HO.out.mono (Nat.le_succ _), hset.1, hset.2, HF.out⟩
end Go.Proofs.YtbmmkhehejoidaaGreatDoor
