/-
  The law RangeMixes, walked.
-/
import Derived.Test.YtbmmkhehejoidaaGreatDoorLawRg
import Derived.Test.YtbmmkhehejoidaaGreatDoorSpHas
namespace Go.Proofs.YtbmmkhehejoidaaGreatDoor
open Go.RowKit
set_option maxRecDepth 100000

/-- What the document's parse hands back, in one form. -/
def RefTwo (s : ByteArray) (w : World) (e : Ending) (w' : World) : Prop :=
  ∃ v f1 f2, e = .returned (.tuple #[v, .agg #[.int .i64 f1, .int .i64 f2]]) ∧ Below w.heap.size w w' ∧ (f1 ≠ 0 ∨ (f1 = 0 ∧ ∃ l, s.size ≤ 1000 ∧ rangeR s = .inr l ∧ CanF 0 l ∧ OwnI w' w.heap.size v (flatI l)))
theorem refTwo_any (s : ByteArray) (w : World) (hG : GlobV w) (hF : FineP w) (hs : s.size ≤ 1100) : Calls Tryz.prog 5 #[.string s] w (RefTwo s w) := by
  refine (refParse_any s w hG hF hs).mono ?_
  rintro e w1 (⟨v, f, _, hf0, rfl, hb⟩ | ⟨v, l, hsl, hr, hc, rfl, ho, hb⟩)
  · exact ⟨v, f.1, f.2, rfl, hb, .inl hf0⟩
  · exact ⟨v, 0, -1, rfl, hb, .inr ⟨rfl, l, hsl, hr, hc, ho⟩⟩
/-- What the program's parse hands back of a text that is a range. -/
def SpGood (l : List (Nat × Nat)) (w : World) (e : Ending) (w' : World) : Prop := ∃ v, e = .returned (.tuple #[.agg #[v], .nilIface]) ∧ OwnP w' w.heap.size v l ∧ Below w.heap.size w w'
theorem spGood_any (s : ByteArray) (l : List (Nat × Nat)) (w : World) (hG : GlobV w) (hs : s.size ≤ 1000) (hr : rangeR s = .inr l) : Calls Tryz.prog 6 #[.string s] w (SpGood l w) := by
  refine (spParse_any s w hG (by omega)).mono ?_
  rintro e w1 (⟨u, f, hf, _, rfl, _, _⟩ | ⟨v, l', _, hr', _, rfl, ho, hb⟩)
  · exact (both_not (show BothP s f from hf) hs hr).elim
  · rw [hr] at hr'
    injection hr' with e
    subst e
    exact ⟨v, rfl, ho, hb⟩
/-- What the law holds at its last region. -/
structure MixS (w0 : World) (f : Nat → Int) (la lb : List (Nat × Nat)) (g5 g11 g13 : Nat) (v7 v9 v11 v13 v15 v16 v17 : Value) (w : World) : Prop where
  k5 : Blk w g5 42 (verArr f)
  k11 : Blk w g11 31 #[v11]
  k13 : Blk w g13 31 #[v13]
  o7 : OwnI w 0 v7 (flatI la)
  o9 : OwnI w 0 v9 (flatI lb)
  o11 : OwnP w 0 v11 la
  o13 : OwnP w 0 v13 lb
  o15 : OwnI w 0 v15 (flatI (orC la lb))
  o16 : OwnI w 0 v16 (flatI (andC la lb))
  o17 : OwnI w 0 v17 (flatI (notC la))
  bel : Below w0.heap.size w0 w
theorem MixS.below {w0 w w' : World} {f : Nat → Int} {la lb : List (Nat × Nat)} {g5 g11 g13 : Nat} {v7 v9 v11 v13 v15 v16 v17 : Value} (h : MixS w0 f la lb g5 g11 g13 v7 v9 v11 v13 v15 v16 v17 w) (hb : Below w.heap.size w w') : MixS w0 f la lb g5 g11 g13 v7 v9 v11 v13 v15 v16 v17 w' :=
  ⟨h.k5.below hb h.k5.lt, h.k11.below hb h.k11.lt, h.k13.below hb h.k13.lt, h.o7.below hb, h.o9.below hb, h.o11.below hb, h.o13.below hb, h.o15.below hb, h.o16.below hb, h.o17.below hb, h.bel.trans (hb.mono h.bel.size)⟩
/-- What stands behind each operation of the law's last region: a value; a range; a range of the document's. -/
def MixT : Type := Value ⊕ (List (Nat × Nat) ⊕ List (Nat × Nat))
noncomputable def mixSp (v7 v11 v13 v15 v17 : Value) (f : Nat → Int) (la lb : List (Nat × Nat)) : Nat → MixT
  | 0 => .inl (.agg #[v11])
  | 1 => .inl (.agg (verArr f))
  | 2 => .inl (.bool (hasB la f))
  | 3 => .inl (v7)
  | 4 => .inl (.agg (verArr f))
  | 5 => .inl (.bool (hasB la f))
  | 6 => .inl (.bool true)
  | 7 => .inl (.bool true)
  | 8 => .inl (.agg #[v11])
  | 9 => .inr (.inl (notC la))
  | 10 => .inl (.agg (verArr f))
  | 11 => .inl (.bool (hasB (notC la) f))
  | 12 => .inl (v17)
  | 13 => .inl (.agg (verArr f))
  | 14 => .inl (.bool (hasB (notC la) f))
  | 15 => .inl (.bool true)
  | 16 => .inl (.bool true)
  | 17 => .inl (.bool true)
  | 18 => .inl (.agg #[v11])
  | 19 => .inl (.agg #[v13])
  | 20 => .inr (.inl (orC la lb))
  | 21 => .inl (.agg (verArr f))
  | 22 => .inl (.bool (hasB (orC la lb) f))
  | 23 => .inl (v15)
  | 24 => .inl (.agg (verArr f))
  | 25 => .inl (.bool (hasB (orC la lb) f))
  | 26 => .inl (.bool true)
  | 27 => .inl (.bool true)
  | 28 => .inl (.bool true)
  | 29 => .inr (.inl anyC)
  | 30 => .inl (.agg (verArr f))
  | 31 => .inl (.bool (hasB anyC f))
  | 32 => .inr (.inr anyC)
  | 33 => .inl (.agg (verArr f))
  | 34 => .inl (.bool (hasB anyC f))
  | 35 => .inl (.bool true)
  | 36 => .inl (.bool true)
  | 37 => .inl (.bool true)
  | _ => .inl undef
def mixR (sp : Nat → MixT) (i : Nat) (w : World) (v : Value) : Prop := match sp i with
  | .inl c => v = c
  | .inr (.inl l) => ∃ u, v = .agg #[u] ∧ OwnP w 0 u l
  | .inr (.inr l) => OwnI w 0 v (flatI l)
theorem mixR_below (sp : Nat → MixT) (i : Nat) (w w' : World) (v : Value) (h : mixR sp i w v) (hb : Below w.heap.size w w') : mixR sp i w' v := by
  unfold mixR at h ⊢
  split
  · rename_i e
    rw [e] at h
    exact h
  · rename_i e
    rw [e] at h
    obtain ⟨u, h1, h2⟩ := h
    exact ⟨u, h1, h2.below hb⟩
  · rename_i e
    rw [e] at h
    exact OwnI.below h hb
theorem wanted_of {o : Oper} {j : Nat} {b : Bool} {ops : Array Oper} {tmps : Array Value} (hg : o.guard = some (j, b)) (h : yielded ops tmps j = some b) : Region.wanted o (yielded ops tmps) = true := by
  unfold Region.wanted
  rw [hg]
  simp [h]
theorem wp_move_st {P : Program} {o : Oper} {a : Act} {w : World} {K : Act → World → Prop} {Q : Exit → Act → World → Prop} (x : Operand) (h : o.op = .move x) (hk : K (a.put o.dst (a.eval x)) w) : o.wp P a w K Q := by
  unfold Oper.wp
  rw [BigFrame.run_move x h]
  exact hk
theorem wp_assign_st {P : Program} {o : Oper} {a : Act} {w : World} {K : Act → World → Prop} {Q : Exit → Act → World → Prop} (x : Operand) (h : o.op = .assign x) (hk : K (a.put o.dst (a.eval x)) w) : o.wp P a w K Q := by
  unfold Oper.wp
  rw [BigFrame.run_assign x h]
  exact hk
theorem can_len9 {l : List (Nat × Nat)} (h : CanF 0 l) : l.length ≤ 1000000000 := can_len h
theorem nil_can : CanF 0 [] := trivial
theorem notC_nil : notC [] = anyC := by
  have h := not_spec (a := []) trivial
  refine can_same _ _ 0 h.1 any_can fun n _ hn => ?_
  rw [h.2 n hn]
  unfold anyC setS
  simp
  exact hn
set_option maxHeartbeats 8000000 in
theorem lawMix_walk (s1 s2 : ByteArray) (f : Nat → Int) (w : World) (hG : GlobV w) (hF : FineP w) (hs1 : s1.size ≤ 9223372036854775807) (hs2 : s2.size ≤ 9223372036854775807) : Calls Tryz.prog 4 #[.string s1, .string s2, .agg (verArr f)] w (AtPost w true) := by
  have hal := (Below.refl w.heap.size w).alloc (Nat.le_refl _) (.cells #[.int .i64 (f 0), .int .i64 (f 1), .int .i64 (f 2)] 42)
  have HB := hide hal
  have HK5 := hide (Blk.new w 42 #[.int .i64 (f 0), .int .i64 (f 1), .int .i64 (f 2)])
  have HG := hide hG
  have HF := hide hF
  clear hG hF hal
  by_cases h1 : 300 < s1.size
  · have hz : (300 : Int) < (s1.size : Int) := by omega
    go_enter Tryz.func4, Tryz.ntmps4
    unfold verArr
    go_wp2_with fail
    go_ret
    exact ⟨rfl, HB.out⟩
  by_cases h2 : 300 < s2.size
  · have hz : ¬ (300 : Int) < (s1.size : Int) := by omega
    have hz2 : (300 : Int) < (s2.size : Int) := by omega
    go_enter Tryz.func4, Tryz.ntmps4
    unfold verArr
    go_wp2_with fail
    go_ret
    exact ⟨rfl, HB.out⟩
  have hz : ¬ (300 : Int) < (s1.size : Int) := by omega
  have hz2 : ¬ (300 : Int) < (s2.size : Int) := by omega
  have HR1 := hide (fun W (hb : Below w.heap.size w W) => refTwo_any s1 W (HG.out.below hb) (HF.out.below hb) (by omega))
  have HR2 := hide (fun W (hb : Below w.heap.size w W) => refTwo_any s2 W (HG.out.below hb) (HF.out.below hb) (by omega))
  unfold RefTwo at HR1 HR2
  go_enter Tryz.func4, Tryz.ntmps4
  unfold verArr
  go_wp2_with fail
  generalize (w.alloc (.cells #[.int .i64 (f 0), .int .i64 (f 1), .int .i64 (f 2)] 42)) = w1 at HB HK5 ⊢
  generalize hg5 : w.heap.size = g5 at HK5 ⊢
  clear hg5
  refine (HR1.out w1 HB.out).mono ?_
  rintro e w2 ⟨v7, f1, f2, rfl, hb2, hc2⟩
  have b3 := (HB.out.trans (hb2.mono HB.out.size)).alloc (HB.out.trans (hb2.mono HB.out.size)).size (.cells #[.int .i64 f1, .int .i64 f2] 26)
  have a3 := (Below.refl w2.heap.size w2).alloc (Nat.le_refl _) (.cells #[.int .i64 f1, .int .i64 f2] 26)
  have HB3 := hide b3
  have HK53 := hide ((HK5.out.below hb2 HK5.out.lt).below a3 (HK5.out.below hb2 HK5.out.lt).lt)
  have HK8 := hide (Blk.new w2 26 #[.int .i64 f1, .int .i64 f2])
  have HC2 := Lib.hid (hc2.imp (fun h => h) (fun h => And.intro h.1 (h.2.imp fun l h => And.intro h.1 (And.intro h.2.1 (And.intro h.2.2.1 (h.2.2.2.below a3))))))
  clear hb2 hc2 b3 a3 HB HK5 HR1
  go_wp2_with fail
  generalize (w2.alloc (.cells #[.int .i64 f1, .int .i64 f2] 26)) = w3 at HB3 HK53 HK8 HC2 ⊢
  generalize hg8 : w2.heap.size = g8 at HK8 ⊢
  refine (HR2.out w3 HB3.out).mono ?_
  rintro e w4 ⟨v9, f3, f4, rfl, hb4, hc4⟩
  have b5 := (HB3.out.trans (hb4.mono HB3.out.size)).alloc (HB3.out.trans (hb4.mono HB3.out.size)).size (.cells #[.int .i64 f3, .int .i64 f4] 26)
  have a5 := (Below.refl w4.heap.size w4).alloc (Nat.le_refl _) (.cells #[.int .i64 f3, .int .i64 f4] 26)
  have HB5 := hide b5
  have HK55 := hide ((HK53.out.below hb4 HK53.out.lt).below a5 (HK53.out.below hb4 HK53.out.lt).lt)
  have HK85 := hide ((HK8.out.below hb4 HK8.out.lt).below a5 (HK8.out.below hb4 HK8.out.lt).lt)
  have HK10 := hide (Blk.new w4 26 #[.int .i64 f3, .int .i64 f4])
  have HC4 := Lib.hid (hc4.imp (fun h => h) (fun h => And.intro h.1 (h.2.imp fun l h => And.intro h.1 (And.intro h.2.1 (And.intro h.2.2.1 (h.2.2.2.below a5))))))
  have HC25 := Lib.hid (HC2.out.imp (fun h => h) (fun h => And.intro h.1 (h.2.imp fun l h => And.intro h.1 (And.intro h.2.1 (And.intro h.2.2.1 ((h.2.2.2.below hb4).below a5))))))
  clear hb4 hc4 b5 a5 HB3 HK53 HK8 HC2 HR2 hg8
  have n8 := HK85.out.cell 0
  have n10 := HK10.out.cell 0
  rcases HC25.out with hf1 | ⟨rfl, la, hsa, hra, hca, hoa⟩
  · have hb1 : (f1 == 0) = false := beq_eq_false_iff_ne.2 hf1
    clear HC25 HC4 hf1
    go_wp2_with fail
    go_ret
    exact ⟨rfl, HB5.out⟩
  rcases HC4.out with hf3 | ⟨rfl, lb, hsb, hrb, hcb, hob⟩
  · have hb3 : (f3 == 0) = false := beq_eq_false_iff_ne.2 hf3
    clear HC25 HC4 hf3 hra hca hoa
    go_wp2_with fail
    go_ret
    exact ⟨rfl, HB5.out⟩
  have HOA := hide (hoa.mono (Nat.zero_le _))
  have HOB := hide (hob.mono (Nat.zero_le _))
  have HCA := Lib.hid hca
  have HCB := Lib.hid hcb
  have HP1 := hide (spGood_any s1 la _ (HG.out.below HB5.out) hsa hra)
  have HP2 := hide (fun W (hb : Below w.heap.size w W) => spGood_any s2 lb W (HG.out.below hb) hsb hrb)
  unfold SpGood at HP1 HP2
  clear HC25 HC4 hoa hob hca hcb hra hrb HK85 HK10
  go_wp2_with fail
  clear n8 n10
  generalize (w4.alloc (.cells #[.int .i64 0, .int .i64 f4] 26)) = w5 at HB5 HK55 HOA HOB HP1 ⊢
  refine HP1.out.mono ?_
  rintro e w6 ⟨v11, rfl, ho11, hb6⟩
  obtain ⟨A11, c11, rfl⟩ := ho11.len
  have b7 := (HB5.out.trans (hb6.mono HB5.out.size)).alloc (HB5.out.trans (hb6.mono HB5.out.size)).size (.cells #[.slice A11 la.length c11] 31)
  have a7 := hb6.alloc hb6.size (.cells #[.slice A11 la.length c11] 31)
  have HB7 := hide b7
  have HK57 := hide (HK55.out.below a7 HK55.out.lt)
  have HOA7 := hide (HOA.out.below a7)
  have HOB7 := hide (HOB.out.below a7)
  have HO117 := hide ((ho11.below ((Below.refl w6.heap.size w6).alloc (Nat.le_refl _) (.cells #[.slice A11 la.length c11] 31))).mono (Nat.zero_le _))
  have HK11 := hide (Blk.new w6 31 #[.slice A11 la.length c11])
  clear ho11 hb6 b7 a7 HB5 HK55 HOA HOB HP1
  go_wp2_with fail
  generalize (w6.alloc (.cells #[.slice A11 la.length c11] 31)) = w7 at HB7 HK57 HOA7 HOB7 HO117 HK11 ⊢
  generalize hg11 : w6.heap.size = g11 at HK11 ⊢
  clear hg11
  generalize (Value.slice A11 la.length c11) = v11 at HO117 HK11 ⊢
  refine (HP2.out w7 HB7.out).mono ?_
  rintro e w8 ⟨v13, rfl, ho13, hb8⟩
  obtain ⟨A13, c13, rfl⟩ := ho13.len
  have b9 := (HB7.out.trans (hb8.mono HB7.out.size)).alloc (HB7.out.trans (hb8.mono HB7.out.size)).size (.cells #[.slice A13 lb.length c13] 31)
  have a9 := hb8.alloc hb8.size (.cells #[.slice A13 lb.length c13] 31)
  have HB9 := hide b9
  have HK59 := hide (HK57.out.below a9 HK57.out.lt)
  have HOA9 := hide (HOA7.out.below a9)
  have HOB9 := hide (HOB7.out.below a9)
  have HO119 := hide (HO117.out.below a9)
  have HK119 := hide (HK11.out.below a9 HK11.out.lt)
  have HO139 := hide ((ho13.below ((Below.refl w8.heap.size w8).alloc (Nat.le_refl _) (.cells #[.slice A13 lb.length c13] 31))).mono (Nat.zero_le _))
  have HK13 := hide (Blk.new w8 31 #[.slice A13 lb.length c13])
  have HOR := hide (refOr_any v7 v9 la lb (w8.alloc (.cells #[.slice A13 lb.length c13] 31)) HOA9.out HOB9.out HCA.out HCB.out)
  unfold RrP at HOR
  clear ho13 hb8 b9 a9 HB7 HK57 HOA7 HOB7 HO117 HK11 HP2
  go_wp2_with fail
  generalize (w8.alloc (.cells #[.slice A13 lb.length c13] 31)) = w9 at HB9 HK59 HOA9 HOB9 HO119 HK119 HO139 HK13 HOR ⊢
  generalize hg13 : w8.heap.size = g13 at HK13 ⊢
  clear hg13
  generalize (Value.slice A13 lb.length c13) = v13 at HO139 HK13 ⊢
  refine HOR.out.mono ?_
  rintro e wa ⟨v15, rfl, ho15, hba⟩
  have HAN := hide (refAnd_any v7 v9 la lb wa (HOA9.out.below hba) (HOB9.out.below hba) HCA.out HCB.out)
  unfold RrP at HAN
  have HBA := hide hba
  have HO15 := hide ho15
  clear hba ho15 HOR
  go_wp2_with fail
  refine HAN.out.mono ?_
  rintro e wb ⟨v16, rfl, ho16, hbb⟩
  have HBB := hide (HBA.out.trans (hbb.mono HBA.out.size))
  have HO15b := hide (HO15.out.below hbb)
  have HO16 := hide ho16
  have HNT := hide (refNot_any v7 la wb (HOA9.out.below HBB.out) HCA.out)
  unfold RrP at HNT
  clear hbb ho16 HAN HBA HO15
  go_wp2_with fail
  refine HNT.out.mono ?_
  rintro e wc ⟨v17, rfl, ho17, hbc⟩
  have HBC := hide (HBB.out.trans (hbc.mono HBB.out.size))
  have HM := hide (show MixS w f la lb g5 g11 g13 v7 v9 v11 v13 v15 v16 v17 wc from ⟨HK59.out.below HBC.out HK59.out.lt, HK119.out.below HBC.out HK119.out.lt, HK13.out.below HBC.out HK13.out.lt, HOA9.out.below HBC.out, HOB9.out.below HBC.out, HO119.out.below HBC.out, HO139.out.below HBC.out,
    (HO15b.out.below hbc).mono (Nat.zero_le _), (HO16.out.below hbc).mono (Nat.zero_le _), ho17.mono (Nat.zero_le _), HB9.out.trans (HBC.out.mono HB9.out.size)⟩)
  clear hbc ho17 HNT HBB HO15b HO16 HBC HB9 HK59 HOA9 HOB9 HO119 HK119 HO139 HK13
  have HSO := Lib.hid (or_spec HCA.out HCB.out).1
  have HSA := Lib.hid (and_spec HCA.out HCB.out).1
  have HSN := Lib.hid (not_spec HCA.out).1
  have y11 := HM.out.k11.cell 0
  have y13 := HM.out.k13.cell 0
  have HQ := hide (or_any v11 v13 la lb wc HM.out.o11 HM.out.o13 HCA.out HCB.out)
  unfold RgP at HQ
  go_wp2_with fail
  refine HQ.out.mono ?_
  rintro e x1 ⟨u1, rfl, hou, hbu⟩
  have HM1 := hide (HM.out.below hbu)
  have HT := hide (rangeText_any u1 (orC la lb) x1 (HG.out.below HM1.out.bel) (hou.mono (Nat.zero_le _)) HSO.out)
  unfold RgTxP at HT
  clear hou hbu HQ y11 y13 HM
  go_wp2_with fail
  refine HT.out.mono ?_
  rintro e y1 ⟨rfl, hbu⟩
  have HM2 := hide (HM1.out.below hbu)
  have HT2 := hide (refRangeText_any v15 (orC la lb) y1 (HG.out.below HM2.out.bel) HM2.out.o15 HSO.out)
  unfold RgTxP at HT2
  generalize baL (rangeT (orC la lb)) = tx1 at HT2 ⊢
  clear hbu HT HM1
  go_wp2_with fail
  refine HT2.out.mono ?_
  rintro e z1 ⟨rfl, hbu⟩
  have HM := hide (HM2.out.below hbu)
  clear hbu HT2 HM2
  have y11 := HM.out.k11.cell 0
  have y13 := HM.out.k13.cell 0
  have HQ := hide (and_any v11 v13 la lb z1 HM.out.o11 HM.out.o13 HCA.out HCB.out)
  unfold RgP at HQ
  go_wp2_with fail
  refine HQ.out.mono ?_
  rintro e x2 ⟨u2, rfl, hou, hbu⟩
  have HM1 := hide (HM.out.below hbu)
  have HT := hide (rangeText_any u2 (andC la lb) x2 (HG.out.below HM1.out.bel) (hou.mono (Nat.zero_le _)) HSA.out)
  unfold RgTxP at HT
  clear hou hbu HQ y11 y13 HM
  go_wp2_with fail
  refine HT.out.mono ?_
  rintro e y2 ⟨rfl, hbu⟩
  have HM2 := hide (HM1.out.below hbu)
  have HT2 := hide (refRangeText_any v16 (andC la lb) y2 (HG.out.below HM2.out.bel) HM2.out.o16 HSA.out)
  unfold RgTxP at HT2
  generalize baL (rangeT (andC la lb)) = tx2 at HT2 ⊢
  clear hbu HT HM1
  go_wp2_with fail
  refine HT2.out.mono ?_
  rintro e z2 ⟨rfl, hbu⟩
  have HM := hide (HM2.out.below hbu)
  clear hbu HT2 HM2
  have y11 := HM.out.k11.cell 0
  have y13 := HM.out.k13.cell 0
  have HQ := hide (not_any v11 la z2 HM.out.o11 HCA.out)
  unfold RgP at HQ
  go_wp2_with fail
  refine HQ.out.mono ?_
  rintro e x3 ⟨u3, rfl, hou, hbu⟩
  have HM1 := hide (HM.out.below hbu)
  have HT := hide (rangeText_any u3 (notC la) x3 (HG.out.below HM1.out.bel) (hou.mono (Nat.zero_le _)) HSN.out)
  unfold RgTxP at HT
  clear hou hbu HQ y11 y13 HM
  go_wp2_with fail
  refine HT.out.mono ?_
  rintro e y3 ⟨rfl, hbu⟩
  have HM2 := hide (HM1.out.below hbu)
  have HT2 := hide (refRangeText_any v17 (notC la) y3 (HG.out.below HM2.out.bel) HM2.out.o17 HSN.out)
  unfold RgTxP at HT2
  generalize baL (rangeT (notC la)) = tx3 at HT2 ⊢
  clear hbu HT HM1
  go_wp2_with fail
  refine HT2.out.mono ?_
  rintro e z3 ⟨rfl, hbu⟩
  have HM := hide (HM2.out.below hbu)
  clear hbu HT2 HM2
  have y11 := HM.out.k11.cell 0
  have y13 := HM.out.k13.cell 0
  have HQ := hide (sameR_any v11 v13 la lb z3 HM.out.o11 HM.out.o13 (can_len HCA.out))
  unfold BoolP at HQ
  have hab : (decide (la = lb) = true ∧ (baL (rangeT la)) = baL (rangeT lb)) ∨ (decide (la = lb) = false ∧ ((baL (rangeT la)).toList == (baL (rangeT lb)).toList) = false) := by
    by_cases h : la = lb
    · left; exact ⟨decide_eq_true h, by rw [h]⟩
    · right
      refine ⟨decide_eq_false h, beq_eq_false_iff_ne.2 fun e => h (rangeT_inj HCA.out HCB.out ?_)⟩
      rw [ByteArray.toList_eq, ByteArray.toList_eq] at e
      simpa [baL] using e
  have HAB := Lib.hid hab
  clear hab
  go_wp2_with fail
  refine HQ.out.mono ?_
  rintro e wd ⟨rfl, hbu⟩
  have HM1 := hide (HM.out.below hbu)
  have HT := hide (refRangeText_any v7 la wd (HG.out.below HM1.out.bel) HM1.out.o7 HCA.out)
  unfold RgTxP at HT
  clear hbu HQ y11 y13 HM
  go_wp2_with fail
  refine HT.out.mono ?_
  rintro e we ⟨rfl, hbu⟩
  have HM2 := hide (HM1.out.below hbu)
  have HT2 := hide (refRangeText_any v9 lb we (HG.out.below HM2.out.bel) HM2.out.o9 HCB.out)
  unfold RgTxP at HT2
  generalize decide (la = lb) = bb at HAB ⊢
  generalize baL (rangeT la) = ta at HAB ⊢
  generalize baL (rangeT lb) = tb at HAB HT2
  clear hbu HT HM1
  go_wp2_with fail
  refine HT2.out.mono ?_
  rintro e wf ⟨rfl, hbu⟩
  have HM := hide (HM2.out.below hbu)
  clear hbu HT2 HM2
  have y5 := HM.out.k5.cell 0
  have y51 := HM.out.k5.cell 1
  have y52 := HM.out.k5.cell 2
  unfold verArr at y5 y51 y52
  rcases HAB.out with ⟨hb, ht⟩ | ⟨hb, ht⟩
  · subst hb ht
    clear HAB
    go_wp2_with fail
    have HMg := hide (HM.out.below ((Below.refl wf.heap.size wf).alloc (Nat.le_refl _) (.cells #[.int .i64 (f 0), .int .i64 (f 1), .int .i64 (f 2)] 48)))
    have HKg := hide (Blk.new wf 48 #[.int .i64 (f 0), .int .i64 (f 1), .int .i64 (f 2)])
    generalize (wf.alloc (.cells #[.int .i64 (f 0), .int .i64 (f 1), .int .i64 (f 2)] 48)) = wg at HMg HKg ⊢
    generalize wf.heap.size = g18 at HKg ⊢
    refine wp_region_stable (w0 := wg) (R := mixR (mixSp v7 v11 v13 v15 v17 f la lb)) 142 (by kernel_rfl) rfl (mixR_below _) (by kernel_rfl) (by kernel_rfl) (by kernel_rfl) ?step ?fin
    case fin =>
      intro listed a ww hall hI
      obtain ⟨q6, r6, s6⟩ := hI.new 37 _ 6 rfl rfl (hall 37 (by decide))
      obtain rfl : q6 = .bool true := s6
      have hM := HMg.out.below hI.bel
      go_wp2
      exact bodyPost_ret (v := .bool true) (by simp [results, Tryz.results4, go_sem, r6]) (hI.defers.trans rfl) ⟨rfl, hM.bel⟩
    case step =>
      intro i o listed a ww ho hr hI
      have hM := HMg.out.below hI.bel
      have hK := HKg.out.below hI.bel HKg.out.lt
      have ho2 := ho
      have hlt : i < 38 := (Array.getElem?_eq_some_iff.1 ho).1
      rcases (show i = 0 ∨ i = 1 ∨ i = 2 ∨ i = 3 ∨ i = 4 ∨ i = 5 ∨ i = 6 ∨ i = 7 ∨ i = 8 ∨ i = 9 ∨ i = 10 ∨ i = 11 ∨ i = 12 ∨ i = 13 ∨ i = 14 ∨ i = 15 ∨ i = 16 ∨ i = 17 ∨ i = 18 ∨ i = 19 ∨ i = 20 ∨ i = 21 ∨ i = 22 ∨ i = 23 ∨ i = 24 ∨ i = 25 ∨ i = 26 ∨ i = 27 ∨ i = 28 ∨ i = 29 ∨ i = 30 ∨ i = 31 ∨ i = 32 ∨ i = 33 ∨ i = 34 ∨ i = 35 ∨ i = 36 ∨ i = 37 by omega) with rfl | rfl | rfl | rfl | rfl | rfl | rfl | rfl | rfl | rfl | rfl | rfl | rfl | rfl | rfl | rfl | rfl | rfl | rfl | rfl | rfl | rfl | rfl | rfl | rfl | rfl | rfl | rfl | rfl | rfl | rfl | rfl | rfl | rfl | rfl | rfl | rfl | rfl
      · injection ho with ho
        subst ho
        have r11 := hI.was (k := 11) (v := .pointer (some ⟨g11, 0, none⟩)) (by kernel_rfl) rfl
        have e11 := eval_slot r11
        have y : ww.cell? ⟨g11, 0, none⟩ = some v11 := hM.k11.cell 0
        refine ⟨rfl, ?_⟩
        clear hI hr
        go_simp
        exact ⟨_, rfl, rfl, Below.refl _ _⟩
      · injection ho with ho
        subst ho
        have r5 := hI.was (k := 5) (v := .pointer (some ⟨g5, 0, none⟩)) (by kernel_rfl) rfl
        have e5 := eval_slot r5
        have y0 : ww.cell? ⟨g5, 0, none⟩ = some (.int .i64 (f 0)) := hM.k5.cell 0
        have y1 : ww.cell? ⟨g5, 1, none⟩ = some (.int .i64 (f 1)) := hM.k5.cell 1
        have y2 : ww.cell? ⟨g5, 2, none⟩ = some (.int .i64 (f 2)) := hM.k5.cell 2
        refine ⟨rfl, ?_⟩
        clear hI hr
        go_simp
        exact ⟨_, rfl, rfl, Below.refl _ _⟩
      · injection ho with ho
        subst ho
        obtain ⟨q105, r105, s105⟩ := hI.got hr ho2 0 105 (by kernel_rfl) rfl rfl
        rw [show q105 = .agg #[v11] from s105] at r105
        have e105 := eval_slot r105
        obtain ⟨q106, r106, s106⟩ := hI.got hr ho2 1 106 (by kernel_rfl) rfl rfl
        rw [show q106 = .agg (verArr f) from s106] at r106
        have e106 := eval_slot r106
        refine ⟨rfl, ?_⟩
        clear hI hr
        go_simp
        (with_reducible refine (has_any v11 la f ww hM.o11 (can_len9 HCA.out)).mono ?_)
        rintro e w9 ⟨rfl, hb⟩
        exact ⟨_, rfl, rfl, hb⟩
      · injection ho with ho
        subst ho
        have r7 := hI.was (k := 7) (v := v7) (by kernel_rfl) rfl
        have e7 := eval_slot r7
        refine ⟨rfl, wp_move_st (.tmp 7) rfl ?_⟩
        exact ⟨_, by rw [e7], rfl, Below.refl _ _⟩
      · injection ho with ho
        subst ho
        have r18 := hI.was (k := 18) (v := .pointer (some ⟨g18, 0, none⟩)) (by kernel_rfl) rfl
        have e18 := eval_slot r18
        have y0 : ww.cell? ⟨g18, 0, none⟩ = some (.int .i64 (f 0)) := hK.cell 0
        have y1 : ww.cell? ⟨g18, 1, none⟩ = some (.int .i64 (f 1)) := hK.cell 1
        have y2 : ww.cell? ⟨g18, 2, none⟩ = some (.int .i64 (f 2)) := hK.cell 2
        refine ⟨rfl, ?_⟩
        clear hI hr
        go_simp
        exact ⟨_, rfl, rfl, Below.refl _ _⟩
      · injection ho with ho
        subst ho
        obtain ⟨q108, r108, s108⟩ := hI.got hr ho2 3 108 (by kernel_rfl) rfl rfl
        rw [show q108 = v7 from s108] at r108
        have e108 := eval_slot r108
        obtain ⟨q109, r109, s109⟩ := hI.got hr ho2 4 109 (by kernel_rfl) rfl rfl
        rw [show q109 = .agg (verArr f) from s109] at r109
        have e109 := eval_slot r109
        refine ⟨rfl, ?_⟩
        clear hI hr
        go_simp
        (with_reducible refine (refHas_any v7 la f ww hM.o7 HCA.out).mono ?_)
        rintro e w9 ⟨rfl, hb⟩
        exact ⟨_, rfl, rfl, hb⟩
      · injection ho with ho
        subst ho
        obtain ⟨q107, r107, s107⟩ := hI.got hr ho2 2 107 (by kernel_rfl) rfl rfl
        rw [show q107 = .bool (hasB la f) from s107] at r107
        have e107 := eval_slot r107
        obtain ⟨q110, r110, s110⟩ := hI.got hr ho2 5 110 (by kernel_rfl) rfl rfl
        rw [show q110 = .bool (hasB la f) from s110] at r110
        have e110 := eval_slot r110
        refine ⟨rfl, ?_⟩
        clear hI hr
        go_simp
        exact ⟨_, rfl, rfl, Below.refl _ _⟩
      · injection ho with ho
        subst ho
        obtain ⟨q111, r111, s111⟩ := hI.got hr ho2 6 111 (by kernel_rfl) rfl rfl
        rw [show q111 = .bool true from s111] at r111
        have e111 := eval_slot r111
        refine ⟨rfl, wp_move_st (.tmp 111) rfl ?_⟩
        exact ⟨_, by rw [e111], rfl, Below.refl _ _⟩
      · injection ho with ho
        subst ho
        obtain ⟨q112, r112, s112⟩ := hI.got hr ho2 7 112 (by kernel_rfl) rfl rfl
        rw [show q112 = .bool true from s112] at r112
        have e112 := eval_slot r112
        have r11 := hI.was (k := 11) (v := .pointer (some ⟨g11, 0, none⟩)) (by kernel_rfl) rfl
        have e11 := eval_slot r11
        have y : ww.cell? ⟨g11, 0, none⟩ = some v11 := hM.k11.cell 0
        refine ⟨wanted_of (j := 7) (b := true) rfl (yielded_slot (j := 7) (d := 112) rfl rfl r112), ?_⟩
        clear hI hr
        go_simp
        exact ⟨_, rfl, rfl, Below.refl _ _⟩
      · injection ho with ho
        subst ho
        obtain ⟨q112, r112, s112⟩ := hI.got hr ho2 7 112 (by kernel_rfl) rfl rfl
        rw [show q112 = .bool true from s112] at r112
        have e112 := eval_slot r112
        obtain ⟨q113, r113, s113⟩ := hI.got hr ho2 8 113 (by kernel_rfl) rfl rfl
        rw [show q113 = .agg #[v11] from s113] at r113
        have e113 := eval_slot r113
        refine ⟨wanted_of (j := 7) (b := true) rfl (yielded_slot (j := 7) (d := 112) rfl rfl r112), ?_⟩
        clear hI hr
        go_simp
        (with_reducible refine (not_any v11 la ww hM.o11 HCA.out).mono ?_)
        rintro e w9 ⟨u, rfl, ho9, hb⟩
        exact ⟨_, rfl, ⟨u, rfl, ho9.mono (Nat.zero_le _)⟩, hb⟩
      · injection ho with ho
        subst ho
        obtain ⟨q112, r112, s112⟩ := hI.got hr ho2 7 112 (by kernel_rfl) rfl rfl
        rw [show q112 = .bool true from s112] at r112
        have e112 := eval_slot r112
        have r5 := hI.was (k := 5) (v := .pointer (some ⟨g5, 0, none⟩)) (by kernel_rfl) rfl
        have e5 := eval_slot r5
        have y0 : ww.cell? ⟨g5, 0, none⟩ = some (.int .i64 (f 0)) := hM.k5.cell 0
        have y1 : ww.cell? ⟨g5, 1, none⟩ = some (.int .i64 (f 1)) := hM.k5.cell 1
        have y2 : ww.cell? ⟨g5, 2, none⟩ = some (.int .i64 (f 2)) := hM.k5.cell 2
        refine ⟨wanted_of (j := 7) (b := true) rfl (yielded_slot (j := 7) (d := 112) rfl rfl r112), ?_⟩
        clear hI hr
        go_simp
        exact ⟨_, rfl, rfl, Below.refl _ _⟩
      · injection ho with ho
        subst ho
        obtain ⟨q112, r112, s112⟩ := hI.got hr ho2 7 112 (by kernel_rfl) rfl rfl
        rw [show q112 = .bool true from s112] at r112
        have e112 := eval_slot r112
        obtain ⟨q114, r114, s114⟩ := hI.got hr ho2 9 114 (by kernel_rfl) rfl rfl
        obtain ⟨u114, eu114, hu114⟩ := (show ∃ u, q114 = .agg #[u] ∧ OwnP ww 0 u (notC la) from s114)
        subst eu114
        have e114 := eval_slot r114
        obtain ⟨q115, r115, s115⟩ := hI.got hr ho2 10 115 (by kernel_rfl) rfl rfl
        rw [show q115 = .agg (verArr f) from s115] at r115
        have e115 := eval_slot r115
        refine ⟨wanted_of (j := 7) (b := true) rfl (yielded_slot (j := 7) (d := 112) rfl rfl r112), ?_⟩
        clear hI hr
        go_simp
        (with_reducible refine (has_any u114 (notC la) f ww hu114 (can_len9 HSN.out)).mono ?_)
        rintro e w9 ⟨rfl, hb⟩
        exact ⟨_, rfl, rfl, hb⟩
      · injection ho with ho
        subst ho
        obtain ⟨q112, r112, s112⟩ := hI.got hr ho2 7 112 (by kernel_rfl) rfl rfl
        rw [show q112 = .bool true from s112] at r112
        have e112 := eval_slot r112
        have r17 := hI.was (k := 17) (v := v17) (by kernel_rfl) rfl
        have e17 := eval_slot r17
        refine ⟨wanted_of (j := 7) (b := true) rfl (yielded_slot (j := 7) (d := 112) rfl rfl r112), wp_move_st (.tmp 17) rfl ?_⟩
        exact ⟨_, by rw [e17], rfl, Below.refl _ _⟩
      · injection ho with ho
        subst ho
        obtain ⟨q112, r112, s112⟩ := hI.got hr ho2 7 112 (by kernel_rfl) rfl rfl
        rw [show q112 = .bool true from s112] at r112
        have e112 := eval_slot r112
        have r18 := hI.was (k := 18) (v := .pointer (some ⟨g18, 0, none⟩)) (by kernel_rfl) rfl
        have e18 := eval_slot r18
        have y0 : ww.cell? ⟨g18, 0, none⟩ = some (.int .i64 (f 0)) := hK.cell 0
        have y1 : ww.cell? ⟨g18, 1, none⟩ = some (.int .i64 (f 1)) := hK.cell 1
        have y2 : ww.cell? ⟨g18, 2, none⟩ = some (.int .i64 (f 2)) := hK.cell 2
        refine ⟨wanted_of (j := 7) (b := true) rfl (yielded_slot (j := 7) (d := 112) rfl rfl r112), ?_⟩
        clear hI hr
        go_simp
        exact ⟨_, rfl, rfl, Below.refl _ _⟩
      · injection ho with ho
        subst ho
        obtain ⟨q112, r112, s112⟩ := hI.got hr ho2 7 112 (by kernel_rfl) rfl rfl
        rw [show q112 = .bool true from s112] at r112
        have e112 := eval_slot r112
        obtain ⟨q117, r117, s117⟩ := hI.got hr ho2 12 117 (by kernel_rfl) rfl rfl
        rw [show q117 = v17 from s117] at r117
        have e117 := eval_slot r117
        obtain ⟨q118, r118, s118⟩ := hI.got hr ho2 13 118 (by kernel_rfl) rfl rfl
        rw [show q118 = .agg (verArr f) from s118] at r118
        have e118 := eval_slot r118
        refine ⟨wanted_of (j := 7) (b := true) rfl (yielded_slot (j := 7) (d := 112) rfl rfl r112), ?_⟩
        clear hI hr
        go_simp
        (with_reducible refine (refHas_any v17 (notC la) f ww hM.o17 HSN.out).mono ?_)
        rintro e w9 ⟨rfl, hb⟩
        exact ⟨_, rfl, rfl, hb⟩
      · injection ho with ho
        subst ho
        obtain ⟨q112, r112, s112⟩ := hI.got hr ho2 7 112 (by kernel_rfl) rfl rfl
        rw [show q112 = .bool true from s112] at r112
        have e112 := eval_slot r112
        obtain ⟨q116, r116, s116⟩ := hI.got hr ho2 11 116 (by kernel_rfl) rfl rfl
        rw [show q116 = .bool (hasB (notC la) f) from s116] at r116
        have e116 := eval_slot r116
        obtain ⟨q119, r119, s119⟩ := hI.got hr ho2 14 119 (by kernel_rfl) rfl rfl
        rw [show q119 = .bool (hasB (notC la) f) from s119] at r119
        have e119 := eval_slot r119
        refine ⟨wanted_of (j := 7) (b := true) rfl (yielded_slot (j := 7) (d := 112) rfl rfl r112), ?_⟩
        clear hI hr
        go_simp
        exact ⟨_, rfl, rfl, Below.refl _ _⟩
      · injection ho with ho
        subst ho
        obtain ⟨q112, r112, s112⟩ := hI.got hr ho2 7 112 (by kernel_rfl) rfl rfl
        rw [show q112 = .bool true from s112] at r112
        have e112 := eval_slot r112
        obtain ⟨q120, r120, s120⟩ := hI.got hr ho2 15 120 (by kernel_rfl) rfl rfl
        rw [show q120 = .bool true from s120] at r120
        have e120 := eval_slot r120
        refine ⟨rfl, ?_⟩
        clear hI hr
        go_simp
        exact ⟨_, rfl, rfl, Below.refl _ _⟩
      · injection ho with ho
        subst ho
        obtain ⟨q121, r121, s121⟩ := hI.got hr ho2 16 121 (by kernel_rfl) rfl rfl
        rw [show q121 = .bool true from s121] at r121
        have e121 := eval_slot r121
        refine ⟨rfl, wp_move_st (.tmp 121) rfl ?_⟩
        exact ⟨_, by rw [e121], rfl, Below.refl _ _⟩
      · injection ho with ho
        subst ho
        obtain ⟨q122, r122, s122⟩ := hI.got hr ho2 17 122 (by kernel_rfl) rfl rfl
        rw [show q122 = .bool true from s122] at r122
        have e122 := eval_slot r122
        have r11 := hI.was (k := 11) (v := .pointer (some ⟨g11, 0, none⟩)) (by kernel_rfl) rfl
        have e11 := eval_slot r11
        have y : ww.cell? ⟨g11, 0, none⟩ = some v11 := hM.k11.cell 0
        refine ⟨wanted_of (j := 17) (b := true) rfl (yielded_slot (j := 17) (d := 122) rfl rfl r122), ?_⟩
        clear hI hr
        go_simp
        exact ⟨_, rfl, rfl, Below.refl _ _⟩
      · injection ho with ho
        subst ho
        obtain ⟨q122, r122, s122⟩ := hI.got hr ho2 17 122 (by kernel_rfl) rfl rfl
        rw [show q122 = .bool true from s122] at r122
        have e122 := eval_slot r122
        have r13 := hI.was (k := 13) (v := .pointer (some ⟨g13, 0, none⟩)) (by kernel_rfl) rfl
        have e13 := eval_slot r13
        have y : ww.cell? ⟨g13, 0, none⟩ = some v13 := hM.k13.cell 0
        refine ⟨wanted_of (j := 17) (b := true) rfl (yielded_slot (j := 17) (d := 122) rfl rfl r122), ?_⟩
        clear hI hr
        go_simp
        exact ⟨_, rfl, rfl, Below.refl _ _⟩
      · injection ho with ho
        subst ho
        obtain ⟨q122, r122, s122⟩ := hI.got hr ho2 17 122 (by kernel_rfl) rfl rfl
        rw [show q122 = .bool true from s122] at r122
        have e122 := eval_slot r122
        obtain ⟨q123, r123, s123⟩ := hI.got hr ho2 18 123 (by kernel_rfl) rfl rfl
        rw [show q123 = .agg #[v11] from s123] at r123
        have e123 := eval_slot r123
        obtain ⟨q124, r124, s124⟩ := hI.got hr ho2 19 124 (by kernel_rfl) rfl rfl
        rw [show q124 = .agg #[v13] from s124] at r124
        have e124 := eval_slot r124
        refine ⟨wanted_of (j := 17) (b := true) rfl (yielded_slot (j := 17) (d := 122) rfl rfl r122), ?_⟩
        clear hI hr
        go_simp
        (with_reducible refine (or_any v11 v13 la lb ww hM.o11 hM.o13 HCA.out HCB.out).mono ?_)
        rintro e w9 ⟨u, rfl, ho9, hb⟩
        exact ⟨_, rfl, ⟨u, rfl, ho9.mono (Nat.zero_le _)⟩, hb⟩
      · injection ho with ho
        subst ho
        obtain ⟨q122, r122, s122⟩ := hI.got hr ho2 17 122 (by kernel_rfl) rfl rfl
        rw [show q122 = .bool true from s122] at r122
        have e122 := eval_slot r122
        have r5 := hI.was (k := 5) (v := .pointer (some ⟨g5, 0, none⟩)) (by kernel_rfl) rfl
        have e5 := eval_slot r5
        have y0 : ww.cell? ⟨g5, 0, none⟩ = some (.int .i64 (f 0)) := hM.k5.cell 0
        have y1 : ww.cell? ⟨g5, 1, none⟩ = some (.int .i64 (f 1)) := hM.k5.cell 1
        have y2 : ww.cell? ⟨g5, 2, none⟩ = some (.int .i64 (f 2)) := hM.k5.cell 2
        refine ⟨wanted_of (j := 17) (b := true) rfl (yielded_slot (j := 17) (d := 122) rfl rfl r122), ?_⟩
        clear hI hr
        go_simp
        exact ⟨_, rfl, rfl, Below.refl _ _⟩
      · injection ho with ho
        subst ho
        obtain ⟨q122, r122, s122⟩ := hI.got hr ho2 17 122 (by kernel_rfl) rfl rfl
        rw [show q122 = .bool true from s122] at r122
        have e122 := eval_slot r122
        obtain ⟨q125, r125, s125⟩ := hI.got hr ho2 20 125 (by kernel_rfl) rfl rfl
        obtain ⟨u125, eu125, hu125⟩ := (show ∃ u, q125 = .agg #[u] ∧ OwnP ww 0 u (orC la lb) from s125)
        subst eu125
        have e125 := eval_slot r125
        obtain ⟨q126, r126, s126⟩ := hI.got hr ho2 21 126 (by kernel_rfl) rfl rfl
        rw [show q126 = .agg (verArr f) from s126] at r126
        have e126 := eval_slot r126
        refine ⟨wanted_of (j := 17) (b := true) rfl (yielded_slot (j := 17) (d := 122) rfl rfl r122), ?_⟩
        clear hI hr
        go_simp
        (with_reducible refine (has_any u125 (orC la lb) f ww hu125 (can_len9 HSO.out)).mono ?_)
        rintro e w9 ⟨rfl, hb⟩
        exact ⟨_, rfl, rfl, hb⟩
      · injection ho with ho
        subst ho
        obtain ⟨q122, r122, s122⟩ := hI.got hr ho2 17 122 (by kernel_rfl) rfl rfl
        rw [show q122 = .bool true from s122] at r122
        have e122 := eval_slot r122
        have r15 := hI.was (k := 15) (v := v15) (by kernel_rfl) rfl
        have e15 := eval_slot r15
        refine ⟨wanted_of (j := 17) (b := true) rfl (yielded_slot (j := 17) (d := 122) rfl rfl r122), wp_move_st (.tmp 15) rfl ?_⟩
        exact ⟨_, by rw [e15], rfl, Below.refl _ _⟩
      · injection ho with ho
        subst ho
        obtain ⟨q122, r122, s122⟩ := hI.got hr ho2 17 122 (by kernel_rfl) rfl rfl
        rw [show q122 = .bool true from s122] at r122
        have e122 := eval_slot r122
        have r18 := hI.was (k := 18) (v := .pointer (some ⟨g18, 0, none⟩)) (by kernel_rfl) rfl
        have e18 := eval_slot r18
        have y0 : ww.cell? ⟨g18, 0, none⟩ = some (.int .i64 (f 0)) := hK.cell 0
        have y1 : ww.cell? ⟨g18, 1, none⟩ = some (.int .i64 (f 1)) := hK.cell 1
        have y2 : ww.cell? ⟨g18, 2, none⟩ = some (.int .i64 (f 2)) := hK.cell 2
        refine ⟨wanted_of (j := 17) (b := true) rfl (yielded_slot (j := 17) (d := 122) rfl rfl r122), ?_⟩
        clear hI hr
        go_simp
        exact ⟨_, rfl, rfl, Below.refl _ _⟩
      · injection ho with ho
        subst ho
        obtain ⟨q122, r122, s122⟩ := hI.got hr ho2 17 122 (by kernel_rfl) rfl rfl
        rw [show q122 = .bool true from s122] at r122
        have e122 := eval_slot r122
        obtain ⟨q128, r128, s128⟩ := hI.got hr ho2 23 128 (by kernel_rfl) rfl rfl
        rw [show q128 = v15 from s128] at r128
        have e128 := eval_slot r128
        obtain ⟨q129, r129, s129⟩ := hI.got hr ho2 24 129 (by kernel_rfl) rfl rfl
        rw [show q129 = .agg (verArr f) from s129] at r129
        have e129 := eval_slot r129
        refine ⟨wanted_of (j := 17) (b := true) rfl (yielded_slot (j := 17) (d := 122) rfl rfl r122), ?_⟩
        clear hI hr
        go_simp
        (with_reducible refine (refHas_any v15 (orC la lb) f ww hM.o15 HSO.out).mono ?_)
        rintro e w9 ⟨rfl, hb⟩
        exact ⟨_, rfl, rfl, hb⟩
      · injection ho with ho
        subst ho
        obtain ⟨q122, r122, s122⟩ := hI.got hr ho2 17 122 (by kernel_rfl) rfl rfl
        rw [show q122 = .bool true from s122] at r122
        have e122 := eval_slot r122
        obtain ⟨q127, r127, s127⟩ := hI.got hr ho2 22 127 (by kernel_rfl) rfl rfl
        rw [show q127 = .bool (hasB (orC la lb) f) from s127] at r127
        have e127 := eval_slot r127
        obtain ⟨q130, r130, s130⟩ := hI.got hr ho2 25 130 (by kernel_rfl) rfl rfl
        rw [show q130 = .bool (hasB (orC la lb) f) from s130] at r130
        have e130 := eval_slot r130
        refine ⟨wanted_of (j := 17) (b := true) rfl (yielded_slot (j := 17) (d := 122) rfl rfl r122), ?_⟩
        clear hI hr
        go_simp
        exact ⟨_, rfl, rfl, Below.refl _ _⟩
      · injection ho with ho
        subst ho
        obtain ⟨q122, r122, s122⟩ := hI.got hr ho2 17 122 (by kernel_rfl) rfl rfl
        rw [show q122 = .bool true from s122] at r122
        have e122 := eval_slot r122
        obtain ⟨q131, r131, s131⟩ := hI.got hr ho2 26 131 (by kernel_rfl) rfl rfl
        rw [show q131 = .bool true from s131] at r131
        have e131 := eval_slot r131
        refine ⟨rfl, ?_⟩
        clear hI hr
        go_simp
        exact ⟨_, rfl, rfl, Below.refl _ _⟩
      · injection ho with ho
        subst ho
        obtain ⟨q132, r132, s132⟩ := hI.got hr ho2 27 132 (by kernel_rfl) rfl rfl
        rw [show q132 = .bool true from s132] at r132
        have e132 := eval_slot r132
        refine ⟨rfl, wp_move_st (.tmp 132) rfl ?_⟩
        exact ⟨_, by rw [e132], rfl, Below.refl _ _⟩
      · injection ho with ho
        subst ho
        obtain ⟨q133, r133, s133⟩ := hI.got hr ho2 28 133 (by kernel_rfl) rfl rfl
        rw [show q133 = .bool true from s133] at r133
        have e133 := eval_slot r133
        refine ⟨wanted_of (j := 28) (b := true) rfl (yielded_slot (j := 28) (d := 133) rfl rfl r133), ?_⟩
        clear hI hr
        go_simp
        (with_reducible refine (any_any ww).mono ?_)
        rintro e w9 ⟨u, rfl, ho9, hb⟩
        exact ⟨_, rfl, ⟨u, rfl, ho9.mono (Nat.zero_le _)⟩, hb⟩
      · injection ho with ho
        subst ho
        obtain ⟨q133, r133, s133⟩ := hI.got hr ho2 28 133 (by kernel_rfl) rfl rfl
        rw [show q133 = .bool true from s133] at r133
        have e133 := eval_slot r133
        have r5 := hI.was (k := 5) (v := .pointer (some ⟨g5, 0, none⟩)) (by kernel_rfl) rfl
        have e5 := eval_slot r5
        have y0 : ww.cell? ⟨g5, 0, none⟩ = some (.int .i64 (f 0)) := hM.k5.cell 0
        have y1 : ww.cell? ⟨g5, 1, none⟩ = some (.int .i64 (f 1)) := hM.k5.cell 1
        have y2 : ww.cell? ⟨g5, 2, none⟩ = some (.int .i64 (f 2)) := hM.k5.cell 2
        refine ⟨wanted_of (j := 28) (b := true) rfl (yielded_slot (j := 28) (d := 133) rfl rfl r133), ?_⟩
        clear hI hr
        go_simp
        exact ⟨_, rfl, rfl, Below.refl _ _⟩
      · injection ho with ho
        subst ho
        obtain ⟨q133, r133, s133⟩ := hI.got hr ho2 28 133 (by kernel_rfl) rfl rfl
        rw [show q133 = .bool true from s133] at r133
        have e133 := eval_slot r133
        obtain ⟨q134, r134, s134⟩ := hI.got hr ho2 29 134 (by kernel_rfl) rfl rfl
        obtain ⟨u134, eu134, hu134⟩ := (show ∃ u, q134 = .agg #[u] ∧ OwnP ww 0 u anyC from s134)
        subst eu134
        have e134 := eval_slot r134
        obtain ⟨q135, r135, s135⟩ := hI.got hr ho2 30 135 (by kernel_rfl) rfl rfl
        rw [show q135 = .agg (verArr f) from s135] at r135
        have e135 := eval_slot r135
        refine ⟨wanted_of (j := 28) (b := true) rfl (yielded_slot (j := 28) (d := 133) rfl rfl r133), ?_⟩
        clear hI hr
        go_simp
        (with_reducible refine (has_any u134 anyC f ww hu134 (can_len9 any_can)).mono ?_)
        rintro e w9 ⟨rfl, hb⟩
        exact ⟨_, rfl, rfl, hb⟩
      · injection ho with ho
        subst ho
        obtain ⟨q133, r133, s133⟩ := hI.got hr ho2 28 133 (by kernel_rfl) rfl rfl
        rw [show q133 = .bool true from s133] at r133
        have e133 := eval_slot r133
        refine ⟨wanted_of (j := 28) (b := true) rfl (yielded_slot (j := 28) (d := 133) rfl rfl r133), ?_⟩
        clear hI hr
        go_simp
        (with_reducible refine (refNot_any (.slice none 0 0) [] ww (show OwnI ww 0 (.slice none 0 0) (flatI []) from ownI_nil _ _) nil_can).mono ?_)
        rintro e w9 ⟨u, rfl, ho9, hb⟩
        exact ⟨_, rfl, by rw [notC_nil] at ho9; exact ho9.mono (Nat.zero_le _), hb⟩
      · injection ho with ho
        subst ho
        obtain ⟨q133, r133, s133⟩ := hI.got hr ho2 28 133 (by kernel_rfl) rfl rfl
        rw [show q133 = .bool true from s133] at r133
        have e133 := eval_slot r133
        have r18 := hI.was (k := 18) (v := .pointer (some ⟨g18, 0, none⟩)) (by kernel_rfl) rfl
        have e18 := eval_slot r18
        have y0 : ww.cell? ⟨g18, 0, none⟩ = some (.int .i64 (f 0)) := hK.cell 0
        have y1 : ww.cell? ⟨g18, 1, none⟩ = some (.int .i64 (f 1)) := hK.cell 1
        have y2 : ww.cell? ⟨g18, 2, none⟩ = some (.int .i64 (f 2)) := hK.cell 2
        refine ⟨wanted_of (j := 28) (b := true) rfl (yielded_slot (j := 28) (d := 133) rfl rfl r133), ?_⟩
        clear hI hr
        go_simp
        exact ⟨_, rfl, rfl, Below.refl _ _⟩
      · injection ho with ho
        subst ho
        obtain ⟨q133, r133, s133⟩ := hI.got hr ho2 28 133 (by kernel_rfl) rfl rfl
        rw [show q133 = .bool true from s133] at r133
        have e133 := eval_slot r133
        obtain ⟨q137, r137, s137⟩ := hI.got hr ho2 32 137 (by kernel_rfl) rfl rfl
        have hu137 : OwnI ww 0 q137 (flatI anyC) := s137
        have e137 := eval_slot r137
        obtain ⟨q138, r138, s138⟩ := hI.got hr ho2 33 138 (by kernel_rfl) rfl rfl
        rw [show q138 = .agg (verArr f) from s138] at r138
        have e138 := eval_slot r138
        refine ⟨wanted_of (j := 28) (b := true) rfl (yielded_slot (j := 28) (d := 133) rfl rfl r133), ?_⟩
        clear hI hr
        go_simp
        (with_reducible refine (refHas_any q137 anyC f ww hu137 any_can).mono ?_)
        rintro e w9 ⟨rfl, hb⟩
        exact ⟨_, rfl, rfl, hb⟩
      · injection ho with ho
        subst ho
        obtain ⟨q133, r133, s133⟩ := hI.got hr ho2 28 133 (by kernel_rfl) rfl rfl
        rw [show q133 = .bool true from s133] at r133
        have e133 := eval_slot r133
        obtain ⟨q136, r136, s136⟩ := hI.got hr ho2 31 136 (by kernel_rfl) rfl rfl
        rw [show q136 = .bool (hasB anyC f) from s136] at r136
        have e136 := eval_slot r136
        obtain ⟨q139, r139, s139⟩ := hI.got hr ho2 34 139 (by kernel_rfl) rfl rfl
        rw [show q139 = .bool (hasB anyC f) from s139] at r139
        have e139 := eval_slot r139
        refine ⟨wanted_of (j := 28) (b := true) rfl (yielded_slot (j := 28) (d := 133) rfl rfl r133), ?_⟩
        clear hI hr
        go_simp
        exact ⟨_, rfl, rfl, Below.refl _ _⟩
      · injection ho with ho
        subst ho
        obtain ⟨q133, r133, s133⟩ := hI.got hr ho2 28 133 (by kernel_rfl) rfl rfl
        rw [show q133 = .bool true from s133] at r133
        have e133 := eval_slot r133
        obtain ⟨q140, r140, s140⟩ := hI.got hr ho2 35 140 (by kernel_rfl) rfl rfl
        rw [show q140 = .bool true from s140] at r140
        have e140 := eval_slot r140
        refine ⟨rfl, ?_⟩
        clear hI hr
        go_simp
        exact ⟨_, rfl, rfl, Below.refl _ _⟩
      · injection ho with ho
        subst ho
        obtain ⟨q141, r141, s141⟩ := hI.got hr ho2 36 141 (by kernel_rfl) rfl rfl
        rw [show q141 = .bool true from s141] at r141
        have e141 := eval_slot r141
        refine ⟨rfl, wp_assign_st (.tmp 141) rfl ?_⟩
        exact ⟨_, by rw [e141], rfl, Below.refl _ _⟩
  · subst hb
    clear HAB
    go_wp2_with fail
    have HMg := hide (HM.out.below ((Below.refl wf.heap.size wf).alloc (Nat.le_refl _) (.cells #[.int .i64 (f 0), .int .i64 (f 1), .int .i64 (f 2)] 48)))
    have HKg := hide (Blk.new wf 48 #[.int .i64 (f 0), .int .i64 (f 1), .int .i64 (f 2)])
    generalize (wf.alloc (.cells #[.int .i64 (f 0), .int .i64 (f 1), .int .i64 (f 2)] 48)) = wg at HMg HKg ⊢
    generalize wf.heap.size = g18 at HKg ⊢
    refine wp_region_stable (w0 := wg) (R := mixR (mixSp v7 v11 v13 v15 v17 f la lb)) 142 (by kernel_rfl) rfl (mixR_below _) (by kernel_rfl) (by kernel_rfl) (by kernel_rfl) ?step ?fin
    case fin =>
      intro listed a ww hall hI
      obtain ⟨q6, r6, s6⟩ := hI.new 37 _ 6 rfl rfl (hall 37 (by decide))
      obtain rfl : q6 = .bool true := s6
      have hM := HMg.out.below hI.bel
      go_wp2
      exact bodyPost_ret (v := .bool true) (by simp [results, Tryz.results4, go_sem, r6]) (hI.defers.trans rfl) ⟨rfl, hM.bel⟩
    case step =>
      intro i o listed a ww ho hr hI
      have hM := HMg.out.below hI.bel
      have hK := HKg.out.below hI.bel HKg.out.lt
      have ho2 := ho
      have hlt : i < 38 := (Array.getElem?_eq_some_iff.1 ho).1
      rcases (show i = 0 ∨ i = 1 ∨ i = 2 ∨ i = 3 ∨ i = 4 ∨ i = 5 ∨ i = 6 ∨ i = 7 ∨ i = 8 ∨ i = 9 ∨ i = 10 ∨ i = 11 ∨ i = 12 ∨ i = 13 ∨ i = 14 ∨ i = 15 ∨ i = 16 ∨ i = 17 ∨ i = 18 ∨ i = 19 ∨ i = 20 ∨ i = 21 ∨ i = 22 ∨ i = 23 ∨ i = 24 ∨ i = 25 ∨ i = 26 ∨ i = 27 ∨ i = 28 ∨ i = 29 ∨ i = 30 ∨ i = 31 ∨ i = 32 ∨ i = 33 ∨ i = 34 ∨ i = 35 ∨ i = 36 ∨ i = 37 by omega) with rfl | rfl | rfl | rfl | rfl | rfl | rfl | rfl | rfl | rfl | rfl | rfl | rfl | rfl | rfl | rfl | rfl | rfl | rfl | rfl | rfl | rfl | rfl | rfl | rfl | rfl | rfl | rfl | rfl | rfl | rfl | rfl | rfl | rfl | rfl | rfl | rfl | rfl
      · injection ho with ho
        subst ho
        have r11 := hI.was (k := 11) (v := .pointer (some ⟨g11, 0, none⟩)) (by kernel_rfl) rfl
        have e11 := eval_slot r11
        have y : ww.cell? ⟨g11, 0, none⟩ = some v11 := hM.k11.cell 0
        refine ⟨rfl, ?_⟩
        clear hI hr
        go_simp
        exact ⟨_, rfl, rfl, Below.refl _ _⟩
      · injection ho with ho
        subst ho
        have r5 := hI.was (k := 5) (v := .pointer (some ⟨g5, 0, none⟩)) (by kernel_rfl) rfl
        have e5 := eval_slot r5
        have y0 : ww.cell? ⟨g5, 0, none⟩ = some (.int .i64 (f 0)) := hM.k5.cell 0
        have y1 : ww.cell? ⟨g5, 1, none⟩ = some (.int .i64 (f 1)) := hM.k5.cell 1
        have y2 : ww.cell? ⟨g5, 2, none⟩ = some (.int .i64 (f 2)) := hM.k5.cell 2
        refine ⟨rfl, ?_⟩
        clear hI hr
        go_simp
        exact ⟨_, rfl, rfl, Below.refl _ _⟩
      · injection ho with ho
        subst ho
        obtain ⟨q105, r105, s105⟩ := hI.got hr ho2 0 105 (by kernel_rfl) rfl rfl
        rw [show q105 = .agg #[v11] from s105] at r105
        have e105 := eval_slot r105
        obtain ⟨q106, r106, s106⟩ := hI.got hr ho2 1 106 (by kernel_rfl) rfl rfl
        rw [show q106 = .agg (verArr f) from s106] at r106
        have e106 := eval_slot r106
        refine ⟨rfl, ?_⟩
        clear hI hr
        go_simp
        (with_reducible refine (has_any v11 la f ww hM.o11 (can_len9 HCA.out)).mono ?_)
        rintro e w9 ⟨rfl, hb⟩
        exact ⟨_, rfl, rfl, hb⟩
      · injection ho with ho
        subst ho
        have r7 := hI.was (k := 7) (v := v7) (by kernel_rfl) rfl
        have e7 := eval_slot r7
        refine ⟨rfl, wp_move_st (.tmp 7) rfl ?_⟩
        exact ⟨_, by rw [e7], rfl, Below.refl _ _⟩
      · injection ho with ho
        subst ho
        have r18 := hI.was (k := 18) (v := .pointer (some ⟨g18, 0, none⟩)) (by kernel_rfl) rfl
        have e18 := eval_slot r18
        have y0 : ww.cell? ⟨g18, 0, none⟩ = some (.int .i64 (f 0)) := hK.cell 0
        have y1 : ww.cell? ⟨g18, 1, none⟩ = some (.int .i64 (f 1)) := hK.cell 1
        have y2 : ww.cell? ⟨g18, 2, none⟩ = some (.int .i64 (f 2)) := hK.cell 2
        refine ⟨rfl, ?_⟩
        clear hI hr
        go_simp
        exact ⟨_, rfl, rfl, Below.refl _ _⟩
      · injection ho with ho
        subst ho
        obtain ⟨q108, r108, s108⟩ := hI.got hr ho2 3 108 (by kernel_rfl) rfl rfl
        rw [show q108 = v7 from s108] at r108
        have e108 := eval_slot r108
        obtain ⟨q109, r109, s109⟩ := hI.got hr ho2 4 109 (by kernel_rfl) rfl rfl
        rw [show q109 = .agg (verArr f) from s109] at r109
        have e109 := eval_slot r109
        refine ⟨rfl, ?_⟩
        clear hI hr
        go_simp
        (with_reducible refine (refHas_any v7 la f ww hM.o7 HCA.out).mono ?_)
        rintro e w9 ⟨rfl, hb⟩
        exact ⟨_, rfl, rfl, hb⟩
      · injection ho with ho
        subst ho
        obtain ⟨q107, r107, s107⟩ := hI.got hr ho2 2 107 (by kernel_rfl) rfl rfl
        rw [show q107 = .bool (hasB la f) from s107] at r107
        have e107 := eval_slot r107
        obtain ⟨q110, r110, s110⟩ := hI.got hr ho2 5 110 (by kernel_rfl) rfl rfl
        rw [show q110 = .bool (hasB la f) from s110] at r110
        have e110 := eval_slot r110
        refine ⟨rfl, ?_⟩
        clear hI hr
        go_simp
        exact ⟨_, rfl, rfl, Below.refl _ _⟩
      · injection ho with ho
        subst ho
        obtain ⟨q111, r111, s111⟩ := hI.got hr ho2 6 111 (by kernel_rfl) rfl rfl
        rw [show q111 = .bool true from s111] at r111
        have e111 := eval_slot r111
        refine ⟨rfl, wp_move_st (.tmp 111) rfl ?_⟩
        exact ⟨_, by rw [e111], rfl, Below.refl _ _⟩
      · injection ho with ho
        subst ho
        obtain ⟨q112, r112, s112⟩ := hI.got hr ho2 7 112 (by kernel_rfl) rfl rfl
        rw [show q112 = .bool true from s112] at r112
        have e112 := eval_slot r112
        have r11 := hI.was (k := 11) (v := .pointer (some ⟨g11, 0, none⟩)) (by kernel_rfl) rfl
        have e11 := eval_slot r11
        have y : ww.cell? ⟨g11, 0, none⟩ = some v11 := hM.k11.cell 0
        refine ⟨wanted_of (j := 7) (b := true) rfl (yielded_slot (j := 7) (d := 112) rfl rfl r112), ?_⟩
        clear hI hr
        go_simp
        exact ⟨_, rfl, rfl, Below.refl _ _⟩
      · injection ho with ho
        subst ho
        obtain ⟨q112, r112, s112⟩ := hI.got hr ho2 7 112 (by kernel_rfl) rfl rfl
        rw [show q112 = .bool true from s112] at r112
        have e112 := eval_slot r112
        obtain ⟨q113, r113, s113⟩ := hI.got hr ho2 8 113 (by kernel_rfl) rfl rfl
        rw [show q113 = .agg #[v11] from s113] at r113
        have e113 := eval_slot r113
        refine ⟨wanted_of (j := 7) (b := true) rfl (yielded_slot (j := 7) (d := 112) rfl rfl r112), ?_⟩
        clear hI hr
        go_simp
        (with_reducible refine (not_any v11 la ww hM.o11 HCA.out).mono ?_)
        rintro e w9 ⟨u, rfl, ho9, hb⟩
        exact ⟨_, rfl, ⟨u, rfl, ho9.mono (Nat.zero_le _)⟩, hb⟩
      · injection ho with ho
        subst ho
        obtain ⟨q112, r112, s112⟩ := hI.got hr ho2 7 112 (by kernel_rfl) rfl rfl
        rw [show q112 = .bool true from s112] at r112
        have e112 := eval_slot r112
        have r5 := hI.was (k := 5) (v := .pointer (some ⟨g5, 0, none⟩)) (by kernel_rfl) rfl
        have e5 := eval_slot r5
        have y0 : ww.cell? ⟨g5, 0, none⟩ = some (.int .i64 (f 0)) := hM.k5.cell 0
        have y1 : ww.cell? ⟨g5, 1, none⟩ = some (.int .i64 (f 1)) := hM.k5.cell 1
        have y2 : ww.cell? ⟨g5, 2, none⟩ = some (.int .i64 (f 2)) := hM.k5.cell 2
        refine ⟨wanted_of (j := 7) (b := true) rfl (yielded_slot (j := 7) (d := 112) rfl rfl r112), ?_⟩
        clear hI hr
        go_simp
        exact ⟨_, rfl, rfl, Below.refl _ _⟩
      · injection ho with ho
        subst ho
        obtain ⟨q112, r112, s112⟩ := hI.got hr ho2 7 112 (by kernel_rfl) rfl rfl
        rw [show q112 = .bool true from s112] at r112
        have e112 := eval_slot r112
        obtain ⟨q114, r114, s114⟩ := hI.got hr ho2 9 114 (by kernel_rfl) rfl rfl
        obtain ⟨u114, eu114, hu114⟩ := (show ∃ u, q114 = .agg #[u] ∧ OwnP ww 0 u (notC la) from s114)
        subst eu114
        have e114 := eval_slot r114
        obtain ⟨q115, r115, s115⟩ := hI.got hr ho2 10 115 (by kernel_rfl) rfl rfl
        rw [show q115 = .agg (verArr f) from s115] at r115
        have e115 := eval_slot r115
        refine ⟨wanted_of (j := 7) (b := true) rfl (yielded_slot (j := 7) (d := 112) rfl rfl r112), ?_⟩
        clear hI hr
        go_simp
        (with_reducible refine (has_any u114 (notC la) f ww hu114 (can_len9 HSN.out)).mono ?_)
        rintro e w9 ⟨rfl, hb⟩
        exact ⟨_, rfl, rfl, hb⟩
      · injection ho with ho
        subst ho
        obtain ⟨q112, r112, s112⟩ := hI.got hr ho2 7 112 (by kernel_rfl) rfl rfl
        rw [show q112 = .bool true from s112] at r112
        have e112 := eval_slot r112
        have r17 := hI.was (k := 17) (v := v17) (by kernel_rfl) rfl
        have e17 := eval_slot r17
        refine ⟨wanted_of (j := 7) (b := true) rfl (yielded_slot (j := 7) (d := 112) rfl rfl r112), wp_move_st (.tmp 17) rfl ?_⟩
        exact ⟨_, by rw [e17], rfl, Below.refl _ _⟩
      · injection ho with ho
        subst ho
        obtain ⟨q112, r112, s112⟩ := hI.got hr ho2 7 112 (by kernel_rfl) rfl rfl
        rw [show q112 = .bool true from s112] at r112
        have e112 := eval_slot r112
        have r18 := hI.was (k := 18) (v := .pointer (some ⟨g18, 0, none⟩)) (by kernel_rfl) rfl
        have e18 := eval_slot r18
        have y0 : ww.cell? ⟨g18, 0, none⟩ = some (.int .i64 (f 0)) := hK.cell 0
        have y1 : ww.cell? ⟨g18, 1, none⟩ = some (.int .i64 (f 1)) := hK.cell 1
        have y2 : ww.cell? ⟨g18, 2, none⟩ = some (.int .i64 (f 2)) := hK.cell 2
        refine ⟨wanted_of (j := 7) (b := true) rfl (yielded_slot (j := 7) (d := 112) rfl rfl r112), ?_⟩
        clear hI hr
        go_simp
        exact ⟨_, rfl, rfl, Below.refl _ _⟩
      · injection ho with ho
        subst ho
        obtain ⟨q112, r112, s112⟩ := hI.got hr ho2 7 112 (by kernel_rfl) rfl rfl
        rw [show q112 = .bool true from s112] at r112
        have e112 := eval_slot r112
        obtain ⟨q117, r117, s117⟩ := hI.got hr ho2 12 117 (by kernel_rfl) rfl rfl
        rw [show q117 = v17 from s117] at r117
        have e117 := eval_slot r117
        obtain ⟨q118, r118, s118⟩ := hI.got hr ho2 13 118 (by kernel_rfl) rfl rfl
        rw [show q118 = .agg (verArr f) from s118] at r118
        have e118 := eval_slot r118
        refine ⟨wanted_of (j := 7) (b := true) rfl (yielded_slot (j := 7) (d := 112) rfl rfl r112), ?_⟩
        clear hI hr
        go_simp
        (with_reducible refine (refHas_any v17 (notC la) f ww hM.o17 HSN.out).mono ?_)
        rintro e w9 ⟨rfl, hb⟩
        exact ⟨_, rfl, rfl, hb⟩
      · injection ho with ho
        subst ho
        obtain ⟨q112, r112, s112⟩ := hI.got hr ho2 7 112 (by kernel_rfl) rfl rfl
        rw [show q112 = .bool true from s112] at r112
        have e112 := eval_slot r112
        obtain ⟨q116, r116, s116⟩ := hI.got hr ho2 11 116 (by kernel_rfl) rfl rfl
        rw [show q116 = .bool (hasB (notC la) f) from s116] at r116
        have e116 := eval_slot r116
        obtain ⟨q119, r119, s119⟩ := hI.got hr ho2 14 119 (by kernel_rfl) rfl rfl
        rw [show q119 = .bool (hasB (notC la) f) from s119] at r119
        have e119 := eval_slot r119
        refine ⟨wanted_of (j := 7) (b := true) rfl (yielded_slot (j := 7) (d := 112) rfl rfl r112), ?_⟩
        clear hI hr
        go_simp
        exact ⟨_, rfl, rfl, Below.refl _ _⟩
      · injection ho with ho
        subst ho
        obtain ⟨q112, r112, s112⟩ := hI.got hr ho2 7 112 (by kernel_rfl) rfl rfl
        rw [show q112 = .bool true from s112] at r112
        have e112 := eval_slot r112
        obtain ⟨q120, r120, s120⟩ := hI.got hr ho2 15 120 (by kernel_rfl) rfl rfl
        rw [show q120 = .bool true from s120] at r120
        have e120 := eval_slot r120
        refine ⟨rfl, ?_⟩
        clear hI hr
        go_simp
        exact ⟨_, rfl, rfl, Below.refl _ _⟩
      · injection ho with ho
        subst ho
        obtain ⟨q121, r121, s121⟩ := hI.got hr ho2 16 121 (by kernel_rfl) rfl rfl
        rw [show q121 = .bool true from s121] at r121
        have e121 := eval_slot r121
        refine ⟨rfl, wp_move_st (.tmp 121) rfl ?_⟩
        exact ⟨_, by rw [e121], rfl, Below.refl _ _⟩
      · injection ho with ho
        subst ho
        obtain ⟨q122, r122, s122⟩ := hI.got hr ho2 17 122 (by kernel_rfl) rfl rfl
        rw [show q122 = .bool true from s122] at r122
        have e122 := eval_slot r122
        have r11 := hI.was (k := 11) (v := .pointer (some ⟨g11, 0, none⟩)) (by kernel_rfl) rfl
        have e11 := eval_slot r11
        have y : ww.cell? ⟨g11, 0, none⟩ = some v11 := hM.k11.cell 0
        refine ⟨wanted_of (j := 17) (b := true) rfl (yielded_slot (j := 17) (d := 122) rfl rfl r122), ?_⟩
        clear hI hr
        go_simp
        exact ⟨_, rfl, rfl, Below.refl _ _⟩
      · injection ho with ho
        subst ho
        obtain ⟨q122, r122, s122⟩ := hI.got hr ho2 17 122 (by kernel_rfl) rfl rfl
        rw [show q122 = .bool true from s122] at r122
        have e122 := eval_slot r122
        have r13 := hI.was (k := 13) (v := .pointer (some ⟨g13, 0, none⟩)) (by kernel_rfl) rfl
        have e13 := eval_slot r13
        have y : ww.cell? ⟨g13, 0, none⟩ = some v13 := hM.k13.cell 0
        refine ⟨wanted_of (j := 17) (b := true) rfl (yielded_slot (j := 17) (d := 122) rfl rfl r122), ?_⟩
        clear hI hr
        go_simp
        exact ⟨_, rfl, rfl, Below.refl _ _⟩
      · injection ho with ho
        subst ho
        obtain ⟨q122, r122, s122⟩ := hI.got hr ho2 17 122 (by kernel_rfl) rfl rfl
        rw [show q122 = .bool true from s122] at r122
        have e122 := eval_slot r122
        obtain ⟨q123, r123, s123⟩ := hI.got hr ho2 18 123 (by kernel_rfl) rfl rfl
        rw [show q123 = .agg #[v11] from s123] at r123
        have e123 := eval_slot r123
        obtain ⟨q124, r124, s124⟩ := hI.got hr ho2 19 124 (by kernel_rfl) rfl rfl
        rw [show q124 = .agg #[v13] from s124] at r124
        have e124 := eval_slot r124
        refine ⟨wanted_of (j := 17) (b := true) rfl (yielded_slot (j := 17) (d := 122) rfl rfl r122), ?_⟩
        clear hI hr
        go_simp
        (with_reducible refine (or_any v11 v13 la lb ww hM.o11 hM.o13 HCA.out HCB.out).mono ?_)
        rintro e w9 ⟨u, rfl, ho9, hb⟩
        exact ⟨_, rfl, ⟨u, rfl, ho9.mono (Nat.zero_le _)⟩, hb⟩
      · injection ho with ho
        subst ho
        obtain ⟨q122, r122, s122⟩ := hI.got hr ho2 17 122 (by kernel_rfl) rfl rfl
        rw [show q122 = .bool true from s122] at r122
        have e122 := eval_slot r122
        have r5 := hI.was (k := 5) (v := .pointer (some ⟨g5, 0, none⟩)) (by kernel_rfl) rfl
        have e5 := eval_slot r5
        have y0 : ww.cell? ⟨g5, 0, none⟩ = some (.int .i64 (f 0)) := hM.k5.cell 0
        have y1 : ww.cell? ⟨g5, 1, none⟩ = some (.int .i64 (f 1)) := hM.k5.cell 1
        have y2 : ww.cell? ⟨g5, 2, none⟩ = some (.int .i64 (f 2)) := hM.k5.cell 2
        refine ⟨wanted_of (j := 17) (b := true) rfl (yielded_slot (j := 17) (d := 122) rfl rfl r122), ?_⟩
        clear hI hr
        go_simp
        exact ⟨_, rfl, rfl, Below.refl _ _⟩
      · injection ho with ho
        subst ho
        obtain ⟨q122, r122, s122⟩ := hI.got hr ho2 17 122 (by kernel_rfl) rfl rfl
        rw [show q122 = .bool true from s122] at r122
        have e122 := eval_slot r122
        obtain ⟨q125, r125, s125⟩ := hI.got hr ho2 20 125 (by kernel_rfl) rfl rfl
        obtain ⟨u125, eu125, hu125⟩ := (show ∃ u, q125 = .agg #[u] ∧ OwnP ww 0 u (orC la lb) from s125)
        subst eu125
        have e125 := eval_slot r125
        obtain ⟨q126, r126, s126⟩ := hI.got hr ho2 21 126 (by kernel_rfl) rfl rfl
        rw [show q126 = .agg (verArr f) from s126] at r126
        have e126 := eval_slot r126
        refine ⟨wanted_of (j := 17) (b := true) rfl (yielded_slot (j := 17) (d := 122) rfl rfl r122), ?_⟩
        clear hI hr
        go_simp
        (with_reducible refine (has_any u125 (orC la lb) f ww hu125 (can_len9 HSO.out)).mono ?_)
        rintro e w9 ⟨rfl, hb⟩
        exact ⟨_, rfl, rfl, hb⟩
      · injection ho with ho
        subst ho
        obtain ⟨q122, r122, s122⟩ := hI.got hr ho2 17 122 (by kernel_rfl) rfl rfl
        rw [show q122 = .bool true from s122] at r122
        have e122 := eval_slot r122
        have r15 := hI.was (k := 15) (v := v15) (by kernel_rfl) rfl
        have e15 := eval_slot r15
        refine ⟨wanted_of (j := 17) (b := true) rfl (yielded_slot (j := 17) (d := 122) rfl rfl r122), wp_move_st (.tmp 15) rfl ?_⟩
        exact ⟨_, by rw [e15], rfl, Below.refl _ _⟩
      · injection ho with ho
        subst ho
        obtain ⟨q122, r122, s122⟩ := hI.got hr ho2 17 122 (by kernel_rfl) rfl rfl
        rw [show q122 = .bool true from s122] at r122
        have e122 := eval_slot r122
        have r18 := hI.was (k := 18) (v := .pointer (some ⟨g18, 0, none⟩)) (by kernel_rfl) rfl
        have e18 := eval_slot r18
        have y0 : ww.cell? ⟨g18, 0, none⟩ = some (.int .i64 (f 0)) := hK.cell 0
        have y1 : ww.cell? ⟨g18, 1, none⟩ = some (.int .i64 (f 1)) := hK.cell 1
        have y2 : ww.cell? ⟨g18, 2, none⟩ = some (.int .i64 (f 2)) := hK.cell 2
        refine ⟨wanted_of (j := 17) (b := true) rfl (yielded_slot (j := 17) (d := 122) rfl rfl r122), ?_⟩
        clear hI hr
        go_simp
        exact ⟨_, rfl, rfl, Below.refl _ _⟩
      · injection ho with ho
        subst ho
        obtain ⟨q122, r122, s122⟩ := hI.got hr ho2 17 122 (by kernel_rfl) rfl rfl
        rw [show q122 = .bool true from s122] at r122
        have e122 := eval_slot r122
        obtain ⟨q128, r128, s128⟩ := hI.got hr ho2 23 128 (by kernel_rfl) rfl rfl
        rw [show q128 = v15 from s128] at r128
        have e128 := eval_slot r128
        obtain ⟨q129, r129, s129⟩ := hI.got hr ho2 24 129 (by kernel_rfl) rfl rfl
        rw [show q129 = .agg (verArr f) from s129] at r129
        have e129 := eval_slot r129
        refine ⟨wanted_of (j := 17) (b := true) rfl (yielded_slot (j := 17) (d := 122) rfl rfl r122), ?_⟩
        clear hI hr
        go_simp
        (with_reducible refine (refHas_any v15 (orC la lb) f ww hM.o15 HSO.out).mono ?_)
        rintro e w9 ⟨rfl, hb⟩
        exact ⟨_, rfl, rfl, hb⟩
      · injection ho with ho
        subst ho
        obtain ⟨q122, r122, s122⟩ := hI.got hr ho2 17 122 (by kernel_rfl) rfl rfl
        rw [show q122 = .bool true from s122] at r122
        have e122 := eval_slot r122
        obtain ⟨q127, r127, s127⟩ := hI.got hr ho2 22 127 (by kernel_rfl) rfl rfl
        rw [show q127 = .bool (hasB (orC la lb) f) from s127] at r127
        have e127 := eval_slot r127
        obtain ⟨q130, r130, s130⟩ := hI.got hr ho2 25 130 (by kernel_rfl) rfl rfl
        rw [show q130 = .bool (hasB (orC la lb) f) from s130] at r130
        have e130 := eval_slot r130
        refine ⟨wanted_of (j := 17) (b := true) rfl (yielded_slot (j := 17) (d := 122) rfl rfl r122), ?_⟩
        clear hI hr
        go_simp
        exact ⟨_, rfl, rfl, Below.refl _ _⟩
      · injection ho with ho
        subst ho
        obtain ⟨q122, r122, s122⟩ := hI.got hr ho2 17 122 (by kernel_rfl) rfl rfl
        rw [show q122 = .bool true from s122] at r122
        have e122 := eval_slot r122
        obtain ⟨q131, r131, s131⟩ := hI.got hr ho2 26 131 (by kernel_rfl) rfl rfl
        rw [show q131 = .bool true from s131] at r131
        have e131 := eval_slot r131
        refine ⟨rfl, ?_⟩
        clear hI hr
        go_simp
        exact ⟨_, rfl, rfl, Below.refl _ _⟩
      · injection ho with ho
        subst ho
        obtain ⟨q132, r132, s132⟩ := hI.got hr ho2 27 132 (by kernel_rfl) rfl rfl
        rw [show q132 = .bool true from s132] at r132
        have e132 := eval_slot r132
        refine ⟨rfl, wp_move_st (.tmp 132) rfl ?_⟩
        exact ⟨_, by rw [e132], rfl, Below.refl _ _⟩
      · injection ho with ho
        subst ho
        obtain ⟨q133, r133, s133⟩ := hI.got hr ho2 28 133 (by kernel_rfl) rfl rfl
        rw [show q133 = .bool true from s133] at r133
        have e133 := eval_slot r133
        refine ⟨wanted_of (j := 28) (b := true) rfl (yielded_slot (j := 28) (d := 133) rfl rfl r133), ?_⟩
        clear hI hr
        go_simp
        (with_reducible refine (any_any ww).mono ?_)
        rintro e w9 ⟨u, rfl, ho9, hb⟩
        exact ⟨_, rfl, ⟨u, rfl, ho9.mono (Nat.zero_le _)⟩, hb⟩
      · injection ho with ho
        subst ho
        obtain ⟨q133, r133, s133⟩ := hI.got hr ho2 28 133 (by kernel_rfl) rfl rfl
        rw [show q133 = .bool true from s133] at r133
        have e133 := eval_slot r133
        have r5 := hI.was (k := 5) (v := .pointer (some ⟨g5, 0, none⟩)) (by kernel_rfl) rfl
        have e5 := eval_slot r5
        have y0 : ww.cell? ⟨g5, 0, none⟩ = some (.int .i64 (f 0)) := hM.k5.cell 0
        have y1 : ww.cell? ⟨g5, 1, none⟩ = some (.int .i64 (f 1)) := hM.k5.cell 1
        have y2 : ww.cell? ⟨g5, 2, none⟩ = some (.int .i64 (f 2)) := hM.k5.cell 2
        refine ⟨wanted_of (j := 28) (b := true) rfl (yielded_slot (j := 28) (d := 133) rfl rfl r133), ?_⟩
        clear hI hr
        go_simp
        exact ⟨_, rfl, rfl, Below.refl _ _⟩
      · injection ho with ho
        subst ho
        obtain ⟨q133, r133, s133⟩ := hI.got hr ho2 28 133 (by kernel_rfl) rfl rfl
        rw [show q133 = .bool true from s133] at r133
        have e133 := eval_slot r133
        obtain ⟨q134, r134, s134⟩ := hI.got hr ho2 29 134 (by kernel_rfl) rfl rfl
        obtain ⟨u134, eu134, hu134⟩ := (show ∃ u, q134 = .agg #[u] ∧ OwnP ww 0 u anyC from s134)
        subst eu134
        have e134 := eval_slot r134
        obtain ⟨q135, r135, s135⟩ := hI.got hr ho2 30 135 (by kernel_rfl) rfl rfl
        rw [show q135 = .agg (verArr f) from s135] at r135
        have e135 := eval_slot r135
        refine ⟨wanted_of (j := 28) (b := true) rfl (yielded_slot (j := 28) (d := 133) rfl rfl r133), ?_⟩
        clear hI hr
        go_simp
        (with_reducible refine (has_any u134 anyC f ww hu134 (can_len9 any_can)).mono ?_)
        rintro e w9 ⟨rfl, hb⟩
        exact ⟨_, rfl, rfl, hb⟩
      · injection ho with ho
        subst ho
        obtain ⟨q133, r133, s133⟩ := hI.got hr ho2 28 133 (by kernel_rfl) rfl rfl
        rw [show q133 = .bool true from s133] at r133
        have e133 := eval_slot r133
        refine ⟨wanted_of (j := 28) (b := true) rfl (yielded_slot (j := 28) (d := 133) rfl rfl r133), ?_⟩
        clear hI hr
        go_simp
        (with_reducible refine (refNot_any (.slice none 0 0) [] ww (show OwnI ww 0 (.slice none 0 0) (flatI []) from ownI_nil _ _) nil_can).mono ?_)
        rintro e w9 ⟨u, rfl, ho9, hb⟩
        exact ⟨_, rfl, by rw [notC_nil] at ho9; exact ho9.mono (Nat.zero_le _), hb⟩
      · injection ho with ho
        subst ho
        obtain ⟨q133, r133, s133⟩ := hI.got hr ho2 28 133 (by kernel_rfl) rfl rfl
        rw [show q133 = .bool true from s133] at r133
        have e133 := eval_slot r133
        have r18 := hI.was (k := 18) (v := .pointer (some ⟨g18, 0, none⟩)) (by kernel_rfl) rfl
        have e18 := eval_slot r18
        have y0 : ww.cell? ⟨g18, 0, none⟩ = some (.int .i64 (f 0)) := hK.cell 0
        have y1 : ww.cell? ⟨g18, 1, none⟩ = some (.int .i64 (f 1)) := hK.cell 1
        have y2 : ww.cell? ⟨g18, 2, none⟩ = some (.int .i64 (f 2)) := hK.cell 2
        refine ⟨wanted_of (j := 28) (b := true) rfl (yielded_slot (j := 28) (d := 133) rfl rfl r133), ?_⟩
        clear hI hr
        go_simp
        exact ⟨_, rfl, rfl, Below.refl _ _⟩
      · injection ho with ho
        subst ho
        obtain ⟨q133, r133, s133⟩ := hI.got hr ho2 28 133 (by kernel_rfl) rfl rfl
        rw [show q133 = .bool true from s133] at r133
        have e133 := eval_slot r133
        obtain ⟨q137, r137, s137⟩ := hI.got hr ho2 32 137 (by kernel_rfl) rfl rfl
        have hu137 : OwnI ww 0 q137 (flatI anyC) := s137
        have e137 := eval_slot r137
        obtain ⟨q138, r138, s138⟩ := hI.got hr ho2 33 138 (by kernel_rfl) rfl rfl
        rw [show q138 = .agg (verArr f) from s138] at r138
        have e138 := eval_slot r138
        refine ⟨wanted_of (j := 28) (b := true) rfl (yielded_slot (j := 28) (d := 133) rfl rfl r133), ?_⟩
        clear hI hr
        go_simp
        (with_reducible refine (refHas_any q137 anyC f ww hu137 any_can).mono ?_)
        rintro e w9 ⟨rfl, hb⟩
        exact ⟨_, rfl, rfl, hb⟩
      · injection ho with ho
        subst ho
        obtain ⟨q133, r133, s133⟩ := hI.got hr ho2 28 133 (by kernel_rfl) rfl rfl
        rw [show q133 = .bool true from s133] at r133
        have e133 := eval_slot r133
        obtain ⟨q136, r136, s136⟩ := hI.got hr ho2 31 136 (by kernel_rfl) rfl rfl
        rw [show q136 = .bool (hasB anyC f) from s136] at r136
        have e136 := eval_slot r136
        obtain ⟨q139, r139, s139⟩ := hI.got hr ho2 34 139 (by kernel_rfl) rfl rfl
        rw [show q139 = .bool (hasB anyC f) from s139] at r139
        have e139 := eval_slot r139
        refine ⟨wanted_of (j := 28) (b := true) rfl (yielded_slot (j := 28) (d := 133) rfl rfl r133), ?_⟩
        clear hI hr
        go_simp
        exact ⟨_, rfl, rfl, Below.refl _ _⟩
      · injection ho with ho
        subst ho
        obtain ⟨q133, r133, s133⟩ := hI.got hr ho2 28 133 (by kernel_rfl) rfl rfl
        rw [show q133 = .bool true from s133] at r133
        have e133 := eval_slot r133
        obtain ⟨q140, r140, s140⟩ := hI.got hr ho2 35 140 (by kernel_rfl) rfl rfl
        rw [show q140 = .bool true from s140] at r140
        have e140 := eval_slot r140
        refine ⟨rfl, ?_⟩
        clear hI hr
        go_simp
        exact ⟨_, rfl, rfl, Below.refl _ _⟩
      · injection ho with ho
        subst ho
        obtain ⟨q141, r141, s141⟩ := hI.got hr ho2 36 141 (by kernel_rfl) rfl rfl
        rw [show q141 = .bool true from s141] at r141
        have e141 := eval_slot r141
        refine ⟨rfl, wp_assign_st (.tmp 141) rfl ?_⟩
        exact ⟨_, by rw [e141], rfl, Below.refl _ _⟩
end Go.Proofs.YtbmmkhehejoidaaGreatDoor
