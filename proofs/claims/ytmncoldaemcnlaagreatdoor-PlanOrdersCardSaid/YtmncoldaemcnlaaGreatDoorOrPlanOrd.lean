/-
  A part of the proof: PlanOrd. Conditions: none.
-/
import Derived.Test.YtmncoldaemcnlaaGreatDoorOrPlanLead
import Derived.Test.YtmncoldaemcnlaaGreatDoorOrPlanFits
import Derived.BigRegion
namespace Go.Proofs.YtmncoldaemcnlaaGreatDoor
open Go.RowKit
open Classical
set_option maxRecDepth 100000
theorem frF_hit {p : Nat → Bool} {n m : Nat} (h : m < n) (hp : p m = true) : frF p m (n - m) = (m : Int) := by
 rw [show n - m = (n - (m + 1)) + 1 by omega, frF, if_pos hp]
theorem frF_miss {p : Nat → Bool} {n m : Nat} (h : m < n) (hp : p m = false) : frF p m (n - m) = frF p (m + 1) (n - (m + 1)) := by
 rw [show n - m = (n - (m + 1)) + 1 by omega, frF, if_neg (by rw [hp]; exact fun e => Bool.noConfusion e)]
theorem fits_lt {its : List ItR} {ls : List LnR} {set : Nat} (h : (fitsF its ls set).1 = true) : set < 2 ^ its.length := by
 refine Classical.byContradiction fun hc => ?_
 rw [fits_far (fun e => hc ?_)] at h
 ·cases h
 ·rw [Nat.shiftRight_eq_div_pow] at e
  exact (Nat.div_eq_zero_iff.1 e).resolve_left (Nat.ne_of_gt (Nat.two_pow_pos _))
theorem ord1_any (done i b : Nat) (w : World) (hs : done < 18446744073709551616) (hi : i ≤ 64) (hk : w.cell? ⟨b, 0, none⟩ = some (.int .u64 (done : Int))) : Calls Tryz.prog 81 #[.int .i64 (i : Int), .pointer (some ⟨b, 0, none⟩)] w (HasP (!done.testBit i) w) := by
 have HH := hide (planHas_any done i w hs hi)
 go_enter Tryz.func81, Tryz.ntmps81
 go_wp2_with fail
 refine HH.out.mono ?_
 rintro e w1 ⟨rfl, rfl⟩
 go_wp2_with fail
 exact bodyPost_ret (v := .bool (!done.testBit i)) (by simp [results, Tryz.results81, go_sem]) rfl ⟨rfl, rfl⟩
def IdxOP (done : Nat) (zs : List Int) (w : World) (e : Ending) (w' : World) : Prop := ∃ r : Int, e = .returned (.int .i64 r) ∧ decide (0 ≤ r) = (zs.any fun z => !done.testBit z.toNat) ∧ w' = w
theorem idxO_any (v : Value) (zs : List Int) (done b : Nat) (w : World) (h : OwnI w 0 v zs) (hz : ∀ z ∈ zs, 0 ≤ z ∧ z ≤ 64) (hl : zs.length ≤ 1000000) (hs : done < 18446744073709551616) (hk : w.cell? ⟨b, 0, none⟩ = some (.int .u64 (done : Int))) :
  Calls Tryz.prog 97 #[v, .func (.func 81) #[] #[.pointer (some ⟨b, 0, none⟩)]] w (IdxOP done zs w) := by
 obtain ⟨A, c, rfl⟩ := h.len
 have HO := hide h
 have HZ := Lib.hid hz
 have HF := Lib.hid (fun (i : Nat) (hi : i ≤ 64) => ord1_any done i b w hs hi hk)
 clear h hz hk hs
 go_enter Tryz.func97, Tryz.ntmps97
 go_wp2_with fail
 go_loopw [8] (fun iv wr => ∃ i : Nat, i ≤ zs.length ∧ iv = .int .i64 i ∧ wr = w ∧ Hid ((zs.drop i).any (fun z => !done.testBit z.toNat) = zs.any fun z => !done.testBit z.toNat)) (fun iv _ => zs.length - (intOf iv).toNat)
 case atStart => exact ⟨0, Nat.zero_le _, rfl, rfl, Lib.hid rfl⟩
 case round =>
  obtain ⟨i, hi, rfl, hw, HP⟩ := hrel
  subst hw
  by_cases hlt : i < zs.length
  ·have hltz : (i : Int) < (zs.length : Int) := by omega
   obtain ⟨g, cap, cur, e9, _, hk9, _, hc9⟩ := HO.out.form (by omega)
   injection e9 with e1 e2 e3
   subst e1
   have hp := HP.out
   rw [List.drop_eq_getElem_cons hlt, List.any_cons] at hp
   have hzi := HZ.out _ (List.getElem_mem hlt)
   have y0 := (hk9.cell i).trans (hc9 i hlt)
   rw [List.getD_eq_getElem?_getD, List.getElem?_eq_getElem hlt, Option.getD_some] at y0
   obtain ⟨k, hkz⟩ : ∃ k : Nat, zs[i] = (k : Int) := ⟨zs[i].toNat, by omega⟩
   rw [hkz] at y0 hp hzi
   have HFK := hide (HF.out k (by omega))
   rw [show ((k : Int)).toNat = k from rfl] at hp
   clear hk9 hc9 hkz e2 e3
   cases hb : (!done.testBit k) with
   | true =>
    rw [hb] at HFK
    have HR := Lib.hid (show (zs.any fun z => !done.testBit z.toNat) = true by rw [← hp, hb]; rfl)
    clear hp hb
    go_wp2_with fail
    refine HFK.out.mono ?_
    rintro e w1 ⟨rfl, rfl⟩
    go_wp2_with fail
    exact bodyPost_ret (v := .int .i64 (i : Int)) (by simp [results, Tryz.results97, go_sem]) rfl ⟨_, rfl, by rw [HR.out]; simp, rfl⟩
   | false =>
    rw [hb] at HFK
    have HN := Lib.hid (show (zs.drop (i + 1)).any (fun z => !done.testBit z.toNat) = zs.any fun z => !done.testBit z.toNat by rw [← hp, hb]; rfl)
    clear hp hb
    go_wp2_with fail
    refine HFK.out.mono ?_
    rintro e w1 ⟨rfl, rfl⟩
    go_wp2_with fail
    go_round
    case rel => exact ⟨i + 1, by omega, by go_num, by trivial, HN⟩
    case measure => simp [intOf]; omega
  ·have hltz : ¬ (i : Int) < (zs.length : Int) := by omega
   have hp := HP.out
   rw [List.drop_eq_nil_of_le (by omega)] at hp
   have HR := Lib.hid hp.symm
   clear hp
   go_wp2_with fail
   exact bodyPost_ret (v := .int .i64 (-1)) (by simp [results, Tryz.results97, go_sem]) rfl ⟨_, rfl, by rw [HR.out]; simp, rfl⟩
theorem hasO_any (v : Value) (zs : List Int) (done b : Nat) (w : World) (h : OwnI w 0 v zs) (hz : ∀ z ∈ zs, 0 ≤ z ∧ z ≤ 64) (hl : zs.length ≤ 1000000) (hs : done < 18446744073709551616) (hk : w.cell? ⟨b, 0, none⟩ = some (.int .u64 (done : Int))) :
  Calls Tryz.prog 55 #[v, .func (.func 81) #[] #[.pointer (some ⟨b, 0, none⟩)]] w (HasP (zs.any fun z => !done.testBit z.toNat) w) := by
 obtain ⟨A, c, rfl⟩ := h.len
 have HI := hide (idxO_any _ zs done b w h hz hl hs hk)
 clear h hz hk hs
 go_enter Tryz.func55, Tryz.ntmps55
 go_wp2_with fail
 refine HI.out.mono ?_
 rintro e w1 ⟨r, rfl, hr, rfl⟩
 have HR := Lib.hid hr
 clear hr
 by_cases h0 : 0 ≤ r
 ·go_wp2_with fail
  exact bodyPost_ret (v := .bool true) (by simp [results, Tryz.results55, go_sem]) rfl ⟨by rw [← HR.out, decide_eq_true h0], rfl⟩
 ·have HN0 := Lib.hid h0
  go_wp2_with fail
  exact bodyPost_ret (v := .bool false) (by simp [results, Tryz.results55, go_sem]; exact HN0.out) rfl ⟨by rw [← HR.out, decide_eq_false (Int.not_le.2 HN0.out)], rfl⟩
theorem LdM.fr {S P : Nat → Prop} {w w' : World} {g n : Nat} {vs : Nat → Value} {rs : Nat → List Int} (h : LdM w P g n vs rs) (hf : Fr S w w') (hg : ¬ S g) (hP : ∀ k, P k → ¬ S k) : LdM w' P g n vs rs := by
 obtain ⟨cs, h1, h2⟩ := h.blk
 refine ⟨⟨cs, h1.fr hf hg, h2⟩, fun i hi => ⟨(h.own i hi).1, ?_⟩, h.ne, h.bk⟩
 have hb := h.bk i
 rcases (h.own i hi).2 with h3 | ⟨b, cap, cur, e, h4, h5, r⟩
 ·exact .inl h3
 ·exact .inr ⟨b, cap, cur, e, h4, (hf.block b (Array.getElem?_eq_some_iff.1 h5).1 (hP b (hb b hi (by rw [e]; rfl)))).trans h5, r⟩
theorem pow_u24 : ∀ j, j < 24 → IntKind.u64.wrap (2 ^ j) = ((2 ^ j : Nat) : Int) := by decide +kernel
def lenV : Value → Nat
 | .slice _ n _ => n
 | _ => 0
theorem lenV_own {w : World} {base : Nat} {v : Value} {zs : List Int} (h : OwnI w base v zs) : lenV v = zs.length := by
 obtain ⟨A, c, rfl⟩ := h.len
 rfl
def ordE (c : Int) : Value := if c = 0 then .nilIface else .iface 28 (.int .i64 c)
def OrderP (p : List Nat × Int) (w : World) (e : Ending) (w' : World) : Prop := ∃ v, e = .returned (.tuple #[v, ordE p.2]) ∧ OwnI w' w.heap.size v (natI p.1) ∧ Below w.heap.size w w'
set_option maxHeartbeats 8000000 in
theorem order_any (g base : Nat) (qs : List LnQ) (its0 : List ItR) (set : Nat) (w : World) (h : CatO w base g qs) (hc : catR (qs.map (·.1)) = .inr its0) (hs : set < 18446744073709551616) :
  Calls Tryz.prog 37 #[.pointer (some ⟨g, 0, none⟩), .int .u64 (set : Int)] w (OrderP (orderF (itemsF (qs.map (·.1))) (qs.map (·.1)) set) w) := by
 obtain ⟨h24, _⟩ := catR_few hc
 have hq100 : qs.length ≤ 100 := by have := (catR_ok hc).2.2.2.1; simpa using this
 have HFT := hide (planFits_any g base qs its0 set w h hc hs)
 have HLE := hide (fun W (h : CatO W base g qs) => leads_any g base qs its0 set W h hc hs)
 have HC := hide h
 unfold FitP at HFT
 unfold LeadP at HLE
 have hl100 : (qs.map (·.1)).length ≤ 100 := by rw [List.length_map]; exact hq100
 generalize itemsF (qs.map (·.1)) = its at HFT HLE h24 ⊢
 generalize qs.map (·.1) = ls at HFT HLE hl100 ⊢
 obtain ⟨⟨b, k⟩, HP⟩ : ∃ p, Hid (fitsF its ls set = p) := ⟨_, Lib.hid rfl⟩
 rw [HP.out] at HFT
 simp only [] at HFT
 clear h hc
 cases b with
 | false =>
  have HV := Lib.hid (show orderF its ls set = ([], 13) by unfold orderF; rw [HP.out]; rfl)
  rw [HV.out]
  go_enter Tryz.func37, Tryz.ntmps37
  go_wp2_with fail
  refine HFT.out.mono ?_
  rintro e w1 ⟨rfl, hb1⟩
  have HB := hide hb1
  clear hb1
  go_wp2_with fail
  exact bodyPost_ret (v := .tuple #[.slice none 0 0, .iface 28 (.int .i64 13)]) (by simp [results, Tryz.results37, go_sem]) rfl ⟨_, rfl, ownI_nil _ _, HB.out⟩
 | true =>
  have HV := Lib.hid (show orderF its ls set = ordF its ls set its.length [] by unfold orderF; rw [HP.out]; rfl)
  have HLT := Lib.hid (fits_lt (its := its) (ls := ls) (set := set) (by rw [HP.out]))
  rw [HV.out]
  go_enter Tryz.func37, Tryz.ntmps37
  go_wp2_with fail
  refine HFT.out.mono ?_
  rintro e w1 ⟨rfl, hb1⟩
  have HB := hide hb1
  have HLE1 := hide (HLE.out w1 (HC.out.below hb1))
  clear hb1 HLE HC HFT
  go_wp2_with fail
  refine HLE1.out.mono ?_
  rintro e w2 ⟨gl, vs, rfl, hd, hge, hb2⟩
  have hal := (Below.refl w2.heap.size w2).alloc (Nat.le_refl _) (.cells #[.int .u64 0] 47)
  have HD := hide (hd.lt.below hal)
  have HB2 := hide ((HB.out.trans (hb2.mono HB.out.size)).trans (hal.mono (HB.out.trans (hb2.mono HB.out.size)).size))
  have HK := hide (Blk.new w2 47 #[.int .u64 0])
  have HGB := Lib.hid (show w.heap.size ≤ w2.heap.size from (HB.out.trans (hb2.mono HB.out.size)).size)
  have HSZ := Lib.hid (show w2.heap.size < (w2.alloc (.cells #[.int .u64 0] 47)).heap.size by simp)
  have HGL := Lib.hid (show gl < w2.heap.size by obtain ⟨cs, h9, _⟩ := hd.blk; exact h9.lt)
  clear hd hge hb2 hal HLE1 HB
  go_wp2_with fail
  generalize w2.alloc (.cells #[.int .u64 0] 47) = ws at HD HB2 HK HSZ ⊢
  generalize w2.heap.size = bd at HD HK HSZ HGB HGL ⊢
  go_loopw [9] (fun v9 wr => ∃ (out : List Nat) (done : Nat), Hid (OwnI wr ws.heap.size v9 (natI out)) ∧ Hid (Blk wr bd 47 #[.int .u64 (done : Int)]) ∧ Hid (OrdI its.length set out) ∧ Hid (∀ k, done.testBit k = decide (k ∈ out)) ∧ done < 18446744073709551616 ∧ Hid (Fr (fun k => k = bd ∨ ws.heap.size ≤ k) ws wr) ∧ Hid (ordF its ls set (its.length - out.length) out = ordF its ls set its.length [])) (fun v9 _ => its.length - lenV v9)
  case atStart => exact ⟨[], 0, hide (ownI_nil _ _), HK, Lib.hid (ordI_nil _ _), Lib.hid (fun k => by simp), by omega, hide (Fr.refl _ _), Lib.hid rfl⟩
  case round =>
   obtain ⟨out, done, HO, HKD, HOI, HDN, hdn, HF, HV2⟩ := hrel
   have k0 := HKD.out.cell 0
   by_cases hds : done = set
   ·have hn1 : ((done : Int) == (set : Int)) = true := by rw [hds]; exact beq_self_eq_true _
    have hn2 : ((done : Int) != (set : Int)) = false := by unfold bne; rw [hn1]; rfl
    have hn3 : (done != set) = false := by simpa using hds
    have HE := Lib.hid (show ordF its ls set its.length [] = (out, 0) by
     rw [← HV2.out]
     exact ordF_done (by rw [left_done HOI.out HLT.out HDN.out]; simpa using hds))
    have HO9 := hide (HO.out.mono HB2.out.size)
    have HBE := hide (HB2.out.trans (HF.out.to_below HB2.out.size (fun k hk h => by have := HSZ.out; have := HGB.out; have := HB2.out.size; omega)))
    clear hds
    go_wp2_with fail
    exact bodyPost_ret (v := .tuple #[u9, .nilIface]) (by simp [results, Tryz.results37, go_sem]) rfl ⟨u9, by rw [HE.out]; rfl, by rw [HE.out]; exact HO9.out, HBE.out⟩
   ·have hn1 : ((done : Int) == (set : Int)) = false := beq_eq_false_iff_ne.2 (by omega)
    have hn2 : ((done : Int) != (set : Int)) = true := by unfold bne; rw [hn1]; rfl
    have hn3 : (done != set) = true := by simpa using hds
    have HLF := Lib.hid (show anF (toC set out) 0 its.length = true by rw [left_done HOI.out HLT.out HDN.out]; simpa using hds)
    clear hds
    go_wp2_with fail
    obtain ⟨wa, rfl⟩ : ∃ wa, wa = wr := ⟨_, rfl⟩
    go_loopw [11, 12] (fun a11 i12 wr => ∃ i : Nat, i ≤ its.length ∧ i12 = .int .i64 ((i : Int) - 1) ∧ a11 = .int .i64 (frF (rdB its ls set out) i (its.length - i)) ∧ wr = wa) (fun _ i12 _ => (intOf i12 + 1).toNat)
    case atStart => exact ⟨its.length, Nat.le_refl _, rfl, by rw [Nat.sub_self]; rfl, rfl⟩
    case round =>
     obtain ⟨i, hi, h12, h11, hw⟩ := hrel
     subst hw
     cases i with
     | zero =>
      have h12 : u12 = .int .i64 (-1) := h12
      have h11 : u11 = .int .i64 (frF (rdB its ls set out) 0 its.length) := h11
      subst h12 h11
      obtain ⟨j0, _, h8, h9⟩ := (anF_spec _ _ _).1 HLF.out
      unfold toC at h9
      rw [Bool.and_eq_true, Bool.not_eq_true', decide_eq_false_iff_not] at h9
      have hmore := HOI.out.more (by omega) h9.1 h9.2
      clear h8 h9
      by_cases hneg : frF (rdB its ls set out) 0 its.length < 0
      ·have HCY := Lib.hid (show ordF its ls set its.length [] = ([], 11) by
        rw [← HV2.out, show its.length - out.length = (its.length - out.length - 1) + 1 by omega]
        exact ordF_cycle HLF.out hneg)
       have HBE := hide (HB2.out.trans (HF.out.to_below HB2.out.size (fun k hk h => by have := HSZ.out; have := HGB.out; have := HB2.out.size; omega)))
       generalize frF (rdB its ls set out) 0 its.length = z at hneg ⊢
       go_wp2_with fail
       exact bodyPost_ret (v := .tuple #[.slice none 0 0, .iface 28 (.int .i64 11)]) (by simp [results, Tryz.results37, go_sem]) rfl ⟨_, by rw [HCY.out]; rfl, by rw [HCY.out]; exact ownI_nil _ _, HBE.out⟩
      ·obtain ⟨j, hj, hj1, hj2, hj3⟩ := nx_toC hneg
       have HNX := Lib.hid (show ordF its ls set (its.length - (out ++ [j]).length) (out ++ [j]) = ordF its ls set its.length [] by
        rw [← HV2.out, show its.length - out.length = (its.length - (out ++ [j]).length) + 1 by rw [List.length_append, List.length_singleton]; omega]
        exact (ordF_next HLF.out hj).symm)
       have HOJ := Lib.hid (HOI.out.snoc hj1 hj2 hj3)
       have HDJ := Lib.hid (done_snoc (i := j) HDN.out)
       rw [hj]
       have hjz : ¬ (j : Int) < 0 := by omega
       have f0 := HKD.out.frozen 0
       have hj24 : j < 24 := by omega
       have hor : bits BinOp.or IntKind.u64 (done : Int) (IntKind.u64.wrap (2 ^ j)) = ((done ||| 2 ^ j : Nat) : Int) := by
        rw [pow_u24 j hj24]
        exact bits_or_u64_nat done (2 ^ j) hdn (Nat.pow_lt_pow_right (n := 64) (by decide) (by omega))
       clear hj hneg hj2 hj3
       go_wp2_with fail
       go_region
       have HKN := hide (show Blk (wr.setCell ⟨bd, 0, none⟩ (.int .u64 ((done ||| 2 ^ j : Nat) : Int))).drew bd 47 #[.int .u64 ((done ||| 2 ^ j : Nat) : Int)] from (HKD.out.set_ 0 _).drew)
       have HFN := hide (show Fr (fun k => k = bd ∨ ws.heap.size ≤ k) ws (wr.setCell ⟨bd, 0, none⟩ (.int .u64 ((done ||| 2 ^ j : Nat) : Int))).drew from (HF.out.set_ (p := ⟨bd, 0, none⟩) (.inl rfl) _).drew)
       have HON := hide (show OwnI (wr.setCell ⟨bd, 0, none⟩ (.int .u64 ((done ||| 2 ^ j : Nat) : Int))).drew ws.heap.size u9 (natI out) from OwnI.kept HO.out (r := some bd) ⟨rfl, rfl, rfl, by simp, fun k _ hk => Below.heap_setCell wr ⟨bd, 0, none⟩ _ k (fun e => hk (by rw [e]))⟩ (.inr (own_blk_ne HO.out HKD.out (by decide))))
       have hal := (Below.refl (wr.setCell ⟨bd, 0, none⟩ (.int .u64 ((done ||| 2 ^ j : Nat) : Int))).drew.heap.size (wr.setCell ⟨bd, 0, none⟩ (.int .u64 ((done ||| 2 ^ j : Nat) : Int))).drew).alloc (Nat.le_refl _) (.cells #[.int .i64 (j : Int)] 3)
       have hgb := own_blk_ne HON.out HKN.out (by decide)
       have HOA := hide (HON.out.below hal)
       have HKA := hide (HKN.out.below hal HKN.out.lt)
       have HFA := hide (HFN.out.alloc (.cells #[.int .i64 (j : Int)] 3))
       have HRA := hide (blk_reads (zs := [(j : Int)]) (Blk.new (wr.setCell ⟨bd, 0, none⟩ (.int .u64 ((done ||| 2 ^ j : Nat) : Int))).drew 3 #[.int .i64 (j : Int)]))
       have HLN := Lib.hid (show (natI out).length + 1 ≤ 10000000000 by rw [natI_len]; have := HOI.out.len; omega)
       have hdn2 : done ||| 2 ^ j < 18446744073709551616 := Nat.or_lt_two_pow (n := 64) hdn (Nat.pow_lt_pow_right (by decide) (by omega))
       generalize (wr.setCell ⟨bd, 0, none⟩ (.int .u64 ((done ||| 2 ^ j : Nat) : Int))).drew = wx at HKN HFN HON HOA HKA HFA HRA ⊢
       clear hal HKN HFN HON f0 k0
       go_wp2_with (at_builtin; refine appI _ rfl _ _ _ rfl ws.heap.size Tryz.underlying24 _ (natI out) rfl HOA.out (wx.heap.size + 1) (some ⟨wx.heap.size, 0, none⟩) 1 1 [(j : Int)] rfl HRA.out rfl HLN.out HFA.out.size ?_; intro v9 w9 ho9 hg9 _; have HO9 := hide ho9; have HK9 := hide (HKA.out.grown hg9 (fun e => hgb e.symm)); have HF9 := hide (HFA.out.grown hg9 (fun k hk => Or.inr (World.ownsRow.lt HOA.out k hk).1)); clear ho9 hg9)
       go_round
       case rel => exact ⟨out ++ [j], done ||| 2 ^ j, by rw [natI_snoc]; exact HO9, HK9, HOJ, by rw [Nat.one_shiftLeft] at HDJ; exact HDJ, hdn2, HF9, HNX⟩
       case measure => rw [lenV_own HO.out, lenV_own HO9.out, List.length_append, natI_len, List.length_singleton]; omega
     | succ m =>
      rw [show (((m + 1 : Nat) : Int) - 1) = (m : Int) by omega] at h12
      subst h12 h11
      have hm : m < its.length := by omega
      have hm0 : (m : Int) ≥ 0 := by omega
      have HDW := hide (HD.out.fr HF.out (by have := HGL.out; have := HSZ.out; omega) (fun k hk => by have := HSZ.out; have := hk.2; omega))
      have hyo := HDW.out.own m hm
      have y0 := HDW.out.cell hm
      obtain ⟨rA, rc, hvm⟩ := hyo.len
      rw [hvm] at y0 hyo
      have HI1 := hide (planHas_any set m wr hs (by omega))
      have HI2 := hide (planHas_any done m wr hdn (by omega))
      unfold HasP at HI1 HI2
      have HZ1 := Lib.hid (frF_miss (p := rdB its ls set out) (n := its.length) (m := m) hm)
      have HZ2 := Lib.hid (frF_hit (p := rdB its ls set out) (n := its.length) (m := m) hm)
      generalize frF (rdB its ls set out) (m + 1) (its.length - (m + 1)) = z11 at HZ1 ⊢
      cases hb : set.testBit m with
      | false =>
       rw [hb] at HI1
       have HR := Lib.hid (HZ1.out (by unfold rdB toC; rw [hb]; rfl))
       clear hyo y0 HI2
       go_wp2_with fail
       refine HI1.out.mono ?_
       rintro e w9 ⟨rfl, rfl⟩
       go_wp2_with fail
       go_round
       case rel => exact ⟨m, by omega, by trivial, by rw [HR.out], by trivial⟩
       case measure => simp [intOf]
      | true =>
       rw [hb] at HI1
       cases hd : done.testBit m with
       | true =>
        rw [hd] at HI2
        have hin : m ∈ out := by
         have h9 := HDN.out m
         rw [hd] at h9
         exact of_decide_eq_true h9.symm
        have HR := Lib.hid (HZ1.out (by unfold rdB toC; rw [decide_eq_true hin]; simp))
        clear hyo y0 hin
        go_wp2_with fail
        refine HI1.out.mono ?_
        rintro e w9 ⟨rfl, rfl⟩
        go_wp2_with fail
        refine HI2.out.mono ?_
        rintro e w8 ⟨rfl, rfl⟩
        go_wp2_with fail
        go_round
        case rel => exact ⟨m, by omega, by trivial, by rw [HR.out], by trivial⟩
        case measure => simp [intOf]
       | false =>
        rw [hd] at HI2
        have hni : m ∉ out := by
         have h9 := HDN.out m
         rw [hd] at h9
         exact of_decide_eq_false h9.symm
        have HRD := Lib.hid (rdB_ld (its := its) (ls := ls) hb hni HDN.out)
        have HHO := hide (hasO_any (.slice rA (ldR its set m ls).length rc) (ldR its set m ls) done bd wr hyo (fun z hz => by
         obtain ⟨k9, rfl, h9, _⟩ := (ldR_mem hb z).1 hz
         omega) (by
         have h9 := ldR_len its set m ls
         have h8 : its.length * ls.length ≤ 24 * 100 := Nat.mul_le_mul h24 hl100
         omega) hdn k0)
        unfold HasP at HHO
        generalize (ldR its set m ls).length = nl at y0 HHO
        clear hyo hni
        cases hv : ((ldR its set m ls).any fun z => !done.testBit z.toNat) with
        | false =>
         rw [hv] at HHO HRD
         have HR := Lib.hid (HZ2.out HRD.out)
         clear hv
         go_wp2_with fail
         refine HI1.out.mono ?_
         rintro e w9 ⟨rfl, rfl⟩
         go_wp2_with fail
         refine HI2.out.mono ?_
         rintro e w8 ⟨rfl, rfl⟩
         go_wp2_with fail
         refine HHO.out.mono ?_
         rintro e w7 ⟨rfl, rfl⟩
         go_wp2_with fail
         go_round
         case rel => exact ⟨m, by omega, by trivial, by rw [HR.out], by trivial⟩
         case measure => simp [intOf]
        | true =>
         rw [hv] at HHO HRD
         have HR := Lib.hid (HZ1.out HRD.out)
         clear hv
         go_wp2_with fail
         refine HI1.out.mono ?_
         rintro e w9 ⟨rfl, rfl⟩
         go_wp2_with fail
         refine HI2.out.mono ?_
         rintro e w8 ⟨rfl, rfl⟩
         go_wp2_with fail
         refine HHO.out.mono ?_
         rintro e w7 ⟨rfl, rfl⟩
         go_wp2_with fail
         go_round
         case rel => exact ⟨m, by omega, by trivial, by rw [HR.out], by trivial⟩
         case measure => simp [intOf]
end Go.Proofs.YtmncoldaemcnlaaGreatDoor
