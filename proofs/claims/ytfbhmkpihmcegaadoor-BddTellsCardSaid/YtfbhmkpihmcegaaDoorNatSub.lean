/-
  math/bits.Sub32, count's Sub.
-/
import Derived.Test.YtfbhmkpihmcegaaDoorNatPure
import Derived.Test.YtfbhmkpihmcegaaDoorNatAdd
import Derived.Test.YtfbhmkpihmcegaaDoorNatCmp
namespace Go.Proofs.YtfbhmkpihmcegaaDoor
open Go.RowKit

def Sub32Post (w : World) (d r : Nat) (e : Ending) (w' : World) : Prop := e = .returned (.tuple #[.int .u32 (d : Int), .int .u32 (r : Int)]) ∧ w = w'
theorem sub32_any (x y c : Nat) (w : World) (hx : x < 4294967296) (hy : y < 4294967296) (hc : c ≤ 1) :
    Calls Tryd.prog 110 #[.int .u32 (x : Int), .int .u32 (y : Int), .int .u32 (c : Int)] w (Sub32Post w ((x + 4294967296 - y - c) % 4294967296) (if x < y + c then 1 else 0)) := by
  have HB := Lib.hid (borrow_law hx hy hc)
  have h1 := not_u32 hx
  have hxy : x ^^^ y < 4294967296 := Nat.xor_lt_two_pow (n := 32) (by omega) (by omega)
  have h2 := u32_xor_nat x y hx hy
  have h3 := not_u32 hxy
  have hD : (x + 4294967296 - y - c) % 4294967296 < 4294967296 := Nat.mod_lt _ (by omega)
  have h4 := u32_and_nat (4294967295 - x) y (by omega) hy
  have h5 := u32_and_nat (4294967295 - (x ^^^ y)) ((x + 4294967296 - y - c) % 4294967296) (by omega) hD
  have h6 := u32_or_nat ((4294967295 - x) &&& y) ((4294967295 - (x ^^^ y)) &&& ((x + 4294967296 - y - c) % 4294967296)) (Nat.lt_of_le_of_lt Nat.and_le_right hy) (Nat.lt_of_le_of_lt Nat.and_le_right hD)
  obtain ⟨d, HD⟩ : ∃ d : Nat, Hid (d = (x + 4294967296 - y - c) % 4294967296) := ⟨_, Lib.hid rfl⟩
  rw [← HD.out] at HB h5 h6 hD ⊢
  have s1 : ((x : Int) - (y : Int) - (c : Int)) % 4294967296 = (d : Int) := by
    rw [HD.out]
    omega
  have hmx : (4294967295 : Int) = IntKind.u32.max := by decide
  have hsg : ¬ IntKind.u32.signed = true := by decide
  rw [hmx] at h1 h3
  generalize x ^^^ y = q at *
  generalize (4294967295 - x) &&& y = p1 at *
  generalize (4294967295 - q) &&& d = p2 at *
  generalize p1 ||| p2 = p3 at *
  generalize (if x < y + c then 1 else 0) = r at *
  have s2 : (p3 : Int) / 2147483648 = (r : Int) := by rw [← HB.out]; omega
  go_enter Tryd.func110, Tryd.ntmps110
  go_wp2
  go_ret2
  exact ⟨show Ending.returned (.tuple #[.int .u32 ((((x : Int) - (y : Int)) % 4294967296 - (c : Int)) % 4294967296), .int .u32 (r : Int)]) = _ by rw [show ((((x : Int) - (y : Int)) % 4294967296 - (c : Int)) % 4294967296) = (d : Int) by rw [← s1]; omega], rfl⟩

def SubPost (w : World) (N M : Nat) (e : Ending) (w' : World) : Prop := ∃ v, e = .returned (.tuple #[v, if N < M then .iface 29 (.int .i64 2) else .nilIface]) ∧ NatV w' v (N - M) ∧ Below w.heap.size w w'
theorem subNo {w w' : World} {N M : Nat} (h : N < M) (hv : NatV w' (.agg #[.slice none 0 0]) 0) (hb : Below w.heap.size w w') : SubPost w N M (.returned (.tuple #[.agg #[.slice none 0 0], .iface 29 (.int .i64 2)])) w' :=
  ⟨_, by rw [if_pos h], by rw [show N - M = 0 by omega]; exact hv, hb⟩
theorem subYes {w w' : World} {N M D : Nat} {v : Value} (h : M ≤ N) (hD : D = N - M) (hv : NatV w' v D) (hb : Below w.heap.size w w') : SubPost w N M (.returned (.tuple #[v, .nilIface])) w' :=
  ⟨_, by rw [if_neg (by omega)], by rw [← hD]; exact hv, hb⟩
theorem natV_nil2 (w : World) : NatV w (.agg #[.slice none 0 0]) 0 := BigV.nil w
/-- Where Sub stands: a row of the call's own. -/
structure NsI (w3 : World) (base : Nat) (xs ys : List Nat) (i c : Nat) (vo : Value) (wr : World) : Prop where
  bel : Below base w3 wr
  mem : ∃ out, OwnL wr base vo out ∧ SubI xs ys i out c

set_option maxRecDepth 100000 in
set_option maxHeartbeats 4000000 in
theorem natSub_any (v1 v2 : Value) (N M : Nat) (w : World) (h1 : NatV w v1 N) (h2 : NatV w v2 M) (hN : N < 4294967296 ^ 1000) (hM : M < 4294967296 ^ 1000) :
    Calls Tryd.prog 77 #[v1, v2] w (SubPost w N M) := by
  obtain ⟨A, n, c, xs, rfl, _, hl, _, hv, hn⟩ := h1.len hN
  obtain ⟨A2, n2, c2, ys, rfl, _, hl2, ht2, hv2, hn2⟩ := h2.len hM
  have HI := hide hl
  have HJ := hide hl2
  have HXL := Lib.hid hl.1
  have HYL := Lib.hid hl2.1
  have HV := Lib.hid hv
  have HV2 := Lib.hid hv2
  have HLE := hide (fun (h : M ≤ N) => len_ge hl.1 hl2.1 hl.2.2.1 ht2 (by rw [hv, hv2]; exact h))
  have HCM := hide (fun (w' : World) (hb : Below w.heap.size w w') => natCmp_any _ _ N M w' (h1.below hb) (h2.below hb) hN hM)
  clear h1 h2 hl hl2 hv hv2 ht2 hN hM
  have k1 := Blk.new w 66 #[.slice A n c]
  have k2 := Blk.new (w.alloc (.cells #[.slice A n c] 66)) 66 #[.slice A2 n2 c2]
  have k3 := Blk.new ((w.alloc (.cells #[.slice A n c] 66)).alloc (.cells #[.slice A2 n2 c2] 66)) 66 #[.slice none 0 0]
  rw [sizeAl] at k2
  rw [sizeAl, sizeAl] at k3
  have K1 := hide ((k1.alloc (.cells #[.slice A2 n2 c2] 66)).alloc (.cells #[.slice none 0 0] 66))
  have K2 := hide (k2.alloc (.cells #[.slice none 0 0] 66))
  have K3 := hide k3
  have HBW := hide ((((Below.refl w.heap.size w).alloc (Nat.le_refl _) (.cells #[.slice A n c] 66)).alloc (by simp) (.cells #[.slice A2 n2 c2] 66)).alloc (by simp; omega) (.cells #[.slice none 0 0] 66))
  have hss : (((w.alloc (.cells #[.slice A n c] 66)).alloc (.cells #[.slice A2 n2 c2] 66)).alloc (.cells #[.slice none 0 0] 66)).heap.size = w.heap.size + 3 := by simp
  have HCM2 := hide (HCM.out _ HBW.out)
  unfold NCmp at HCM2
  clear k1 k2 k3 HCM
  go_enter Tryd.func77, Tryd.ntmps77
  go_wp2_with fail
  generalize (((w.alloc (.cells #[.slice A n c] 66)).alloc (.cells #[.slice A2 n2 c2] 66)).alloc (.cells #[.slice none 0 0] 66)) = w3 at K1 K2 K3 HBW HCM2 hss ⊢
  refine (HCM2.out).mono ?_
  rintro e wm ⟨rfl, hbm⟩
  rw [hss] at hbm
  have HKA := hide (K1.out.below hbm (by omega))
  have HKB := hide (K2.out.below hbm (by omega))
  have HKC := hide (K3.out.below hbm (by omega))
  have HBM := hide (HBW.out.trans (hbm.mono (by omega)))
  have hsm : w.heap.size + 3 ≤ wm.heap.size := by have := hbm.size; rw [hss] at this; exact this
  have a0 := HKA.out.cell 0
  have c0 := HKC.out.cell 0
  have f0 := HKC.out.frozen 0
  clear hbm HCM2 K1 K2 K3 HBW
  rcases Nat.lt_or_ge N M with hNM | hNM
  · have HZ := Lib.hid (cmpZ_lt hNM)
    have HNM := Lib.hid hNM
    clear hNM
    rw [HZ.out]
    have HP0 := (HKC.out.set_ 0 (.slice none 0 0)).cell 0
    go_wp2
    exact bodyPost_ret (v := .tuple #[.agg #[.slice none 0 0], .iface 29 (.int .i64 2)]) (by simp [results, Tryd.results77, go_sem, HP0]) rfl (subNo HNM.out (natV_nil2 _) (HBM.out.setCell (p := ⟨w.heap.size + 1 + 1, 0, none⟩) (show w.heap.size ≤ w.heap.size + 1 + 1 by omega) _))
  · have HCZ := Lib.hid (show (decide (cmpZ N M < 0)) = false by
      rcases Nat.eq_or_lt_of_le hNM with h | h
      · rw [cmpZ_eq h.symm]; rfl
      · rw [cmpZ_gt h]; rfl)
    have hlen := HLE.out hNM
    have hge : valL ys ≤ valL xs := by rw [HV.out, HV2.out]; exact hNM
    have HGE := Lib.hid hge
    have HNM := Lib.hid hNM
    have HVV := Lib.hid (show valL xs - valL ys = N - M by rw [HV.out, HV2.out])
    obtain ⟨D, HDD⟩ : ∃ D, Hid (D = N - M) := ⟨_, Lib.hid rfl⟩
    rw [← HDD.out] at HVV
    generalize cmpZ N M = z at HCZ ⊢
    have hcz := HCZ.out
    clear HLE HV HV2 HCZ hge hNM
    obtain ⟨i0, hi0, hz0, hz1, hz2⟩ := info_parts limbInfo
    obtain ⟨wn, hmk, hom, hgm⟩ := run_make_own (P := Tryd.prog) wm (w.heap.size + 3) 64 130 i0 (.int .u32 0) 1 Tryd.underlying64 hi0 hz0 hz1 .i64 .i64 n (by rw [hz2]; omega) (by simp only [maxLen]; omega) hsm
    have HGM := hide (show Below (w.heap.size + 3) wm wn from ⟨hgm.os, hgm.tape, hgm.output, hgm.size, fun i hi => hgm.block i (by omega) (by simp)⟩)
    have HOM := hide (show OwnL wn (w.heap.size + 3) (.slice (some ⟨wm.heap.size, 0, none⟩) 0 n) [] from hom)
    have HLA := hide (HKA.out.below HGM.out (by omega))
    have HLB := hide (HKB.out.below HGM.out (by omega))
    have HLC := hide (HKC.out.below HGM.out (by omega))
    have HBN := hide (HBM.out.trans (HGM.out.mono (by omega)))
    have hsn : w.heap.size + 3 ≤ wn.heap.size := Nat.le_trans hsm hgm.size
    have a1 := HLA.out.cell 0
    clear hom hgm hi0 hz0 hz1 hz2 c0 f0 HKA HKB HKC HBM HGM
    go_wp2
    clear hmk a0 a1
    go_loopw [6, 7, 24] (fun vo cv iv wr => ∃ (i cc : Nat), i ≤ n ∧ iv = .int .i64 i ∧ cv = .int .u32 (cc : Int) ∧ Hid (NsI wn (w.heap.size + 3) xs ys i cc vo wr)) (fun _ _ iv _ => n - (intOf iv).toNat)
    case atStart => exact ⟨0, 0, Nat.zero_le _, rfl, rfl, hide ⟨Below.refl _ _ |>.mono hsn, [], HOM.out, sub_start xs ys⟩⟩
    case round =>
      obtain ⟨i, cc, hi, rfl, rfl, hR⟩ := hrel
      obtain ⟨out, hob, hA⟩ := hR.out.mem
      have HBE := hide hR.out.bel
      have HOB := hide hob
      have HAI := hide hA
      have hcc := hA.cl
      have hol := Lib.hid hA.len
      clear hR hob hA
      have HBR := hide (HBN.out.trans (HBE.out.mono (by omega)))
      have HQB := hide (HLB.out.below HBE.out (by omega))
      have HQC := hide (HLC.out.below HBE.out (by omega))
      have hsr : w.heap.size + 3 ≤ wr.heap.size := Nat.le_trans hsn HBE.out.size
      have b0 := HQB.out.cell 0
      by_cases hlt : i < n
      · obtain ⟨ad, rfl, hb, hcell, hx⟩ := HI.out.at_ hlt
        have hc2 := (HBR.out.cell (by rw [block_of_add]; exact hb)).trans hcell
        have hy := getD_lt HJ.out.2.2.1 i
        have HNX := hide (HAI.out.next (d := (xs.getD i 0 + 4294967296 - ys.getD i 0 - cc) % 4294967296) (r := if xs.getD i 0 < ys.getD i 0 + cc then 1 else 0) (Nat.mod_lt _ (by omega)) (by split <;> omega) (sub_step hx hy hcc))
        have HCY := hide (fun (h : i < n2) => show ∃ ad2, A2 = some ad2 ∧ wr.cell? (ad2.add i) = some (.int .u32 ((ys.getD i 0 : Nat) : Int)) from by
          obtain ⟨ad2, e, hb2, hcell2, _⟩ := HJ.out.at_ h
          exact ⟨ad2, e, (HBR.out.cell (by rw [block_of_add]; exact hb2)).trans hcell2⟩)
        have HZY := hide (fun (h : ¬ i < n2) => show ys.getD i 0 = 0 by rw [List.getD_eq_getElem?_getD, List.getElem?_eq_none (by rw [HYL.out]; omega)]; rfl)
        clear hcell
        generalize xs.getD i 0 = x at hc2 hx HNX
        generalize ys.getD i 0 = y at hy HNX HCY HZY
        have HAD := hide (sub32_any x y cc wr hx hy hcc)
        unfold Sub32Post at HAD
        generalize (x + 4294967296 - y - cc) % 4294967296 = lo at HAD HNX
        generalize (if x < y + cc then 1 else 0) = hi2 at HAD HNX
        have HOA := hide (HOB.out.below ((Below.refl wr.heap.size wr).alloc (Nat.le_refl _) (.cells #[.int .u32 (lo : Int)] 130)))
        have HBA := hide (HBE.out.alloc hsr (.cells #[.int .u32 (lo : Int)] 130))
        have HCA := Lib.hid (show (wr.alloc (.cells #[.int .u32 (lo : Int)] 130)).cell? ⟨wr.heap.size, 0, none⟩ = some (limbV lo) by simp [limbV])
        have HSZ := Lib.hid (Nat.le_trans hsn HBA.out.size)
        have HLT := hide (World.ownsRow.lt HOA.out)
        by_cases hy2 : i < n2
        · obtain ⟨ad2, rfl, hc3⟩ := HCY.out hy2
          go_wp2_with fail
          refine (HAD.out).mono ?_
          rintro e w5 ⟨rfl, rfl⟩
          go_wp2_with (at_builtin; refine appL _ rfl _ _ 64 rfl (w.heap.size + 3) Tryd.underlying64 _ out rfl HOA.out wr.heap.size 1 rfl lo HCA.out (by have := hol.out; omega) HSZ.out ?_; intro v9 w9 ho9 hg9 hor9; have HO9 := hide ho9; have HB9 := hide (HBA.out.grown hg9 HSZ.out (fun k hk => (HLT.out k hk).1)); clear ho9 hg9 hor9)
          go_roundw
          case rel => exact ⟨i + 1, hi2, by omega, by go_num, rfl, hide ⟨HB9.out, _, HO9.out, HNX.out⟩⟩
          case measure => simp [intOf]; omega
        · obtain rfl := HZY.out hy2
          have HAD2 := hide (show Calls Tryd.prog 110 #[.int .u32 (x : Int), .int .u32 0, .int .u32 (cc : Int)] wr _ from HAD.out)
          clear HAD
          go_wp2_with fail
          refine (HAD2.out).mono ?_
          rintro e w5 ⟨rfl, rfl⟩
          go_wp2_with (at_builtin; refine appL _ rfl _ _ 64 rfl (w.heap.size + 3) Tryd.underlying64 _ out rfl HOA.out wr.heap.size 1 rfl lo HCA.out (by have := hol.out; omega) HSZ.out ?_; intro v9 w9 ho9 hg9 hor9; have HO9 := hide ho9; have HB9 := hide (HBA.out.grown hg9 HSZ.out (fun k hk => (HLT.out k hk).1)); clear ho9 hg9 hor9)
          go_roundw
          case rel => exact ⟨i + 1, hi2, by omega, by go_num, rfl, hide ⟨HB9.out, _, HO9.out, HNX.out⟩⟩
          case measure => simp [intOf]; omega
      · obtain rfl : i = n := by omega
        have HFI := Lib.hid (show valL out = D by
          have := HAI.out
          rw [← HXL.out] at this
          rw [this.fine (by rw [HXL.out, HYL.out]; omega) HGE.out, HVV.out])
        obtain ⟨A9, c9, e9, hc9, hl9⟩ := HOB.out.lim (by simp only [maxLen]; have := hol.out; omega) HAI.out.lt
        subst e9
        have HNE := Lib.hid (show ∀ ad, A9 = some ad → ad.block ≠ w.heap.size + 1 + 1 from fun ad e => by
          have := (HOB.out.lt ad.block (by rw [e]; rfl)).1
          omega)
        have HL9 := hide hl9
        rw [hol.out] at HL9 hc9 ⊢
        have HMD := hide (made_any A9 i c9 out wr HL9.out hc9)
        clear hl9 HOB HAI
        go_wp2_with fail
        refine (HMD.out).mono ?_
        rintro e w6 ⟨m, hm, rfl, htr, hval, hb6⟩
        rw [hol.out] at hm
        have HL6 := hide ((HL9.out.take hm).below hb6 |>.more hb6.size)
        have HB6 := hide (HBR.out.trans (hb6.mono HBR.out.size))
        have HQ6 := hide (HQC.out.below hb6 HQC.out.lt)
        have c0 := HQ6.out.cell 0
        have f0 := HQ6.out.frozen 0
        have HP0 := (HQ6.out.set_ 0 (.slice A9 m c9)).cell 0
        have hmc : m ≤ c9 := Nat.le_trans hm hc9
        have HNV := hide (show NatV (w6.setCell ⟨w.heap.size + 1 + 1, 0, none⟩ (.slice A9 m c9)) (.agg #[.slice A9 m c9]) D from ⟨A9, m, c9, _, rfl, hmc, by rw [sizeSet]; exact lim_setA HL6.out HNE.out _, htr, by rw [hval, HFI.out]⟩)
        clear hb6 htr hval
        go_wp2
        exact bodyPost_ret (v := .tuple #[.agg #[.slice A9 m c9], .nilIface]) (by simp [results, Tryd.results77, go_sem, HP0]) rfl (subYes HNM.out HDD.out HNV.out (HB6.out.setCell (p := ⟨w.heap.size + 1 + 1, 0, none⟩) (show w.heap.size ≤ w.heap.size + 1 + 1 by omega) _))
end Go.Proofs.YtfbhmkpihmcegaaDoor
