/-
  The document's image: its closure's walk. The document's image.
-/
import Derived.Test.YtdlcldhnbhlikaaGreatDoorRefImM
import Derived.Test.YtdlcldhnbhlikaaGreatDoorImgTx
import Derived.BigRegion
import Derived.Deep.CutRange
import Derived.Deep.RegionHeld3
namespace Go.Proofs.YtdlcldhnbhlikaaGreatDoor
open Go.RowKit Go.Maps

theorem ri_dup {A B : Prop} (h : A → B) (k : A) : B := h k
theorem riDr {u w : World} (h : Below u.heap.size u w) : Below u.heap.size u w.drew := h.drew
theorem riAl {u w : World} (h : Below u.heap.size u w) (o : Obj) : Below u.heap.size u (w.alloc o) := h.alloc h.size o
theorem riThen {u X Y : World} (h : Below u.heap.size u X) (k : Below X.heap.size X Y) : Below u.heap.size u Y := h.trans (k.mono h.size)
theorem dn_kept {w w5 : World} {g base sz : Nat} {v : Value} {gs : List Nat} {o : Obj} (h1 : Blk w g 25 #[v]) (h2 : OwnT w base sz v gs) (hg : (w.alloc o).grownBy w5 v.ownBlock) : Blk w5 g 25 #[v] :=
  (h1.alloc o).grown hg (fun e => own_blk_ne h2 h1 (by decide) e.symm)
theorem num_at {ks : List Int} {k : Nat} {x : Int} (hd : ks.Nodup) (hk : k < ks.length) (e : ks.getD k 0 = x) (h0 : x ≠ 0) (h1 : x ≠ 1) : numI ks x = k + 2 := by
  rw [List.getD_eq_getElem?_getD, List.getElem?_eq_getElem hk] at e
  simp only [Option.getD_some] at e
  unfold numI
  rw [if_neg h0, if_neg h1, ← e, hd.idxOf_getElem k hk]
theorem getD_tabs {A : Ar} {vn k : Nat} {ks : List Int} (hk : k < ks.length) : (ks.map (tabH A vn)).getD k [] = tabH A vn (ks.getD k 0) := by
  rw [List.getD_eq_getElem?_getD, List.getElem?_map, List.getD_eq_getElem?_getD, List.getElem?_eq_getElem hk]
  rfl
theorem three_ints (W : World) (a b c : Int) (ha : I64 a) (hb : I64 b) (hc : I64 c) {w' : World} (h : Below (W.alloc (.cells #[.int .i64 a, .int .i64 b, .int .i64 c] 3)).heap.size (W.alloc (.cells #[.int .i64 a, .int .i64 b, .int .i64 c] 3)) w') :
    Ints w' w'.heap.size (some ⟨W.heap.size, 0, none⟩) 3 [a, b, c] := by
  have hk := (Blk.new W 3 #[.int .i64 a, .int .i64 b, .int .i64 c]).below h (Blk.new W _ _).lt
  refine ⟨rfl, by simp [maxLen], fun z hz => ?_, ?_⟩
  · simp only [List.mem_cons, List.not_mem_nil, or_false] at hz
    rcases hz with rfl | rfl | rfl <;> assumption
  · have := blk_reads (zs := [a, b, c]) hk
    exact this.more (by have := hk.lt; omega)
theorem numP {A : Ar} {ks : List Int} (hk : KsOk A ks) {x : Int} {d : Nd} (hg : gotA A x = some d) {k : Nat} (hkl : k < ks.length) (e : ks.getD k 0 = x) : numI ks x = k + 2 := by
  have := node_two hg
  exact num_at hk.nd hkl e (by omega) (by omega)
section
variable {K : RiB} {A : Ar} {vn sz b0 base : Nat} {ks : List Int}

set_option maxRecDepth 100000 in
set_option maxHeartbeats 8000000 in
theorem refImg1_any (x : Int) (v p : Nat) (w : World) (hs : SpA A (vn : Int)) (hp : hasA A x = true) (hv : v ≤ vn) (ht : (v : Int) ≤ topA A x) (h6 : vn ≤ 6) (hsz : 2 ^ vn = sz) (hgl : 5 < b0)
    (hk : KsOk A ks) (h : RiI K A vn sz b0 base ks (bodyL A ks) w) (hf : Blk w p 4 (boolArr (tabH A vn x))) (hG : GlobT w) (IH : RiC K A vn sz b0 base (dep A x)) :
    Calls Tryz.prog 41 #[tabV sz p, .int .i64 (v : Int), .pointer (some ⟨K.vs, 0, none⟩), .pointer (some ⟨K.dn, 0, none⟩), .pointer (some ⟨K.wk, 0, none⟩), .pointer (some ⟨K.bd, 0, none⟩)] w (RiP K A vn sz b0 base ks x w) := by
  have hs64 : sz ≤ 64 := by rw [← hsz]; exact Nat.le_trans (Nat.pow_le_pow_right (by omega) h6) (by decide)
  have hfl : (tabH A vn x).length = sz := by unfold tabH; rw [tab_len]; exact hsz
  have hb0 := h.lt
  have HF := hide hf
  have HI := hide h
  have HG := hide hG
  have HIH := Lib.hid IH
  have HSP := Lib.hid hs
  have HP := Lib.hid hp
  have HKS := Lib.hid hk
  have HSZ := Lib.hid hsz
  have HFL := Lib.hid hfl
  have hmk := fun w => mk_table sz (sz : Int) rfl (by omega) w
  clear h hf hG IH hs hk hsz hfl
  obtain ⟨f, HFE⟩ : ∃ f, Hid (tabH A vn x = f) := ⟨_, Lib.hid rfl⟩
  rw [HFE.out] at HF HFL
  unfold tabV
  go_enter Tryz.func41, Tryz.ntmps41
  go_wp2
  go_loopw [1] (fun iv wr => ∃ v : Nat, v ≤ vn ∧ iv = .int .i64 v ∧ (v : Int) ≤ topA A x ∧ Hid (Below w.heap.size w wr)) (fun iv _ => vn - (intOf iv).toNat)
  case atStart => exact ⟨v, hv, rfl, ht, hide (Below.refl _ _)⟩
  case round =>
    clear hv ht
    obtain ⟨v, hv, rfl, ht, HB⟩ := hrel
    obtain ⟨wk, rfl⟩ : ∃ wk, wk = wr := ⟨_, rfl⟩
    have HIk := hide (HI.out.below HB.out)
    have HFk := hide (HF.out.below HB.out HF.out.lt)
    have HGk := hide (HG.out.below HB.out)
    have cv := HIk.out.hv.cell 0
    by_cases hlt : v < vn
    · have hvI : (v : Int) < (vn : Int) := by omega
      go_wp2
      apply ri_dup
      · intro KK
        go_region
        · have HW := hide (twos1 wk sz)
          generalize ((wk.alloc (.cells (boolArr (List.replicate sz false)) 4)).alloc (.cells (boolArr (List.replicate sz false)) 4)).drew = wz at HW ⊢
          generalize wk.heap.size + 1 = ph at HW ⊢
          generalize wk.heap.size = pl at HW ⊢
          revert HW; revert ph; revert pl; revert wz
          exact KK
        · have HW := hide (twos2 wk sz)
          generalize ((wk.alloc (.cells (boolArr (List.replicate sz false)) 4)).alloc (.cells (boolArr (List.replicate sz false)) 4)).drew = wz at HW ⊢
          generalize wk.heap.size + 1 = pl at HW ⊢
          generalize wk.heap.size = ph at HW ⊢
          revert HW; revert ph; revert pl; revert wz
          exact KK
      intro wz pl ph HW
      have HFZ := hide (HFk.out.below HW.out.bel HFk.out.lt)
      have hpl := HW.out.l0
      have hph := HW.out.h0
      have hpf := HFk.out.lt
      have n1 : p ≠ pl := by omega
      have n2 : p ≠ ph := by omega
      have HH := hide (HW.out.half f v)
      go_wp2
      go_loopw [27] (fun iv wr3 => ∃ i : Nat, i ≤ sz ∧ iv = .int .i64 i ∧ Hid (HlfI wz pl ph sz f v i wr3)) (fun iv _ => sz - (intOf iv).toNat)
      case atStart => exact ⟨0, Nat.zero_le _, rfl, HH⟩
      case round =>
        clear HH
        obtain ⟨i, hi, rfl, hH⟩ := hrel
        by_cases hil : i < sz
        · have hiI : (i : Int) < (sz : Int) := by omega
          have HFi := hide (HFZ.out.fr hH.out.fr (fun e => e.elim n1 n2))
          have hv6 : v < 6 := by omega
          have hi64 : i < 64 := by omega
          have hmin : min v 64 = v := by omega
          have hpw := powB v hv6
          have hpW := powW v hv6
          have hoff := offB v hv6 i hi64
          have hon := onB v hv6 i hi64
          have hkn := on_lt (show i < 2 ^ vn by rw [HSZ.out]; exact hil) hlt
          have hko := off_lt (v := v) (show i < 2 ^ vn by rw [HSZ.out]; exact hil)
          rw [HSZ.out] at hkn hko
          have HN1 := hide (hH.out.next hil)
          have HN2 := hide (hH.out.next2 hil)
          have c1 := (HFi.out.cell (onN i v)).trans (boolArr_at (by rw [HFL.out]; exact hkn))
          have c2 := (HFi.out.cell (offN i v)).trans (boolArr_at (by rw [HFL.out]; exact hko))
          obtain ⟨us, hu1, hu2, hu3⟩ := hH.out.lo
          obtain ⟨vs, hv1, hv2, hv3⟩ := hH.out.hi
          have t0 := (hu1.cell i).trans (boolArr_at (by omega))
          have tf := hu1.frozen i
          have t1 := (hv1.cell i).trans (boolArr_at (by omega))
          have tg := hv1.frozen i
          have n3 := hH.out.ne
          clear hu1 hu2 hu3 hv1 hv2 hv3 hH cv
          generalize f.getD (onN i v) false = bn at c1 HN1 HN2
          generalize f.getD (offN i v) false = bo at c2 HN1 HN2
          generalize onN i v = kn at hon hkn c1
          generalize offN i v = ko at hoff hko c2
          generalize 2 ^ v = pj at hpw hpW hoff hon
          have hknI : (kn : Int) < (sz : Int) := by omega
          have hkoI : (ko : Int) < (sz : Int) := by omega
          generalize us.getD i false = ub at t0
          generalize vs.getD i false = vb at t1
          go_wp2
          go_region
          all_goals
            clear hmin hpw hpW hoff hon c1 c2 t0 t1 tf tg
            go_wp2
            go_roundw
            case rel => exact ⟨i + 1, by omega, by go_num, by first | exact hide (HN1.out.drewN 1) | exact hide (HN2.out.drewN 1)⟩
            case measure => simp [intOf]; omega
        · obtain rfl : sz = i := by omega
          obtain ⟨hlo, hhi⟩ := hH.out.done HFL.out
          have HBZ := hide (HW.out.bel.trans (hH.out.fr.to_below HW.out.bel.size (fun j hj e => by omega)))
          have HSM := hide (tabSame_any sz pl ph (lowT f v) (highT f v) wr hlo hhi (by rw [lowT_len]; exact HFL.out) (by rw [highT_len]; exact HFL.out) hs64)
          clear hH cv
          by_cases htop : (v : Int) < topA A x
          · have he := tab_above (h := x) HSP.out hlt htop
            rw [HFE.out] at he
            rw [decide_eq_true he] at HSM
            clear he hlo hhi
            go_wp2_with fail
            refine (HSM.out).mono ?_
            rintro e w9 ⟨rfl, m, rfl⟩
            have HB9 := hide (HB.out.trans ((below_drewN HBZ.out m).mono HB.out.size))
            clear HSM HBZ
            go_wp2
            go_roundw
            case rel => exact ⟨v + 1, by omega, by go_num, by omega, HB9⟩
            case measure => simp [intOf]; omega
          · have htv : topA A x = (v : Int) := by omega
            obtain ⟨d, hg⟩ : ∃ d, gotA A x = some d := by
              cases e : gotA A x with
              | none => rw [top_none e] at htv; omega
              | some d => exact ⟨d, rfl⟩
            have hdv : d.var = (v : Int) := (top_some hg).symm.trans htv
            obtain ⟨hl, hh, hne⟩ := tab_at_node HSP.out hg hdv
            rw [HFE.out] at hl hh
            rw [decide_eq_false (by rw [hl, hh]; exact hne)] at HSM
            rw [hl] at hlo
            rw [hh] at hhi
            have HLO := hide hlo
            have HHI := hide hhi
            have HGX := Lib.hid hg
            have HDV := Lib.hid hdv
            clear hl hh hne hlo hhi hg
            go_wp2_with fail
            refine (HSM.out).mono ?_
            rintro e w9 ⟨rfl, m, hm⟩
            have hb9 : Below wk.heap.size wk w9 := by rw [hm]; exact below_drewN HBZ.out m
            have HI9 := hide (HIk.out.below hb9)
            have HF9 := hide (HFk.out.below hb9 HFk.out.lt)
            have HG9 := hide (HGk.out.below hb9)
            have HLO9 := hide (show Blk w9 pl 4 (boolArr (tabH A vn d.low)) by rw [hm]; exact HLO.out.drewN m)
            have HHI9 := hide (show Blk w9 ph 4 (boolArr (tabH A vn d.high)) by rw [hm]; exact HHI.out.drewN m)
            have HB9 := hide (HB.out.trans (hb9.mono HB.out.size))
            clear hm hb9 HSM HBZ HLO HHI HIk HFk HGk HB HW HFZ hpl hph hpf n1 n2
            obtain ⟨vd, gs, hd1, hd2, hd3⟩ := HI9.out.hd
            obtain ⟨Ad, cd, rfl⟩ := hd2.len
            have cd0 := hd1.cell 0
            have hgl9 := hd3.len
            rw [List.length_map] at hgl9
            have hfew := HKS.out.few
            rw [HSP.out.len] at hfew
            have HD2 := hide hd2
            have HD3 := hide hd3
            clear hd1 hd2 hd3
            go_wp2
            go_loopw [58] (fun iv wr4 => ∃ k : Nat, k ≤ gs.length ∧ iv = .int .i64 k ∧ Hid (∀ j, j < k → ks.getD j 0 ≠ x) ∧ ∃ m, Hid (wr4 = w9.drewN m)) (fun iv _ => gs.length - (intOf iv).toNat)
            case atStart => exact ⟨0, Nat.zero_le _, rfl, Lib.hid (fun j hj => absurd hj (Nat.not_lt_zero j)), 0, hide rfl⟩
            case round =>
              obtain ⟨k, hk, rfl, HNO, m, HW4⟩ := hrel
              have hb4 : Below w9.heap.size w9 wr := by rw [HW4.out]; exact below_drewN (Below.refl _ _) m
              by_cases hkl : k < gs.length
              · have hkI : (k : Int) < (gs.length : Int) := by omega
                obtain ⟨gr, cap, cur, e, _, hbk, _, hcs⟩ := (HD2.out.below hb4).form (by omega)
                cases e
                have c0 := (hbk.cell k).trans (hcs k hkl)
                obtain ⟨_, ht1, _⟩ := (HD3.out.below hb4).is k hkl
                rw [getD_tabs (by omega)] at ht1
                have HTS := hide (tabSame_any sz (gs.getD k 0) p (tabH A vn (ks.getD k 0)) f wr ht1 (HF9.out.below hb4 HF9.out.lt) (by unfold tabH; rw [tab_len]; exact HSZ.out) HFL.out hs64)
                unfold tabV at c0 HTS
                have hmem : ks.getD k 0 ∈ ks := by
                  rw [List.getD_eq_getElem?_getD, List.getElem?_eq_getElem (by omega)]
                  exact List.getElem_mem _
                have hkx := tabH_inj HSP.out (k := x) (h := ks.getD k 0) (by obtain ⟨_, e, _⟩ := HKS.out.got _ hmem; exact has_some e) HP.out
                rw [HFE.out] at hkx
                have HKX := Lib.hid hkx
                have HB4 := hide hb4
                clear hbk hcs ht1 hkx hb4
                generalize gs.getD k 0 = pk at c0 HTS
                by_cases hx : ks.getD k 0 = x
                · rw [decide_eq_true (HKX.out.2 hx)] at HTS
                  have HX := Lib.hid hx
                  clear hx
                  go_wp2_with fail
                  refine (HTS.out).mono ?_
                  rintro e w5 ⟨rfl, m5, rfl⟩
                  have hkn := numP (hk := HKS.out) (HGX.out) (k := k) (by omega) HX.out
                  have hin : x ∈ ks := by rw [← HX.out]; exact hmem
                  have hbb := HB9.out.trans ((below_drewN HB4.out m5).mono HB9.out.size)
                  have HEND := hide (show RiP K A vn sz b0 base ks x w (.returned (.int .i64 ((k : Int) + 2))) (wr.drewN m5) from ⟨by rw [img_in HGX.out hin, hkn]; rfl, by rw [img_in HGX.out hin]; exact HI.out.below hbb, .below hbb (by omega)⟩)
                  clear hkn hin hbb hmem
                  go_wp2
                  go_ret
                  exact HEND.out
                · rw [decide_eq_false (fun e => hx (HKX.out.1 e))] at HTS
                  have HN2 := Lib.hid (show ∀ j, j < k + 1 → ks.getD j 0 ≠ x from fun j hj => by
                    rcases Nat.lt_or_ge j k with h | h
                    · exact HNO.out j h
                    · rw [show j = k by omega]; exact hx)
                  clear hx
                  go_wp2_with fail
                  refine (HTS.out).mono ?_
                  rintro e w5 ⟨rfl, m5, rfl⟩
                  go_wp2
                  go_roundw
                  case rel => exact ⟨k + 1, by omega, by go_num, HN2, m + m5, hide (by rw [HW4.out, World.drewN_drewN])⟩
                  case measure => simp [intOf]; omega
              · obtain ⟨w5, rfl⟩ : ∃ w5, w5 = wr := ⟨_, rfl⟩
                have hnx : x ∉ ks := fun hc => by
                  obtain ⟨j, hj, e⟩ := List.mem_iff_getElem.1 hc
                  exact HNO.out j (by omega) (by rw [List.getD_eq_getElem?_getD, List.getElem?_eq_getElem hj]; exact e)
                have HI5 := hide (HI9.out.below hb4)
                have HG5 := hide (HG9.out.below hb4)
                have HF5 := hide (HF9.out.below hb4 HF9.out.lt)
                have HLO5 := hide (HLO9.out.below hb4 HLO9.out.lt)
                have HHI5 := hide (HHI9.out.below hb4 HHI9.out.lt)
                have HB5 := hide (HB9.out.trans (hb4.mono HB9.out.size))
                clear hb4 HW4 HNO HD2 HD3 cd0 HI9 HG9 HF9 HLO9 HHI9 HB9
                have kl := HSP.out.wf.kid HGX.out false
                have kh := HSP.out.wf.kid HGX.out true
                simp only [Bool.false_eq_true, if_false, if_true] at kl kh
                have htr := (HSP.out.wf.dep HGX.out)
                have dl : dep A d.low < dep A x := by unfold dep; have := kl.1; omega
                have dh : dep A d.high < dep A x := by unfold dep; have := kh.1; omega
                obtain ⟨ok1, in1, t1, e1, z1⟩ := img_ok HSP.out.wf _ d.low ks (Nat.le_refl _) kl.2 HKS.out
                obtain ⟨ok2, in2, t2, e2, z2⟩ := img_ok HSP.out.wf _ d.high (imgA A d.low ks) (Nat.le_refl _) kh.2 ok1
                have HFR := Lib.hid (img_fresh HSP.out.wf HGX.out hnx HKS.out)
                have HIM := Lib.hid (img_new HSP.out.wf HGX.out hnx)
                have HNL := Lib.hid (show numI (imgA A d.low ks) d.low = numI (imgA A d.high (imgA A d.low ks)) d.low by rw [e2, num_app in1])
                have HIN := Lib.hid (show inI (imgA A d.high (imgA A d.low ks)) d.low ∧ inI (imgA A d.high (imgA A d.low ks)) d.high from ⟨by rw [e2]; exact inI_app in1, in2⟩)
                have HOK1 := Lib.hid ok1
                have HOK2 := Lib.hid ok2
                have HKL := Lib.hid kl.2
                have HKH := Lib.hid kh.2
                have hvl : (v : Int) + 1 ≤ topA A d.low := by have := kl.1; omega
                have hvh : (v : Int) + 1 ≤ topA A d.high := by have := kh.1; omega
                clear e1 e2 z1 z2 t1 t2 in1 in2 ok1 ok2 kl kh hnx htr
                have hc1 := HIH.out d.low (v + 1) pl ks w5 dl HKL.out (by omega) (by omega) HKS.out HI5.out HLO5.out HG5.out
                rw [show (((v + 1 : Nat)) : Int) = (v : Int) + 1 from rfl] at hc1
                unfold tabV at hc1
                have HC1 := hide hc1
                have cw := HI5.out.hw.cell 0
                unfold rimV at cw
                clear hc1
                go_wp2_with fail
                refine (HC1.out).mono ?_
                rintro e w2 ⟨rfl, hI2, hF2⟩
                have HI2 := hide hI2
                have HH2 := hide (hF2.blk HHI5.out (by decide) (HI5.out.far HHI5.out (by decide) (by decide)).1 (HI5.out.far HHI5.out (by decide) (by decide)).2)
                have HF2 := hide (hF2.blk HF5.out (by decide) (HI5.out.far HF5.out (by decide) (by decide)).1 (HI5.out.far HF5.out (by decide) (by decide)).2)
                have hG2 : GlobT w2 := HG5.out.blocks fun g hg hl => hF2.bel.block g (by rw [← hg]; exact hgl)
                have HG2 := hide hG2
                have HR2 := hide (FrR.trans (.below HB5.out (by omega)) hF2)
                clear hI2 hF2 hG2 HC1 cw HI5 HG5 HF5 HLO5 HHI5 HB5
                have hc2 := HIH.out d.high (v + 1) ph _ w2 dh HKH.out (by omega) (by omega) HOK1.out HI2.out HH2.out HG2.out
                rw [show (((v + 1 : Nat)) : Int) = (v : Int) + 1 from rfl] at hc2
                unfold tabV at hc2
                have HC2 := hide hc2
                have cw := HI2.out.hw.cell 0
                unfold rimV at cw
                clear hc2
                go_wp2_with fail
                refine (HC2.out).mono ?_
                rintro e w3 ⟨rfl, hI3, hF3⟩
                have HF3 := hide (hF3.blk HF2.out (by decide) (HI2.out.far HF2.out (by decide) (by decide)).1 (HI2.out.far HF2.out (by decide) (by decide)).2)
                have hG3 : GlobT w3 := HG2.out.blocks fun g hg hl => hF3.bel.block g (by rw [← hg]; exact hgl)
                have HG3 := hide hG3
                have HR3 := hide (HR2.out.trans hF3)
                rw [HNL.out]
                obtain ⟨k2, HK2⟩ : ∃ k2, Hid (imgA A d.high (imgA A d.low ks) = k2) := ⟨_, Lib.hid rfl⟩
                rw [HK2.out] at hI3 HFR HIM HIN HOK2 ⊢
                have HI3 := hide hI3
                clear hI3 hF3 hG3 HC2 cw HI2 HG2 HF2 HH2 HR2 HIH HOK1 HNL dl dh hvl hvh
                obtain ⟨v3, gs3, hd1, hd2, hd3⟩ := HI3.out.hd
                have hfew3 := HOK2.out.few
                rw [HSP.out.len] at hfew3
                have hgl3 : gs3.length ≤ 1000000 := by have := hd3.len; rw [List.length_map] at this; omega
                have cd3 := hd1.cell 0
                have HD1 := hide hd1
                have HD2 := hide hd2
                have HD3 := hide hd3
                have HOA := hide (fun o : Obj => hd2.below ((Below.refl w3.heap.size w3).alloc (Nat.le_refl _) o))
                have HSA := Lib.hid (fun o : Obj => show base ≤ (w3.alloc o).heap.size by have := HI3.out.lt; simp; omega)
                have HCE := Lib.hid (show (w3.alloc (.cells #[.slice (some ⟨p, 0, none⟩) sz sz] 35)).cell? ⟨w3.heap.size, 0, none⟩ = some (.slice (some ⟨p, 0, none⟩) sz sz) from (Blk.new w3 _ _).cell 0)
                have HFX := Lib.hid (show (tabH A vn x).length = sz by rw [HFE.out]; exact HFL.out)
                rw [← HFE.out] at HF3
                clear hd1 hd2 hd3
                go_wp2_with (first
                  | (at_builtin; refine appT _ rfl _ _ _ rfl base sz Tryz.underlying25 _ gs3 rfl (HOA.out _) w3.heap.size 1 p rfl HCE.out hgl3 (HSA.out _) ?_; intro v9 w9 ho9 hg9; obtain ⟨A9, n9, e9⟩ := ho9.len; rw [List.length_append, List.length_singleton] at e9; subst e9; have hk9 := dn_kept HD1.out HD2.out hg9; have c9 := hk9.cell 0; have t9 := hk9.frozen 0; have HA9 := hide (HI3.out.app HD1.out HD2.out HD3.out HF3.out HFX.out ho9 hg9); clear hk9 ho9 hg9)
                  | fail)
                generalize (w9.setCell ⟨K.dn, 0, none⟩ (.slice A9 (gs3.length + 1) n9)) = W at HA9 ⊢
                have hGW : GlobT W := HG3.out.blocks fun g hg hl => HA9.out.2.bel.block g (by rw [← hg]; exact hgl)
                have HGW := hide hGW
                have hivl : I64 (v : Int) := by unfold I64; omega
                have hil : I64 (numI k2 d.low : Int) := by have := num_few k2 d.low; unfold I64; omega
                have hih : I64 (numI k2 d.high : Int) := by have := num_few k2 d.high; unfold I64; omega
                have htl := text3_len (v : Int) (numI k2 d.low : Int) (numI k2 d.high : Int) hivl hil hih
                have hbl := body_le HSP.out.wf HOK2.out (by rw [HSP.out.len]; omega)
                have hv4 := body_grows HOK2.out HGX.out HIN.out.1 HIN.out.2
                rw [HDV.out] at hv4
                have HV := Lib.hid hv4
                clear hGW hv4 c9 t9 HG3 HD1 HD2 HD3 HOA HSA HCE HI3 cd3
                obtain ⟨nl, HNL⟩ : ∃ nl, Hid ((numI k2 d.low : Int) = nl) := ⟨_, Lib.hid rfl⟩
                obtain ⟨nh, HNH⟩ : ∃ nh, Hid ((numI k2 d.high : Int) = nh) := ⟨_, Lib.hid rfl⟩
                rw [HNL.out, HNH.out] at htl HV ⊢
                rw [HNL.out] at hil
                rw [HNH.out] at hih
                have HTO := Lib.hid (fun (w' : World) (hb : Below (W.alloc (.cells #[.int .i64 (v : Int), .int .i64 nl, .int .i64 nh] 3)).heap.size (W.alloc (.cells #[.int .i64 (v : Int), .int .i64 nl, .int .i64 nh] 3)) w') =>
                  textW_any (some ⟨W.heap.size, 0, none⟩) 3 3 [(v : Int), nl, nh] w' (HGW.out.below (riThen ((Below.refl W.heap.size W).alloc (Nat.le_refl _) _) hb)) (three_ints W _ _ _ hivl hil hih hb) (by omega))
                unfold ToldPost at HTO
                obtain ⟨tz, HTZ⟩ : ∃ tz, Hid (textF [(v : Int), nl, nh] = tz) := ⟨_, Lib.hid rfl⟩
                rw [HTZ.out] at HTO HV htl
                obtain ⟨bz, HBY⟩ : ∃ bz, Hid (bodyL A k2 = bz) := ⟨_, Lib.hid rfl⟩
                rw [HBY.out] at HA9 HV hbl
                have cb := HA9.out.1.hb.cell 0
                have fb := HA9.out.1.hb.frozen 0
                have HKP := Lib.hid (fun (w' : World) (hb : Below W.heap.size W w') => show w'.cell? ⟨K.bd, 0, none⟩ = some (.string ⟨bz.toArray⟩) ∧ w'.frozen? ⟨K.bd, 0, none⟩ = false from ⟨(HA9.out.1.hb.below hb HA9.out.1.hb.lt).cell 0, (HA9.out.1.hb.below hb HA9.out.1.hb.lt).frozen 0⟩)
                have q1 : ∀ w : World, (Op.stringOp .add ⟨tz.toArray⟩ ⟨#[10]⟩).run Tryz.prog w = .ok (.string ⟨(tz ++ [10]).toArray⟩) w := fun w => by
                  have := run_string_add_sum (P := Tryz.prog) w ⟨tz.toArray⟩ ⟨[10].toArray⟩ (by rw [ba_size, ba_size]; simp; omega)
                  rw [ba_app] at this
                  exact this
                have q2 : ∀ w : World, (Op.stringOp .add ⟨bz.toArray⟩ ⟨(tz ++ [10]).toArray⟩).run Tryz.prog w = .ok (.string ⟨(bz ++ (tz ++ [10])).toArray⟩) w := fun w => by
                  have := run_string_add_sum (P := Tryz.prog) w ⟨bz.toArray⟩ ⟨(tz ++ [10]).toArray⟩ (by rw [ba_size, ba_size]; simp; omega)
                  rw [ba_app] at this
                  exact this
                have hk2 : k2.length ≤ 4000 := by have := HOK2.out.few; rw [HSP.out.len] at this; exact this
                have hb0b : b0 ≤ W.heap.size := by have := HA9.out.1.lt; omega
                clear HNL HNH HTZ HBY htl hbl hivl hil hih
                have hlb := HA9.out.1.hb.lt
                go_region_with (go_at_call 17; refine (HTO.out _ (by repeat (first | exact Below.refl _ _ | exact (Below.refl _ _).drew | refine riDr ?_))).mono ?_; rintro e wa ⟨rfl, hq⟩; have hbq : Below W.heap.size W wa := riThen (by repeat (first | exact Below.refl _ _ | exact (Below.refl _ _).drew | refine riAl ?_ _ | refine riDr ?_)) hq; have cbq := (HKP.out wa hbq).1; have fbq := (HKP.out wa hbq).2; clear hq)
                all_goals
                  have HE := hide ((HA9.out.1.below hbq).text (bz ++ (tz ++ [10])))
                  have HB9 := hide hbq
                  clear hbq HKP HTO cb fb q1 q2 hlb cbq fbq
                  generalize (wa.setCell ⟨K.bd, 0, none⟩ (.string ⟨(bz ++ (tz ++ [10])).toArray⟩)) = W9 at HE ⊢
                  obtain ⟨v4, gs4, e1, e2, e3⟩ := HE.out.1.hd
                  obtain ⟨A4, c4, rfl⟩ := e2.len
                  have cd4 := e1.cell 0
                  have hl4 : gs4.length = k2.length + 1 := by have := e3.len; simpa using this
                  have h2x := node_two HGX.out
                  have HEND := hide (show RiP K A vn sz b0 base ks x w (.returned (.int .i64 ((k2.length : Int) + 1 + 1))) W9 from
                    ⟨by rw [HIM.out, num_new (by omega) (by omega) HFR.out]; exact congrArg (fun z => Ending.returned (.int .i64 z)) (by omega), by rw [HIM.out, HV.out]; exact HE.out.1, (HR3.out.trans (HA9.out.2.trans (.below HB9.out hb0b))).trans HE.out.2⟩)
                  clear e1 e2 e3 HE HB9
                  go_wp2
                  go_ret
                  exact HEND.out
    · obtain rfl : v = vn := by omega
      obtain ⟨hl1, hl2⟩ := tab_last HSP.out HP.out ht
      rw [HFE.out] at hl1
      have hz : 0 < sz := by rw [← HSZ.out]; exact Nat.two_pow_pos _
      have c0 := (HFk.out.cell 0).trans (boolArr_at (by rw [HFL.out]; exact hz))
      rw [hl1] at c0
      have hnone : gotA A x = none := by
        cases e : gotA A x with
        | none => rfl
        | some d => have := HSP.out.var _ _ e; have := top_some e; omega
      have HEND := hide (show RiP K A v sz b0 base ks x w (.returned (.int .i64 (numI ks x : Int))) wk from ⟨by rw [img_none hnone], by rw [img_none hnone]; exact HIk.out, .below HB.out (by omega)⟩)
      have hzI : (0 : Int) < (sz : Int) := by omega
      clear hl1 hnone
      rcases hl2 with rfl | rfl
      · rw [show ((0 : Int) == 1) = false from rfl] at c0
        go_wp2
        go_ret
        exact HEND.out
      · rw [show ((1 : Int) == 1) = true from rfl] at c0
        go_wp2
        go_ret
        exact HEND.out
theorem refImg1_all (hs : SpA A (vn : Int)) (h6 : vn ≤ 6) (hsz : 2 ^ vn = sz) (hgl : 5 < b0) : ∀ n, RiC K A vn sz b0 base n := by
  intro n
  induction n with
  | zero => intro y v p ks w h; exact absurd h (Nat.not_lt_zero _)
  | succ n ih =>
    intro y v p ks w hd hp hv ht hk h hf hG
    exact refImg1_any y v p w hs hp hv ht h6 hsz hgl hk h hf hG fun z v2 p2 k2 w2 hz => ih z v2 p2 k2 w2 (by omega)
end
end Go.Proofs.YtdlcldhnbhlikaaGreatDoor
namespace Go.Proofs.YtdlcldhnbhlikaaGreatDoor
open Go.RowKit Go.Maps

theorem one_int (W : World) (a : Int) (ha : I64 a) {w' : World} (h : Below (W.alloc (.cells #[.int .i64 a] 3)).heap.size (W.alloc (.cells #[.int .i64 a] 3)) w') : Ints w' w'.heap.size (some ⟨W.heap.size, 0, none⟩) 1 [a] := by
  have hk := (Blk.new W 3 #[.int .i64 a]).below h (Blk.new W _ _).lt
  refine ⟨rfl, by simp [maxLen], fun z hz => by rw [List.mem_singleton.1 hz]; exact ha, ?_⟩
  have := blk_reads (zs := [a]) hk
  exact this.more (by have := hk.lt; omega)
theorem ba_addRun (a b : List UInt8) (h : a.length + b.length ≤ 1000000) (w : World) : (Op.stringOp .add ⟨a.toArray⟩ ⟨b.toArray⟩).run Tryz.prog w = .ok (.string ⟨(a ++ b).toArray⟩) w := by
  have := run_string_add_sum (P := Tryz.prog) w ⟨a.toArray⟩ ⟨b.toArray⟩ (by rw [ba_size, ba_size]; omega)
  rw [ba_app] at this
  exact this
/-- Where the closure begins. -/
theorem ri_start (w : World) (A : Ar) (vn sz : Nat) :
    RiI ⟨w.heap.size, w.heap.size + 1 + 1, w.heap.size + 1, w.heap.size + 1 + 1 + 1⟩ A vn sz w.heap.size (w.heap.size + 1 + 1 + 1 + 1) [] []
      ((((w.alloc (.cells #[.int .i64 (vn : Int)] 3)).alloc (.cells #[.string ⟨#[]⟩] 9)).alloc (.cells #[.slice none 0 0] 25)).alloc (.cells #[.func (.func 41) #[] #[.pointer (some ⟨w.heap.size, 0, none⟩), .pointer (some ⟨w.heap.size + 1 + 1, 0, none⟩), .pointer (some ⟨w.heap.size + 1 + 1 + 1, 0, none⟩), .pointer (some ⟨w.heap.size + 1, 0, none⟩)]] 108)) ∧
    Below w.heap.size w ((((w.alloc (.cells #[.int .i64 (vn : Int)] 3)).alloc (.cells #[.string ⟨#[]⟩] 9)).alloc (.cells #[.slice none 0 0] 25)).alloc (.cells #[.func (.func 41) #[] #[.pointer (some ⟨w.heap.size, 0, none⟩), .pointer (some ⟨w.heap.size + 1 + 1, 0, none⟩), .pointer (some ⟨w.heap.size + 1 + 1 + 1, 0, none⟩), .pointer (some ⟨w.heap.size + 1, 0, none⟩)]] 108)) := by
  have k1 := Blk.new w 3 #[.int .i64 (vn : Int)]
  have b1 := (Below.refl w.heap.size w).alloc (Nat.le_refl _) (.cells #[.int .i64 (vn : Int)] 3)
  have z1 : (w.alloc (.cells #[.int .i64 (vn : Int)] 3)).heap.size = w.heap.size + 1 := by simp
  generalize (w.alloc (.cells #[.int .i64 (vn : Int)] 3)) = W1 at k1 b1 z1 ⊢
  have k2 := Blk.new W1 9 #[.string ⟨#[]⟩]
  have b2 := (Below.refl W1.heap.size W1).alloc (Nat.le_refl _) (.cells #[.string ⟨#[]⟩] 9)
  have z2 : (W1.alloc (.cells #[.string ⟨#[]⟩] 9)).heap.size = w.heap.size + 1 + 1 := by simp [z1]
  generalize (W1.alloc (.cells #[.string ⟨#[]⟩] 9)) = W2 at k2 b2 z2 ⊢
  have k3 := Blk.new W2 25 #[.slice none 0 0]
  have b3 := (Below.refl W2.heap.size W2).alloc (Nat.le_refl _) (.cells #[.slice none 0 0] 25)
  have z3 : (W2.alloc (.cells #[.slice none 0 0] 25)).heap.size = w.heap.size + 1 + 1 + 1 := by simp [z2]
  generalize (W2.alloc (.cells #[.slice none 0 0] 25)) = W3 at k3 b3 z3 ⊢
  generalize hv : (Value.func (.func 41) #[] #[.pointer (some ⟨w.heap.size, 0, none⟩), .pointer (some ⟨w.heap.size + 1 + 1, 0, none⟩), .pointer (some ⟨w.heap.size + 1 + 1 + 1, 0, none⟩), .pointer (some ⟨w.heap.size + 1, 0, none⟩)]) = cv
  have k4 := Blk.new W3 108 #[cv]
  have b4 := (Below.refl W3.heap.size W3).alloc (Nat.le_refl _) (.cells #[cv] 108)
  have z4 : (W3.alloc (.cells #[cv] 108)).heap.size = w.heap.size + 1 + 1 + 1 + 1 := by simp [z3]
  generalize (W3.alloc (.cells #[cv] 108)) = W4 at k4 b4 z4 ⊢
  have b34 := b3.trans (b4.mono b3.size)
  have b24 := b2.trans (b34.mono b2.size)
  have b14 := b1.trans (b24.mono b1.size)
  rw [z1] at k2
  rw [z2] at k3
  rw [z3] at k4
  refine ⟨⟨k1.below b24 k1.lt, by unfold rimV; rw [← hv] at k4; exact k4, ⟨.slice none 0 0, [], k3.below b4 k3.lt, ownT_nil _ _ _, tabs_nil _ _ _⟩, k2.below b34 k2.lt, ?_⟩, b14⟩
  simp only
  omega
set_option maxRecDepth 100000 in
set_option maxHeartbeats 8000000 in
theorem refImage_any {A : Ar} {vn sz : Nat} (x : Int) (p : Nat) (w : World) (hs : SpA A (vn : Int)) (hp : hasA A x = true) (h6 : vn ≤ 6) (hsz : 2 ^ vn = sz) (hf : Blk w p 4 (boolArr (tabH A vn x))) (hG : GlobT w) :
    Calls Tryz.prog 9 #[tabV sz p, .int .i64 (vn : Int)] w (fun e w' => e = .returned (.string ⟨(imgT A (vn : Int) x).toArray⟩) ∧ Below w.heap.size w w') := by
  obtain ⟨hI, hB⟩ := ri_start w A vn sz
  have hlt := hG.lt
  have hc := refImg1_all hs h6 hsz hlt (dep A x + 1) x 0 p [] _ (Nat.lt_succ_self _) hp (Nat.zero_le _) (hs.wf.topR x).1 (ksOk_nil A) hI (hf.below hB hf.lt) (hG.below hB)
  dsimp only at hc
  unfold tabV at hc ⊢
  rw [show ((0 : Nat) : Int) = 0 from rfl] at hc
  have HC := hide hc
  have HBW := hide hB
  have HG := hide hG
  have HSP := Lib.hid hs
  have HP := Lib.hid hp
  clear hI hB hc hG hf hs hp
  go_enter Tryz.func9, Tryz.ntmps9
  go_wp2_with fail
  generalize ((((w.alloc (.cells #[.int .i64 (vn : Int)] 3)).alloc (.cells #[.string ⟨#[]⟩] 9)).alloc (.cells #[.slice none 0 0] 25)).alloc (.cells #[.func (.func 41) #[] #[.pointer (some ⟨w.heap.size, 0, none⟩), .pointer (some ⟨w.heap.size + 1 + 1, 0, none⟩), .pointer (some ⟨w.heap.size + 1 + 1 + 1, 0, none⟩), .pointer (some ⟨w.heap.size + 1, 0, none⟩)]] 108)) = W at HC HBW ⊢
  refine (HC.out).mono ?_
  rintro e w2 ⟨rfl, hI2, hF2⟩
  have HI := hide hI2
  have HBE := hide (HBW.out.trans hF2.bel)
  have hw2 : w.heap.size ≤ w2.heap.size := HBE.out.size
  have HGT := hide (HG.out.below HBE.out)
  obtain ⟨ok1, in1, t1, z1, z2⟩ := img_ok HSP.out.wf _ x [] (Nat.le_refl _) HP.out (ksOk_nil A)
  have hfew := ok1.few
  have hbody := body_le HSP.out.wf ok1 (by rw [HSP.out.len]; omega)
  rw [HSP.out.len] at hfew
  clear hI2 hF2 HC HBW in1 ok1 z1 z2 t1
  obtain ⟨al, HAL⟩ : ∃ al, Hid (allI A (vn : Int) x = al) := ⟨_, Lib.hid rfl⟩
  have HGOAL := Lib.hid (show imgT A (vn : Int) x = al ++ tailI al by unfold imgT; rw [HAL.out])
  unfold allI at HAL
  obtain ⟨ks, HKS⟩ : ∃ ks, Hid (imgA A x [] = ks) := ⟨_, Lib.hid rfl⟩
  rw [HKS.out] at HI hfew hbody HAL ⊢
  have hnum := num_few ks x
  have hi0 : I64 (vn : Int) := by unfold I64; omega
  have hi1 : I64 (ks.length : Int) := by unfold I64; omega
  have hi2 : I64 (numI ks x : Int) := by unfold I64; omega
  have htl := text3_len (vn : Int) (ks.length : Int) (numI ks x : Int) hi0 hi1 hi2
  unfold headI at HAL
  obtain ⟨nx, HNX⟩ : ∃ nx, Hid ((numI ks x : Int) = nx) := ⟨_, Lib.hid rfl⟩
  rw [HNX.out] at HAL hi2 htl ⊢
  obtain ⟨bz, HBY⟩ : ∃ bz, Hid (bodyL A ks = bz) := ⟨_, Lib.hid rfl⟩
  rw [HBY.out] at HI HAL hbody
  obtain ⟨vd, gs, hd1, hd2, hd3⟩ := HI.out.hd
  obtain ⟨Ad, cd, rfl⟩ := hd2.len
  have hgl := hd3.len
  rw [List.length_map] at hgl
  rw [hgl] at hd1
  have HD1 := hide hd1
  have HKP := Lib.hid (fun (w' : World) (hb : Below w2.heap.size w2 w') => show w'.cell? ⟨w.heap.size, 0, none⟩ = some (.int .i64 (vn : Int)) ∧ w'.cell? ⟨w.heap.size + 1 + 1, 0, none⟩ = some (.slice Ad ks.length cd) ∧ w'.cell? ⟨w.heap.size + 1, 0, none⟩ = some (.string ⟨bz.toArray⟩) from
    ⟨(HI.out.hv.below hb HI.out.hv.lt).cell 0, (HD1.out.below hb HD1.out.lt).cell 0, (HI.out.hb.below hb HI.out.hb.lt).cell 0⟩)
  have HTO := Lib.hid (fun (w' : World) (hb : Below (w2.alloc (.cells #[.int .i64 (vn : Int), .int .i64 (ks.length : Int), .int .i64 nx] 3)).heap.size (w2.alloc (.cells #[.int .i64 (vn : Int), .int .i64 (ks.length : Int), .int .i64 nx] 3)) w') =>
    textW_any (some ⟨w2.heap.size, 0, none⟩) 3 3 [(vn : Int), (ks.length : Int), nx] w' (HGT.out.below (riThen ((Below.refl w2.heap.size w2).alloc (Nat.le_refl _) _) hb)) (three_ints w2 _ _ _ hi0 hi1 hi2 hb) (by omega))
  unfold ToldPost at HTO
  obtain ⟨tz, HTZ⟩ : ∃ tz, Hid (textF [(vn : Int), (ks.length : Int), nx] = tz) := ⟨_, Lib.hid rfl⟩
  rw [HTZ.out] at HTO HAL htl
  have q1 := ba_addRun [115, 112, 97, 99, 101, 32] tz (by simp; omega)
  have q2 := ba_addRun ([115, 112, 97, 99, 101, 32] ++ tz) [10] (by simp; omega)
  have q3 := ba_addRun ([115, 112, 97, 99, 101, 32] ++ tz ++ [10]) bz (by simp; omega)
  have e3 : ([115, 112, 97, 99, 101, 32] ++ tz ++ [10]) ++ bz = al := by rw [← HAL.out]; simp
  rw [e3] at q3
  have hall : al.length ≤ 600000 := by rw [← e3]; simp; omega
  generalize [115, 112, 97, 99, 101, 32] ++ tz ++ [10] = pz at q2 q3
  generalize [115, 112, 97, 99, 101, 32] ++ tz = oz at q1 q2
  obtain ⟨c0, c1, c2⟩ := HKP.out w2 (Below.refl _ _)
  clear e3 hd1 hd2 hd3 HD1 HTZ HBY HNX HAL hnum hi0 hi1 hi2 htl hbody
  go_wp2_with fail
  apply ri_dup
  · intro KK
    go_region_held3 (fun w' => w'.cell? ⟨w.heap.size, 0, none⟩ = some (.int .i64 (vn : Int)) ∧ w'.cell? ⟨w.heap.size + 1 + 1, 0, none⟩ = some (.slice Ad ks.length cd) ∧ w'.cell? ⟨w.heap.size + 1, 0, none⟩ = some (.string ⟨bz.toArray⟩))
      ((refine HKP.out _ ?_; (repeat (first | exact Below.refl _ _ | exact (Below.refl _ _).drew | exact hbq | refine riAl ?_ _ | refine riDr ?_)); done))
      (first
        | (go_at_call 17; refine (HTO.out _ ?_).mono ?_; (focus ((repeat (first | exact Below.refl _ _ | exact (Below.refl _ _).drew | refine riDr ?_)); done)); rintro e wa ⟨rfl, hq⟩; (refine (fun (hbq : Below w2.heap.size w2 wa) => ?_) ?_; rotate_left; (focus (refine riThen ?_ hq; (repeat (first | exact Below.refl _ _ | exact (Below.refl _ _).drew | refine riAl ?_ _ | refine riDr ?_)); done))); clear hq))
    all_goals
      have HBQ := hide hbq
      clear hbq
      revert HBQ
      generalize wa = wq
      revert wq
      exact KK
  intro wq HBQ
  clear c0 c1 c2 q1 q2 q3 HTO HKP
  have hsl := sum_lt al
  have hsu : I64 (sumB al : Int) := by unfold I64; omega
  have HSU := hide (refSum_any ⟨al.toArray⟩ wq (by rw [ba_size]; omega))
  have HTO := Lib.hid (fun (w' : World) (hb : Below (wq.alloc (.cells #[.int .i64 (sumB al : Int)] 3)).heap.size (wq.alloc (.cells #[.int .i64 (sumB al : Int)] 3)) w') =>
    textW_any (some ⟨wq.heap.size, 0, none⟩) 1 1 [(sumB al : Int)] w' (HGT.out.below (riThen HBQ.out (riThen ((Below.refl wq.heap.size wq).alloc (Nat.le_refl _) _) hb))) (one_int wq _ hsu hb) (by omega))
  unfold ToldPost at HTO
  rw [text_cons, if_pos rfl, List.append_nil] at HTO
  have hil := Lib.itoa_length_le (sumB al : Int) hsu.1 hsu.2
  have HEND := Lib.hid (show al ++ [115, 117, 109, 32] ++ Lib.itoa (sumB al : Int) ++ [10] = imgT A (vn : Int) x by
    rw [HGOAL.out]
    unfold tailI
    simp)
  have q4 := ba_addRun al [115, 117, 109, 32] (by simp; omega)
  have q5 := ba_addRun (al ++ [115, 117, 109, 32]) (Lib.itoa (sumB al : Int)) (by simp; omega)
  have q6 := ba_addRun (al ++ [115, 117, 109, 32] ++ Lib.itoa (sumB al : Int)) [10] (by simp; omega)
  rw [HEND.out] at q6
  clear HEND HGOAL
  obtain ⟨fz, HFZ⟩ : ∃ fz, Hid (imgT A (vn : Int) x = fz) := ⟨_, Lib.hid rfl⟩
  rw [HFZ.out] at q6
  generalize al ++ [115, 117, 109, 32] ++ Lib.itoa (sumB al : Int) = ez at q5 q6
  generalize Lib.itoa (sumB al : Int) = iz at q5 HTO hil
  generalize al ++ [115, 117, 109, 32] = dz at q4 q5
  go_wp2_with fail
  refine (HSU.out).mono ?_
  rintro e w7 ⟨rfl, rfl⟩
  go_wp2_with fail
  refine (HTO.out _ (Below.refl _ _)).mono ?_
  rintro e w8 ⟨rfl, hq⟩
  have HB8 := hide (riThen HBQ.out (riThen ((Below.refl wq.heap.size wq).alloc (Nat.le_refl _) _) hq))
  clear hq
  go_wp2
  go_ret
  exact ⟨by rw [HFZ.out]; rfl, HBE.out.trans (HB8.out.mono hw2)⟩
end Go.Proofs.YtdlcldhnbhlikaaGreatDoor
