/-
  A family's Hits.
-/
import Derived.Test.YtdlcldhnbhlikaaDoorFamCopy
import Derived.Test.YtdlcldhnbhlikaaDoorFamLs
import Derived.Test.YtdlcldhnbhlikaaDoorBerge
namespace Go.Proofs.YtdlcldhnbhlikaaDoor
open Go.RowKit Go.Maps

theorem shr_bit0 (v x : Nat) (hv : v < 18446744073709551616) : (bits BinOp.and IntKind.u64 ((v : Int) / 2 ^ x) 1 == 0) = !v.testBit x := by
  have e : ((v : Int) / 2 ^ x) = ((v >>> x : Nat) : Int) := by rw [Nat.shiftRight_eq_div_pow]; norm_cast
  have hl : v >>> x < 18446744073709551616 := Nat.lt_of_le_of_lt (Nat.shiftRight_le v x) hv
  rw [e, show (1 : Int) = ((1 : Nat) : Int) from rfl, bits_and_u64_nat _ _ hl (by omega), Nat.testBit, Nat.and_comm]
  have h1 : 1 &&& v >>> x = 0 ∨ 1 &&& v >>> x = 1 := by rw [Nat.one_and_eq_mod_two]; omega
  rcases h1 with h1 | h1 <;> rw [h1] <;> rfl
/-- A map's literal of ints, one key. -/
theorem insertI {w : World} {g m : Nat} {f : Int → Option Int} {ops : Array Oper} {rest : List Oper} {o : Oper} {a : Act} {Q : Exit → Act → World → Prop} (hg : o.guard = none) (mo xo yo : Operand) (t : TypeId) (hop : o.op = Op.insert t mo xo yo) (ht : Tryd.prog.underlying t = some (.map 3 3))
    (hm : a.eval mo = .map (some g)) (h : MapV 3 keyL I64 w g f m) (x z : Int) (hx : a.eval xo = .int .i64 x) (hy : a.eval yo = .int .i64 z) (hi : I64 x) (hz : I64 z) (hs : m ≤ 1000000)
    (hK : ∀ w', MapV 3 keyL I64 w' g (fun y => if y = x then some z else f y) (m + 1) → w.grownBy w' (some g) → wpList Tryd.prog ops Q rest (a.put o.dst undef) w') : wpList Tryd.prog ops Q (o :: rest) a w := by
  obtain ⟨D, h1, h2⟩ := h
  refine wpList_plain hg fun K' hK' => ?_
  obtain ⟨w', hrun, r1, r2⟩ := h1.update keyS_int.K ht (by simp only [maxLen]; omega) (keyS_int.of x hi) (plainElem_int Tryd.underlying3 (wfK hz))
  unfold Oper.wp
  simp [execOp, hop, hm, hx, hy, hrun, Result.andThen]
  exact hK' _ _ (hK w' ⟨_, r1, h2.put keyS_int hi⟩ r2)
/-- Where the sets of one thing stand. -/
structure InnI (w1 : World) (S B gn gu gt vn : Nat) (T0 : Ar) (s k : Nat) (hv : Value) (wr : World) : Prop where
  is : ∃ T one, hv = .int .i64 one ∧ FsM wr S B gn gu gt (vn : Int) T ∧ ExtA T0 T ∧ low3 T ≤ low3 T0 + 45 * k ∧ hasA T one = true ∧ ∀ u, fam T one u = oneG s k u
  fr : Fr (arB B gn gu gt) w1 wr
/-- Where the sets that hit stand. -/
structure HitI (w1 : World) (S B gn gu gt vn : Nat) (l : List Nat) (i : Nat) (ov : Value) (wr : World) : Prop where
  is : ∃ T o, ov = .int .i64 o ∧ FsM wr S B gn gu gt (vn : Int) T ∧ low3 T ≤ 7 ∧ hasA T o = true ∧ ∀ u, fam T o u = leastG (transL vn (l.take i)) u
  fr : Fr (arB B gn gu gt) w1 wr
theorem fam_pow {A : Ar} {vn : Nat} {x : Int} (hs : SpZ A (vn : Int)) (s : Nat) (hf : fam A x s = true) : s < 2 ^ vn :=
  Nat.lt_pow_two_of_testBit _ fun y hy => fam_bits hs.wf hs.var _ x s (Nat.le_refl _) hf y (by omega)
theorem hit_row {w : World} (x : Int) : RowI (w.alloc (.cells #[.int .i64 x] 3)) (some ⟨w.heap.size, 0, none⟩) 1 [x] := by
  have h := blk_reads (zs := [x]) (Blk.new w 3 #[.int .i64 x])
  exact ⟨rfl, h.more (by simp)⟩
/-- What Hits answers: the least sets that have something of each, as a family of the store. -/
def HitsP (w : World) (S B gn gu gt vn : Nat) (A : Ar) (F : Nat → Bool) (e : Ending) (w' : World) : Prop :=
  ∃ A' k, e = .returned (.tuple #[.int .i64 k, .nilIface]) ∧ FsM w' S B gn gu gt (vn : Int) A' ∧ ExtA A A' ∧ hasA A' k = true ∧ (∀ u, fam A' k u = leastG (transG vn F) u) ∧ low3 A' ≤ low3 A + 42 ∧ Fr (arB B gn gu gt) w w'
section
variable (S B gn gu gt vn : Nat) (A : Ar) (w : World)
set_option maxRecDepth 100000 in
set_option maxHeartbeats 8000000 in
theorem fzHits_any (x : Int) (h : FsM w S B gn gu gt (vn : Int) A) (p : hasA A x = true) (hlow : low3 A + 42 ≤ 2000) :
    Calls Tryd.prog 15 #[.pointer (some ⟨S, 0, none⟩), .int .i64 x] w (HitsP w S B gn gu gt vn A (fam A x)) := by
  have hmm := @run_makeMap Tryd.prog
  have h6 := h.t6
  have hv6 : vn ≤ 6 := by omega
  have HLS := hide (fzList_any S B gn gu gt (vn : Int) A w x 65536 h p)
  have HW := hide h
  have HDM := Lib.hid (fun s (e : fam A x s = true) => fam_pow h.sp s e)
  have HD64 := Lib.hid (fun s (e : fam A x s = true) => fam_dom h.toV.wf h.toV.va s e)
  obtain ⟨F, HFE⟩ : ∃ F, Hid (fam A x = F) := ⟨_, Lib.hid rfl⟩
  rw [HFE.out] at HLS HDM HD64 ⊢
  clear h p
  go_enter Tryd.func15, Tryd.ntmps15
  go_wp2_with fail
  refine (HLS.out).mono ?_
  rintro e w1 ⟨⟨_, vl, rfl, hvl⟩ | ⟨hbad, _⟩, hb1⟩
  case inr => have := sets_len F; unfold numS at hbad; omega
  obtain ⟨Al, cl, rfl⟩ := hvl.len
  have HVL := hide hvl
  have HB1 := hide hb1
  have HW1 := hide (HW.out.below hb1)
  have s1 := HW1.out.kS.cell 1
  have HNW := hide (fzNew_any vn hv6 w1)
  have hlen := sets_len F
  have HLM := Lib.hid (fun s (hs : s ∈ setsL F) => HDM.out s (setsL_in.1 hs).2)
  have HL64 := Lib.hid (fun s (hs : s ∈ setsL F) => (setsL_in.1 hs).1)
  clear hvl hb1 HLS HW
  go_wp2_with fail
  refine (HNW.out).mono ?_
  rintro e w2 ⟨S', B', gn', gu', gt', rfl, hN⟩
  have HN2 := hide hN
  have HST := hide (show HitI w2 S' B' gn' gu' gt' vn (setsL F) 0 (.int .i64 1) w2 from ⟨⟨emptyA 4000, 1, rfl, hN.sp, by rw [low3_empty]; omega, has_ends.2, fun u => by rw [fam_one, List.take_zero, berge_nil]; rfl⟩, .refl _ _⟩)
  clear hN HNW s1
  obtain ⟨L, HL⟩ : ∃ L, Hid (setsL F = L) := ⟨_, Lib.hid rfl⟩
  rw [HL.out] at HVL hlen HLM HL64 HST ⊢
  have HKB := Lib.hid (fun (wr : World) (hf : Fr (arB B' gn' gu' gt') w2 wr) => show Below w1.heap.size w1 wr from HN2.out.bel.trans (hf.to_below HN2.out.bel.size fun k hk hk2 => by have := HN2.out.own k (.inl hk2); omega))
  go_wp2
  go_loopw [9, 38] (fun ov iv wr => ∃ i : Nat, i ≤ L.length ∧ iv = .int .i64 (i : Int) ∧ Hid (HitI w2 S' B' gn' gu' gt' vn L i ov wr)) (fun _ iv _ => L.length - (intOf iv).toNat)
  case atStart => exact ⟨0, Nat.zero_le _, rfl, HST⟩
  case round =>
    clear HST
    obtain ⟨i, hi, rfl, hI⟩ := hrel
    obtain ⟨T0, o, rfl, ht0, hl0, hp0, hf0⟩ := hI.out.is
    have hbr := HKB.out wr hI.out.fr
    by_cases hlt : i < L.length
    · have hiI : (i : Int) < (L.length : Int) := by omega
      obtain ⟨gl, cl', el, hcl, hgl⟩ := (HVL.out.below hbr).at_ hlt
      cases el
      have hmem : L.getD i 0 ∈ L := by
        rw [List.getD_eq_getElem?_getD, List.getElem?_eq_getElem hlt]
        exact List.getElem_mem hlt
      have hs1 := HLM.out _ hmem
      have hs64 := HL64.out _ hmem
      have HTK := Lib.hid (show L.take (i + 1) = L.take i ++ [L.getD i 0] by rw [List.take_add_one, List.getD_eq_getElem?_getD, List.getElem?_eq_getElem hlt]; rfl)
      generalize L.getD i 0 = s at hcl hs1 hs64 HTK
      have st1 := (HW1.out.below hbr).kS.cell 1
      have HFR := hide hI.out.fr
      have HT0 := hide ht0
      have HP0 := Lib.hid hp0
      have HF0 := Lib.hid hf0
      have HII := hide (show InnI wr S' B' gn' gu' gt' vn T0 s 0 (.int .i64 0) wr from ⟨⟨T0, 0, rfl, ht0, .refl T0, by omega, has_ends.1, fun u => by rw [fam_zero, oneG_zero]; rfl⟩, .refl _ _⟩)
      obtain ⟨w3, rfl⟩ : ∃ w3, w3 = wr := ⟨_, rfl⟩
      clear hI ht0 hp0 hf0
      go_wp2
      go_loopw [12, 46] (fun ov iv wr => ∃ k : Nat, k ≤ vn ∧ iv = .int .i64 (k : Int) ∧ Hid (InnI w3 S' B' gn' gu' gt' vn T0 s k ov wr)) (fun _ iv _ => vn - (intOf iv).toNat)
      case atStart => exact ⟨0, Nat.zero_le _, rfl, HII⟩
      case round =>
        clear HII
        obtain ⟨k, hk, rfl, hJ⟩ := hrel
        obtain ⟨T, one, rfl, ht, hx, hl, hp, hf⟩ := hJ.out.is
        by_cases hkl : k < vn
        · have hkI : (k : Int) < (vn : Int) := by omega
          have hbit := shr_bit0 s k (by omega)
          have hmin : min k 64 = k := by omega
          obtain ⟨hp1, _⟩ := pow_u6 k (by omega)
          have HFJ := hide hJ.out.fr
          cases hb : s.testBit k
          · rw [hb] at hbit
            have HN := hide (show InnI w3 S' B' gn' gu' gt' vn T0 s (k + 1) (.int .i64 one) wr from ⟨⟨T, one, rfl, ht, hx, by omega, hp, fun u => by rw [hf, oneG_not hb]⟩, HFJ.out⟩)
            clear hJ ht hx hp hf hl
            go_wp2
            go_roundw
            case rel => exact ⟨k + 1, by omega, by go_num, HN⟩
            case measure => simp [intOf]; omega
          · rw [hb] at hbit
            have hpk : 2 ^ k < 2 ^ vn := Nat.pow_lt_pow_right (by decide) hkl
            have HON := hide (fzOne_any S' B' gn' gu' gt' T wr vn (2 ^ k) ht hpk (by omega))
            have HPUT := Lib.hid (fun u => oneG_put hb u)
            have HT := hide ht
            have HX := hide hx
            have HP := Lib.hid hp
            have HFF := Lib.hid hf
            generalize (2 ^ k : Nat) = pk at hp1 HON HPUT
            clear hJ ht hx hp hf hpk
            go_wp2_with fail
            refine (HON.out).mono ?_
            rintro e w5 ⟨T1, y1, rfl, hs1', T1s, hf1⟩
            have hpo : hasA T1 one = true := T1s.ext.has HP.out
            have hfew1 := T1s.few
            have HOR := hide (fzOr_in S' B' gn' gu' gt' (vn : Int) T1 w5 one y1 hs1' hpo T1s.has (by have := c2_le (topZ_nn hs1'.sp.wf one y1); omega))
            have hfo : ∀ u, fam T1 one u = oneG s k u := fun u => by rw [HT.out.sp.same hs1'.sp T1s.ext HP.out]; exact HFF.out u
            have HFO := Lib.hid hfo
            have HY1 := Lib.hid T1s.fam
            have HX1 := hide (HX.out.trans T1s.ext)
            have HF1 := hide (HFJ.out.trans hf1)
            have hc2 := c2_le (topZ_nn hs1'.sp.wf one y1)
            clear hs1' T1s hf1 HON hfo
            go_wp2_with fail
            refine (HOR.out).mono ?_
            rintro e w6 ⟨T2, y2, rfl, hs2', T2s, hf2⟩
            have hfew2 : low3 T2 ≤ low3 T1 + c2N (kT (topZ T1 one y1)) := T2s.few
            have hfam2 : ∀ u, fam T2 y2 u = (fam T1 one u || fam T1 y1 u) := T2s.fam
            have HN := hide (show InnI w3 S' B' gn' gu' gt' vn T0 s (k + 1) (.int .i64 y2) w6 from ⟨⟨T2, y2, rfl, hs2', HX1.out.trans T2s.ext, by omega, T2s.has, fun u => by rw [hfam2, HFO.out, HY1.out, HPUT.out]⟩, HF1.out.trans hf2⟩)
            clear hs2' T2s hf2 HOR HX1 HF1 hfam2
            go_wp2
            go_roundw
            case rel => exact ⟨k + 1, by omega, by go_num, HN⟩
            case measure => simp [intOf]; omega
        · obtain rfl : k = vn := by omega
          have hpo : hasA T o = true := hx.has HP0.out
          have hfo : ∀ u, fam T o u = leastG (transL k (L.take i)) u := fun u => by rw [HT0.out.sp.same ht.sp hx HP0.out]; exact HF0.out u
          have HJN := hide (fzJoin_any S' B' gn' gu' gt' (k : Int) T wr o one ht hpo hp (by have := c4_le (topZ_nn ht.sp.wf o one); omega))
          have hc4 := c4_le (topZ_nn ht.sp.wf o one)
          have HFO := Lib.hid hfo
          have HFF := Lib.hid hf
          have HFJ := hide (HFR.out.trans hJ.out.fr)
          clear hJ ht hx hp hf hpo hfo
          go_wp2_with fail
          refine (HJN.out).mono ?_
          rintro e w5 ⟨T1, y1, rfl, hs1', T1s, hf1⟩
          have hfew1 : low3 T1 ≤ low3 T + c4N (kT (topZ T o one)) := T1s.few
          have hfam1 : ∀ u, fam T1 y1 u = joinG (fam T o) (fam T one) u := T1s.fam
          have HLT := hide (fzLeast_any S' B' gn' gu' gt' (k : Int) T1 w5 y1 hs1' T1s.has (by have := ls_le ((hs1'.sp.wf.topR y1).1); omega))
          have hls := ls_le ((hs1'.sp.wf.topR y1).1)
          have HFM := Lib.hid (show fam T1 y1 = joinG (leastG (transL k (L.take i))) (oneG s k) from funext fun u => by rw [hfam1, show fam T o = leastG (transL k (L.take i)) from funext HFO.out, show fam T one = oneG s k from funext HFF.out])
          have HF1 := hide (HFJ.out.trans hf1)
          clear hs1' T1s hf1 HJN hfam1
          go_wp2_with fail
          refine (HLT.out).mono ?_
          rintro e w6 ⟨T2, y2, rfl, hs2', T2s, hf2⟩
          have hfam2 : ∀ u, fam T2 y2 u = leastG (transL k (L.take (i + 1))) u := fun u => by
            have h1 : fam T2 y2 u = leastG (fam T1 y1) u := T2s.fam u
            rw [h1, HFM.out, berge_snoc hs1, HTK.out]
          have HF2 := hide (HF1.out.trans hf2)
          have hba := (Below.refl w6.heap.size w6).alloc (Nat.le_refl _) (.cells #[.int .i64 y2] 3)
          have hs3 := hs2'.below hba
          have HSW := hide (arSweep_any B' gn' gu' gt' T2 (some ⟨w6.heap.size, 0, none⟩) 1 1 [y2] _ hs3.ar (hit_row y2) (by intro z hz; rw [List.mem_singleton.1 hz]; exact hs2'.i64 T2s.has) (by omega) (fun e => by cases e))
          have HS3 := hide hs3
          have t0 := hs2'.kS.cell 0
          have HF3 := hide (HF2.out.alloc (.cells #[.int .i64 y2] 3))
          have HH2 := Lib.hid T2s.has
          have HFA := Lib.hid hfam2
          clear hs2' T2s hf2 hba hs3 HLT HF1 HF2 hfam2 HFJ
          go_wp2_with fail
          refine (HSW.out).mono ?_
          rintro e w7 ⟨rfl, ha, hf7⟩
          have HN := hide (show HitI w2 S' B' gn' gu' gt' k L (i + 1) (.int .i64 y2) w7 from ⟨⟨sweepA T2 [y2], y2, rfl, HS3.out.arena ha (HS3.out.sp.sweep [y2]) hf7, low3_sweep HS3.out.sp.wf, sweep_has (List.mem_singleton.2 rfl) HH2.out, fun u => by rw [sweep_fam HS3.out.sp (List.mem_singleton.2 rfl) HH2.out]; exact HFA.out u⟩, HF3.out.trans hf7⟩)
          clear ha hf7 HSW t0
          go_wp2
          go_roundw
          case rel => exact ⟨i + 1, by omega, by go_num, HN⟩
          case measure => simp [intOf]; omega
    · obtain rfl : i = L.length := by omega
      have hws := HW1.out.below hbr
      rw [List.take_length] at hf0
      have HTR := Lib.hid (show transL vn L = transG vn F by rw [← HL.out]; exact trans_sets HD64.out)
      have HM1 := hide (mapV_made (kt := 3) (lit := keyL) (ok := I64) wr)
      have hal := (Below.refl wr.heap.size wr).alloc (Nat.le_refl _) (.map #[] 0)
      have hapN := HN2.out.own
      have hapS : ∀ k, arB B gn gu gt k ∨ k = S → k < w1.heap.size := fun k hk => hk.elim (fun h1 => HW1.out.ar.lt h1) fun e => by rw [e]; exact HW1.out.kS.lt
      have HAP := Lib.hid (show ∀ k, arB B gn gu gt k → ¬ (arB B' gn' gu' gt' k ∨ k = S') from fun k hk hk2 => by have := hapS k (.inl hk); have := hapN k hk2; omega)
      have HS := hide hws
      have HT := hide ht0
      have HP := Lib.hid hp0
      have HF := Lib.hid hf0
      have HBR := hide (HB1.out.trans (hbr.mono HB1.out.size))
      have HGD := Lib.hid (show w.heap.size ≤ wr.heap.size from HBR.out.size)
      have hb1 : Below wr.heap.size wr (wr.alloc (.map #[] 0)) := hal
      have HBA := hide hb1
      clear hI hws ht0 hp0 hf0 hbr hapN hapS hal hb1
      go_wp2_with (first
        | (refine insertI rfl _ _ _ 85 rfl Tryd.underlying85 rfl HM1.out 0 0 rfl rfl (by unfold I64; omega) (by unfold I64; omega) (by omega) ?_; intro wi hmi hgi; have HM2 := hide hmi; have HG2 := hide hgi; clear hmi hgi; refine insertI rfl _ _ _ 85 rfl Tryd.underlying85 rfl HM2.out 1 1 rfl rfl (by unfold I64; omega) (by unfold I64; omega) (by omega) ?_; intro wj hmj hgj; have HM3 := hide hmj; have HG3 := hide hgj; clear hmj hgj)
        | fail)
      have hb2 := (HBA.out.grown HG2.out HBA.out.size (fun j hj => by cases hj; exact Nat.le_refl _)).grown HG3.out (Nat.le_trans HBA.out.size HG2.out.size) (fun j hj => by cases hj; exact Nat.le_refl _)
      have hok : ∀ y z : Int, (if y = 1 then some 1 else if y = 0 then some 0 else none : Option Int) = some z → hasA A z = true ∧ topA T0 y ≤ topA A z ∧ ∀ u, fam A z u = fam T0 y u := fun y z e => by
        by_cases e1 : y = 1
        · subst e1
          rw [if_pos rfl] at e
          cases e
          exact ⟨has_ends.2, by rw [top_one, top_one]; omega, fun u => by rw [fam_one, fam_one]⟩
        · rw [if_neg e1] at e
          by_cases e0 : y = 0
          · subst e0
            rw [if_pos rfl] at e
            cases e
            exact ⟨has_ends.1, by rw [top_zero, top_zero]; omega, fun u => by rw [fam_zero, fam_zero]⟩
          · rw [if_neg e0] at e
            cases e
      have hcp : CpI S B gn gu gt S' B' gn' gu' gt' wr.heap.size (vn : Int) T0 A (fun y => if y = 1 then some 1 else if y = 0 then some 0 else none) (0 + 1 + 1) wj := ⟨HS.out.below hb2, HT.out.below hb2, HM3.out, hok, ⟨by simp, by simp⟩, HAP.out⟩
      have hc2 := c2_le ((HT.out.sp.wf.topR o).1)
      have hlv : 2 ^ lvT (topA T0 o) ≤ 2 ^ 6 := Nat.pow_le_pow_right (by decide) (by have := (HT.out.sp.wf.topR o).1; unfold lvT; omega)
      have h64 : (2 : Nat) ^ 6 = 64 := by decide
      have HCP := hide (copy_all S B gn gu gt S' B' gn' gu' gt' wr.heap.size (vn : Int) T0 _ o A _ (0 + 1 + 1) wj (Nat.le_refl _) HP.out hcp (by omega) (by omega))
      have HBJ := hide (HBR.out.trans (hb2.mono HBR.out.size))
      clear hcp hok hb2 hlv h64 HS HAP HM1 HM2 HM3 HG2 HG3
      generalize wr.heap.size = gd at HCP HGD ⊢
      go_wp2_with fail
      refine (HCP.out).mono ?_
      rintro e w9 ⟨A9, k9, f9, m9, rfl, hI9, hx9, hl9, ⟨hp9, _, hf9⟩, _, hfr9⟩
      have HQ := hide (show HitsP w S B gn gu gt vn A F (.returned (.tuple #[.int .i64 k9, .nilIface])) w9 from ⟨A9, k9, rfl, hI9.s, hx9, hp9, fun u => by rw [hf9, HF.out, HTR.out], by omega, (Fr.of_below HBJ.out (Nat.le_refl _)).and_ hfr9 fun j hj hk => hk.elim (fun h1 => h1) fun e => by
        have e : j = gd := e
        have := HGD.out
        omega⟩)
      clear hI9 hx9 hp9 hf9 hfr9 HCP
      go_wp2
      go_ret2
      exact HQ.out
end
end Go.Proofs.YtdlcldhnbhlikaaDoor
