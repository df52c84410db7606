/-
  A part of the proof: RefChg, SameInts. Conditions: none.
-/
import Derived.Test.YtmncoldaemcnlaaGreatDoorOrRefOrd
import Derived.Test.YtmncoldaemcnlaaGreatDoorOrPlanChg
import Derived.Test.YtmncoldaemcnlaaGreatDoorOrOwnIs
namespace Go.Proofs.YtmncoldaemcnlaaGreatDoor
open Go.RowKit
open Classical
set_option maxRecDepth 100000
theorem shr_bit0 (v x : Nat) (hv : v < 18446744073709551616) : (bits BinOp.and IntKind.u64 ((v : Int) / 2 ^ x) 1 == 0) = !v.testBit x := by
 have e : ((v : Int) / 2 ^ x) = ((v >>> x : Nat) : Int) := by rw [Nat.shiftRight_eq_div_pow]; norm_cast
 have hl : v >>> x < 18446744073709551616 := Nat.lt_of_le_of_lt (Nat.shiftRight_le v x) hv
 rw [e, show (1 : Int) = ((1 : Nat) : Int) from rfl, bits_and_u64_nat _ _ hl (by omega), Nat.testBit, Nat.and_comm]
 have h1 : 1 &&& v >>> x = 0 ∨ 1 &&& v >>> x = 1 := by rw [Nat.one_and_eq_mod_two]; omega
 rcases h1 with h1 | h1 <;> rw [h1] <;> rfl
def RChgP (p : List Int × Int) (w : World) (e : Ending) (w' : World) : Prop := ∃ v, e = .returned (.tuple #[v, .int .i64 p.2]) ∧ OwnI w' w.heap.size v p.1 ∧ Below w.heap.size w w'
theorem goI_step (tu : Nat) (a : List Nat) {i : Nat} (h : i < a.length) : (goS tu (a.drop i)).map stI = (goS tu (a.drop (i + 1))).map stI ++ if tu.testBit a[i] = true then [] else [-((a[i] : Int) + 1)] := by
 rw [goS_step tu a h, List.map_append]
 congr 1
 cases tu.testBit a[i] <;> rfl
theorem comeI_step (frm : Nat) (b : List Nat) {i : Nat} (h : i < b.length) : (comeS frm (b.take (i + 1))).map stI = (comeS frm (b.take i)).map stI ++ if frm.testBit b[i] = true then [] else [(b[i] : Int) + 1] := by
 rw [comeS_step frm b h, List.map_append]
 congr 1
 cases frm.testBit b[i] <;> rfl
theorem goI_len (tu : Nat) (a : List Nat) : ((goS tu a).map stI).length ≤ a.length := by
 unfold goS goF
 rw [List.length_map, List.length_map]
 refine Nat.le_trans (List.length_filter_le _ _) ?_
 rw [List.length_reverse]
 exact Nat.le_refl _
theorem comeI_len (frm : Nat) (b : List Nat) : ((comeS frm b).map stI).length ≤ b.length := by
 unfold comeS comeF
 rw [List.length_map, List.length_map]
 exact List.length_filter_le _ _
set_option maxHeartbeats 8000000 in
theorem refChange_any (v : Value) (qs : List LnQ) (its0 : List ItR) (frm tu : Nat) (w : World) (h : LnsR w 0 v qs) (hc : catR (qs.map (·.1)) = .inr its0) (hs : frm < 18446744073709551616) (ht : tu < 18446744073709551616) :
  Calls Tryz.prog 38 #[v, .int .u64 (frm : Int), .int .u64 (tu : Int)] w (RChgP (changeF (itemsF (qs.map (·.1))) (qs.map (·.1)) frm tu) w) := by
 have HO1 := hide (refOrder_any v qs its0 frm w h hc hs)
 have HO2 := hide (fun W (h : LnsR W 0 v qs) => refOrder_any v qs its0 tu W h hc ht)
 obtain ⟨h24, _⟩ := catR_few hc
 have HL := hide h
 unfold ROrdP at HO1 HO2
 have hof := orderF_in (its := itemsF (qs.map (·.1))) (ls := qs.map (·.1)) (set := frm)
 have hot := orderF_in (its := itemsF (qs.map (·.1))) (ls := qs.map (·.1)) (set := tu)
 obtain ⟨p, hp⟩ : ∃ p, changeF (itemsF (qs.map (·.1))) (qs.map (·.1)) frm tu = p := ⟨_, rfl⟩
 rw [hp]
 unfold changeF at hp
 generalize orderF (itemsF (qs.map (·.1))) (qs.map (·.1)) frm = pf at HO1 hof hp
 generalize orderF (itemsF (qs.map (·.1))) (qs.map (·.1)) tu = pt at HO2 hot hp
 generalize (itemsF (qs.map (·.1))).length = n at h24 hof hot
 obtain ⟨a, ea⟩ := pf
 obtain ⟨b, eb⟩ := pt
 simp only [] at HO1 HO2 hof hot hp
 have HP := Lib.hid hp
 obtain ⟨A, c, rfl, _⟩ := h.1.len
 clear h hc hp
 go_enter Tryz.func38, Tryz.ntmps38
 go_wp2_with fail
 refine HO1.out.mono ?_
 rintro e w1 ⟨va, rfl, hoa, hb1⟩
 have HB1 := hide hb1
 have HA1 := hide (hoa.mono (Nat.zero_le _))
 clear hoa hb1 HO1
 by_cases hea : ea = 0
 ·subst hea
  go_wp2_with fail
  refine (HO2.out _ (HL.out.below HB1.out)).mono ?_
  rintro e w2 ⟨vb, rfl, hob, hb2⟩
  have HB2 := hide (HB1.out.trans (hb2.mono HB1.out.size))
  have HA2 := hide (HA1.out.below hb2)
  have HV2 := hide (hob.mono (Nat.zero_le _))
  clear hob hb2 HO2 HB1 HA1
  by_cases heb : eb = 0
  ·subst heb
   have HPE := Lib.hid (show p = (stepsI (goF tu a) (comeF frm b), 0) by rw [← HP.out]; rfl)
   obtain ⟨Aa, ca, rfl⟩ := HA2.out.len
   obtain ⟨Ab, cb, rfl⟩ := HV2.out.len
   rw [natI_len, natI_len]
   go_wp2_with fail
   go_loopw [11, 12] (fun v11 i12 wr => ∃ i : Nat, i ≤ a.length ∧ i12 = .int .i64 ((i : Int) - 1) ∧ Hid (OwnI wr w2.heap.size v11 ((goS tu (a.drop i)).map stI)) ∧ Hid (Below w2.heap.size w2 wr)) (fun _ i12 _ => (intOf i12 + 1).toNat)
   case atStart => exact ⟨a.length, Nat.le_refl _, rfl, hide (by rw [List.drop_length]; exact ownI_nil _ _), hide (Below.refl _ _)⟩
   case round =>
    obtain ⟨i, hi, h12, HO, HW⟩ := hrel
    cases i with
    | zero =>
     have h12 : u12 = .int .i64 (-1) := h12
     subst h12
     have HO0 := hide (show OwnI wr w2.heap.size u11 ((goS tu a).map stI ++ (comeS frm (b.take 0)).map stI) by rw [show (comeS frm (b.take 0)).map stI = [] from rfl, List.append_nil]; exact HO.out)
     clear HO
     go_wp2_with fail
     go_loopw [11, 59] (fun v11 iv wr => ∃ i : Nat, i ≤ b.length ∧ iv = .int .i64 i ∧ Hid (OwnI wr w2.heap.size v11 ((goS tu a).map stI ++ (comeS frm (b.take i)).map stI)) ∧ Hid (Below w2.heap.size w2 wr)) (fun _ iv _ => b.length - (intOf iv).toNat)
     case atStart => exact ⟨0, Nat.zero_le _, rfl, HO0, HW⟩
     case round =>
      clear HO0 HW
      obtain ⟨i, hi, rfl, HO, HW⟩ := hrel
      by_cases hlt : i < b.length
      ·have hltz : (i : Int) < (b.length : Int) := by omega
       obtain ⟨gb, capb, cur, e9, _, hkb, _, hcb⟩ := OwnI.form (HV2.out.below HW.out) (by rw [natI_len]; omega)
       injection e9 with e1 e2 e3
       subst e1
       have hx : (natI b)[i]'(by rw [natI_len]; exact hlt) = ((b[i] : Nat) : Int) := List.getElem_map ..
       have y0 := (hkb.cell i).trans (hcb i (by rw [natI_len]; exact hlt))
       rw [List.getD_eq_getElem?_getD, List.getElem?_eq_getElem (by rw [natI_len]; exact hlt), Option.getD_some, hx] at y0
       have hbin := hot.1 _ (List.getElem_mem hlt)
       have hst := comeI_step frm b hlt
       generalize b[i] = x at y0 hbin hst
       have hm : min x 64 = x := Nat.min_eq_left (by omega)
       have hbit := shr_bit0 frm x hs
       clear hx hkb hcb e2 e3
       cases hb : frm.testBit x with
       | true =>
        rw [hb] at hbit
        rw [if_pos hb, List.append_nil] at hst
        have HON := hide (show OwnI wr w2.heap.size u11 ((goS tu a).map stI ++ (comeS frm (b.take (i + 1))).map stI) by rw [hst]; exact HO.out)
        clear hb hst
        go_wp2_with fail
        go_round
        case rel => exact ⟨i + 1, by omega, by go_num, HON, HW⟩
        case measure => simp [intOf]; omega
       | false =>
        rw [hb] at hbit
        rw [if_neg (by rw [hb]; exact fun e => Bool.noConfusion e)] at hst
        have HST := Lib.hid hst
        have HLN := Lib.hid (show ((goS tu a).map stI ++ (comeS frm (b.take i)).map stI).length + 1 ≤ 10000000000 by
         rw [List.length_append]
         have h1 := goI_len tu a
         have h2 := comeI_len frm (b.take i)
         rw [List.length_take] at h2
         have := hof.2
         have := hot.2
         omega)
        have hal := (Below.refl wr.heap.size wr).alloc (Nat.le_refl _) (.cells #[.int .i64 ((x : Int) + 1)] 3)
        have HOA := hide (HO.out.below hal)
        have HBA := hide (HW.out.alloc HW.out.size (.cells #[.int .i64 ((x : Int) + 1)] 3))
        have HRA := hide (blk_reads (zs := [(x : Int) + 1]) (Blk.new wr 3 #[.int .i64 ((x : Int) + 1)]))
        clear hb hst hal
        go_wp2_with (at_builtin; refine appI _ rfl _ _ _ rfl w2.heap.size Tryz.underlying24 _ ((goS tu a).map stI ++ (comeS frm (b.take i)).map stI) rfl HOA.out (wr.heap.size + 1) (some ⟨wr.heap.size, 0, none⟩) 1 1 [(x : Int) + 1] rfl HRA.out rfl HLN.out HBA.out.size ?_; intro v9 w9 ho9 hg9 _; have HO9 := hide ho9; have HB9 := hide (HBA.out.grown hg9 HBA.out.size (fun k hk => (World.ownsRow.lt HOA.out k hk).1)); clear ho9 hg9)
        go_round
        case rel => exact ⟨i + 1, by omega, by go_num, by rw [HST.out, ← List.append_assoc]; exact HO9, HB9⟩
        case measure => simp [intOf]; omega
      ·have hltz : ¬ (i : Int) < (b.length : Int) := by omega
       have HOE := hide (show OwnI wr w.heap.size u11 p.1 by
        have h9 := HO.out
        rw [List.take_of_length_le (by omega), goS_st, comeS_st] at h9
        rw [HPE.out]
        exact h9.mono HB2.out.size)
       have HBE := hide (HB2.out.trans (HW.out.mono HB2.out.size))
       go_wp2_with fail
       exact bodyPost_ret (v := .tuple #[u11, .int .i64 0]) (by simp [results, Tryz.results38, go_sem]) rfl ⟨u11, by rw [HPE.out], HOE.out, HBE.out⟩
    | succ m =>
     rw [show (((m + 1 : Nat) : Int) - 1) = (m : Int) by omega] at h12
     subst h12
     have hlt : m < a.length := by omega
     have hm0 : (m : Int) ≥ 0 := by omega
     have hltz : (m : Int) < (a.length : Int) := by omega
     obtain ⟨ga, capa, cur, e9, _, hka, _, hca⟩ := OwnI.form (HA2.out.below HW.out) (by rw [natI_len]; omega)
     injection e9 with e1 e2 e3
     subst e1
     have hx : (natI a)[m]'(by rw [natI_len]; exact hlt) = ((a[m] : Nat) : Int) := List.getElem_map ..
     have y0 := (hka.cell m).trans (hca m (by rw [natI_len]; exact hlt))
     rw [List.getD_eq_getElem?_getD, List.getElem?_eq_getElem (by rw [natI_len]; exact hlt), Option.getD_some, hx] at y0
     have hain := hof.1 _ (List.getElem_mem hlt)
     have hst := goI_step tu a hlt
     generalize a[m] = x at y0 hain hst
     have hm : min x 64 = x := Nat.min_eq_left (by omega)
     have hbit := shr_bit0 tu x ht
     clear hx hka hca e2 e3
     cases hb : tu.testBit x with
     | true =>
      rw [hb] at hbit
      rw [if_pos hb, List.append_nil] at hst
      have HON := hide (show OwnI wr w2.heap.size u11 ((goS tu (a.drop m)).map stI) by rw [hst]; exact HO.out)
      clear hb hst
      go_wp2_with fail
      go_round
      case rel => exact ⟨m, by omega, by trivial, HON, HW⟩
      case measure => simp [intOf]
     | false =>
      rw [hb] at hbit
      rw [if_neg (by rw [hb]; exact fun e => Bool.noConfusion e)] at hst
      have HST := Lib.hid hst
      have HLN := Lib.hid (show ((goS tu (a.drop (m + 1))).map stI).length + 1 ≤ 10000000000 by
       have h1 := goI_len tu (a.drop (m + 1))
       rw [List.length_drop] at h1
       have := hof.2
       omega)
      have hal := (Below.refl wr.heap.size wr).alloc (Nat.le_refl _) (.cells #[.int .i64 (-((x : Int) + 1))] 3)
      have HOA := hide (HO.out.below hal)
      have HBA := hide (HW.out.alloc HW.out.size (.cells #[.int .i64 (-((x : Int) + 1))] 3))
      have HRA := hide (blk_reads (zs := [-((x : Int) + 1)]) (Blk.new wr 3 #[.int .i64 (-((x : Int) + 1))]))
      clear hb hst hal
      go_wp2_with (at_builtin; go_loud (refine appI _ rfl _ _ _ rfl w2.heap.size Tryz.underlying24 _ ((goS tu (a.drop (m + 1))).map stI) rfl HOA.out (wr.heap.size + 1) (some ⟨wr.heap.size, 0, none⟩) 1 1 [-((x : Int) + 1)] rfl HRA.out rfl HLN.out HBA.out.size ?_); intro v9 w9 ho9 hg9 _; have HO9 := hide ho9; have HB9 := hide (HBA.out.grown hg9 HBA.out.size (fun k hk => (World.ownsRow.lt HOA.out k hk).1)); clear ho9 hg9)
      go_round
      case rel => exact ⟨m, by omega, by trivial, by rw [HST.out]; exact HO9, HB9⟩
      case measure => simp [intOf]
  ·have HPE := Lib.hid (show p = ([], eb) by rw [← HP.out, if_neg (by simp), if_pos heb])
   have hne : (eb == 0) = false := beq_eq_false_iff_ne.2 heb
   have hn2 : (eb != 0) = true := by unfold bne; rw [hne]; rfl
   clear heb
   go_wp2_with fail
   exact bodyPost_ret (v := .tuple #[.slice none 0 0, .int .i64 eb]) (by simp [results, Tryz.results38, go_sem]) rfl ⟨_, by rw [HPE.out], by rw [HPE.out]; exact ownI_nil _ _, HB2.out⟩
 ·have HPE := Lib.hid (show p = ([], ea) by rw [← HP.out, if_pos hea])
  have hne : (ea == 0) = false := beq_eq_false_iff_ne.2 hea
  have hn2 : (ea != 0) = true := by unfold bne; rw [hne]; rfl
  clear hea
  go_wp2_with fail
  exact bodyPost_ret (v := .tuple #[.slice none 0 0, .int .i64 ea]) (by simp [results, Tryz.results38, go_sem]) rfl ⟨_, by rw [HPE.out], by rw [HPE.out]; exact ownI_nil _ _, HB1.out⟩
end Go.Proofs.YtmncoldaemcnlaaGreatDoor
namespace Go.Proofs.YtmncoldaemcnlaaGreatDoor
open Go.RowKit
def SameQ (w : World) (e : Ending) (w' : World) : Prop := e = .returned (.bool true) ∧ ∃ q, w' = w.drewN q
set_option maxHeartbeats 2000000 in
theorem sameInts_any (A1 A2 : Option Addr) (n c1 c2 : Nat) (zs : List Int) (w : World) (h1 : RowI w A1 n zs) (h2 : RowI w A2 n zs) (hn : n ≤ 1000000) :
  Calls Tryz.prog 22 #[.slice A1 n c1, .slice A2 n c2] w (SameQ w) := by
 have H1 := hide h1
 have H2 := hide h2
 clear h1 h2
 go_enter Tryz.func22, Tryz.ntmps22
 go_wp2
 go_loopw [5] (fun iv wr => ∃ i q : Nat, i ≤ n ∧ iv = .int .i64 i ∧ wr = w.drewN q) (fun iv _ => n - (intOf iv).toNat)
 case atStart => exact ⟨0, 0, Nat.zero_le _, rfl, rfl⟩
 case round =>
  obtain ⟨i, q, hi, rfl, rfl⟩ := hrel
  by_cases hlt : i < n
  ·obtain ⟨a1, u1, e1, hb1, hu1, hc1⟩ := H1.out.2.at_ (k := i) hlt
   obtain ⟨a2, u2, e2, hb2, hu2, hc2⟩ := H2.out.2.at_ (k := i) hlt
   have hil : i < zs.length := by rw [H1.out.1]; exact hlt
   rw [intsV_at hil] at hu1 hu2
   cases hu1
   cases hu2
   subst e1 e2
   generalize zs.getD i 0 = x at hc1 hc2
   have hiI : (i : Int) < (n : Int) := by omega
   go_wp2
   go_quiet (fail)
   go_wp2
   go_roundw
   case rel => exact ⟨i + 1, _, by omega, by go_num, by first | rfl | exact World.drewN_drewN ..⟩
   case measure => simp [intOf]; omega
  ·obtain rfl : i = n := by omega
   go_wp2
   go_ret
   exact ⟨rfl, q, rfl⟩
end Go.Proofs.YtmncoldaemcnlaaGreatDoor
