/-
  A part of the proof: LawOrders, Row. Conditions: none.
-/
import Derived.Test.YtmncoldaemcnlaaGreatDoorOrSameInts
import Derived.Test.YtmncoldaemcnlaaGreatDoorOrBoth
import Derived.Test.YtmncoldaemcnlaaGreatDoorRows
import Derived.Test.YtmncoldaemcnlaaGreatDoorOrAt
import Derived.ProofKit
import Derived.LaidMore
import Derived.LaidHandle
import Derived.OpenShut
import Derived.LaidLaws
import Derived.Stop.Joined
import Derived.Deep.Matrix
import Derived.JoinedOf
import Derived.RowKitTokens
namespace Go.Proofs.YtmncoldaemcnlaaGreatDoor
open Go.RowKit
open Classical
set_option maxRecDepth 100000
theorem ordF_code {its : List ItR} {ls : List LnR} {set : Nat} : ∀ (f : Nat) (out : List Nat), (ordF its ls set f out).2 = 0 ∨ (ordF its ls set f out).2 = 11
 | 0, _ => .inl rfl
 | f + 1, out => by
  unfold ordF
  split
  ·exact .inl rfl
  ·split
   ·exact .inr rfl
   ·exact ordF_code f _
theorem orderF_code (its : List ItR) (ls : List LnR) (set : Nat) : (orderF its ls set).2 = 0 ∨ (orderF its ls set).2 = 11 ∨ (orderF its ls set).2 = 13 := by
 unfold orderF
 split
 ·exact .inr (.inr rfl)
 ·rcases ordF_code its.length [] with h | h
  ·exact .inl h
  ·exact .inr (.inl h)
theorem changeF_code (its : List ItR) (ls : List LnR) (frm tu : Nat) : (changeF its ls frm tu).2 = 0 ∨ (changeF its ls frm tu).2 = 11 ∨ (changeF its ls frm tu).2 = 13 := by
 unfold changeF
 split
 ·exact orderF_code _ _ _
 ·split
  ·exact orderF_code _ _ _
  ·exact .inl rfl
theorem changeF_len (its : List ItR) (ls : List LnR) (frm tu : Nat) : (changeF its ls frm tu).1.length ≤ its.length + its.length := by
 have h1 := (orderF_in (its := its) (ls := ls) (set := frm)).2
 have h2 := (orderF_in (its := its) (ls := ls) (set := tu)).2
 unfold changeF
 split
 ·exact Nat.zero_le _
 ·split
  ·exact Nat.zero_le _
  ·unfold stepsI goF comeF
   simp only [List.length_append, List.length_map]
   have h3 : ((orderF its ls frm).1.reverse.filter fun k => !tu.testBit k).length ≤ _ := List.length_filter_le _ _
   have h4 : ((orderF its ls tu).1.filter fun k => !frm.testBit k).length ≤ _ := List.length_filter_le _ _
   rw [List.length_reverse] at h3
   omega
theorem changeF_in (its : List ItR) (ls : List LnR) (frm tu : Nat) : ∀ z ∈ (changeF its ls frm tu).1, -(its.length : Int) ≤ z ∧ z ≤ its.length := by
 have h1 := (orderF_in (its := its) (ls := ls) (set := frm)).1
 have h2 := (orderF_in (its := its) (ls := ls) (set := tu)).1
 unfold changeF
 split
 ·exact fun z hz => absurd hz List.not_mem_nil
 ·split
  ·exact fun z hz => absurd hz List.not_mem_nil
  ·intro z hz
   unfold stepsI goF comeF at hz
   rcases List.mem_append.1 hz with hz | hz
   ·obtain ⟨k, hk, rfl⟩ := List.mem_map.1 hz
    have := h1 k (List.mem_reverse.1 (List.mem_filter.1 hk).1)
    omega
   ·obtain ⟨k, hk, rfl⟩ := List.mem_map.1 hz
    have := h2 k (List.mem_filter.1 hk).1
    omega
theorem sameOwn_any (v1 v2 : Value) (zs : List Int) (w : World) (h1 : OwnI w 0 v1 zs) (h2 : OwnI w 0 v2 zs) (hn : zs.length ≤ 1000000) : Calls Tryz.prog 22 #[v1, v2] w (AtPost w true) := by
 obtain ⟨A1, c1, rfl⟩ := h1.len
 obtain ⟨A2, c2, rfl⟩ := h2.len
 refine (sameInts_any A1 A2 zs.length c1 c2 zs w h1.row h2.row hn).mono ?_
 rintro e w' ⟨rfl, q, rfl⟩
 exact ⟨rfl, below_drewN (Below.refl _ _) _⟩
theorem isErr_ord (w : World) {c : Int} (h : c = 0 ∨ c = 11 ∨ c = 13) : IsErr w (ordE c) (c, -1) := by
 rcases h with rfl | rfl | rfl
 ·exact .inl ⟨rfl, rfl⟩
 ·exact .inr (.inl ⟨rfl, by decide, by decide, rfl⟩)
 ·exact .inr (.inl ⟨rfl, by decide, by decide, rfl⟩)
theorem stI_true {l : List (Nat × Bool)} {p : List Int} (h : l.map stI = p) {i : Nat} (hi : i < l.length) : (l[i].2 = true → p.getD i 0 = (l[i].1 : Int) + 1) ∧ (l[i].2 = false → p.getD i 0 = -((l[i].1 : Int) + 1)) := by
 subst h
 rw [List.getD_eq_getElem?_getD, List.getElem?_map, List.getElem?_eq_getElem hi]
 constructor
 ·intro h9
  show stI l[i] = _
  unfold stI
  rw [if_pos h9]
 ·intro h9
  show stI l[i] = _
  unfold stI
  rw [if_neg (by rw [h9]; exact fun e => Bool.noConfusion e)]
theorem row2S {w : World} {g : Nat} {l : List (Nat × Bool)} (h : RowK elS w g l) {k : Nat} (hk : k < l.length) : w.cell? ⟨g, k * 2, none⟩ = some (.int .i64 (l[k].1 : Int)) ∧ w.cell? ⟨g, k * 2 + 1, none⟩ = some (.bool l[k].2) :=
 ⟨h.cell hk (j := 0) (by decide), h.cell hk (j := 1) (by decide)⟩
set_option maxHeartbeats 8000000 in
theorem lawOrders_walk (t : ByteArray) (x y : Int) (w : World) (hG : GlobV w) (hF : FineP w) (hK : KindsP w) (hs : t.size ≤ 9223372036854775807) (x0 : 0 ≤ x) (x1 : x ≤ 18446744073709551615) (y0 : 0 ≤ y) (y1 : y ≤ 18446744073709551615) :
  Calls Tryz.prog 7 #[.string t, .int .u64 x, .int .u64 y] w (AtPost w true) := by
 obtain ⟨frm, rfl⟩ : ∃ n : Nat, x = (n : Int) := ⟨x.toNat, by omega⟩
 obtain ⟨tu, rfl⟩ : ∃ n : Nat, y = (n : Int) := ⟨y.toNat, by omega⟩
 have hf : frm < 18446744073709551616 := by omega
 have ht : tu < 18446744073709551616 := by omega
 have HBT := hide (both_any t w hG hF hK hs)
 have HGE := hide hG.e
 clear hG hF hK x0 x1 y0 y1
 go_enter Tryz.func7, Tryz.ntmps7
 go_wp2_with fail
 refine HBT.out.mono ?_
 rintro e w1 (⟨_, rfl, hb1⟩ | ⟨vw, g, qs, qs', its0, _, _, hqq, hcr, rfl, hl, hco, hb1⟩)
 ·have HB := hide hb1
  clear hb1 HBT
  go_wp2_with fail
  go_ret
  exact ⟨rfl, HB.out⟩
 ·have HB := hide hb1
  have HL := hide (hl.mono (Nat.zero_le w.heap.size))
  have HCO := hide hco
  have HRO := hide (refOrder_any vw qs its0 frm w1 (hl.mono (Nat.zero_le _)) hcr hf)
  have HPO := hide (fun W (h : CatO W w.heap.size g qs') => order_any g w.heap.size qs' its0 frm W h (by rw [hqq]; exact hcr) hf)
  have HRC := hide (fun W (h : LnsR W 0 vw qs) => refChange_any vw qs its0 frm tu W h hcr hf ht)
  have HPC := hide (fun W (h : CatO W w.heap.size g qs') => change_any g w.heap.size qs' its0 frm tu W h (by rw [hqq]; exact hcr) hf ht)
  rw [hqq] at HPO HPC
  obtain ⟨h24, _⟩ := catR_few hcr
  unfold ROrdP at HRO
  unfold OrderP at HPO
  unfold RChgP at HRC
  unfold ChgP at HPC
  have hoc := orderF_code (itemsF (qs.map (·.1))) (qs.map (·.1)) frm
  have hol := (orderF_in (its := itemsF (qs.map (·.1))) (ls := qs.map (·.1)) (set := frm)).2
  have hcc := changeF_code (itemsF (qs.map (·.1))) (qs.map (·.1)) frm tu
  have hcl := changeF_len (itemsF (qs.map (·.1))) (qs.map (·.1)) frm tu
  have hci := changeF_in (itemsF (qs.map (·.1))) (qs.map (·.1)) frm tu
  generalize orderF (itemsF (qs.map (·.1))) (qs.map (·.1)) frm = po at HRO HPO hoc hol
  generalize changeF (itemsF (qs.map (·.1))) (qs.map (·.1)) frm tu = pc at HRC HPC hcc hcl hci
  obtain ⟨ol, oc⟩ := po
  obtain ⟨cl, cc⟩ := pc
  simp only [] at HRO HPO hoc hol HRC HPC hcc hcl hci
  have HCI := Lib.hid hci
  obtain ⟨A, c, rfl, _⟩ := hl.1.len
  have HOC := Lib.hid hoc
  have HCC := Lib.hid hcc
  clear hl hco hb1 HBT hqq hcr hoc hcc hci
  go_wp2_with fail
  refine HRO.out.mono ?_
  rintro e w2 ⟨v2, rfl, ho2, hb2⟩
  have HB2 := hide (HB.out.trans (hb2.mono HB.out.size))
  have HL2 := hide (HL.out.below hb2)
  have HC2 := hide (HCO.out.below hb2)
  have HO2 := hide (ho2.mono (Nat.zero_le _))
  have HP2 := hide (HPO.out w2 HC2.out)
  clear ho2 hb2 HRO HPO HB HL HCO
  go_wp2_with fail
  refine HP2.out.mono ?_
  rintro e w3 ⟨v3, rfl, ho3, hb3⟩
  have HB3 := hide (HB2.out.trans (hb3.mono HB2.out.size))
  have HL3 := hide (HL2.out.below hb3)
  have HC3 := hide (HC2.out.below hb3)
  have HO3 := hide (ho3.mono (Nat.zero_le _))
  have HO23 := hide (HO2.out.below hb3)
  have HBA := hide (bareB_any (ordE oc) oc w3 (HGE.out.below HB3.out) (isErr_ord w3 HOC.out))
  clear ho3 hb3 HP2 HB2 HL2 HC2 HO2
  go_wp2_with fail
  refine HBA.out.mono ?_
  rintro e w4 ⟨rfl, hb4⟩
  have HB4 := hide (HB3.out.trans (hb4.mono HB3.out.size))
  have HL4 := hide (HL3.out.below hb4)
  have HC4 := hide (HC3.out.below hb4)
  have HSA := hide (sameOwn_any v3 v2 (natI ol) w4 (HO3.out.below hb4) (HO23.out.below hb4) (by rw [natI_len]; omega))
  clear hb4 HBA HB3 HL3 HC3 HO3 HO23
  go_wp2_with fail
  refine HSA.out.mono ?_
  rintro e w5 ⟨rfl, hb5⟩
  have HB5 := hide (HB4.out.trans (hb5.mono HB4.out.size))
  have HC5 := hide (HC4.out.below hb5)
  have HR5 := hide (HRC.out w5 (HL4.out.below hb5))
  clear hb5 HSA HRC HB4 HL4 HC4
  go_wp2_with fail
  refine HR5.out.mono ?_
  rintro e w6 ⟨v6, rfl, ho6, hb6⟩
  have HB6 := hide (HB5.out.trans (hb6.mono HB5.out.size))
  have HO6 := hide (ho6.mono (Nat.zero_le _))
  have HP6 := hide (HPC.out w6 (HC5.out.below hb6))
  clear ho6 hb6 HR5 HPC HB5 HC5
  go_wp2_with fail
  refine HP6.out.mono ?_
  rintro e w7 ⟨v7, l, rfl, ho7, hst, hb7⟩
  have HB7 := hide (HB6.out.trans (hb7.mono HB6.out.size))
  have HO7 := hide (OwnK.mono ho7 (Nat.zero_le _))
  have HO67 := hide (HO6.out.below hb7)
  have HBA := hide (bareB_any (ordE cc) cc w7 (HGE.out.below HB7.out) (isErr_ord w7 HCC.out))
  have hln : l.length = cl.length := by rw [← hst, List.length_map]
  have HST := Lib.hid hst
  obtain ⟨A7, c7, rfl, _⟩ := HO7.out.len
  obtain ⟨A6, c6, rfl⟩ := HO67.out.len
  clear ho7 hb7 hst HP6 HB6 HO6
  go_wp2_with fail
  refine HBA.out.mono ?_
  rintro e w8 ⟨rfl, hb8⟩
  have HB8 := hide (HB7.out.trans (hb8.mono HB7.out.size))
  have HO8 := hide (OwnK.below HO7.out hb8)
  have HO68 := hide (HO67.out.below hb8)
  clear hb8 HBA HB7 HO7 HO67
  have hl3 : ((cl.length : Int) == (cl.length : Int)) = true := beq_self_eq_true _
  go_wp2_with fail
  go_loopw [16] (fun iv wr => ∃ i : Nat, i ≤ cl.length ∧ iv = .int .i64 i ∧ wr = w8) (fun iv _ => cl.length - (intOf iv).toNat)
  case atStart => exact ⟨0, Nat.zero_le _, rfl, rfl⟩
  case round =>
   obtain ⟨i, hi, rfl, hw⟩ := hrel
   subst hw
   by_cases hlt : i < cl.length
   ·have hltz : (i : Int) < (cl.length : Int) := by omega
    have hil : i < l.length := by omega
    have ho8 := HO8.out
    rw [hln] at ho8
    obtain ⟨g8, hA, hrow⟩ := OwnK.rowAt ho8 hil
    subst hA
    obtain ⟨y0, y1⟩ := row2S hrow hil
    obtain ⟨s1, s2⟩ := stI_true HST.out hil
    obtain ⟨g9, cap9, cur, e9, _, hk9, _, hc9⟩ := HO68.out.form (by omega)
    injection e9 with e1 e2 e3
    subst e1
    have y2 := (hk9.cell i).trans (hc9 i hlt)
    have hzb := HCI.out (cl.getD i 0) (by rw [List.getD_eq_getElem?_getD, List.getElem?_eq_getElem hlt]; exact List.getElem_mem hlt)
    generalize l[i] = q at y0 y1 s1 s2
    generalize cl.getD i 0 = z at y2 s1 s2 hzb
    obtain ⟨x, b⟩ := q
    simp only [] at y0 y1 s1 s2
    clear hrow hk9 hc9 e2 e3 ho8
    cases b with
    | true =>
     have hz := s1 rfl
     subst hz
     have hxb : (x : Int) ≤ 30 := by omega
     clear s1 s2 hzb
     go_wp2_with fail
     go_round
     case rel => exact ⟨i + 1, by omega, by go_num, by trivial⟩
     case measure => simp [intOf]; omega
    | false =>
     have hz := s2 rfl
     subst hz
     have hxb : (x : Int) ≤ 30 := by omega
     clear s1 s2 hzb
     go_wp2_with fail
     go_round
     case rel => exact ⟨i + 1, by omega, by go_num, by trivial⟩
     case measure => simp [intOf]; omega
   ·have hltz : ¬ (i : Int) < (cl.length : Int) := by omega
    go_wp2_with fail
    go_ret
    exact ⟨rfl, HB8.out⟩
end Go.Proofs.YtmncoldaemcnlaaGreatDoor
namespace Go.Proofs.YtmncoldaemcnlaaGreatDoor
open Go.ChangeShapes Go.WideShapes Go.ChangeAt Go.WideElems Go.RowKit Go.Deep
theorem own : ownKnob Tryz.prog.godebug = none := by kernel_rfl
theorem gErr : Tryz.prog.globalNamed "errors.errorType" = some 2 := by kernel_rfl
theorem rtRow : (Tryz.prog.cutTypes.find? (·.1 == "internal/reflectlite.rtype")).map (·.2) = some 267 := by kernel_rfl
theorem oneRow : ((List.range 350).filter fun t => Tryz.prog.rowNamed t [101, 114, 114, 111, 114]) = [40] := by kernel_rfl
theorem tsize : Tryz.prog.types.size = 350 := by kernel_rfl
theorem laidOut : laidOutB Tryz.prog = true := by kernel_rfl
theorem cell_of_handle {W : World} {l : List (String × DataW Unit)} (h : handlesMet Tryz.prog l W) (hm : ("errors.errorType", Rows.laid_errors_errorType) ∈ l) :
  W.cell? ⟨2, 0, none⟩ = some (.iface 267 (.agg #[.pointer (some ⟨11, 40, none⟩)])) := by
 obtain ⟨name, u, ty, e1, e2, e3, e4, e5⟩ := h _ hm
 have en : name = [101, 114, 114, 111, 114] := (Option.some.inj e1).symm
 subst en
 obtain rfl := Option.some.inj (rtRow.symm.trans e2)
 have hmm : ty ∈ (List.range 350).filter fun t => Tryz.prog.rowNamed t [101, 114, 114, 111, 114] := List.mem_filter.2 ⟨List.mem_range.2 (by rw [← tsize]; exact e3), e4⟩
 rw [oneRow] at hmm
 obtain rfl := List.mem_singleton.1 hmm
 have hh : typeHandle Tryz.prog 40 = .pointer (some ⟨11, 40, none⟩) := by kernel_rfl
 rw [hh] at e5
 simpa using World.var?_cell gErr e5 0
section
variable {H : Type} {enc : TypeId × Value → H} {W : World}
theorem trodAll_below {ts : List TypeId} : ∀ {vs : List Value} {ds : List (DataW H)} {ps : List MemPlace} {W' : World}, (ts.all fun t => Tryz.prog.readableRec t && decide (t < Tryz.prog.types.size)) = true →
  DataW.TrodAll enc Tryz.prog W 0 (fun _ => true) true ts vs ds ps → Below W.heap.size W W' → (∀ x ∈ ps, x.block < W.heap.size) → DataW.TrodAll enc Tryz.prog W' 0 (fun b => decide (b < W.heap.size)) true ts vs ds ps := by
 induction ts with
 | nil =>
  intro vs ds ps W' _ h _ _
  obtain ⟨rfl, rfl, rfl⟩ := trodAll_nil h
  exact trodAll_mk0
 | cons t ts ih =>
  intro vs ds ps W' hr h hb hlt
  obtain ⟨v, vs', d, ds', p, q, rfl, rfl, rfl, hd, hrest⟩ := trodAll_cons h
  rw [List.all_cons, Bool.and_eq_true, Bool.and_eq_true] at hr
  exact trodAll_cons_mk (Below.trod laidOut hr.1.1 (of_decide_eq_true hr.1.2) hd hb fun x hx => hlt x (List.mem_append.2 (.inl hx)))
   (ih hr.2 hrest hb fun x hx => hlt x (List.mem_append.2 (.inr hx)))
theorem law_post {f : Func} {s : ChangeSpec} {W' : World} {args : Array Value} {ds gs : List (DataW H)} {before : List MemPlace} (hres : f.resultTypes.toList = [4]) (hsz : f.resultTypes.size = 1)
  (hv : s.vars = []) (hW : DataW.Whole enc Tryz.prog f.params.toList s.vars false W args.toList ds gs before) (hfn : s.fn H ds = { results := [.lit (.bool true)], args := ds })
  (hall : (f.params.toList.all fun t => Tryz.prog.readableRec t && decide (t < Tryz.prog.types.size)) = true) (hb : Below W.heap.size W W') :
  s.post enc Tryz.prog f false true false false W args (.bool true) W' := by
 have hlt : ∀ p ∈ before, p.block < W.heap.size := fun p hp => hW.lt p hp
 have hW0 := hW
 obtain ⟨p, q, hA, hV, rfl, _, _⟩ := hW
 rw [hv] at hV
 obtain ⟨rfl, rfl⟩ : gs = [] ∧ q = [] := by
  cases gs with
  | nil => exact ⟨rfl, hV⟩
  | cons g r => exact absurd hV (by intro h; cases h)
 rw [List.append_nil] at hlt
 refine ⟨ds, [], _, [], p, [], hW0, ?_, ?_, ?_, ?_, fun h => by cases h⟩
 ·rw [List.append_nil, hfn, hres, hsz]
  exact trodAll_mk1 (shut_bool Tryz.underlying4 true)
 ·rw [List.append_nil, hfn]
  exact trodAll_below hall hA hb hlt
 ·rw [List.append_nil, hfn, hv]
  rfl
 ·exact hb.frame _
end
end Go.Proofs.YtmncoldaemcnlaaGreatDoor
