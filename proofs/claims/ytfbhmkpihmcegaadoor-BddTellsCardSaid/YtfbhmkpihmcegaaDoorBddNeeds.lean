/-
  A space's Size and Needs.
-/
import Derived.Test.YtfbhmkpihmcegaaDoorBddG
import Derived.Laws.Rows
namespace Go.Proofs.YtfbhmkpihmcegaaDoor
open Go.RowKit Go.Maps

/-- A space in block S, over any arena. -/
structure SpB (w : World) (S B gn gu gt gc : Nat) (vars : Int) (A : Ar) : Prop where
  kS : Blk w S 112 #[.pointer (some ⟨B, 0, none⟩), .int .i64 vars, .map (some gc)]
  ar : ArM w B gn gu gt A
  wf : WfA A
theorem SpB.below {w w' : World} {S B gn gu gt gc : Nat} {vars : Int} {A : Ar} (h : SpB w S B gn gu gt gc vars A) (hb : Below w.heap.size w w') : SpB w' S B gn gu gt gc vars A :=
  ⟨h.kS.below hb h.kS.lt, h.ar.below hb (fun _ hk => h.ar.lt hk), h.wf⟩
theorem SpM.toB {w : World} {S B gn gu gt gc m : Nat} {vars : Int} {A : Ar} (h : SpM w S B gn gu gt gc vars A m) : SpB w S B gn gu gt gc vars A := ⟨h.kS, h.ar, h.sp.wf⟩
theorem SpE.toB {w : World} {S B gn gu gt gc R : Nat} {vars : Int} (h : SpE w S B gn gu gt gc vars R) : SpB w S B gn gu gt gc vars (emptyA R) := ⟨h.kS, h.ar, wf_empty R⟩
/-- The variables that a handle hangs on, rising. -/
noncomputable def inB (A : Ar) (L : List Int) (v : Nat) : Bool := L.any fun k => topA A k == (v : Int)
noncomputable def needL (A : Ar) (x : Int) (n : Nat) : List Int := ((List.range n).filter fun v => inB A (reachL A [x]) v).map fun v : Nat => (v : Int)
def SizeP (w : World) (A : Ar) (x : Int) (e : Ending) (w' : World) : Prop := e = .returned (.tuple #[.int .i64 ((reachL A [x]).length : Int), .nilIface]) ∧ Below w.heap.size w w'
def NeedsP (w : World) (A : Ar) (x : Int) (e : Ending) (w' : World) : Prop := ∃ v, e = .returned (.tuple #[v, .nilIface]) ∧ OwnI w' w.heap.size v (needL A x 24) ∧ Below w.heap.size w w'
section
variable (S B gn gu gt gc : Nat) (vars : Int) (A : Ar) (w : World)
theorem hasN_call (x : Int) (h : ArM w B gn gu gt A) (hx : I64 x) (p : hasA A x = false) : Calls Tryd.prog 20 #[.pointer (some ⟨B, 0, none⟩), .int .i64 x] w (fun e w' => e = .returned (.bool false) ∧ w = w') :=
  (arHas_any B gn gu gt A x w h hx).mono (fun e w' ⟨e1, e2⟩ => ⟨by rw [e1, p], e2⟩)
theorem row_one {w : World} (x : Int) : RowI (w.alloc (.cells #[.int .i64 x] 3)) (some ⟨w.heap.size, 0, none⟩) 1 [x] := by
  have h := blk_reads (zs := [x]) (Blk.new w 3 #[.int .i64 x])
  exact ⟨rfl, h.more (by simp)⟩
set_option maxHeartbeats 2000000 in
theorem bdSize_any (x : Int) (h : SpB w S B gn gu gt gc vars A) (hx : I64 x) (p : hasA A x = true) :
    Calls Tryd.prog 30 #[.pointer (some ⟨S, 0, none⟩), .int .i64 x] w (SizeP w A x) := by
  have s0 := h.kS.cell 0
  have HA := hide (hasA_call B gn gu gt A x w h.ar hx p)
  have hal := (Below.refl w.heap.size w).alloc (Nat.le_refl _) (.cells #[.int .i64 x] 3)
  have HB := hide hal
  have HR := hide (arReach_any B gn gu gt A _ 1 1 [x] _ (h.ar.below hal (fun _ hk => h.ar.lt hk)) (row_one x) (by simpa using hx) (by omega) (fun e => by cases e))
  have hl := reachL_le A [x]
  have hroom := h.ar.room
  clear h hal
  go_enter Tryd.func30, Tryd.ntmps30
  go_wp2_with fail
  refine (HA.out).mono ?_
  rintro e w1 ⟨rfl, rfl⟩
  go_wp2_with fail
  refine (HR.out).mono ?_
  rintro e w2 ⟨v, rfl, ho, hb2⟩
  obtain ⟨A', c', rfl⟩ := ho.len
  generalize hL : (reachL A [x]).length = L at ho hl ⊢
  have HL := Lib.hid hL
  clear ho hL
  go_wp2
  go_ret2
  exact ⟨by rw [HL.out]; rfl, HB.out.trans (hb2.mono HB.out.size)⟩
set_option maxHeartbeats 2000000 in
theorem bdSize_no (x : Int) (h : SpB w S B gn gu gt gc vars A) (hx : I64 x) (p : hasA A x = false) :
    Calls Tryd.prog 30 #[.pointer (some ⟨S, 0, none⟩), .int .i64 x] w (ErrP w 7) := by
  have s0 := h.kS.cell 0
  have HA := hide (hasN_call B gn gu gt A w x h.ar hx p)
  clear h
  go_enter Tryd.func30, Tryd.ntmps30
  go_wp2_with fail
  refine (HA.out).mono ?_
  rintro e w1 ⟨rfl, rfl⟩
  go_wp2
  go_ret2
  exact ⟨_, by rw [errV_ne (by decide)]; rfl, Below.refl _ _⟩
set_option maxHeartbeats 2000000 in
theorem bdNeeds_no (x : Int) (h : SpB w S B gn gu gt gc vars A) (hx : I64 x) (p : hasA A x = false) :
    Calls Tryd.prog 29 #[.pointer (some ⟨S, 0, none⟩), .int .i64 x] w (ErrP w 7) := by
  have s0 := h.kS.cell 0
  have HA := hide (hasN_call B gn gu gt A w x h.ar hx p)
  clear h
  go_enter Tryd.func29, Tryd.ntmps29
  go_wp2_with fail
  refine (HA.out).mono ?_
  rintro e w1 ⟨rfl, rfl⟩
  go_wp2
  go_ret2
  exact ⟨_, by rw [errV_ne (by decide)]; rfl, Below.refl _ _⟩
/-- Where the first loop stands. -/
structure NdF (w : World) (S B gn gu gt gc : Nat) (vars : Int) (A : Ar) (gi b0 : Nat) (vo : Value) (L : List Int) (k : Nat) (wr : World) : Prop where
  bel : Below w.heap.size w wr
  sp : SpB wr S B gn gu gt gc vars A
  ks : ∃ us, Blk wr gi 115 (boolArr us) ∧ us.length = 24 ∧ ∀ v, v < 24 → us.getD v false = inB A (L.take k) v
  own : OwnI wr b0 vo L
theorem NdF.next {w wr w2 : World} {S B gn gu gt gc : Nat} {vars : Int} {A : Ar} {gi b0 : Nat} {vo : Value} {L : List Int} {k t : Nat} (h : NdF w S B gn gu gt gc vars A gi b0 vo L k wr) (hb : Below wr.heap.size wr w2) (hk : k < L.length) (ht : topA A (L.getD k 0) = (t : Int)) (hg : w.heap.size ≤ gi) (hgb : gi < b0) (hS : S < w.heap.size) (hlow : ∀ j, arB B gn gu gt j → j < w.heap.size) :
    NdF w S B gn gu gt gc vars A gi b0 vo L (k + 1) (w2.setCell ⟨gi, t, none⟩ (.bool true)) := by
  obtain ⟨us, hu1, hu2, hu3⟩ := h.ks
  have hn : ∀ j, j < w.heap.size → j ≠ gi := fun j hj e => by omega
  have hsp := h.sp.below hb
  refine ⟨(h.bel.trans (hb.mono h.bel.size)).setCell (p := ⟨gi, t, none⟩) hg _, ⟨hsp.kS.far (hn S hS) _, hsp.ar.keep fun j hj => Below.heap_setCell _ _ _ _ (hn j (hlow j hj)), hsp.wf⟩, ⟨us.set t true, ?_, by rw [List.length_set]; exact hu2, fun v hv => ?_⟩, ?_⟩
  · rw [← boolArr_set]
    exact (hu1.below hb hu1.lt).set_ t _
  · have e : L.take (k + 1) = L.take k ++ [L.getD k 0] := by rw [List.take_add_one, List.getElem?_eq_getElem hk, List.getD_eq_getElem?_getD, List.getElem?_eq_getElem hk]; rfl
    rw [e, getD_set]
    unfold inB
    rw [List.any_append, List.any_cons, List.any_nil, Bool.or_false, ht]
    by_cases hvt : t = v
    · subst hvt
      rw [if_pos ⟨rfl, by omega⟩]
      simp
    · rw [if_neg (fun h => hvt h.1), hu3 v hv]
      have : ((t : Int) == (v : Int)) = false := beq_eq_false_iff_ne.2 (by omega)
      rw [this, Bool.or_false]
      rfl
  · have hlt := World.ownsRow.lt h.own
    refine World.ownsRow.kept (h.own.below hb) (row := some gi) ⟨rfl, rfl, rfl, by simp [World.setCell], fun j _ hj => Below.heap_setCell _ _ _ _ (fun e => hj (by rw [e]))⟩ (.inr fun e => ?_)
    have := (hlt gi e).1
    omega
/-- Where the second loop stands. -/
structure NdO (w : World) (A : Ar) (x : Int) (k : Nat) (vo : Value) (wr : World) : Prop where
  bel : Below w.heap.size w wr
  own : OwnI wr w.heap.size vo (needL A x k)
theorem needL_succ (A : Ar) (x : Int) (k : Nat) : needL A x (k + 1) = needL A x k ++ (if inB A (reachL A [x]) k then [(k : Int)] else []) := by
  unfold needL
  rw [List.range_succ, List.filter_append, List.map_append]
  congr 1
  rw [List.filter_cons]
  split <;> simp
theorem needL_le (A : Ar) (x : Int) (k : Nat) : (needL A x k).length ≤ k := by
  unfold needL
  rw [List.length_map]
  exact Nat.le_trans (List.length_filter_le ..) (by rw [List.length_range]; exact Nat.le_refl _)
theorem arr24 : Tryd.prog.underlying 115 = some (.array 24 4) := by kernel_rfl
theorem info24 : (Tryd.prog.info? 115).map (·.size) = some 24 := by kernel_rfl
theorem loadL24 {w : World} {ops : Array Oper} {rest : List Oper} {o : Oper} {a : Act} {Q : Exit → Act → World → Prop} (hgd : o.guard = none) (x : Operand) (ho : o.op = .load 115 x) (g : Nat) (hx : a.eval x = .pointer (some ⟨g, 0, none⟩)) {us : List Bool}
    (h : Blk w g 115 (boolArr us)) (hl : us.length = 24) (hK : wpList Tryd.prog ops Q rest (a.put o.dst (.agg (boolArr us))) w) : wpList Tryd.prog ops Q (o :: rest) a w := by
  have h1 := run_loadVar_row (P := Tryd.prog) w g 115 115 (boolArr us) (0, 0) _ h arr24 rfl (by rw [info24]; simp [boolArr, hl])
  refine wpList_plain hgd fun _ hK' => ?_
  unfold Oper.wp execOp
  simp only [ho, hx, Instr.loadAt, Instr.sureAddr, Sem.run_bind, Sem.run_pure, Result.andThen_ok, h1]
  exact hK' _ _ hK
theorem index24 {us : List Bool} {k : Nat} (hl : us.length = 24) (hk : k < 24) (w : World) : (Instr.index 115 (.agg (boolArr us)) (.int .i64 (k : Int))).run Tryd.prog w = .ok (.bool (us.getD k false)) w := by
  have h1 : (sizeOf 4).run Tryd.prog w = .ok 1 w := by kernel_rfl
  have h2 : (isAgg 4).run Tryd.prog w = .ok false w := by kernel_rfl
  have h3 := boolArr_at (us := us) (k := k) (by omega)
  simp [Instr.index, asIntOf, run_underlying arr24, h1, h2, h3, part, Result.andThen]
  intro h
  omega
theorem reach_top {A : Ar} {l : List Int} {y : Int} (hw : WfA A) (hr : A.length ≤ 4000) (hy : y ∈ reachL A l) : ∃ t : Nat, t < 24 ∧ topA A y = (t : Int) ∧ I64 y := by
  unfold reachL at hy
  obtain ⟨k, hk, rfl⟩ := List.mem_map.1 hy
  obtain ⟨h1, h2⟩ := List.mem_filter.1 hk
  have h3 := List.mem_range.1 h1
  have h4 : ReachA A l ((k : Int) + 2) := by simpa using h2
  obtain ⟨n, e⟩ := h4.got
  obtain ⟨v0, v1⟩ := hw.var _ _ e
  exact ⟨n.var.toNat, by omega, by rw [top_some e]; omega, by unfold I64; omega⟩
set_option maxRecDepth 100000 in
set_option maxHeartbeats 4000000 in
theorem bdNeeds_any (x : Int) (h : SpB w S B gn gu gt gc vars A) (hx : I64 x) (p : hasA A x = true) :
    Calls Tryd.prog 29 #[.pointer (some ⟨S, 0, none⟩), .int .i64 x] w (NeedsP w A x) := by
  have s0 := h.kS.cell 0
  have HA := hide (hasA_call B gn gu gt A x w h.ar hx p)
  have HSm := Lib.hid h.kS.lt
  have HLo := Lib.hid (fun j (hj : arB B gn gu gt j) => h.ar.lt hj)
  have hwf := h.wf
  have hal := (Below.refl w.heap.size w).alloc (Nat.le_refl _) (.cells #[.bool false, .bool false, .bool false, .bool false, .bool false, .bool false, .bool false, .bool false, .bool false, .bool false, .bool false, .bool false, .bool false, .bool false, .bool false, .bool false, .bool false, .bool false, .bool false, .bool false, .bool false, .bool false, .bool false, .bool false] 115)
  have HKA := hide (show Blk (w.alloc (.cells #[.bool false, .bool false, .bool false, .bool false, .bool false, .bool false, .bool false, .bool false, .bool false, .bool false, .bool false, .bool false, .bool false, .bool false, .bool false, .bool false, .bool false, .bool false, .bool false, .bool false, .bool false, .bool false, .bool false, .bool false] 115)) w.heap.size 115 (boolArr (List.replicate 24 false)) from Blk.new w _ _)
  have HBA := hide hal
  have HSA := hide (h.below hal)
  have sA := HSA.out.kS.cell 0
  have HSZ := Lib.hid (show (w.alloc (.cells #[.bool false, .bool false, .bool false, .bool false, .bool false, .bool false, .bool false, .bool false, .bool false, .bool false, .bool false, .bool false, .bool false, .bool false, .bool false, .bool false, .bool false, .bool false, .bool false, .bool false, .bool false, .bool false, .bool false, .bool false] 115)).heap.size = w.heap.size + 1 by simp)
  clear hal h
  go_enter Tryd.func29, Tryd.ntmps29
  go_wp2_with fail
  refine (HA.out).mono ?_
  rintro e w1 ⟨rfl, rfl⟩
  clear HA
  go_wp2_with fail
  obtain ⟨gi, HGI⟩ : ∃ gi, Hid (w.heap.size = gi) := ⟨_, Lib.hid rfl⟩
  obtain ⟨b0, HB0⟩ : ∃ b0, Hid (w.heap.size + 1 = b0) := ⟨_, Lib.hid rfl⟩
  generalize w.alloc (.cells #[.bool false, .bool false, .bool false, .bool false, .bool false, .bool false, .bool false, .bool false, .bool false, .bool false, .bool false, .bool false, .bool false, .bool false, .bool false, .bool false, .bool false, .bool false, .bool false, .bool false, .bool false, .bool false, .bool false, .bool false] 115) = wA at HKA HBA HSA HSZ sA ⊢
  have hab := (Below.refl wA.heap.size wA).alloc (Nat.le_refl _) (.cells #[.int .i64 x] 3)
  have HR := hide (arReach_any B gn gu gt A _ 1 1 [x] _ (HSA.out.ar.below hab (fun _ hk => HSA.out.ar.lt hk)) (row_one x) (by simpa using hx) (by omega) (fun e => by cases e))
  have HBB := hide hab
  rw [HSZ.out] at HR
  clear hab
  refine (HR.out).mono ?_
  rintro e w2 ⟨v, rfl, ho, hb2⟩
  have hNF : NdF w S B gn gu gt gc vars A w.heap.size b0 v (reachL A [x]) 0 w2 := by
    have hbw := HBB.out.trans (hb2.mono HBB.out.size)
    refine ⟨HBA.out.trans (hbw.mono HBA.out.size), HSA.out.below hbw, ⟨_, HKA.out.below hbw HKA.out.lt, List.length_replicate .., fun v hv => ?_⟩, ho.mono (by rw [← HB0.out]; have := HBB.out.size; have := HSZ.out; omega)⟩
    rw [List.getD_eq_getElem?_getD, List.getElem?_replicate]
    simp [inB, hv]
  have hgl : ∀ k, k < (reachL A [x]).length → ∃ t : Nat, t < 24 ∧ topA A ((reachL A [x]).getD k 0) = (t : Int) ∧ I64 ((reachL A [x]).getD k 0) := fun k hk => reach_top hwf HSA.out.ar.room (getD_mem hk)
  have HLL := Lib.hid (show (reachL A [x]).length ≤ 4000 from Nat.le_trans (reachL_le A [x]) HSA.out.ar.room)
  obtain ⟨A', c', rfl⟩ := ho.len
  have HNF := hide hNF
  have HGL := Lib.hid hgl
  clear hNF hgl ho hb2 HR HBB HKA HBA HSA HSZ sA
  obtain ⟨L, HLR⟩ : ∃ L, Hid (reachL A [x] = L) := ⟨_, Lib.hid rfl⟩
  rw [HLR.out] at HNF HGL HLL ⊢
  have hll := HLL.out
  obtain ⟨gi, HG⟩ : ∃ gi, Hid (w.heap.size = gi) := ⟨_, Lib.hid rfl⟩
  have hHG : NdF w S B gn gu gt gc vars A gi b0 (.slice A' L.length c') L 0 w2 := by rw [← HG.out]; exact HNF.out
  have HNF := hide hHG
  clear hHG
  rw [HG.out]
  have hb0 : gi < b0 := by rw [← HG.out, ← HB0.out]; omega
  have hgw : w.heap.size ≤ gi := by rw [HG.out]; exact Nat.le_refl _
  go_wp2
  go_loopw [28] (fun iv wr => ∃ k : Nat, k ≤ L.length ∧ iv = .int .i64 k ∧ Hid (NdF w S B gn gu gt gc vars A gi b0 (.slice A' L.length c') L k wr)) (fun iv _ => L.length - (intOf iv).toNat)
  case atStart => exact ⟨0, Nat.zero_le _, rfl, HNF⟩
  case round =>
    clear HNF
    obtain ⟨k, hk, rfl, hF⟩ := hrel
    by_cases hlt : k < L.length
    · obtain ⟨g, cap, cur, e, hbg, hkg, hcap, hcur⟩ := hF.out.own.form (by omega)
      cases e
      have hkI : (k : Int) < (L.length : Int) := by omega
      obtain ⟨t, ht, htop, hi64⟩ := HGL.out k hlt
      have ch := (hkg.cell k).trans (hcur k hlt)
      have s0 := hF.out.sp.kS.cell 0
      have HTP := hide ((arTop_any B gn gu gt A (L.getD k 0) wr hF.out.sp.ar hi64).mono (fun e w' hp => show e = .returned (.int .i64 (t : Int)) ∧ Below wr.heap.size wr w' from ⟨by rw [hp.1, htop], hp.2⟩))
      have HNX := Lib.hid (fun w2 (hb : Below wr.heap.size wr w2) => hF.out.next hb hlt htop hgw hb0 HSm.out HLo.out)
      have HKS := Lib.hid (fun w2 (hb : Below wr.heap.size wr w2) => show (∃ v, w2.cell? ⟨gi, t, none⟩ = some (.bool v)) ∧ w2.frozen? ⟨gi, t, none⟩ = false from by
        obtain ⟨us, hu1, hu2, _⟩ := hF.out.ks
        exact ⟨⟨_, ((hu1.below hb hu1.lt).cell t).trans (boolArr_at (by omega))⟩, (hu1.below hb hu1.lt).frozen t⟩)
      have ht0 : (t : Int) < 24 := by omega
      generalize L.getD k 0 = y at ch HTP htop hi64
      clear hF hcur hkg htop hi64
      go_wp2_with fail
      refine (HTP.out).mono ?_
      rintro e w3 ⟨rfl, hb3⟩
      obtain ⟨⟨b3, k3⟩, f3⟩ := HKS.out w3 hb3
      have HN9 := hide (HNX.out w3 hb3)
      clear hb3 HKS HNX HTP
      go_wp2
      go_roundw
      case rel => exact ⟨k + 1, by omega, by go_num, HN9⟩
      case measure => simp [intOf]; omega
    · obtain rfl : k = L.length := by omega
      obtain ⟨us, hu1, hu2, hu3⟩ := hF.out.ks
      have HLD := hide hu1
      have HUS := Lib.hid (fun v (hv : v < 24) => (hu3 v hv).trans (by rw [List.take_length]))
      have HBL := hide hF.out.bel
      have HO := hide (show NdO w A x 0 (.slice none 0 0) wr from ⟨hF.out.bel, ownI_nil _ _⟩)
      clear hu1 hu3 hF
      have hix := fun (k : Nat) (hk : k < 24) (w : World) => index24 hu2 hk w
      have HIX := Lib.hid hix
      clear hix
      go_wp2_with (first | (refine loadL24 rfl _ rfl gi rfl HLD.out hu2 ?_) | fail)
      go_loopw [9, 41] (fun vo iv wr2 => ∃ k : Nat, k ≤ 24 ∧ iv = .int .i64 k ∧ Hid (NdO w A x k vo wr2)) (fun _ iv _ => 24 - (intOf iv).toNat)
      case atStart => exact ⟨0, Nat.zero_le _, rfl, HO⟩
      case round =>
        clear HO
        obtain ⟨k, hk, rfl, hN⟩ := hrel
        by_cases hlt2 : k < 24
        · have hkI : (k : Int) < 24 := by omega
          have hx1 := HIX.out k hlt2
          rw [HUS.out k hlt2] at hx1
          have HSU := Lib.hid (needL_succ A x k)
          rw [HLR.out] at HSU
          cases hin : inB A L k with
          | false =>
            rw [hin] at hx1 HSU
            have HN9 := hide (show NdO w A x (k + 1) _ _ from ⟨hN.out.bel, by rw [HSU.out]; simpa using hN.out.own⟩)
            clear hin HSU hN
            go_wp2
            go_roundw
            case rel => exact ⟨k + 1, by omega, by go_num, HN9⟩
            case measure => simp [intOf]; omega
          | true =>
            rw [hin] at hx1 HSU
            have hal := (Below.refl wr.heap.size wr).alloc (Nat.le_refl _) (.cells #[.int .i64 (k : Int)] 3)
            have HOA := hide (hN.out.own.below hal)
            have HRA := hide (blk_reads (zs := [(k : Int)]) (Blk.new wr 3 #[.int .i64 (k : Int)]))
            have HBA := hide (hN.out.bel.trans (hal.mono hN.out.bel.size))
            have hne := needL_le A x k
            clear hal hin hN
            go_wp2_with (first
              | (at_builtin; refine appI _ rfl _ _ _ rfl w.heap.size Tryd.underlying44 _ (needL A x k) rfl HOA.out (wr.heap.size + 1) (some ⟨wr.heap.size, 0, none⟩) 1 1 [(k : Int)] rfl HRA.out rfl (by omega) HBA.out.size ?_; intro v9 w9 ho9 hg9 hor9; clear hor9; have HN9 := hide (show NdO w A x (k + 1) v9 w9 from ⟨HBA.out.grown hg9 HBA.out.size (fun j hj => (World.ownsRow.lt HOA.out j hj).1), by rw [HSU.out]; exact ho9⟩); clear ho9 hg9)
              | fail)
            go_roundw
            case rel => exact ⟨k + 1, by omega, by go_num, HN9⟩
            case measure => simp [intOf]; omega
        · obtain rfl : k = 24 := by omega
          have HN9 := hN
          clear hN
          go_wp2
          go_ret2
          exact ⟨_, rfl, HN9.out.own, HN9.out.bel⟩
end
end Go.Proofs.YtfbhmkpihmcegaaDoor
