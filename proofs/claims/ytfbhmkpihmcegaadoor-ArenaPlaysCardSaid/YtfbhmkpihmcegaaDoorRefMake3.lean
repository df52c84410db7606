/-
  The document's Make of a node that may lie there: the search, the new handle.
-/
import Derived.Test.YtfbhmkpihmcegaaDoorRefMake2
namespace Go.Proofs.YtfbhmkpihmcegaaDoor
open Go.RowKit Go.Maps

theorem lies_at {A : Ar} {n : Nd} (hw : WfA A) {h : Int} (e : gotA A h = some n) : ∃ k, liesA A n = some k ∧ h = (k : Int) + 2 := by
  cases hl : liesA A n with
  | none =>
    obtain ⟨k, _, _, hk⟩ := gotA_is e
    exact absurd hk (liesA_none hl k)
  | some k =>
    have := liesA_some hl
    rw [← gotA_k] at this
    exact ⟨k, rfl, hw.once _ _ _ e this⟩
theorem lies_not {A : Ar} {n : Nd} (h : ∀ x m, I64 x → gotA A x = some m → m ≠ n) (hl : A.length ≤ 4000) : liesA A n = none := by
  cases e : liesA A n with
  | none => rfl
  | some k =>
    have h1 := liesA_some e
    have h2 := gotA_len h1
    rw [← gotA_k] at h1
    exact absurd rfl (h _ n (by unfold I64; omega) h1)
theorem free_none {A : Ar} : freeA A = none ↔ cntA A = A.length := by
  unfold freeA cntA
  rw [List.countP_eq_length, List.findIdx?_eq_none_iff]
  constructor
  · intro h o ho
    have := h o ho
    cases o <;> simp_all
  · intro h o ho
    have := h o ho
    cases o with
    | none => cases this
    | some _ => rfl
/-- The search among what lies there. -/
structure SrcI (w : World) (R gm b r cnt0 : Nat) (A : Ar) (n : Nd) (D : DataW Unit) (left : Lit → Bool) (cnt : Nat) (wr : World) : Prop where
  bel : Below w.heap.size w wr
  rg : wr.ranges Tryd.prog 3 nodeElem gm r cnt0 D left cnt
  r : RfM wr R gm A
  kb : Blk wr b 42 #[.int .i64 n.var, .int .i64 n.low, .int .i64 n.high]
  no : ∀ x m, I64 x → gotA A x = some m → left (keyL x) = false → m ≠ n
theorem SrcI.alloc {w : World} {R gm b r cnt0 : Nat} {A : Ar} {n : Nd} {D : DataW Unit} {left : Lit → Bool} {cnt : Nat} {wr : World} (h : SrcI w R gm b r cnt0 A n D left cnt wr) (o : Obj) : SrcI w R gm b r cnt0 A n D left cnt (wr.alloc o) :=
  ⟨h.bel.alloc h.bel.size o, h.rg.alloc o, h.r.keep (Below.heap_alloc _ _ _ h.r.kR.lt) (Below.heap_alloc _ _ _ h.r.map.lt), h.kb.alloc o, h.no⟩
theorem keyOf_node {key : Value} {kl : Lit} (h : keyOf Tryd.prog 3 key = some kl) : ∃ x : Int, key = .int .i64 x ∧ kl = keyL x ∧ I64 x := by
  obtain ⟨x, h1, h2, h3⟩ := Maps.keyOf_int_inv Tryd.underlying3 h
  refine ⟨x, h1, h2, ?_⟩
  unfold I64
  simp [Lit.wf] at h3
  have e1 : IntKind.i64.min = -9223372036854775808 := by decide
  have e2 : IntKind.i64.max = 9223372036854775807 := by decide
  omega
theorem blk_mapN {w : World} {b g : Nat} {t : TypeId} {cs : Array Value} {f : Int → Option Nd} {m : Nat} (h : Blk w b t cs) (hm : MapN w g f m) : b ≠ g := by
  rintro rfl
  obtain ⟨D, ⟨es, cl, h1, _⟩, _⟩ := hm
  unfold Blk at h
  rw [h] at h1
  cases h1
theorem MapN.len {w : World} {g : Nat} {f : Int → Option Nd} {m : Nat} (h : MapN w g f m) (q : Nat) (ty : TypeId) : (Builtin.len_ #[31] ty #[.map (some g)]).run Tryd.prog (w.drewN q) = .ok (.int .i64 (m : Int)) (w.drewN q) := by
  obtain ⟨D, h1, h2⟩ := h
  have h3 : (w.drewN q).ownsMap Tryd.prog 3 nodeElem g m D := own_blk h1 rfl
  have h4 := h3.len Tryd.underlying31 ty
  rw [h2.size] at h4
  exact h4
/-- The search for a free handle. -/
structure FndI (w : World) (R gm b : Nat) (A : Ar) (n : Nd) (i : Nat) (wr : World) : Prop where
  bel : Below w.heap.size w wr
  r : RfM wr R gm A
  kb : Blk wr b 42 #[.int .i64 n.var, .int .i64 n.low, .int .i64 n.high]
theorem FndI.below {w : World} {R gm b : Nat} {A : Ar} {n : Nd} {i j : Nat} {wr w' : World} (h : FndI w R gm b A n i wr) (hb : Below wr.heap.size wr w') : FndI w R gm b A n j w' :=
  ⟨h.bel.trans (hb.mono h.bel.size), h.r.below hb h.r.kR.lt h.r.map.lt, h.kb.below hb h.kb.lt⟩
theorem free_before {A : Ar} {k i : Nat} (hf : freeA A = some k) (hi : i < k) : hasA A ((i : Int) + 2) = true := by
  obtain ⟨h1, _, h3⟩ := find_some hf
  have h4 := h3 i hi _ (getD_of (d := none) (by omega))
  rw [gotA_has (by omega), gotA_k]
  cases e : A.getD i none with
  | none => rw [e] at h4; cases h4
  | some _ => rfl
theorem free_here {A : Ar} {k : Nat} (hf : freeA A = some k) : hasA A ((k : Int) + 2) = false := by
  rw [gotA_has (by omega), gotA_k, (freeA_some hf).2]
  rfl
theorem rmNew {w w' : World} {R gm : Nat} {A : Ar} {n : Nd} {k : Nat} (hm : MayA A n) (hl : liesA A n = none) (hf : freeA A = some k) (hr : RfM w' R gm (A.set k (some n))) (hfr : Fr (fun k => k = gm) w w') :
    RmPost w R gm A n (.returned (.tuple #[.int .i64 ((k : Int) + 2), .int .i64 0])) w' := by
  obtain ⟨e1, e2, e3⟩ := make_new hm hl hf
  exact ⟨by rw [e1, e2], by rw [e3]; exact hr, hfr⟩
theorem rmYes {w w' : World} {R gm : Nat} {A : Ar} {n : Nd} {h : Int} (hm : MayA A n) (hr : RfM w' R gm A) (hg : gotA A h = some n) (hb : Below w.heap.size w w') :
    RmPost w R gm A n (.returned (.tuple #[.int .i64 h, .int .i64 0])) w' := by
  obtain ⟨k, hl, e⟩ := lies_at hr.wf hg
  obtain ⟨e1, e2, e3⟩ := make_lies hm hl
  exact ⟨by rw [e1, e2, e], by rw [e3]; exact hr, .of_below hb (Nat.le_refl _)⟩

set_option maxRecDepth 100000 in
set_option maxHeartbeats 8000000 in
theorem rm_may (R gm : Nat) (A : Ar) (n : Nd) (w : World) (h : RfM w R gm A) (hi : NdI n) (hm : MayA A n) :
    Calls Tryd.prog 11 #[.pointer (some ⟨R, 0, none⟩), .agg #[.int .i64 n.var, .int .i64 n.low, .int .i64 n.high]] w (RmPost w R gm A n) := by
  have HW := hide h
  have HMY := hide hm
  have hv := hm.var
  have HK := hide (Blk.new w 42 #[.int .i64 n.var, .int .i64 n.low, .int .i64 n.high])
  have HB := hide ((Below.refl w.heap.size w).alloc (Nat.le_refl _) (.cells #[.int .i64 n.var, .int .i64 n.low, .int .i64 n.high] 42))
  have HM := hide (h.below HB.out h.kR.lt h.map.lt)
  have q0 := HK.out.cell 0
  have q1 := HK.out.cell 1
  have HWI := hide (within_23 n.var (w.alloc (.cells #[.int .i64 n.var, .int .i64 n.low, .int .i64 n.high] 42)))
  rw [decide_eq_true hv] at HWI
  have HL := hide (rfHas_any R gm A n.low _ HM.out hi.low)
  have HH := hide (fun (w' : World) (hb : Below (w.alloc (.cells #[.int .i64 n.var, .int .i64 n.low, .int .i64 n.high] 42)).heap.size (w.alloc (.cells #[.int .i64 n.var, .int .i64 n.low, .int .i64 n.high] 42)) w') => rfHas_any R gm A n.high w' (HM.out.below hb HM.out.kR.lt HM.out.map.lt) hi.high)
  rw [hm.low.1] at HL
  rw [hm.high.1] at HH
  have HI := hide hi
  have hgb : w.heap.size ≤ w.heap.size := Nat.le_refl _
  have hd : decide (topA A n.low ≤ n.var) = false := decide_eq_false (by have := hm.low.2; omega)
  have hd2 : decide (topA A n.high ≤ n.var) = false := decide_eq_false (by have := hm.high.2; omega)
  clear h hi hv hm hgb
  go_enter Tryd.func11, Tryd.ntmps11
  go_wp2_with fail
  refine (HWI.out).mono ?_
  rintro e w1 ⟨rfl, rfl⟩
  go_wp2_with fail
  refine (HL.out).mono ?_
  rintro e w1 ⟨rfl, hb1⟩
  have HB1 := hide (HB.out.trans (hb1.mono HB.out.size))
  have HK1 := hide (HK.out.below hb1 HK.out.lt)
  have q2 := HK1.out.cell 2
  have HH2 := hide (HH.out w1 hb1)
  have HM1 := hide (HM.out.below hb1 HM.out.kR.lt HM.out.map.lt)
  clear hb1
  go_wp2_with fail
  refine (HH2.out).mono ?_
  rintro e w2 ⟨rfl, hb2⟩
  have HB2 := hide (HB1.out.trans (hb2.mono HB1.out.size))
  have HK2 := hide (HK1.out.below hb2 HK1.out.lt)
  have HM2 := hide (HM1.out.below hb2 HM1.out.kR.lt HM1.out.map.lt)
  clear hb2 q2
  go_wp2
  have lg := HK2.out.lt
  clear q0 q1
  generalize w.heap.size = g at HK2 lg ⊢
  have HTL := hide (fun c : Calm w2 => rfTop_any R gm A n.low c.val (HM2.out.below c.bel HM2.out.kR.lt HM2.out.map.lt) HI.out.low)
  have HTH := hide (fun c : Calm w2 => rfTop_any R gm A n.high c.val (HM2.out.below c.bel HM2.out.kR.lt HM2.out.map.lt) HI.out.high)
  have q0 := fun c : Calm w2 => (c.cell (i := 0) lg).trans (HK2.out.cell 0)
  have q1 := fun c : Calm w2 => (c.cell (i := 1) lg).trans (HK2.out.cell 1)
  have q2 := fun c : Calm w2 => (c.cell (i := 2) lg).trans (HK2.out.cell 2)
  refine wp_region_calm (by kernel_rfl) (by kernel_rfl) ?_
  repeat (go_big_quiet_step (fail))
  go_big_quiet_want
  go_big_quiet_op
  go_big_quiet_call ((go_at_call 19; refine (HTL.out _).mono ?_; rintro e w4 ⟨rfl, hb0⟩; exact ⟨rfl, Calm.on _ hb0⟩))
  repeat (go_big_quiet_step (fail))
  go_big_quiet_want
  go_big_quiet_op
  go_big_quiet_call ((go_at_call 19; refine (HTH.out _).mono ?_; rintro e w4 ⟨rfl, hb0⟩; exact ⟨rfl, Calm.on _ hb0⟩))
  repeat (go_big_quiet_step (fail))
  refine wpQuiet_nil ?_
  rintro _ ⟨cw, rfl⟩
  clear q0 q1 q2 HTL HTH hd hd2
  have HX := hide (HB2.out.trans (cw.bel.mono HB2.out.size))
  have HMX := hide (HM2.out.below cw.bel HM2.out.kR.lt HM2.out.map.lt)
  have HKX := hide (HK2.out.below cw.bel lg)
  generalize cw.val = w5 at HX HMX HKX ⊢
  clear cw HM2 HK2 HB2 lg HM1 HK1 HB1 HH2 HM HK HB HL HH HWI
  obtain ⟨D, hown, hrd⟩ := HMX.out.map
  have HRD := hide hrd
  have b1 := HMX.out.kR.cell 1
  go_wp2_with (first
    | (at_range; refine wpList_range_own _ rfl _ 31 rfl 3 42 keyI Tryd.underlying31 nodeElem gm _ D rfl hown ?_; intro w6 hrg0 hg0 hs0)
    | go_in)
  go_frame
  have HS6 := hide (show SrcI w R gm g w5.heap.size (cntA A) A n D (Maps.has D) (Maps.size D) w6 from ⟨HX.out.grown hg0 HX.out.size (fun j hj => by cases hj), hrg0, HMX.out.keep (hg0.block R HMX.out.kR.lt (by simp)) (hg0.block gm HMX.out.map.lt (by simp)), HKX.out.grown hg0 (by simp), fun x m hx hgx hlx => by rw [HRD.out.has x hx, hgx] at hlx; cases hlx⟩)
  clear hown hrd b1 hrg0 hg0 hs0
  have hrw : w.heap.size ≤ w5.heap.size := HX.out.size
  have hRr : R ≠ w5.heap.size := Nat.ne_of_lt HMX.out.kR.lt
  have hgr : g ≠ w5.heap.size := Nat.ne_of_lt HKX.out.lt
  generalize w5.heap.size = r at HS6 hrw hRr hgr ⊢
  go_loopw [6] (fun _ wr => ∃ (left : Lit → Bool) (cnt : Nat), Hid (SrcI w R gm g r (cntA A) A n D left cnt wr)) (fun _ wr => wr.rangeLeft gm r)
  case atStart => exact ⟨_, _, HS6⟩
  case round =>
    clear HS6
    obtain ⟨left, cnt, hS⟩ := hrel
    have HSS := hide hS.out
    have hcnt := hS.out.rg.left_eq
    have hrgm := hS.out.rg
    clear hS
    go_wp2_with (first
      | (at_next; refine wpList_next_ranges _ rfl _ rfl 3 keyI nodeElem (Value.int .i64) nodeV (fun key kl hkey => by obtain ⟨x, e, _⟩ := keyOf_node hkey; exact ⟨x, e⟩) (fun v y hv => by obtain ⟨m, e, _⟩ := nodeElem_inv hv; exact ⟨m, e⟩) gm r (cntA A) D _ _ rfl hrgm ?_ ?_)
      | go_in)
    · intro hc0 hl0
      have HNO := Lib.hid (lies_not (fun x m hx hgx => HSS.out.no x m hx hgx (hl0 _)) HSS.out.r.room)
      clear hrgm hl0
      have b0 := HSS.out.r.kR.cell 0
      have b1 := HSS.out.r.kR.cell 1
      have hlen := HSS.out.r.map.len
      have hroom := HSS.out.r.room
      have hcl := cntA_le A
      cases hf : freeA A with
      | none =>
        have hfull : cntA A = A.length := free_none.1 hf
        have HE := hide (rmNo (w := w) HW.out (make_full HMY.out HNO.out hf) (by omega) (HSS.out.bel))
        have HEE := hide (fun (w' : World) (hb : Below w.heap.size w w') => rmNo (w := w) (w' := w') HW.out (make_full HMY.out HNO.out hf) (by omega) hb)
        rw [hfull] at hlen
        go_wp2
        go_quiet (fail)
        go_wp2
        go_ret2
        exact HEE.out _ (below_drewN HSS.out.bel _)
      | some k =>
        have hne : cntA A ≠ A.length := fun e => by rw [free_none.2 e] at hf; cases hf
        have hlt : decide ((A.length : Int) ≤ (cntA A : Int)) = false := decide_eq_false (by omega)
        have hlt2 : decide (A.length ≤ cntA A) = false := decide_eq_false (by omega)
        have hkl := (freeA_some hf).1
        have HFR := hide hf
        clear hf
        go_wp2
        go_quiet (fail)
        go_wp2
        have HF0 := hide (show FndI w R gm g A n 0 (wr.drewN nq) from ⟨below_drewN HSS.out.bel _, HSS.out.r.keep rfl rfl, HSS.out.kb⟩)
        clear b0 b1 hlen HSS
        generalize (wr.drewN nq) = w8 at HF0 ⊢
        go_loopw [8] (fun iv wr => ∃ i : Nat, i ≤ k ∧ iv = .int .i64 ((i : Int) + 2) ∧ Hid (FndI w R gm g A n i wr)) (fun iv _ => k + 2 - (intOf iv).toNat)
        case atStart => exact ⟨0, Nat.zero_le _, rfl, HF0⟩
        case round =>
          clear HF0
          obtain ⟨i, hi, rfl, hF⟩ := hrel
          have hxI : I64 ((i : Int) + 2) := by unfold I64; omega
          have HHS := hide (rfHas_any R gm A ((i : Int) + 2) wr hF.out.r hxI)
          by_cases hik : i < k
          · rw [free_before HFR.out hik] at HHS
            go_wp2_with fail
            refine (HHS.out).mono ?_
            rintro e w9 ⟨rfl, hb9⟩
            have HN := hide (hF.out.below (j := i + 1) hb9)
            clear hb9
            go_wp2
            go_roundw
            case rel => exact ⟨i + 1, by omega, by go_num, HN⟩
            case measure => simp [intOf]; omega
          · obtain rfl : i = k := by omega
            rw [free_here HFR.out] at HHS
            go_wp2_with fail
            refine (HHS.out).mono ?_
            rintro e w9 ⟨rfl, hb9⟩
            have HN := hide (hF.out.below (j := i) hb9)
            have b1 := HN.out.r.kR.cell 1
            have p0 := HN.out.kb.cell 0
            have p1 := HN.out.kb.cell 1
            have p2 := HN.out.kb.cell 2
            have HMP := hide (show MapN w9.drew gm (gotA A) (cntA A) from HN.out.r.map.same rfl)
            have hnone : gotA A ((i : Int) + 2) = none := by rw [gotA_k]; exact (freeA_some HFR.out).2
            clear hb9 hF HHS
            go_wp2
            go_still_tail 6, (by kernel_rfl)
            change wpList _ _ _ _ _ w9.drew
            have HRG := Lib.hid (blk_mapN HN.out.r.kR HN.out.r.map)
            go_wp2_with (first
              | (at_mapUpdate; refine storeN rfl _ _ _ 31 rfl Tryd.underlying31 rfl HMP.out _ n rfl rfl hxI hnone (by omega) ?_; intro w4 hm4 hg4; have HM4 := hide hm4; have HG4 := hide hg4; clear hm4 hg4)
              | fail)
            go_ret2
            have hcnt2 : cntA (A.set i (some n)) = cntA A + 1 := countP_set_none (freeA_some HFR.out).2 hkl
            have hgf : gotA (A.set i (some n)) = fun y => if y = (i : Int) + 2 then some n else gotA A y := by funext y; exact gotA_set hkl
            have hlen2 : (A.set i (some n)).length = A.length := List.length_set ..
            refine rmNew HMY.out HNO.out HFR.out ⟨?_, ?_, by rw [hlen2]; exact hroom, HN.out.r.wf.put HMY.out HNO.out (freeA_some HFR.out).2 hkl⟩ ?_
            · rw [hlen2]
              exact (HN.out.r.kR.drew).grown HG4.out (by intro e; injection e with e; exact HRG.out e)
            · rw [hgf, hcnt2]
              exact HM4.out
            · exact (fr_below HN.out.bel).drew.grown HG4.out (fun k e => by cases e; rfl)
    · intro x m kl y ps w7 cnt7 hkey hlk hy hat hrg7 hlt7 hg7 hs7 hen
      obtain ⟨x', ex, ek, hxI⟩ := keyOf_node hkey
      injection ex with _ ex
      subst ex ek
      rw [nodeElem_mk] at hy
      injection hy with hy
      injection hy with hy _
      subst hy
      have hgm2 : gotA A x = some m := by
        have h1 := HRD.out.has x hxI
        cases hgx : gotA A x with
        | none =>
          have h2 := atKey_of_not_has (k := keyL x) (D := D) (by rw [h1, hgx]; rfl)
          have h3 := (hat (.lit (.bool false))).symm.trans (h2 (.lit (.bool false)))
          cases h3
        | some m2 =>
          have h3 := (HRD.out.at_ x m2 hxI hgx (.lit (.bool false))).symm.trans (hat _)
          rw [nodeD_inj h3]
      have HSN := hide (fun hmn : m ≠ n => show SrcI w R gm g r (cntA A) A n D (fun z => left z && !z.sameKey (keyL x)) cnt7 w7 from ⟨HSS.out.bel.grown hg7 HSS.out.bel.size (fun j hj => by cases hj; exact hrw), hrg7, HSS.out.r.keep (hg7.block R HSS.out.r.kR.lt (by intro e; injection e with e; exact hRr e)) (hg7.block gm HSS.out.r.map.lt (by intro e; injection e with e; exact hrgm.ne e.symm)), HSS.out.kb.grown hg7 (by intro e; injection e with e; exact hgr e), fun z q hz hgz hlz => by
        by_cases hzx : z = x
        · subst hzx; rw [hgm2] at hgz; cases hgz; exact hmn
        · refine HSS.out.no z q hz hgz ?_
          have hsk := sameKey_ne (keyL_ne hzx)
          rw [hsk] at hlz
          simpa using hlz⟩)
      have HME := Lib.hid (show w7.rangeLeft gm r < wr.rangeLeft gm r by rw [hrg7.left_eq, hcnt]; exact hlt7)
      have HR7 := hide (HSS.out.r.keep (hg7.block R HSS.out.r.kR.lt (by intro e; injection e with e; exact hRr e)) (hg7.block gm HSS.out.r.map.lt (by intro e; injection e with e; exact hrgm.ne e.symm)))
      have HB7 := hide (HSS.out.bel.grown hg7 HSS.out.bel.size (fun j hj => by cases hj; exact hrw))
      have HK7 := hide (HSS.out.kb.grown hg7 (by intro e; injection e with e; exact hgr e))
      have hen2 : (Instr.entry (.pointer (some ⟨r, 0, none⟩))).run Tryd.prog w7 = .ok (.tuple #[.int .i64 x, .agg #[.int .i64 m.var, .int .i64 m.low, .int .i64 m.high]]) w7 := hen
      have hk8 := HK7.out.alloc (.cells #[.int .i64 m.var, .int .i64 m.low, .int .i64 m.high] 42)
      have p0 := hk8.cell 0
      have p1 := hk8.cell 1
      have p2 := hk8.cell 2
      have hl8 : w7.heap.size = w7.heap.size := rfl
      have hle7 := hrg7.left_eq
      have hw7 := hen2
      clear hrgm hat hg7 hs7 hen hlk hk8 hl8 hen2
      by_cases hmn : m = n
      · subst hmn
        have HY := hide (rmYes HMY.out (HR7.out.keep (w' := w7.alloc (.cells #[.int .i64 m.var, .int .i64 m.low, .int .i64 m.high] 42)) (Below.heap_alloc _ _ _ HR7.out.kR.lt) (Below.heap_alloc _ _ _ HR7.out.map.lt)) hgm2 (HB7.out.alloc HB7.out.size _))
        clear hrg7 HSN HME hle7
        go_wp2
        go_ret2
        exact HY.out
      · have HS8 := hide ((HSN.out hmn).alloc (.cells #[.int .i64 m.var, .int .i64 m.low, .int .i64 m.high] 42))
        have HM8 := Lib.hid (show (w7.alloc (.cells #[.int .i64 m.var, .int .i64 m.low, .int .i64 m.high] 42)).rangeLeft gm r < wr.rangeLeft gm r by rw [(hrg7.alloc _).left_eq, hcnt]; exact hlt7)
        clear hrg7 HSN HME hle7
        rcases nd_ne hmn with e1 | ⟨e1, e2⟩ | ⟨e1, e2, e3⟩
        case' inl => have hne := beq_eq_false_iff_ne.2 e1
        case' inr.inl =>
          have hne := beq_eq_false_iff_ne.2 e2
          rw [e1] at hw7 HS8 HM8 p0 p1 p2
        case' inr.inr =>
          have hne := beq_eq_false_iff_ne.2 e3
          rw [e1, e2] at hw7 HS8 HM8 p0 p1 p2
        all_goals
          clear hcnt hlt7
          go_wp2
          go_roundw
          case rel => exact ⟨_, _, HS8⟩
          case measure => exact HM8.out
theorem rfMake_any (R gm : Nat) (A : Ar) (n : Nd) (w : World) (h : RfM w R gm A) (hi : NdI n) :
    Calls Tryd.prog 11 #[.pointer (some ⟨R, 0, none⟩), .agg #[.int .i64 n.var, .int .i64 n.low, .int .i64 n.high]] w (RmPost w R gm A n) := by
  by_cases h1 : 0 ≤ n.var ∧ n.var < 24
  · by_cases h2 : hasA A n.low = true ∧ hasA A n.high = true
    · by_cases h3 : topA A n.low ≤ n.var ∨ topA A n.high ≤ n.var
      · exact rm_ten R gm A n w h hi h1 h2 h3
      · exact rm_may R gm A n w h hi (mayA_of h1 h2 h3)
    · exact rm_seven R gm A n w h hi h1 h2
  · exact rm_two R gm A n w h h1
end Go.Proofs.YtfbhmkpihmcegaaDoor
