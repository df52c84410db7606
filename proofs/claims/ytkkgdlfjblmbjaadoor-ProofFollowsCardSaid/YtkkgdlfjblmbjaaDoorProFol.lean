/-
  proof.Follow: checks the clauses, then tells 'folF'.
-/
import Derived.Test.YtkkgdlfjblmbjaaDoorFolA
import Derived.Test.YtkkgdlfjblmbjaaDoorLawForms
import Derived.Deep.RegionHeld3
namespace Go.Proofs.YtkkgdlfjblmbjaaDoor
open Go.RowKit

noncomputable def pfolF (vars : Int) (ls : List (List Int)) (ts : List Stp3) : List (List Int) × (Int × Int) := if checkF vars ls = (0, -1) then folF ls ts else ([], checkF vars ls)
theorem pfolF_bad {vars : Int} {ls : List (List Int)} {ts : List Stp3} (h : checkF vars ls ≠ (0, -1)) : pfolF vars ls ts = ([], checkF vars ls) := by unfold pfolF; rw [if_neg h]
theorem pfolF_ok {vars : Int} {ls : List (List Int)} {ts : List Stp3} (h : checkF vars ls = (0, -1)) : pfolF vars ls ts = folF ls ts := by unfold pfolF; rw [if_pos h]
def ProFolPost (w : World) (r : List (List Int) × (Int × Int)) (e : Ending) (w' : World) : Prop :=
  ∃ A n c vx, e = .returned (.tuple #[.slice A n c, vx]) ∧ Cls w' w'.heap.size A n r.1 ∧ IsErr w' vx r.2 ∧ Below w.heap.size w w'
theorem clsNil' (w : World) (B : Nat) : Cls w B none 0 [] :=
  ⟨rfl, Nat.zero_le _, [], ⟨rfl, fun h => absurd h (Nat.lt_irrefl _)⟩, fun _ hk => absurd hk (Nat.not_lt_zero _)⟩
theorem isErr_at (w : World) (c k : Int) (h1 : 1 ≤ c) (h2 : c ≤ 13) (h3 : 0 ≤ k) : IsErr (w.alloc (.cells #[.int .i64 c, .int .i64 k] 81)) (.iface 80 (.pointer (some ⟨w.heap.size, 0, none⟩))) (c, k) :=
  .inr (.inr ⟨w.heap.size, by simp, h1, h2, h3, rfl, Blk.new _ _ _⟩)

/-- A row of clauses of the call's own, what it leads to in T. -/
structure ProF (w0 : World) (T : Nat → Prop) (va : Value) (all : List (List Int)) (w : World) : Prop where
  own : OwnC w w0.heap.size T va all
  TS : ∀ i, T i → i < w.heap.size ∧ va.ownBlock ≠ some i
  bel : Below w0.heap.size w0 w
section
variable {w0 w w' : World} {T : Nat → Prop} {va : Value} {all : List (List Int)}
theorem ProF.lT (h : ProF w0 T va all w) : ∀ i, T i → i < w.heap.size := fun i hi => (h.TS i hi).1
theorem ProF.below (h : ProF w0 T va all w) (hb : Below w.heap.size w w') : ProF w0 T va all w' :=
  ⟨h.own.below hb h.lT, fun i hi => ⟨Nat.lt_of_lt_of_le (h.lT i hi) hb.size, (h.TS i hi).2⟩, h.bel.trans (hb.mono h.bel.size)⟩
theorem ProF.grow (h : ProF w0 T va all w) (hb : Below w.heap.size w w') : ProF w0 (fun i => T i ∨ (w.heap.size ≤ i ∧ i < w'.heap.size)) va all w' := by
  have h' := h.below hb
  refine ⟨h'.own.mono fun i hi => .inl hi, fun i hi => ?_, h'.bel⟩
  rcases hi with hi | hi
  · exact h'.TS i hi
  · exact ⟨hi.2, fun e => by have := h.own.lt i e; omega⟩
theorem ProF.put (h : ProF w0 T va all w) {va' : Value} {all' : List (List Int)} (ho : OwnC w' w0.heap.size T va' all') (hg : w.grownBy w' va.ownBlock) (hor : va'.ownBlock = va.ownBlock ∨ va'.ownBlock = some w.heap.size) : ProF w0 T va' all' w' :=
  ⟨ho, fun i hi => ⟨Nat.lt_of_lt_of_le (h.lT i hi) hg.size, newV h.lT (fun i hi => (h.TS i hi).2) hor i hi⟩,
    h.bel.trans ⟨hg.os, hg.tape, hg.output, hg.size, fun i hi => hg.block i (Nat.lt_of_lt_of_le hi h.bel.size) fun e => by have := (h.own.lt i e.symm).1; omega⟩⟩
theorem OwnC.form' {base : Nat} (h : OwnC w base T va all) : (va = .slice none 0 0 ∧ all = []) ∨ ∃ g c, va = .slice (some ⟨g, 0, none⟩) all.length c ∧ all.length ≤ c := by
  obtain ⟨_, vs, h, _⟩ := h
  rcases h.2 with ⟨rfl, h0⟩ | ⟨g, cap, cur, rfl, _, _, hc, _⟩
  · exact .inl ⟨rfl, List.eq_nil_of_length_eq_zero h0⟩
  · exact .inr ⟨g, _, rfl, hc⟩
theorem base_add (g k : Nat) : (⟨g, 0, none⟩ : Addr).add k = ⟨g, k, none⟩ := by
  unfold Addr.add
  split
  · rename_i h; rw [h]
  · simp
theorem OwnC.cellAt {base g k n c : Nat} (h : OwnC w base T (.slice (some ⟨g, 0, none⟩) n c) all) (hk : k < all.length) : ∃ A' n' c', w.cell? ⟨g, k, none⟩ = some (.slice A' n' c') ∧ n' ≤ c' ∧ IntsP w T A' n' (all.getD k []) := by
  obtain ⟨ad, c, A', n', c', e, _, h1, h2, h3⟩ := h.at_ hk
  cases e
  exact ⟨A', n', c', by rw [← base_add]; exact h1, h2, h3⟩
theorem ownC_made (w : World) (base cap : Nat) (cur : Array Value) (hb : base ≤ w.heap.size) (hm : cap ≤ maxLen) (hs : cur.size = cap * 1) (S : Nat → Prop) : OwnC (w.alloc (.cells cur 35)) base S (.slice (some ⟨w.heap.size, 0, none⟩) 0 cap) [] :=
  ⟨Nat.zero_le _, [], World.ownsRow_made (e := 35) (size := 1) w cur cap hb hm hs, .nil _ _⟩
theorem keep6 {a1 a2 a3 a4 a5 : Addr} {v1 v2 v3 v4 v5 : Value} (h : w.cell? a1 = some v1 ∧ w.cell? a2 = some v2 ∧ w.cell? a3 = some v3 ∧ w.cell? a4 = some v4 ∧ w.cell? a5 = some v5 ∧ Below w0.heap.size w0 w) (hb : Below w.heap.size w w') :
    w'.cell? a1 = some v1 ∧ w'.cell? a2 = some v2 ∧ w'.cell? a3 = some v3 ∧ w'.cell? a4 = some v4 ∧ w'.cell? a5 = some v5 ∧ Below w0.heap.size w0 w' :=
  ⟨(hb.cell (lt_of_cell h.1)).trans h.1, (hb.cell (lt_of_cell h.2.1)).trans h.2.1, (hb.cell (lt_of_cell h.2.2.1)).trans h.2.2.1, (hb.cell (lt_of_cell h.2.2.2.1)).trans h.2.2.2.1, (hb.cell (lt_of_cell h.2.2.2.2.1)).trans h.2.2.2.2.1, h.2.2.2.2.2.trans (hb.mono h.2.2.2.2.2.size)⟩
end

/-- Ahead of step k. -/
structure ProI (w0 : World) (ls : List (List Int)) (ts : List Stp3) (k : Nat) (va : Value) (wr : World) : Prop where
  mem : ∃ (T : Nat → Prop) (all : List (List Int)), ProF w0 T va all wr ∧ rowsOk all ∧ all.length = ls.length + k ∧ all.take ls.length = ls ∧ folGo all (ts.drop k) k = folGo ls ts 0

/-- Ahead of clause j of what is handed out. -/
structure OutI (w0 : World) (rest : List (List Int)) (j : Nat) (vo : Value) (w : World) : Prop where
  mem : ∃ T : Nat → Prop, ProF w0 T vo (rest.take j) w

set_option maxRecDepth 100000 in
set_option maxHeartbeats 8000000 in
theorem proFollow_ok (vars : Int) (A A2 : Option Addr) (n c n2 c2 : Nat) (ls : List (List Int)) (ts : List Stp3) (w : World) (hG : GlobE w) (hcl : Cls w w.heap.size A n ls) (hck : checkF vars ls = (0, -1)) (hrows : rowsOk ls) (hts : StpP w (· < w.heap.size) A2 n2 ts) (hn : n ≤ 1000000) (hn2 : n2 ≤ 1000) (hnil : A = none → n = 0) :
    Calls Tryd.prog 36 #[.int .i64 vars, .slice A n c, .slice A2 n2 c2] w (ProFolPost w (folF ls ts)) := by
  have HK := hide (check_any vars A n c ls w hcl)
  rw [hck] at HK
  have HG := hide hG
  have HCL := hide hcl
  have HTS := hide hts
  have HTL := Lib.hid hts.1
  have HLL := Lib.hid hcl.len
  have HRW := hide hrows
  have HF1 := hide (show ¬ 1000 < ts.length by rw [HTL.out]; omega)
  clear hG hcl hts hck hrows
  go_enter Tryd.func36, Tryd.ntmps36
  go_wp2_with fail
  refine (HK.out).mono ?_
  rintro e w1 ⟨ve, rfl, hE, hb1⟩
  obtain rfl : ve = .nilIface := by
    rcases hE with ⟨_, h⟩ | ⟨_, h, _⟩ | ⟨b, _, h, _⟩
    · exact h
    · simp at h
    · simp at h
  clear hE
  have HB1 := hide hb1
  have HCN := hide (clone_any A n c w.heap.size ls w1 (HCL.out.below hb1) hb1.size hn hnil)
  clear hb1
  go_wp2_with fail
  refine (HCN.out).mono ?_
  rintro e w2 ⟨v2, rfl, ho2, hb2⟩
  have HP2 := hide (show ProF w (· < w.heap.size) v2 ls w2 from ⟨ho2.more HB1.out.size, fun i hi => ⟨Nat.lt_of_lt_of_le hi (Nat.le_trans HB1.out.size hb2.size), fun e => by have := ho2.lt i e; have := HB1.out.size; omega⟩, HB1.out.trans (hb2.mono HB1.out.size)⟩)
  clear ho2 hb2 HCN HK
  go_wp2
  go_loopw [9, 31] (fun va i wr => ∃ k : Nat, k ≤ n2 ∧ i = .int .i64 k ∧ Hid (ProI w ls ts k va wr)) (fun _ i _ => n2 - (intOf i).toNat)
  case atStart => exact ⟨0, Nat.zero_le _, rfl, hide ⟨_, ls, HP2.out, HRW.out, rfl, List.take_length, rfl⟩⟩
  case round =>
    clear HP2 HB1
    obtain ⟨k, hk, rfl, hR⟩ := hrel
    obtain ⟨T, all, hP, hOK, hal, htk, hgo⟩ := hR.out.mem
    have HP := hide hP
    have HOK := hide hOK
    have HGO := hide hgo
    have HAL := Lib.hid hal
    have HTK := Lib.hid htk
    clear hP hOK hgo hal htk hR
    by_cases hlt : k < n2
    · obtain ⟨ad, a, b, v, rfl, hS, ht, ia, ib, iv, c1, c2, c3⟩ := HTS.out.at_ hlt
      have hbd : ∀ j, (ad.add j).block < w.heap.size := fun j => by rw [block_of_add]; exact hS
      have d1 := (HP.out.bel.cell (hbd _)).trans c1
      have d2 := (HP.out.bel.cell (hbd _)).trans c2
      have d3 := (HP.out.bel.cell (hbd _)).trans c3
      rw [← fld_add ad (k * 3) 1 (by omega)] at d2
      rw [← fld_add ad (k * 3) 2 (by omega)] at d3
      have HT := Lib.hid ht
      have HKL := Lib.hid (show k < ts.length by rw [HTL.out]; exact hlt)
      clear c1 c2 c3 ht hbd hS
      have HBA := hide ((Below.refl wr.heap.size wr).alloc (Nat.le_refl _) (.cells #[.int .i64 a, .int .i64 b, .int .i64 v] 71))
      have HPA := hide (HP.out.below HBA.out)
      have HIE := hide (show IsErr ((wr.alloc (.cells #[.int .i64 a, .int .i64 b, .int .i64 v] 71)).alloc (.cells #[.int .i64 2, .int .i64 k] 81)) (.iface 80 (.pointer (some ⟨wr.heap.size + 1, 0, none⟩))) (2, (k : Int)) from by
        have := isErr_at (wr.alloc (.cells #[.int .i64 a, .int .i64 b, .int .i64 v] 71)) 2 k (by omega) (by omega) (by omega)
        rw [World.size_alloc'] at this
        exact this)
      have HBE := hide (HPA.out.bel.alloc HPA.out.bel.size (.cells #[.int .i64 2, .int .i64 k] 81))
      have HOU := hide (fun (h : a < 0 ∨ (all.length : Int) ≤ a ∨ b < 0 ∨ (all.length : Int) ≤ b) => folF_err HF1.out ((HGO.out.symm).trans (folGo_out HKL.out HT.out h)) (show (2 : Int) ≠ 0 by decide))
      have HNX0 := hide (fun (h : ¬ (a < 0 ∨ (all.length : Int) ≤ a ∨ b < 0 ∨ (all.length : Int) ≤ b)) q (e : resF (all.getD a.toNat []) (all.getD b.toNat []) v = (q, 0)) => folGo_next (q := q) HKL.out HT.out h e)
      have HBD0 := hide (fun (h : ¬ (a < 0 ∨ (all.length : Int) ≤ a ∨ b < 0 ∨ (all.length : Int) ≤ b)) q c (e : resF (all.getD a.toNat []) (all.getD b.toNat []) v = (q, c)) => folGo_bad (q := q) (c := c) HKL.out HT.out h e)
      have hl6 : all.length ≤ 1001000 := by have := HAL.out; have := HLL.out; omega
      obtain ⟨Av, cv, hvf, hcv⟩ := HP.out.own.form
      by_cases ha0 : a < 0
      · have HF := Lib.hid (HOU.out (.inl ha0))
        subst hvf
        generalize all.length = nv at hl6 ⊢
        go_wp2
        rw [HF.out]
        exact bodyPost_ret (v := .tuple #[.slice none 0 0, .iface 80 (.pointer (some ⟨wr.heap.size + 1, 0, none⟩))]) (by simp [results, Tryd.results36, go_sem]) rfl ⟨none, 0, 0, _, rfl, clsNil' _ _, HIE.out, HBE.out⟩
      obtain ⟨x, rfl⟩ : ∃ x : Nat, a = x := ⟨a.toNat, by omega⟩
      clear ha0
      by_cases ha1 : all.length ≤ x
      · have HF := Lib.hid (HOU.out (.inr (.inl (by omega))))
        subst hvf
        generalize all.length = nv at hl6 ha1 ⊢
        go_wp2
        rw [HF.out]
        exact bodyPost_ret (v := .tuple #[.slice none 0 0, .iface 80 (.pointer (some ⟨wr.heap.size + 1, 0, none⟩))]) (by simp [results, Tryd.results36, go_sem]) rfl ⟨none, 0, 0, _, rfl, clsNil' _ _, HIE.out, HBE.out⟩
      by_cases hb0 : b < 0
      · have HF := Lib.hid (HOU.out (.inr (.inr (.inl hb0))))
        subst hvf
        generalize all.length = nv at hl6 ha1 ⊢
        go_wp2
        rw [HF.out]
        exact bodyPost_ret (v := .tuple #[.slice none 0 0, .iface 80 (.pointer (some ⟨wr.heap.size + 1, 0, none⟩))]) (by simp [results, Tryd.results36, go_sem]) rfl ⟨none, 0, 0, _, rfl, clsNil' _ _, HIE.out, HBE.out⟩
      obtain ⟨y, rfl⟩ : ∃ y : Nat, b = y := ⟨b.toNat, by omega⟩
      clear hb0
      by_cases hb1 : all.length ≤ y
      · have HF := Lib.hid (HOU.out (.inr (.inr (.inr (by omega)))))
        subst hvf
        generalize all.length = nv at hl6 ha1 hb1 ⊢
        go_wp2
        rw [HF.out]
        exact bodyPost_ret (v := .tuple #[.slice none 0 0, .iface 80 (.pointer (some ⟨wr.heap.size + 1, 0, none⟩))]) (by simp [results, Tryd.results36, go_sem]) rfl ⟨none, 0, 0, _, rfl, clsNil' _ _, HIE.out, HBE.out⟩
      have HNO := hide (show ¬ ((x : Int) < 0 ∨ (all.length : Int) ≤ x ∨ (y : Int) < 0 ∨ (all.length : Int) ≤ y) by omega)
      clear HOU HIE HBE
      rcases HP.out.own.form' with ⟨_, h0⟩ | ⟨g, cv', e, _⟩
      · exact absurd (show all.length = 0 by rw [h0]; rfl) (by omega)
      rw [e] at hvf
      cases hvf
      subst e
      obtain ⟨A1, n1, c1, q1, hc1, hi1⟩ := HPA.out.own.cellAt (k := x) (by omega)
      obtain ⟨A3, n3, c3, q3, hc3, hi3⟩ := HPA.out.own.cellAt (k := y) (by omega)
      have HI1 := hide (hi1.ints HPA.out.lT)
      have HI3 := hide (hi3.ints HPA.out.lT)
      have q4 : (wr.alloc (.cells #[.int .i64 x, .int .i64 y, .int .i64 v] 71)).cell? ⟨wr.heap.size, 0, none⟩ = some (.int .i64 x) := by simp
      have q5 : (wr.alloc (.cells #[.int .i64 x, .int .i64 y, .int .i64 v] 71)).cell? ⟨wr.heap.size, 1, none⟩ = some (.int .i64 y) := by simp
      have q6 : (wr.alloc (.cells #[.int .i64 x, .int .i64 y, .int .i64 v] 71)).cell? ⟨wr.heap.size, 2, none⟩ = some (.int .i64 v) := by simp
      have hl1 : n1 ≤ 1000 := by have := (HOK.out.at_ x).2; rw [HI1.out.len] at this; exact this
      have hl3 : n3 ≤ 1000 := by have := (HOK.out.at_ y).2; rw [HI3.out.len] at this; exact this
      have HRS := hide (fun (W : World) (hb : Below (wr.alloc (.cells #[.int .i64 x, .int .i64 y, .int .i64 v] 71)).heap.size (wr.alloc (.cells #[.int .i64 x, .int .i64 y, .int .i64 v] 71)) W) => proResolve_any v A1 A3 n1 c1 n3 c3 (all.getD x []) (all.getD y []) W ((HI1.out.below hb).more hb.size) ((HI3.out.below hb).more hb.size) (HOK.out.at_ x).1 (HOK.out.at_ y).1 hl1 hl3)
      have HNX := hide (HNX0.out HNO.out)
      have HBD := hide (HBD0.out HNO.out)
      have HSN := hide (fun q c (e : resF (all.getD x []) (all.getD y []) v = (q, c)) => HOK.out.snoc e)
      have HCD := hide (fun q c (e : resF (all.getD x []) (all.getD y []) v = (q, c)) => resF_code (q := q) (c := c) e)
      rw [Int.toNat_natCast, Int.toNat_natCast] at HNX HBD
      clear HNX0 HBD0 hi1 hi3 HI1 HI3
      generalize resF (all.getD x []) (all.getD y []) v = r at HRS HSN HBD HNX HCD
      obtain ⟨q, cd⟩ := r
      generalize hnv : all.length = nv at hl6 ha1 hb1 ⊢
      have hxN : x < nv := by omega
      have hyN : y < nv := by omega
      have hxI : (x : Int) < (nv : Int) := by omega
      have hyI : (y : Int) < (nv : Int) := by omega
      have hx0 : (0 : Int) ≤ (x : Int) := by omega
      have hy0 : (0 : Int) ≤ (y : Int) := by omega
      go_wp2
      generalize (wr.alloc (.cells #[.int .i64 x, .int .i64 y, .int .i64 v] 71)) = wA at HPA HBA q1 q3 q4 q5 q6 HRS ⊢
      go_region_held3 (fun w' => w'.cell? ⟨g, x, none⟩ = some (.slice A1 n1 c1) ∧ w'.cell? ⟨g, y, none⟩ = some (.slice A3 n3 c3) ∧ w'.cell? ⟨wr.heap.size, 0, none⟩ = some (.int .i64 x) ∧ w'.cell? ⟨wr.heap.size, 1, none⟩ = some (.int .i64 y) ∧ w'.cell? ⟨wr.heap.size, 2, none⟩ = some (.int .i64 v) ∧ Below wA.heap.size wA w') (first | assumption | exact ⟨q1, q3, q4, q5, q6, Below.refl _ _⟩ | exact ⟨q1, q3, q4, q5, q6, (Below.refl _ _).drew⟩ | exact keep6 (by assumption) (by assumption))
        (first | (go_at_call 33; refine (HRS.out _ (by first | exact (And.right (And.right (And.right (And.right (And.right (by assumption)))))) | exact (Below.refl _ _).drew | exact Below.refl _ _)).mono ?_; rintro e w3 ⟨vw, ve, rfl, how, hie, hb3⟩))
      have hb3' : Below wA.heap.size wA w3 := (Below.refl wA.heap.size wA).drew.trans hb3
      have HOW := hide (show Own w3 wA.heap.size vw q from how)
      have HP3 := hide (HPA.out.grow hb3')
      have HGE := hide (HG.out.below (HPA.out.bel.trans (hb3'.mono HPA.out.bel.size)))
      have HIX := hide hie
      have hsz3 := hb3'.size
      clear how hie hb3 hb3' q1 q3 q4 q5 q6 HRS HBA
      rcases HIX.out with ⟨e, rfl⟩ | ⟨_, hcd1, hcd2, rfl⟩ | ⟨_, _, _, _, h, _⟩
      · obtain rfl : cd = 0 := (Prod.mk.inj e).1
        clear e
        obtain ⟨Aw, cw, rfl, hcw⟩ := HOW.out.form
        have HQ := hide (intsP_of_ints (D := fun i => T i ∨ (wA.heap.size ≤ i ∧ i < w3.heap.size)) HOW.out.ints (fun hn ad e => by
          subst e
          exact .inr (HOW.out.lt ad.block rfl)))
        have HCW := hide hcw
        clear hcw
        generalize hT3 : (fun i => T i ∨ (wA.heap.size ≤ i ∧ i < w3.heap.size)) = T3 at HP3 HQ
        clear hT3
        have HNX2 := Lib.hid (HNX.out q rfl)
        have HSN2 := hide (HSN.out q 0 rfl)
        have HTK2 := Lib.hid (show (all ++ [q]).take ls.length = ls by rw [List.take_append_of_le_length (by have := HAL.out; omega)]; exact HTK.out)
        generalize q.length = nq at HQ HCW ⊢
        have HP4 := hide (HP3.out.below ((Below.refl w3.heap.size w3).alloc (Nat.le_refl _) (.cells #[.slice Aw nq cw] 35)))
        have HQ4 := hide (HQ.out.keep (Keep.of_below HP3.out.lT ((Below.refl w3.heap.size w3).alloc (Nat.le_refl _) (.cells #[.slice Aw nq cw] 35))))
        have HC4 := Lib.hid (show (w3.alloc (.cells #[.slice Aw nq cw] 35)).cell? ⟨w3.heap.size, 0, none⟩ = some (.slice Aw nq cw) by simp)
        rw [hnv] at HP4
        go_wp2_with (at_builtin; refine appC1H _ rfl _ _ _ rfl w.heap.size T3 Tryd.underlying22 _ all rfl HP4.out.own w3.heap.size 1 rfl Aw nq cw q HC4.out HCW.out HQ4.out (by omega) HP4.out.bel.size HP4.out.TS ?_)
        intro v5 w5 ho5 hg5 hor5
        have HP5 := hide (HP4.out.put ho5 hg5 (by rw [World.size_alloc']; exact hor5))
        clear ho5 hg5 hor5
        refine ⟨?_⟩
        go_wp2
        go_roundw
        case rel => exact ⟨k + 1, by omega, by go_num, hide ⟨T3, all ++ [q], HP5.out, HSN2.out, by rw [List.length_append, List.length_singleton, HAL.out]; omega, HTK2.out, by rw [← HNX2.out]; exact HGO.out⟩⟩
        case measure => simp [intOf]; omega
      · have hcd : cd ≠ 0 := by have : (1 : Int) ≤ cd := hcd1; omega
        have HF := Lib.hid (folF_err HF1.out ((HGO.out.symm).trans (HBD.out q cd rfl hcd)) hcd)
        have HTE := hide (tell_errno cd w3 HGE.out)
        go_wp2_with fail
        refine (HTE.out).mono ?_
        rintro e w4 ⟨rfl, hb4⟩
        have HIE := hide (isErr_at w4 cd k hcd1 hcd2 (by omega))
        have HBE := hide ((HP3.out.bel.trans (hb4.mono HP3.out.bel.size)).alloc (HP3.out.bel.trans (hb4.mono HP3.out.bel.size)).size (.cells #[.int .i64 cd, .int .i64 k] 81))
        go_wp2
        rw [HF.out]
        exact bodyPost_ret (v := .tuple #[.slice none 0 0, .iface 80 (.pointer (some ⟨w4.heap.size, 0, none⟩))]) (by simp [results, Tryd.results36, go_sem]) rfl ⟨none, 0, 0, _, rfl, clsNil' _ _, HIE.out, HBE.out⟩
      · exact absurd (show (0 : Int) ≤ -1 from h) (by decide)
    · obtain rfl : k = n2 := by omega
      have HE := Lib.hid (folF_fine HF1.out ((HGO.out.symm).trans (folGo_end (Nat.le_of_eq HTL.out) k)))
      obtain ⟨wo, rfl⟩ : ∃ wo : World, wo = wr := ⟨_, rfl⟩
      obtain ⟨i0, hi, hz0, hz1, hz2⟩ := info_parts clauseInfo
      obtain ⟨wm, hmk, hom, hgm⟩ := run_make_own (P := Tryd.prog) wo wo.heap.size 22 35 i0 (.slice none 0 0) 1 Tryd.underlying22 hi hz0 hz1 .i64 .i64 k (by rw [hz2]; omega) (by simp only [maxLen]; omega) (Nat.le_refl _)
      have HPM := hide (show ProF wo (fun _ => False) (.slice (some ⟨wo.heap.size, 0, none⟩) 0 k) [] wm from ⟨⟨Nat.zero_le _, [], hom, .nil _ _⟩, fun _ h => h.elim, ⟨hgm.os, hgm.tape, hgm.output, hgm.size, fun i hi => hgm.block i hi (by simp)⟩⟩)
      clear hom hgm hi hz0 hz1 hz2
      have hnv2 : all.length = n + k := by have := HAL.out; have := HLL.out; omega
      rcases Nat.eq_zero_or_pos k with hk0 | hk0
      · subst hk0
        change (Instr.makeSlice 22 (.int .i64 0) (.int .i64 0)).run Tryd.prog wo = _ at hmk
        have HE2 := Lib.hid (show folF ls ts = ([], (0, -1)) by rw [HE.out, List.drop_eq_nil_of_le (by have := HAL.out; omega)])
        rcases HP.out.own.form' with ⟨e, h0⟩ | ⟨g, cv, e, hcv⟩
        · subst e
          subst h0
          have hz : n = 0 := by have : 0 = n + 0 := hnv2; omega
          subst hz
          go_wp2
          go_loopw [14, 99] (fun vo i wi => vo = .slice (some ⟨wo.heap.size, 0, none⟩) 0 0 ∧ i = .int .i64 0 ∧ wi = wm) (fun _ _ _ => 0)
          case atStart => exact ⟨rfl, rfl, rfl⟩
          case round =>
            obtain ⟨rfl, rfl, rfl⟩ := hrel
            go_wp2
            go_ret2
            rw [HE2.out]
            exact ⟨_, _, _, _, rfl, HPM.out.own.cls (fun _ h => h.elim), .inl ⟨rfl, rfl⟩, HP.out.bel.trans (HPM.out.bel.mono HP.out.bel.size)⟩
        · subst e
          rw [Nat.add_zero] at hnv2
          rw [hnv2] at hcv ⊢
          by_cases hcn : cv = n
          · subst hcn
            go_wp2
            go_loopw [14, 99] (fun vo i wi => vo = .slice (some ⟨wo.heap.size, 0, none⟩) 0 0 ∧ i = .int .i64 0 ∧ wi = wm) (fun _ _ _ => 0)
            case atStart => exact ⟨rfl, rfl, rfl⟩
            case round =>
              obtain ⟨rfl, rfl, rfl⟩ := hrel
              go_wp2
              go_ret2
              rw [HE2.out]
              exact ⟨_, _, _, _, rfl, HPM.out.own.cls (fun _ h => h.elim), .inl ⟨rfl, rfl⟩, HP.out.bel.trans (HPM.out.bel.mono HP.out.bel.size)⟩
          · go_wp2
            go_loopw [14, 99] (fun vo i wi => vo = .slice (some ⟨wo.heap.size, 0, none⟩) 0 0 ∧ i = .int .i64 0 ∧ wi = wm) (fun _ _ _ => 0)
            case atStart => exact ⟨rfl, rfl, rfl⟩
            case round =>
              obtain ⟨rfl, rfl, rfl⟩ := hrel
              go_wp2
              go_ret2
              rw [HE2.out]
              exact ⟨_, _, _, _, rfl, HPM.out.own.cls (fun _ h => h.elim), .inl ⟨rfl, rfl⟩, HP.out.bel.trans (HPM.out.bel.mono HP.out.bel.size)⟩
      · rcases HP.out.own.form' with ⟨e, h0⟩ | ⟨g, cv, e, hcv⟩
        · exact absurd (show all.length = 0 by rw [h0]; rfl) (by omega)
        subst e
        have HRL := Lib.hid (show (all.drop ls.length).length = k by rw [List.length_drop, hnv2, HLL.out]; omega)
        have HRG := hide (fun j (hj : j < k) => show (all.drop ls.length).getD j [] = all.getD (n + j) [] by rw [List.getD_eq_getElem?_getD, List.getElem?_drop, HLL.out, ← List.getD_eq_getElem?_getD])
        have HE2 := Lib.hid HE.out
        generalize all.drop ls.length = rest at HRL HRG HE2
        have HNV := Lib.hid hnv2
        rw [hnv2] at hcv HP ⊢
        have hcn : ¬ cv = n := by omega
        go_wp2
        go_loopw [14, 99] (fun vo i wi => ∃ j : Nat, j ≤ k ∧ i = .int .i64 j ∧ Hid (OutI wo rest j vo wi)) (fun _ i _ => k - (intOf i).toNat)
        case atStart => exact ⟨0, Nat.zero_le _, rfl, hide ⟨_, HPM.out⟩⟩
        case round =>
          clear HPM hmk
          obtain ⟨j, hj, rfl, hO⟩ := hrel
          obtain ⟨T5, hP5⟩ := hO.out.mem
          have HP5 := hide hP5
          clear hP5 hO
          by_cases hjk : j < k
          · obtain ⟨A', n', c', qc, hcc, hic⟩ := HP.out.own.cellAt (k := n + j) (by rw [HNV.out]; omega)
            have qc' : wr.cell? ⟨g, n + j, none⟩ = some (.slice A' n' c') := (HP5.out.bel.cell (lt_of_cell qc)).trans qc
            have HI6 := hide (((hic.ints HP.out.lT).below HP5.out.bel).more HP5.out.bel.size)
            have hl6' : n' ≤ 1000 := by have := (HOK.out.at_ (n + j)).2; rw [HI6.out.len] at this; exact this
            have HRJ := Lib.hid (show rest.take (j + 1) = rest.take j ++ [all.getD (n + j) []] by rw [take_snoc rest j [] (by rw [HRL.out]; exact hjk), HRG.out j hjk])
            have HCQ := hide (cloneI_any A' n' c' (all.getD (n + j) []) wr HI6.out (by omega))
            clear qc hic
            generalize all.getD (n + j) [] = zs at HI6 HRJ HCQ
            go_wp2_with fail
            refine (HCQ.out).mono ?_
            rintro e w6 ⟨vq, rfl, hoq, hbq⟩
            obtain ⟨Aq, cq, rfl, hcq⟩ := hoq.form
            have HP6 := hide (HP5.out.grow hbq)
            have HQ := hide (intsP_of_ints (D := fun i => T5 i ∨ (wr.heap.size ≤ i ∧ i < w6.heap.size)) hoq.ints (fun hn ad e => by
              subst e
              exact .inr (hoq.lt ad.block rfl)))
            have HCW := hide hcq
            clear hcq hoq hbq
            generalize hT3 : (fun i => T5 i ∨ (wr.heap.size ≤ i ∧ i < w6.heap.size)) = T3 at HP6 HQ
            clear hT3
            generalize zs.length = nq at HQ HCW ⊢
            have HP7 := hide (HP6.out.below ((Below.refl w6.heap.size w6).alloc (Nat.le_refl _) (.cells #[.slice Aq nq cq] 35)))
            have HQ7 := hide (HQ.out.keep (Keep.of_below HP6.out.lT ((Below.refl w6.heap.size w6).alloc (Nat.le_refl _) (.cells #[.slice Aq nq cq] 35))))
            have HC7 := Lib.hid (show (w6.alloc (.cells #[.slice Aq nq cq] 35)).cell? ⟨w6.heap.size, 0, none⟩ = some (.slice Aq nq cq) by simp)
            have HLT := Lib.hid (show (rest.take j).length ≤ 1000 by rw [List.length_take]; omega)
            go_wp2_with (at_builtin; refine appC1H _ rfl _ _ _ rfl wo.heap.size T3 Tryd.underlying22 _ (rest.take j) rfl HP7.out.own w6.heap.size 1 rfl Aq nq cq zs HC7.out HCW.out HQ7.out (by have := HLT.out; omega) HP7.out.bel.size HP7.out.TS ?_)
            intro v8 w8 ho8 hg8 hor8
            have HP8 := hide (HP7.out.put ho8 hg8 (by rw [World.size_alloc']; exact hor8))
            clear ho8 hg8 hor8
            refine ⟨?_⟩
            go_wp2
            go_roundw
            case rel => exact ⟨j + 1, by omega, by go_num, hide ⟨T3, by rw [HRJ.out]; exact HP8.out⟩⟩
            case measure => simp [intOf]; omega
          · obtain rfl : j = k := by omega
            have hP := HP5.out
            rw [List.take_of_length_le (by rw [HRL.out]; exact Nat.le_refl _)] at hP
            have HP8 := hide hP
            clear hP HP5
            obtain ⟨Ao, co, rfl, _⟩ := HP8.out.own.form
            generalize rest.length = nr at HP8
            go_wp2
            go_ret2
            rw [HE2.out]
            exact ⟨_, _, _, _, rfl, HP8.out.own.cls HP8.out.lT, .inl ⟨rfl, rfl⟩, HP.out.bel.trans (HP8.out.bel.mono HP.out.bel.size)⟩
end Go.Proofs.YtkkgdlfjblmbjaaDoor
