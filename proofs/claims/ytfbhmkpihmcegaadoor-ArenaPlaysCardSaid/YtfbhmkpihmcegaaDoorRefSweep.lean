/-
  The document's Sweep.
-/
import Derived.Test.YtfbhmkpihmcegaaDoorRefReach2
namespace Go.Proofs.YtfbhmkpihmcegaaDoor
open Go.RowKit Go.Maps

def partF (A : Ar) (L : List Int) (j : Nat) (y : Int) : Option Nd := if y ∈ L.take j then gotA A y else none
theorem partF_zero (A : Ar) (L : List Int) : partF A L 0 = fun _ => none := by funext y; unfold partF; rw [List.take_zero, if_neg (List.not_mem_nil)]
theorem partF_next {A : Ar} {L : List Int} {j : Nat} (hj : j < L.length) {n : Nd} (hn : gotA A (L.getD j 0) = some n) : partF A L (j + 1) = fun y => if y = L.getD j 0 then some n else partF A L j y := by
  funext y
  have hm : y ∈ L.take (j + 1) ↔ (y ∈ L.take j ∨ y = L.getD j 0) := by
    rw [List.take_add_one, getD_of (d := 0) hj, Option.toList_some, List.mem_append, List.mem_singleton]
  unfold partF
  by_cases h : y = L.getD j 0
  · rw [if_pos h, if_pos (hm.2 (.inr h)), h, hn]
  · rw [if_neg h]
    by_cases h2 : y ∈ L.take j
    · rw [if_pos (hm.2 (.inl h2)), if_pos h2]
    · rw [if_neg (fun hc => (hm.1 hc).elim h2 h), if_neg h2]
theorem reachL_nodup (A : Ar) (l : List Int) : (reachL A l).Nodup := by
  rw [reachL_keep]
  unfold List.Nodup
  rw [List.pairwise_map]
  exact (keepK_nodup A l).imp fun h e => h (by omega)
theorem partF_new {A : Ar} {l : List Int} {j : Nat} (hj : j < (reachL A l).length) : partF A (reachL A l) j ((reachL A l).getD j 0) = none := by
  unfold partF
  rw [if_neg]
  intro hm
  obtain ⟨q, hq, e⟩ := List.getElem_of_mem hm
  rw [List.length_take] at hq
  rw [List.getElem_take] at e
  have e2 : (reachL A l)[q]'(by omega) = (reachL A l)[j]'hj := by
    rw [e, List.getD_eq_getElem?_getD, List.getElem?_eq_getElem hj]; rfl
  have := (List.getElem_inj (reachL_nodup A l)).1 e2
  omega
theorem partF_all (A : Ar) (l : List Int) : partF A (reachL A l) (reachL A l).length = gotA (sweepA A l) := by
  funext y
  unfold partF
  rw [List.take_length]
  by_cases h : y ∈ reachL A l
  · rw [if_pos h, sweep_sub A l (mem_reachL.1 h)]
  · rw [if_neg h]
    cases e : gotA (sweepA A l) y with
    | none => rfl
    | some n => exact absurd (mem_reachL.2 ((sweep_got A l y n).1 e).2) h
structure RswI (w : World) (R gm gm2 : Nat) (A : Ar) (L : List Int) (vl : Value) (j : Nat) (wr : World) : Prop where
  bel : Below w.heap.size w wr
  r : RfM wr R gm A
  own : OwnI wr w.heap.size vl L
  map : MapN wr gm2 (partF A L j) j
def RsPost (w : World) (R : Nat) (A : Ar) (l : List Int) (e : Ending) (w' : World) : Prop :=
  e = .returned (.int .i64 ((cntA A : Int) - ((reachL A l).length : Int))) ∧ ∃ gm', RfM w' R gm' (sweepA A l) ∧ w.heap.size ≤ gm' ∧ Fr (fun k => k = R) w w'

set_option maxRecDepth 100000 in
set_option maxHeartbeats 8000000 in
theorem rfSweep_any (R gm : Nat) (A : Ar) (Af : Option Addr) (nf cf : Nat) (l : List Int) (w : World) (h : RfM w R gm A) (hl : RowI w Af nf l) (hi : ∀ x ∈ l, I64 x) (hn : nf ≤ 1000000) :
    Calls Tryd.prog 16 #[.pointer (some ⟨R, 0, none⟩), .slice Af nf cf] w (RsPost w R A l) := by
  have hmm := @run_makeMap Tryd.prog
  have HRE := hide (rfReach_any R gm A Af nf cf l w h hl hi hn)
  have HW := hide h
  have hRl := h.kR.lt
  have hml := h.map.lt
  have hroom := h.room
  have hle := reachL_le A l
  have HWF := hide h.wf
  clear h hl hi
  go_enter Tryd.func16, Tryd.ntmps16
  go_wp2_with fail
  refine (HRE.out).mono ?_
  rintro e w1 ⟨vl, rfl, ho, hb1⟩
  have HR1 := hide (HW.out.below hb1 hRl hml)
  have b1 := HR1.out.kR.cell 1
  have HM1 := hide HR1.out.map
  have hl1 := hb1.size
  have hba := (Below.refl w1.heap.size w1).alloc (Nat.le_refl _) (.map #[] 0)
  have HST := hide (show RswI w R gm w1.heap.size A (reachL A l) vl 0 (w1.alloc (.map #[] 0)) from ⟨hb1.trans (hba.mono hb1.size), HR1.out.below hba (Nat.lt_of_lt_of_le hRl hl1) (Nat.lt_of_lt_of_le hml hl1), ho.below hba, by rw [partF_zero]; exact mapN_made w1⟩)
  obtain ⟨Ao, co, ev⟩ := ho.len
  subst ev
  have HOB := hide (show ∀ k, (Value.slice Ao (reachL A l).length co).ownBlock = some k → k < w1.heap.size from fun k e => (World.ownsRow.lt ho k e).2)
  clear ho hb1 hba HRE
  go_wp2_with (first
    | (at_len; refine lenN rfl _ 31 rfl Tryd.underlying31 rfl HM1.out ?_)
    | fail)
  clear b1 HM1 hmm
  generalize hg2 : w1.heap.size = gm2 at HST HOB hl1 ⊢
  generalize (w1.alloc (.map #[] 0)) = w2 at HST ⊢
  clear hg2
  go_loopw [21] (fun iv wr => ∃ j : Nat, j ≤ (reachL A l).length ∧ iv = .int .i64 j ∧ Hid (RswI w R gm gm2 A (reachL A l) (.slice Ao (reachL A l).length co) j wr)) (fun iv _ => (reachL A l).length - (intOf iv).toNat)
  case atStart => exact ⟨0, Nat.zero_le _, rfl, HST⟩
  case round =>
    clear HST
    obtain ⟨j, hj, rfl, hR⟩ := hrel
    by_cases hlt : j < (reachL A l).length
    · obtain ⟨g, cap, cur, ev, hg, hk, _, hc⟩ := hR.out.own.form (by omega)
      injection ev with e1 _ e2
      subst e1 e2
      have l0 := (hk.cell j).trans (hc j hlt)
      have hmem : (reachL A l).getD j 0 ∈ reachL A l := List.mem_of_getElem? (getD_of hlt)
      obtain ⟨n, hn1⟩ := (mem_reachL.1 hmem).got
      have hxI : I64 ((reachL A l).getD j 0) := by
        obtain ⟨k, ek, hkA, _⟩ := gotA_is hn1
        unfold I64
        omega
      have hnew := partF_new hlt
      have HF := Lib.hid (partF_next hlt hn1)
      have b1 := hR.out.r.kR.cell 1
      have HRR := hide hR.out
      have HMA := hide hR.out.r.map
      have HMP := hide hR.out.map
      have hgg : g < gm2 := HOB.out g rfl
      clear hk hc hR hmem hg
      generalize (reachL A l).getD j 0 = x at l0 hn1 hxI hnew HF
      go_wp2_with (first
        | (at_lookup; refine lookN rfl _ _ 31 rfl Tryd.underlying31 rfl HMA.out x rfl hxI ?_; rw [hn1, Option.getD_some])
        | (at_mapUpdate; refine storeN rfl _ _ _ 31 rfl Tryd.underlying31 rfl HMP.out x n rfl rfl hxI hnew (by omega) ?_; intro w4 hm4 hg4; rw [← HF.out] at hm4; have HN := hide (show RswI w R gm gm2 A (reachL A l) (.slice (some ⟨g, 0, none⟩) (reachL A l).length co) (j + 1) w4 from ⟨HRR.out.bel.grown hg4 HRR.out.bel.size (fun k e => by cases e; omega), HRR.out.r.keep (hg4.block R HRR.out.r.kR.lt (by intro e; injection e with e; omega)) (hg4.block gm HRR.out.r.map.lt (by intro e; injection e with e; omega)), HRR.out.own.kept hg4 (.inr (by intro e; injection e with e; have e' : g = gm2 := e; omega)), hm4⟩); clear hm4 hg4)
        | fail)
      go_roundw
      case rel => exact ⟨j + 1, by omega, by go_num, HN⟩
      case measure => simp [intOf]; omega
    · obtain rfl : j = (reachL A l).length := by omega
      have hm := hR.out.map
      rw [partF_all] at hm
      have HMP := hide hm
      have HRR := hide hR.out
      have b1 := hR.out.r.kR.cell 1
      have f1 := hR.out.r.kR.frozen 1
      have hcA := cntA_le A
      have hcw : wrap64 ((cntA A : Int) - ((reachL A l).length : Int)) = (cntA A : Int) - ((reachL A l).length : Int) := by unfold wrap64; omega
      have hneR : gm2 ≠ R := by omega
      have HFIN := hide (show RfM (wr.setCell ⟨R, 1, none⟩ (.map (some gm2))) R gm2 (sweepA A l) from ⟨by rw [sweep_len]; exact hR.out.r.kR.set_ 1 (.map (some gm2)), by rw [sweep_cnt]; exact hm.same (Below.heap_setCell wr _ _ gm2 hneR), by rw [sweep_len]; exact hroom, HWF.out.sweep l⟩)
      have HMS := hide (show MapN (wr.setCell ⟨R, 1, none⟩ (.map (some gm2))) gm2 (gotA (sweepA A l)) (reachL A l).length from hm.same (Below.heap_setCell wr _ _ gm2 hneR))
      have HBB := hide ((Fr.of_below (S := fun k => k = R) HRR.out.bel (Nat.le_refl _)).set_ (p := ⟨R, 1, none⟩) rfl (.map (some gm2)))
      clear hR hm
      go_wp2_with (first
        | (at_len; refine lenN rfl _ 31 rfl Tryd.underlying31 rfl HMS.out ?_)
        | fail)
      go_ret
      exact ⟨by first | rfl | (rw [← hcw]; rfl), gm2, HFIN.out, hl1, HBB.out⟩
end Go.Proofs.YtfbhmkpihmcegaaDoor
