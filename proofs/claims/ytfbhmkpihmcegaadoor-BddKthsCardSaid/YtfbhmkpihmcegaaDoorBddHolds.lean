/-
  A space's Holds.
-/
import Derived.Test.YtfbhmkpihmcegaaDoorBddFunP
import Derived.Test.YtfbhmkpihmcegaaDoorBddTabM
import Derived.Laws.Bits64b
namespace Go.Proofs.YtfbhmkpihmcegaaDoor
open Go.RowKit Go.Maps

theorem shr_bit (v x : Nat) (hv : v < 18446744073709551616) : (bits BinOp.and IntKind.u64 ((v : Int) / 2 ^ x) 1 == 1) = v.testBit x := by
  have e : ((v : Int) / 2 ^ x) = ((v >>> x : Nat) : Int) := by rw [Nat.shiftRight_eq_div_pow]; norm_cast
  have hl : v >>> x < 18446744073709551616 := Nat.lt_of_le_of_lt (Nat.shiftRight_le v x) hv
  rw [e, show (1 : Int) = ((1 : Nat) : Int) from rfl, bits_and_u64_nat _ _ hl (by omega), Nat.testBit, Nat.and_comm]
  have h1 : 1 &&& v >>> x = 0 ∨ 1 &&& v >>> x = 1 := by rw [Nat.one_and_eq_mod_two]; omega
  rcases h1 with h1 | h1 <;> rw [h1] <;> rfl
def HoldsP (w : World) (A : Ar) (x : Int) (u : Int → Bool) (e : Ending) (w' : World) : Prop := e = .returned (.tuple #[.bool (den A x u), .nilIface]) ∧ Below w.heap.size w w'
section
variable (S B gn gu gt gc m : Nat) (vars : Int) (A : Ar) (w : World)
/-- Where the way down stands. -/
structure HolI (A : Ar) (w : World) (x : Int) (u : Int → Bool) (y : Int) (wr : World) : Prop where
  bel : Below w.heap.size w wr
  has : hasA A y = true
  den : den A y u = den A x u
set_option maxRecDepth 100000 in
set_option maxHeartbeats 4000000 in
theorem bdHolds_any (x : Int) (v : Nat) (h : SpM w S B gn gu gt gc vars A m) (p : hasA A x = true) (hv : v < 18446744073709551616) :
    Calls Tryd.prog 27 #[.pointer (some ⟨S, 0, none⟩), .int .i64 x, .int .u64 (v : Int)] w (HoldsP w A x (valN v)) := by
  have HS := hide h
  have s0 := h.kS.cell 0
  have HHS := hide (arHas_any B gn gu gt A x w h.ar (h.sp.i64 p))
  rw [p] at HHS
  have HI := hide (show HolI A w x (valN v) x w from ⟨Below.refl _ _, p, rfl⟩)
  clear h p
  go_enter Tryd.func27, Tryd.ntmps27
  go_wp2_with fail
  refine (HHS.out).mono ?_
  rintro e w1 ⟨rfl, rfl⟩
  go_wp2
  go_loopw [1] (fun hv wr => ∃ y, hv = .int .i64 y ∧ Hid (HolI A w x (valN v) y wr)) (fun hv _ => (24 - topA A (intOf hv)).toNat)
  case atStart => exact ⟨x, rfl, HI⟩
  case round =>
    clear HI s0 HHS
    obtain ⟨y, rfl, hI⟩ := hrel
    have hsp := HS.out.below hI.out.bel
    have s0 := hsp.kS.cell 0
    cases hg : gotA A y with
    | none =>
      have HGT := hide (arGet_none B gn gu gt A y wr hsp.ar (hsp.sp.i64 hI.out.has) hg)
      have HD := Lib.hid ((show den A y (valN v) = (y == 1) from den_none hg).symm.trans hI.out.den)
      clear hsp hg
      go_wp2_with fail
      refine (HGT.out).mono ?_
      rintro e w2 ⟨rfl, hb⟩
      have HB := hide (hI.out.bel.trans (hb.mono hI.out.bel.size))
      clear hb hI
      go_wp2
      go_ret2
      exact ⟨by rw [← HD.out]; rfl, HB.out.alloc HB.out.size _⟩
    | some n =>
      have HGT := hide (arGet_some B gn gu gt A y n wr hsp.ar (hsp.sp.i64 hI.out.has) hg)
      obtain ⟨n0, nv⟩ := hsp.sp.lt hg
      have hk := (hsp.sp.wf.kid hg (valN v n.var)).1
      have ht := hsp.sp.wf.dep hg
      have he := top_some hg
      have HD := Lib.hid ((show den A y (valN v) = den A (if valN v n.var = true then n.high else n.low) (valN v) from den_some hsp.sp.wf hg).symm.trans hI.out.den)
      have hh := (hsp.sp.wf.kid hg (valN v n.var)).2
      clear hsp hg
      obtain ⟨x0', lo, hi⟩ := n
      simp only at hk hh he n0 nv HD
      obtain ⟨x0, rfl⟩ : ∃ x0 : Nat, x0' = (x0 : Int) := ⟨x0'.toNat, by omega⟩
      have hbit := shr_bit v x0 hv
      have HV : valN v (x0 : Int) = v.testBit x0 := by unfold valN; simp
      rw [HV] at hk hh HD
      have hmin : min x0 64 = x0 := by omega
      cases hb0 : v.testBit x0
      all_goals
        rw [hb0] at hk hh HD hbit
        simp only [Bool.false_eq_true, if_true, if_false] at hk hh HD
        go_wp2_with fail
        refine (HGT.out).mono ?_
        rintro e w2 ⟨rfl, hb⟩
        have HB := hide ((hI.out.bel.trans (hb.mono hI.out.bel.size)).alloc (hI.out.bel.trans (hb.mono hI.out.bel.size)).size (.cells #[.int .i64 (x0 : Int), .int .i64 lo, .int .i64 hi] 39))
        clear hb
        go_wp2
        refine ⟨⟨_, rfl, hide ⟨HB.out, hh, HD.out⟩⟩, ?_⟩
        simp only [intOf]
        omega
end
end Go.Proofs.YtfbhmkpihmcegaaDoor
