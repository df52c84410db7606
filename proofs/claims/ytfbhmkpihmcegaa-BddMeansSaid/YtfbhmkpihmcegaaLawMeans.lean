/-
  The law BddMeans, walked.
-/
import Derived.Test.YtfbhmkpihmcegaaLawSame
import Derived.Test.YtfbhmkpihmcegaaBddHolds
namespace Go.Proofs.Ytfbhmkpihmcegaa
open Go.RowKit Go.Maps

/-- The values that the law asks: i's bits, and others above. -/
def wideN (i values vn : Nat) : Nat := i ||| (values * 2 ^ vn) % 18446744073709551616
theorem wide_lt {i values vn : Nat} (hi : i < 64) : wideN i values vn < 18446744073709551616 := Nat.or_lt_two_pow (n := 64) (by omega) (Nat.mod_lt _ (by decide))
theorem wide_bit {i values vn x : Nat} (hx : x < vn) : (wideN i values vn).testBit x = i.testBit x := by
  unfold wideN
  rw [Nat.testBit_or, show (18446744073709551616 : Nat) = 2 ^ 64 from rfl, Nat.testBit_mod_two_pow, Nat.mul_comm, Nat.testBit_two_pow_mul]
  simp
  intro _ h
  omega
theorem wide_eq {i values vn : Nat} (hi : i < 64) : bits BinOp.or IntKind.u64 (IntKind.u64.wrap (i : Int)) (IntKind.u64.wrap ((values : Int) * 2 ^ vn)) = ((wideN i values vn : Nat) : Int) := by
  have e1 : IntKind.u64.wrap (i : Int) = ((i : Nat) : Int) := by rw [IntKind.wrap_u64]; omega
  have e2 : IntKind.u64.wrap ((values : Int) * 2 ^ vn) = (((values * 2 ^ vn) % 18446744073709551616 : Nat) : Int) := by
    rw [IntKind.wrap_u64, Int.natCast_emod, Int.natCast_mul, Int.natCast_pow]
    rfl
  rw [e1, e2, bits_or_u64_nat _ _ (by omega) (Nat.mod_lt _ (by decide))]
  rfl
section
variable {w w1 : World} {vn n sz : Nat} {q : Nat → Four} {S B gn gu gt gc L g g' : Nat} {A : Ar} {hs : List Int} {gs : List Nat}
theorem RowsI.means (h : RowsI w vn n sz q S B gn gu gt gc L g g' A hs gs w1) {k i values : Nat} (hk : k < L) : den A (hs.getD k 0) (valN (wideN i values vn)) = funN vn q n k (valN i) := by
  rw [← h.denk hk]
  refine den_var h.sp.sp (fun x h0 hx => ?_) _ _ (Nat.le_refl _)
  obtain ⟨y, rfl⟩ : ∃ y : Nat, x = (y : Int) := ⟨x.toNat, by omega⟩
  unfold valN
  rw [Int.toNat_natCast, wide_bit (by omega)]
end
set_option maxRecDepth 100000 in
set_option maxHeartbeats 8000000 in
theorem lawMeans_walk (vars : Int) (Al : Option Addr) (n c : Nat) (q : Nat → Four) (values : Nat) (w : World) (hq : FourP w Al n q) :
    Calls Try.prog 4 #[.int .i64 vars, .slice Al n c, .int .u64 (values : Int)] w (AtPost w true) := by
  have HM := hide (made_any vars Al n c q w hq)
  clear hq
  go_enter Try.func4, Try.ntmps4
  go_wp2_with fail
  refine (HM.out).mono ?_
  rintro e w1 (⟨_, rfl, rfl⟩ | ⟨hn, vn, rfl, h1, h6, S, B, gn, gu, gt, gc, vh, vt, rfl, hm⟩)
  · go_wp2
    go_ret
    exact ⟨rfl, Below.refl _ _⟩
  · obtain ⟨sz, L, g, g', c1, c2, A, hs, gs, rfl, rfl, hr⟩ := hm.rows
    have HR := hide hr
    have hL : L ≤ 27 := by have := hr.len; omega
    obtain ⟨hw1, hw2, hw3⟩ := pow_wrap h6 hr.pw
    have HV := hide (bdVars_any S B gn gu gt gc 0 (vn : Int) A w1 hr.sp)
    clear hm hr HM
    go_wp2_with fail
    refine (HV.out).mono ?_
    rintro e w9 ⟨rfl, rfl⟩
    clear HV
    go_wp2
    go_loopw [11] (fun iv wr => ∃ i : Nat, i ≤ L ∧ iv = .int .i64 i ∧ Hid (Below w1.heap.size w1 wr)) (fun iv _ => L - (intOf iv).toNat)
    case atStart => exact ⟨0, Nat.zero_le _, rfl, hide (Below.refl _ _)⟩
    case round =>
      obtain ⟨k, hk, rfl, HW⟩ := hrel
      by_cases hkl : k < L
      · have hkI : (k : Int) < (L : Int) := by omega
        go_wp2
        have hmin : min vn 64 = vn := by omega
        go_loopw [12] (fun iv wr => ∃ i : Nat, i ≤ sz ∧ iv = .int .i64 i ∧ Hid (Below w1.heap.size w1 wr)) (fun iv _ => sz - (intOf iv).toNat)
        case atStart => exact ⟨0, Nat.zero_le _, rfl, HW⟩
        case round =>
          obtain ⟨i, hi, rfl, HW2⟩ := hrel
          by_cases hlt : i < sz
          · have hiI : (i : Int) < (sz : Int) := by omega
            have hr2 := HR.out.below HW2.out
            have ch := hr2.h k hkl
            have hgl := hr2.lt.1
            have HME := Lib.hid (hr2.means (i := i) (values := values) hkl)
            have HHO0 := (bdHolds_any S B gn gu gt gc 0 (vn : Int) A wr.drew _ (wideN i values vn) (hr2.sp.below (Below.refl _ _).drew) (hr2.hask hkl) (wide_lt (i := i) (values := values) (vn := vn) (by omega)))
            rw [← wide_eq (by omega)] at HHO0
            have HHO := hide HHO0
            have HTT := Lib.hid (fun w' (hb : Below wr.heap.size wr w') => And.intro ((hr2.below hb).t k hkl) ((hr2.below hb).tabk hkl))
            clear hr2 HHO0
            generalize hs.getD k 0 = x at ch HHO HME
            go_wp2
            go_region_held3 (fun w' => w'.cell? ⟨g, k, none⟩ = some (.int .i64 x)) (first | assumption | exact (((Below.refl wr.heap.size wr).drew.trans hb3).cell (p := ⟨g, k, none⟩) hgl).trans ch)
              (first | (go_at_call 10; refine (HHO.out).mono ?_; rintro e w3 ⟨rfl, hb3⟩; rw [HME.out]))
            all_goals
              have hb4 := (Below.refl wr.heap.size wr).drew.trans hb3
              obtain ⟨ct, ctb⟩ := HTT.out w3 hb4
              have cb := tab_cell ctb hlt
              have HW3 := hide (HW2.out.trans (hb4.mono HW2.out.size))
              clear HTT ctb hb3 hb4 HHO ch
              generalize gs.getD k 0 = p at ct cb
              generalize funN vn q n k (valN i) = b at cb ⊢
              unfold tabV at ct
              go_wp2
              exact ⟨⟨i + 1, by omega, by go_num, HW3⟩, by simp [intOf]; omega⟩
          · obtain rfl : i = sz := by omega
            go_wp2
            go_roundw
            case rel => exact ⟨k + 1, by omega, by go_num, HW2⟩
            case measure => simp [intOf]; omega
      · obtain rfl : k = L := by omega
        go_wp2
        go_ret
        exact ⟨rfl, HR.out.bel.trans (HW.out.mono HR.out.bel.size)⟩
end Go.Proofs.Ytfbhmkpihmcegaa
