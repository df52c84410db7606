/-
  An arena's place.
-/
import Derived.Test.YtfbhmkpihmcegaaDoorArenaGet
import Derived.Deep.LoopGhost
namespace Go.Proofs.YtfbhmkpihmcegaaDoor
open Go.RowKit

structure NdOk (n : Nd) : Prop where
  var : 0 ≤ n.var ∧ n.var ≤ 24
  low : 0 ≤ n.low ∧ n.low ≤ 5000
  high : 0 ≤ n.high ∧ n.high ≤ 5000
/-- The rows that place reads. -/
structure PlM (w : World) (B gn gt L : Nat) (u : Value) (z : Value) (ns : List Nd) (tab : List Int) : Prop where
  kB : Blk w B 100 #[.slice (some ⟨gn, 0, none⟩) L L, u, .slice (some ⟨gt, 0, none⟩) (2 * L + 1) (2 * L + 1), z]
  kn : Blk w gn 39 (nodeArr ns)
  kt : Blk w gt 3 (intArr tab)
  nl : ns.length = L
  tl : tab.length = 2 * L + 1
  nz : ∀ i, i < tab.length → tab.getD i 0 ≠ 0 → ∃ k : Nat, k < L ∧ tab.getD i 0 = (k : Int) + 2
  zero : ∃ z, z < tab.length ∧ tab.getD z 0 = 0
theorem PlM.below {w w' : World} {B gn gt L : Nat} {u z : Value} {ns : List Nd} {tab : List Int} (h : PlM w B gn gt L u z ns tab) (hb : Below w.heap.size w w') : PlM w' B gn gt L u z ns tab :=
  ⟨h.kB.below hb h.kB.lt, h.kn.below hb h.kn.lt, h.kt.below hb h.kt.lt, h.nl, h.tl, h.nz, h.zero⟩
def SeatPost (w : World) (ns : List Nd) (tab : List Int) (n : Nd) (e : Ending) (w' : World) : Prop := ∃ i : Nat, e = .returned (.int .i64 i) ∧ Place hashN ns tab n i ∧ Below w.heap.size w w'
theorem seek_next {ns : List Nd} {tab : List Int} {n : Nd} {j : Nat} (h : Seek hashN ns tab n j) (h1 : tab.getD ((hashN n + j) % tab.length) 0 ≠ 0) (h2 : ns.getD (tab.getD ((hashN n + j) % tab.length) 0 - 2).toNat nd0 ≠ n) : Seek hashN ns tab n (j + 1) :=
  ⟨fun e he => by
    rcases Nat.lt_or_ge e j with h3 | h3
    · exact h.past e h3
    · rw [show e = j by omega]; exact ⟨h1, h2⟩⟩
theorem nd_ne {m n : Nd} (h : ¬ m = n) : m.var ≠ n.var ∨ (m.var = n.var ∧ m.low ≠ n.low) ∨ (m.var = n.var ∧ m.low = n.low ∧ m.high ≠ n.high) := by
  by_cases h1 : m.var = n.var
  · by_cases h2 : m.low = n.low
    · refine .inr (.inr ⟨h1, h2, fun h3 => h ?_⟩)
      cases m; cases n
      simp at h1 h2 h3
      rw [h1, h2, h3]
    · exact .inr (.inl ⟨h1, h2⟩)
  · exact .inl h1
theorem hashN_is {n : Nd} (h : NdOk n) : (hashN n : Int) = n.var * 2654435761 + n.low * 2246822519 + n.high * 3266489917 := by
  unfold hashN
  have h1 := h.var
  have h2 := h.low
  have h3 := h.high
  omega

set_option maxHeartbeats 4000000 in
theorem place_any (B gn gt L : Nat) (u z : Value) (ns : List Nd) (tab : List Int) (n : Nd) (w : World) (h : PlM w B gn gt L u z ns tab) (hn : NdOk n) (hL : L ≤ 4000) :
    Calls Tryd.prog 61 #[.pointer (some ⟨B, 0, none⟩), .agg #[.int .i64 n.var, .int .i64 n.low, .int .i64 n.high]] w (SeatPost w ns tab n) := by
  have HB := hide ((Below.refl w.heap.size w).alloc (Nat.le_refl _) (.cells #[.int .i64 n.var, .int .i64 n.low, .int .i64 n.high] 39))
  have HM := hide (h.below HB.out)
  have HK := hide (Blk.new w 39 #[.int .i64 n.var, .int .i64 n.low, .int .i64 n.high])
  have HH := Lib.hid (hashN_is hn)
  have v1 := hn.var
  have v2 := hn.low
  have v3 := hn.high
  have b2 := HM.out.kB.cell 2
  have q0 := HK.out.cell 0
  have q1 := HK.out.cell 1
  have q2 := HK.out.cell 2
  clear h hn
  go_enter Tryd.func61, Tryd.ntmps61
  have HJ := Lib.hid (show wrap64 ((n.var * 2654435761 + n.low * 2246822519 + n.high * 3266489917) % (2 * (L : Int) + 1)) = (((hashN n + 0) % tab.length : Nat) : Int) by
    rw [← HH.out, HM.out.tl, Nat.add_zero, Int.natCast_emod, Int.natCast_add, Int.natCast_mul]
    have h1 : (hashN n : Int) % (((2 : Nat) : Int) * (L : Int) + ((1 : Nat) : Int)) < ((2 : Nat) : Int) * (L : Int) + ((1 : Nat) : Int) := Int.emod_lt_of_pos _ (by omega)
    have h2 : 0 ≤ (hashN n : Int) % (((2 : Nat) : Int) * (L : Int) + ((1 : Nat) : Int)) := Int.emod_nonneg _ (by omega)
    generalize (hashN n : Int) % (((2 : Nat) : Int) * (L : Int) + ((1 : Nat) : Int)) = y at h1 h2
    unfold wrap64
    omega)
  obtain ⟨x0, HX0⟩ : ∃ x0, Hid ((hashN n + 0) % tab.length = x0) := ⟨_, Lib.hid rfl⟩
  rw [HX0.out] at HJ
  go_wp2
  rw [HJ.out]
  clear HJ b2 q0 q1 q2 HH
  obtain ⟨T, HT⟩ : ∃ T, Hid (tab.length = T) := ⟨_, Lib.hid rfl⟩
  rw [HT.out] at HX0
  have hT : T = 2 * L + 1 := HT.out.symm.trans HM.out.tl
  have HST := hide (show Seek hashN ns tab n 0 from ⟨fun e he => absurd he (Nat.not_lt_zero _)⟩)
  generalize (w.alloc (.cells #[.int .i64 n.var, .int .i64 n.low, .int .i64 n.high] 39)) = w1 at HB HM HK ⊢
  generalize w.heap.size = g at HK ⊢
  go_loopg [6] T (fun gk iv wr => ∃ j q : Nat, j + gk = T ∧ iv = .int .i64 (((hashN n + j) % T : Nat) : Int) ∧ wr = w1.drewN q ∧ Hid (Seek hashN ns tab n j))
  case atStart => exact ⟨0, 0, by omega, by rw [HX0.out], rfl, HST⟩
  case round =>
    clear HST
    obtain ⟨j, q, hj, rfl, rfl, hS⟩ := hrel
    have hjT := seek_stop HM.out.zero hS.out
    rw [HT.out] at hjT
    obtain ⟨gz, rfl⟩ : ∃ gz, gk = gz + 1 := ⟨gk - 1, by omega⟩
    obtain ⟨x, HX⟩ : ∃ x, Hid ((hashN n + j) % T = x) := ⟨_, Lib.hid rfl⟩
    have hx : x < T := by rw [← HX.out]; exact Nat.mod_lt _ (by omega)
    have HSN := hide (fun (a1 : tab.getD x 0 ≠ 0) (a2 : ns.getD (tab.getD x 0 - 2).toNat nd0 ≠ n) => seek_next hS.out (by rw [HT.out, HX.out]; exact a1) (by rw [HT.out, HX.out]; exact a2))
    have HPL := hide (fun (a : tab.getD x 0 = 0 ∨ ns.getD (tab.getD x 0 - 2).toNat nd0 = n) => show Place hashN ns tab n x from ⟨by rw [HT.out]; exact hx, j, by rw [HT.out, HX.out], hS.out, a⟩)
    have hnz := HM.out.nz x (by rw [HT.out]; exact hx)
    have HY := Lib.hid (show ((x : Int) + 1) % (2 * (L : Int) + 1) = (((hashN n + (j + 1)) % T : Nat) : Int) by
      rw [← Nat.add_assoc, ← Nat.mod_add_mod, HX.out, hT, Int.natCast_emod]
      rfl)
    rw [HX.out]
    have b0 := HM.out.kB.cell 0
    have b2 := HM.out.kB.cell 2
    have t0 := (HM.out.kt.cell x).trans (intArr_at (by rw [HT.out]; exact hx))
    have q0 := HK.out.cell 0
    have q1 := HK.out.cell 1
    have q2 := HK.out.cell 2
    have hxI : (x : Int) < 2 * (L : Int) + 1 := by omega
    clear hS hjT
    by_cases hz : tab.getD x 0 = 0
    · have HP := hide (HPL.out (.inl hz))
      rw [hz] at t0
      clear hnz HSN HPL hz
      go_wp2
      go_quiet (fail)
      go_wp2
      go_ret
      exact ⟨x, rfl, HP.out, by first | exact below_drewN HB.out _ | exact below_drewN (below_drewN HB.out _) _⟩
    · obtain ⟨k, hk, ek⟩ := hnz hz
      rw [ek] at t0 HSN HPL
      rw [show ((k : Int) + 2 - 2).toNat = k by omega] at HSN HPL
      obtain ⟨m0, m1, m2⟩ := nodeArr_at (ns := ns) (k := k) (by rw [HM.out.nl]; exact hk)
      have n0 := (HM.out.kn.cell (k * 3)).trans m0
      have n1 := (HM.out.kn.cell (k * 3 + 1)).trans m1
      have n2 := (HM.out.kn.cell (k * 3 + 2)).trans m2
      have hk5 : (k : Int) + 2 - 2 = (k : Int) := by omega
      have hkI : (k : Int) < (L : Int) := by omega
      have hw1 : IntKind.i64.wrap (k : Int) = (k : Int) := IntWalk.i64_in (k : Int) ⟨by omega, by omega⟩
      have hzb : ((k : Int) + 2 == 0) = false := beq_eq_false_iff_ne.2 (by omega)
      clear m0 m1 m2 ek hz hnz
      generalize ns.getD k nd0 = m at n0 n1 n2 HSN HPL
      by_cases hmn : m = n
      · subst hmn
        have HP := hide (HPL.out (.inr rfl))
        clear HSN HPL
        go_wp2
        go_quiet (fail)
        go_wp2
        go_ret
        exact ⟨x, rfl, HP.out, by first | exact below_drewN HB.out _ | exact below_drewN (below_drewN HB.out _) _⟩
      · have HSM := hide (HSN.out (by omega) hmn)
        clear HSN HPL
        rcases nd_ne hmn with e1 | ⟨e1, e2⟩ | ⟨e1, e2, e3⟩
        case' inl => have hne := beq_eq_false_iff_ne.2 e1
        case' inr.inl =>
          rw [e1] at n0
          have hne := beq_eq_false_iff_ne.2 e2
        case' inr.inr =>
          rw [e1] at n0
          rw [e2] at n1
          have hne := beq_eq_false_iff_ne.2 e3
        all_goals
          go_wp2
          go_quiet (fail)
          go_wp2
          go_roundg gz
          case rel => exact ⟨j + 1, _, by omega, by rw [HY.out], by first | rfl | exact World.drewN_drewN .., HSM⟩
          case measure => omega
end Go.Proofs.YtfbhmkpihmcegaaDoor
