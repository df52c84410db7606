/-
  The law's sameSets.
-/
import Derived.Test.YtfbhmkpihmcegaaOwnU
namespace Go.Proofs.Ytfbhmkpihmcegaa
open Go.RowKit

theorem getD_ext {l1 l2 : List Nat} (hl : l1.length = l2.length) (h : ∀ k, k < l1.length → l1.getD k 0 = l2.getD k 0) : l1 = l2 := by
  refine List.ext_getElem hl fun k h1 h2 => ?_
  have := h k h1
  rwa [List.getD_eq_getElem?_getD, List.getD_eq_getElem?_getD, List.getElem?_eq_getElem h1, List.getElem?_eq_getElem h2] at this
def SameL (w : World) (l1 l2 : List Nat) (e : Ending) (w' : World) : Prop := e = .returned (.bool (decide (l1 = l2))) ∧ ∃ q, w' = w.drewN q
set_option maxHeartbeats 4000000 in
theorem sameSets_any (base1 base2 : Nat) (v1 v2 : Value) (l1 l2 : List Nat) (w : World) (h1 : OwnU w base1 v1 l1) (h2 : OwnU w base2 v2 l2) (hn : l1.length ≤ 1000000) :
    Calls Try.prog 12 #[v1, v2] w (SameL w l1 l2) := by
  obtain ⟨A1, c1, rfl⟩ := h1.len
  obtain ⟨A2, c2, rfl⟩ := h2.len
  by_cases hl : l1.length = l2.length
  case neg =>
    have hlb : ¬ ((l1.length : Int) = (l2.length : Int)) := by omega
    have hne : decide (l1 = l2) = false := decide_eq_false fun e => hl (by rw [e])
    clear h1 h2
    go_enter Try.func12, Try.ntmps12
    go_wp2
    go_ret
    exact ⟨by rw [hne]; rfl, 0, rfl⟩
  have H1 := hide h1
  have H2 := hide h2
  have HL := Lib.hid hl
  obtain ⟨n, hn1⟩ : ∃ n, n = l1.length := ⟨_, rfl⟩
  have hn2 : l2.length = n := by omega
  rw [hn2, ← hn1]
  have HN := Lib.hid (And.intro hn1 hn2)
  have hn3 : n ≤ 1000000 := by omega
  clear h1 h2 hl hn1 hn2 hn
  go_enter Try.func12, Try.ntmps12
  go_wp2
  go_loopw [5] (fun iv wr => ∃ i q : Nat, i ≤ n ∧ iv = .int .i64 i ∧ wr = w.drewN q ∧ Hid (∀ k, k < i → l1.getD k 0 = l2.getD k 0)) (fun iv _ => n - (intOf iv).toNat)
  case atStart => exact ⟨0, 0, Nat.zero_le _, rfl, rfl, hide (fun k hk => absurd hk (Nat.not_lt_zero k))⟩
  case round =>
    obtain ⟨i, q, hi, rfl, rfl, HP⟩ := hrel
    by_cases hlt : i < n
    · obtain ⟨g1, c1', e1, hc1, _⟩ := H1.out.at_ (k := i) (by have := HN.out; omega)
      obtain ⟨g2, c2', e2, hc2, _⟩ := H2.out.at_ (k := i) (by have := HN.out; omega)
      cases e1
      cases e2
      have hiI : (i : Int) < (n : Int) := by omega
      have HQ : Hid (l1.getD i 0 = l2.getD i 0 → ∀ k, k < i + 1 → l1.getD k 0 = l2.getD k 0) := hide fun e k hk => by
        by_cases hki : k = i
        · rw [hki]; exact e
        · exact HP.out k (by omega)
      have HR : Hid (l1 = l2 → l1.getD i 0 = l2.getD i 0) := hide fun e => by rw [e]
      generalize l1.getD i 0 = x at hc1 HQ HR
      generalize l2.getD i 0 = y at hc2 HQ HR
      by_cases hxy : x = y
      · have HG := hide (HQ.out hxy)
        have hxb : (x : Int) = (y : Int) := by rw [hxy]
        clear HQ HR hxy
        go_wp2
        go_quiet (fail)
        go_wp2
        go_roundw
        case rel => exact ⟨i + 1, _, by omega, by go_num, by first | rfl | exact World.drewN_drewN .., HG⟩
        case measure => simp [intOf]; omega
      · have hne : decide (l1 = l2) = false := decide_eq_false fun e => hxy (HR.out e)
        have HNE := Lib.hid hne
        have hxb : ¬ ((x : Int) = (y : Int)) := by omega
        clear hne HQ HR hxy
        go_wp2
        go_quiet (fail)
        go_wp2
        go_ret
        exact ⟨by rw [HNE.out]; rfl, _, by first | rfl | exact World.drewN_drewN ..⟩
    · obtain rfl : i = n := by omega
      have heq : decide (l1 = l2) = true := decide_eq_true (getD_ext HL.out fun k hk => HP.out k (by have := HN.out; omega))
      have HEQ := Lib.hid heq
      clear heq
      go_wp2
      go_ret
      exact ⟨by rw [HEQ.out]; rfl, q, rfl⟩
end Go.Proofs.Ytfbhmkpihmcegaa
