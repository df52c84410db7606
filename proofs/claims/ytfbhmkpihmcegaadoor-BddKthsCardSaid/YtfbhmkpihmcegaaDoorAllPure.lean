/-
  The document's order of values, and how many of them make a function true. No program in sight. The k-th values, found from the top. No program in sight.
-/
import Derived.Test.YtfbhmkpihmcegaaDoorBddMapH
import Derived.Test.YtfbhmkpihmcegaaDoorBddTabM
import Derived.Test.YtfbhmkpihmcegaaDoorBddLaw
namespace Go.Proofs.YtfbhmkpihmcegaaDoor
open Go.RowKit

/-- The values in place k: bit 0 counts the most. -/
def revP (vn k : Nat) : Nat → Nat
  | 0 => 0
  | v + 1 => if k.testBit (vn - 1 - v) then revP vn k v ||| 2 ^ v else revP vn k v
theorem rev_bit (vn k : Nat) : ∀ v y, (revP vn k v).testBit y = (decide (y < v) && k.testBit (vn - 1 - y))
  | 0, y => by simp [revP]
  | v + 1, y => by
    have ih := rev_bit vn k v y
    unfold revP
    split
    · rename_i h
      rw [Nat.testBit_or, ih, Nat.testBit_two_pow]
      by_cases e : v = y
      · subst e; simp [h]
      · rcases Nat.lt_or_ge y v with h2 | h2
        · simp [h2, show y < v + 1 by omega, e]
        · simp [show ¬ y < v by omega, show ¬ y < v + 1 by omega, e]
    · rename_i h
      rw [ih]
      by_cases e : v = y
      · subst e; simp [h]
      · rcases Nat.lt_or_ge y v with h2 | h2
        · simp [h2, show y < v + 1 by omega]
        · simp [show ¬ y < v by omega, show ¬ y < v + 1 by omega]
theorem rev_lt (vn k v : Nat) : revP vn k v < 2 ^ v := by
  refine Nat.lt_pow_two_of_testBit _ fun y hy => ?_
  rw [rev_bit]
  simp [show ¬ y < v by omega]
/-- Those of the first n places of which F is true, in order. -/
def allL (F : FnB) (vn n : Nat) : List Nat := ((List.range n).map fun k => revP vn k vn).filter fun x => F (valN x)
theorem allL_succ (F : FnB) (vn n : Nat) : allL F vn (n + 1) = allL F vn n ++ (if F (valN (revP vn n vn)) then [revP vn n vn] else []) := by
  unfold allL
  rw [List.range_succ, List.map_append, List.filter_append]
  congr 1
  simp only [List.map_cons, List.map_nil, List.filter_cons, List.filter_nil]
theorem allL_le (F : FnB) (vn n : Nat) : (allL F vn n).length ≤ n := by
  unfold allL
  exact Nat.le_trans (List.length_filter_le ..) (by simp)
/-- How many of m places from a on. -/
def cntR (P : Nat → Bool) (a m : Nat) : Nat := ((List.range m).filter fun j => P (a + j)).length
theorem cntR_add (P : Nat → Bool) (a m : Nat) : ∀ m', cntR P a (m + m') = cntR P a m + cntR P (a + m) m'
  | 0 => by simp [cntR]
  | m' + 1 => by
    have ih := cntR_add P a m m'
    unfold cntR at ih ⊢
    rw [← Nat.add_assoc, List.range_succ, List.range_succ, List.filter_append, List.filter_append, List.length_append, List.length_append, ih, Nat.add_assoc]
    congr 2
    simp only [List.filter_cons, List.filter_nil, Nat.add_assoc]
    split <;> rfl
theorem cntR_congr {P Q : Nat → Bool} {a m : Nat} (h : ∀ j, j < m → P (a + j) = Q (a + j)) : cntR P a m = cntR Q a m := by
  unfold cntR
  congr 1
  exact List.filter_congr fun j hj => h j (List.mem_range.1 hj)
theorem allL_cnt (F : FnB) (vn n : Nat) : (allL F vn n).length = cntR (fun k => F (valN (revP vn k vn))) 0 n := by
  unfold allL cntR
  rw [List.filter_map, List.length_map]
  congr 1
  exact List.filter_congr fun j _ => by simp
section
variable {A : Ar} {vn : Nat}
theorem half_bit {p n j : Nat} (hj : j < 2 ^ n) : (p * 2 ^ n + j).testBit n = p.testBit 0 := by
  rw [Nat.mul_comm, Nat.testBit_two_pow_mul_add p hj]
  simp
/-- BRYANT's counting: of so many of the places that share their first t values. -/
theorem cnt_den (hw : WfA A) (hv : VarA A (vn : Int)) (h24 : vn ≤ 24) : ∀ (n t p : Nat) (h : Int), t + n = vn → (t : Int) ≤ topA A h → cntR (fun k => den A h (valN (revP vn k vn))) (p * 2 ^ n) (2 ^ n) = cA A vn h * 2 ^ (min (topA A h) (vn : Int) - t).toNat := by
  intro n
  induction n with
  | zero =>
    intro t p h ht htop
    have hn : gotA A h = none := by
      cases e : gotA A h with
      | none => rfl
      | some d => have := hv _ _ e; rw [top_some e] at htop; omega
    have e1 : (min (topA A h) (vn : Int) - t).toNat = 0 := by omega
    rw [e1, cA_none hn]
    unfold cntR
    simp only [Nat.pow_zero, Nat.mul_one, List.range_one, List.filter_cons, List.filter_nil, den_none hn]
    by_cases h1 : h = 1
    · subst h1; simp
    · simp [h1]
  | succ n ih =>
    intro t p h ht htop
    have e3 : (2 * p) * 2 ^ n + 2 ^ n = (2 * p + 1) * 2 ^ n := by rw [Nat.add_mul, Nat.one_mul]
    have e4 : p * 2 ^ (n + 1) = (2 * p) * 2 ^ n := by rw [Nat.pow_succ, Nat.mul_comm (2 ^ n) 2, ← Nat.mul_assoc, Nat.mul_comm p 2]
    have e5 : 2 ^ (n + 1) = 2 ^ n + 2 ^ n := by rw [Nat.pow_succ]; omega
    rw [e4, e5, cntR_add, e3]
    by_cases htt : topA A h = (t : Int)
    · cases e : gotA A h with
      | none => have := top_none e; omega
      | some d =>
        have hdt : d.var = (t : Int) := (top_some e).symm.trans htt
        have hk0 : d.var < topA A d.low := (hw.low _ _ e).2
        have hk1 : d.var < topA A d.high := (hw.high _ _ e).2
        have half : ∀ (q : Nat), cntR (fun k => den A h (valN (revP vn k vn))) (q * 2 ^ n) (2 ^ n) = cntR (fun k => den A (if q.testBit 0 then d.high else d.low) (valN (revP vn k vn))) (q * 2 ^ n) (2 ^ n) := fun q => cntR_congr fun j hj => by
          rw [den_some hw e, hdt]
          have hb : valN (revP vn (q * 2 ^ n + j) vn) (t : Int) = q.testBit 0 := by
            unfold valN
            rw [Int.toNat_natCast, rev_bit, show vn - 1 - t = n by omega, half_bit hj, decide_eq_true (show t < vn by omega)]
            simp
          rw [hb]
        rw [half (2 * p), half (2 * p + 1), show (2 * p).testBit 0 = false by simp, show (2 * p + 1).testBit 0 = true by simp]
        simp only [Bool.false_eq_true, if_false, if_true]
        rw [ih (t + 1) (2 * p) d.low (by omega) (by omega), ih (t + 1) (2 * p + 1) d.high (by omega) (by omega), cA_some hw e]
        have x0 : (min (topA A d.low) (vn : Int) - ((t + 1 : Nat) : Int)).toNat = kidE A (vn : Int) d.low d.var := by unfold kidE; omega
        have x1 : (min (topA A d.high) (vn : Int) - ((t + 1 : Nat) : Int)).toNat = kidE A (vn : Int) d.high d.var := by unfold kidE; omega
        rw [x0, x1, show (min (topA A h) (vn : Int) - (t : Int)).toNat = 0 by omega]
        simp
    · rw [ih (t + 1) (2 * p) h (by omega) (by omega), ih (t + 1) (2 * p + 1) h (by omega) (by omega)]
      have x0 : (min (topA A h) (vn : Int) - (t : Int)).toNat = (min (topA A h) (vn : Int) - ((t + 1 : Nat) : Int)).toNat + 1 := by omega
      rw [x0, Nat.pow_succ, ← Nat.mul_assoc]
      omega
/-- .. of all places. -/
theorem all_len (hw : WfA A) (hv : VarA A (vn : Int)) (h24 : vn ≤ 24) {h : Int} {F : FnB} (hF : ∀ u, den A h u = F u) : (allL F vn (2 ^ vn)).length = cA A vn h * 2 ^ (min (topA A h) (vn : Int)).toNat := by
  have h1 := cnt_den hw hv h24 vn 0 0 h (by omega) (by have := (hw.topR h).1; omega)
  rw [Nat.zero_mul] at h1
  rw [allL_cnt, ← show cntR (fun k => den A h (valN (revP vn k vn))) 0 (2 ^ vn) = cntR (fun k => F (valN (revP vn k vn))) 0 (2 ^ vn) from cntR_congr fun j _ => hF _, h1]
  congr 2
  omega
end
end Go.Proofs.YtfbhmkpihmcegaaDoor
namespace Go.Proofs.YtfbhmkpihmcegaaDoor

/-- The handle on one side of variable t. -/
def sideA (A : Ar) (h : Int) (t : Nat) (b : Bool) : Int := atA A h (t : Int) b
def sideN (A : Ar) (vn : Nat) (h : Int) (t : Nat) : Nat := cA A vn (sideA A h t false) * 2 ^ kidE A vn (sideA A h t false) t
/-- Where the way down stands: t values are known, those of p. -/
structure KI (A : Ar) (vn : Nat) (F : FnB) (orig t p K : Nat) (h : Int) : Prop where
  tv : t ≤ vn
  pt : p < 2 ^ t
  has : hasA A h = true
  top : (t : Int) ≤ topA A h
  sum : cntR (fun k => F (valN (revP vn k vn))) 0 (p * 2 ^ (vn - t)) + K = orig
  lt : K < cntR (fun k => F (valN (revP vn k vn))) (p * 2 ^ (vn - t)) (2 ^ (vn - t))
  den : ∀ j, j < 2 ^ (vn - t) → F (valN (revP vn (p * 2 ^ (vn - t) + j) vn)) = den A h (valN (revP vn (p * 2 ^ (vn - t) + j) vn))
section
variable {A : Ar} {vn : Nat} {F : FnB} {orig t p K : Nat} {h : Int}
theorem side_cases (h : Int) (t : Nat) : (∃ d, gotA A h = some d ∧ d.var = (t : Int) ∧ sideA A h t false = d.low ∧ sideA A h t true = d.high) ∨ (topA A h ≠ (t : Int) ∨ gotA A h = none) ∧ sideA A h t false = h ∧ sideA A h t true = h := by
  unfold sideA
  cases e : gotA A h with
  | none => exact .inr ⟨.inr rfl, atA_none e false, atA_none e true⟩
  | some d =>
    by_cases hv : d.var = (t : Int)
    · exact .inl ⟨d, rfl, hv, atA_is e hv false, atA_is e hv true⟩
    · exact .inr ⟨.inl (by rw [top_some e]; exact hv), atA_not e hv false, atA_not e hv true⟩
theorem side_has (hw : WfA A) (hh : hasA A h = true) (b : Bool) : hasA A (sideA A h t b) = true := by
  rcases side_cases (A := A) h t with ⟨d, e, _, e0, e1⟩ | ⟨_, e0, e1⟩
  · cases b
    · rw [e0]; exact (hw.low _ _ e).1
    · rw [e1]; exact (hw.high _ _ e).1
  · cases b
    · rw [e0]; exact hh
    · rw [e1]; exact hh
theorem side_top (hw : WfA A) (h24 : t < 24) (ht : (t : Int) ≤ topA A h) (b : Bool) : ((t + 1 : Nat) : Int) ≤ topA A (sideA A h t b) := by
  rcases side_cases (A := A) h t with ⟨d, e, ev, e0, e1⟩ | ⟨hn, e0, e1⟩
  · cases b
    · rw [e0]; have := (hw.low _ _ e).2; omega
    · rw [e1]; have := (hw.high _ _ e).2; omega
  · have : topA A h ≠ (t : Int) := by
      rcases hn with hn | hn
      · exact hn
      · rw [top_none hn]; omega
    cases b
    · rw [e0]; omega
    · rw [e1]; omega
theorem side_den (hw : WfA A) (u : Int → Bool) : den A h u = den A (sideA A h t (u (t : Int))) u := by
  rcases side_cases (A := A) h t with ⟨d, e, ev, e0, e1⟩ | ⟨_, e0, e1⟩
  · rw [den_some hw e, ev]
    cases u (t : Int)
    · rw [e0]; rfl
    · rw [e1]; rfl
  · cases u (t : Int)
    · rw [e0]
    · rw [e1]
theorem two_halves (p n : Nat) : p * 2 ^ (n + 1) = (2 * p) * 2 ^ n ∧ (2 * p) * 2 ^ n + 2 ^ n = (2 * p + 1) * 2 ^ n ∧ 2 ^ (n + 1) = 2 ^ n + 2 ^ n :=
  ⟨by rw [Nat.pow_succ, Nat.mul_comm (2 ^ n) 2, ← Nat.mul_assoc, Nat.mul_comm p 2], by rw [Nat.add_mul, Nat.one_mul], by rw [Nat.pow_succ]; omega⟩
theorem KI.half (H : KI A vn F orig t p K h) (hw : WfA A) (ht : t < vn) (b : Bool) : ∀ j, j < 2 ^ (vn - (t + 1)) → F (valN (revP vn ((2 * p + b.toNat) * 2 ^ (vn - (t + 1)) + j) vn)) = Go.Proofs.YtfbhmkpihmcegaaDoor.den A (sideA A h t b) (valN (revP vn ((2 * p + b.toNat) * 2 ^ (vn - (t + 1)) + j) vn)) := by
  obtain ⟨n, hn⟩ : ∃ n, vn - t = n + 1 := ⟨vn - t - 1, by omega⟩
  obtain ⟨a1, a2, a3⟩ := two_halves p n
  rw [show vn - (t + 1) = n by omega]
  intro j hj
  have hb : valN (revP vn ((2 * p + b.toNat) * 2 ^ n + j) vn) (t : Int) = b := by
    unfold valN
    rw [Int.toNat_natCast, rev_bit, show vn - 1 - t = n by omega, half_bit hj, decide_eq_true (show t < vn by omega)]
    cases b <;> simp
  have hd := H.den
  rw [hn, a1, a3] at hd
  have h1 : F (valN (revP vn ((2 * p + b.toNat) * 2 ^ n + j) vn)) = Go.Proofs.YtfbhmkpihmcegaaDoor.den A h (valN (revP vn ((2 * p + b.toNat) * 2 ^ n + j) vn)) := by
    cases b
    · exact hd j (by omega)
    · have := hd (2 ^ n + j) (by omega)
      rw [← Nat.add_assoc, a2] at this
      exact this
  rw [h1, side_den (t := t) hw, hb]
theorem KI.count (H : KI A vn F orig t p K h) (hw : WfA A) (hv : VarA A (vn : Int)) (h24 : vn ≤ 24) (ht : t < vn) : cntR (fun k => F (valN (revP vn k vn))) (2 * p * 2 ^ (vn - (t + 1))) (2 ^ (vn - (t + 1))) = sideN A vn h t := by
  have h1 := cntR_congr (a := 2 * p * 2 ^ (vn - (t + 1))) (m := 2 ^ (vn - (t + 1))) (P := fun k => F (valN (revP vn k vn))) (Q := fun k => Go.Proofs.YtfbhmkpihmcegaaDoor.den A (sideA A h t false) (valN (revP vn k vn))) (fun j hj => H.half hw ht false j hj)
  rw [h1, cnt_den hw hv h24 (vn - (t + 1)) (t + 1) (2 * p) _ (by omega) (side_top hw (by omega) H.top false)]
  unfold sideN kidE
  congr 2
  omega
theorem KI.low (H : KI A vn F orig t p K h) (hw : WfA A) (hv : VarA A (vn : Int)) (h24 : vn ≤ 24) (ht : t < vn) (hk : K < sideN A vn h t) : KI A vn F orig (t + 1) (2 * p) K (sideA A h t false) := by
  obtain ⟨n, hn⟩ : ∃ n, vn - t = n + 1 := ⟨vn - t - 1, by omega⟩
  obtain ⟨a1, a2, a3⟩ := two_halves p n
  have hc := H.count hw hv h24 ht
  refine ⟨by omega, by rw [Nat.pow_succ]; have := H.pt; omega, side_has hw H.has _, side_top hw (by omega) H.top _, ?_, ?_, H.half hw ht false⟩
  · rw [show vn - (t + 1) = n by omega, ← a1, ← hn]; exact H.sum
  · rw [hc]; exact hk
theorem KI.high (H : KI A vn F orig t p K h) (hw : WfA A) (hv : VarA A (vn : Int)) (h24 : vn ≤ 24) (ht : t < vn) (hk : sideN A vn h t ≤ K) : KI A vn F orig (t + 1) (2 * p + 1) (K - sideN A vn h t) (sideA A h t true) := by
  obtain ⟨n, hn⟩ : ∃ n, vn - t = n + 1 := ⟨vn - t - 1, by omega⟩
  obtain ⟨a1, a2, a3⟩ := two_halves p n
  have hc := H.count hw hv h24 ht
  have hl := H.lt
  have hs := H.sum
  rw [show vn - (t + 1) = n by omega] at hc
  rw [hn, a1] at hs
  rw [hn, a1, a3, cntR_add, a2, hc] at hl
  refine ⟨by omega, by rw [Nat.pow_succ]; have := H.pt; omega, side_has hw H.has _, side_top hw (by omega) H.top _, ?_, ?_, H.half hw ht true⟩
  · rw [show vn - (t + 1) = n by omega, ← a2, cntR_add, Nat.zero_add, hc]
    omega
  · rw [show vn - (t + 1) = n by omega]
    omega
theorem KI.start (hw : WfA A) (hv : VarA A (vn : Int)) (h24 : vn ≤ 24) (hh : hasA A h = true) (hF : ∀ u, Go.Proofs.YtfbhmkpihmcegaaDoor.den A h u = F u) (hK : K < cA A vn h * 2 ^ (min (topA A h) (vn : Int)).toNat) : KI A vn F K 0 0 K h := by
  have h1 := all_len hw hv h24 hF
  rw [allL_cnt] at h1
  refine ⟨Nat.zero_le _, by simp, hh, by have := (hw.topR h).1; omega, by simp [cntR], by simp only [Nat.zero_mul, Nat.sub_zero]; rw [h1]; exact hK, fun j _ => (hF _).symm⟩
theorem allL_pre (F : FnB) (vn n : Nat) : ∀ d, ∃ r, allL F vn (n + d) = allL F vn n ++ r
  | 0 => ⟨[], by simp⟩
  | d + 1 => by
    obtain ⟨r, hr⟩ := allL_pre F vn n d
    exact ⟨r ++ (if F (valN (revP vn (n + d) vn)) then [revP vn (n + d) vn] else []), by rw [← Nat.add_assoc, allL_succ, hr, List.append_assoc]⟩
theorem KI.done (H : KI A vn F orig vn p K h) : (allL F vn (2 ^ vn)).getD orig 0 = revP vn p vn := by
  have hl := H.lt
  have hs := H.sum
  rw [Nat.sub_self, Nat.pow_zero, Nat.mul_one] at hl hs
  have hF : F (valN (revP vn p vn)) = true ∧ K = 0 := by
    unfold cntR at hl
    simp only [List.range_one, List.filter_cons, List.filter_nil, Nat.add_zero] at hl
    cases hf : F (valN (revP vn p vn))
    · simp [hf] at hl
    · simp only [hf, if_true, List.length_singleton] at hl
      exact ⟨rfl, by omega⟩
  obtain ⟨r, hr⟩ := allL_pre F vn (p + 1) (2 ^ vn - (p + 1))
  rw [show p + 1 + (2 ^ vn - (p + 1)) = 2 ^ vn by have := H.pt; omega, allL_succ, hF.1] at hr
  have hlen : (allL F vn p).length = orig := by rw [allL_cnt]; omega
  rw [hr, List.getD_eq_getElem?_getD, List.append_assoc, List.getElem?_append_right (by omega), hlen, Nat.sub_self]
  rfl
theorem rev_low (t p : Nat) : revP (t + 1) (2 * p) (t + 1) = revP t p t := by
  refine Nat.eq_of_testBit_eq fun y => ?_
  rw [rev_bit, rev_bit]
  rcases Nat.lt_trichotomy y t with h | h | h
  · simp only [show y < t + 1 by omega, h, decide_true, Bool.true_and]
    rw [show t + 1 - 1 - y = (t - 1 - y) + 1 by omega, Nat.testBit_succ]
    congr 1
    omega
  · subst h
    simp
  · simp [show ¬ y < t + 1 by omega, show ¬ y < t by omega]
theorem rev_high (t p : Nat) : revP (t + 1) (2 * p + 1) (t + 1) = revP t p t ||| 2 ^ t := by
  refine Nat.eq_of_testBit_eq fun y => ?_
  rw [Nat.testBit_or, rev_bit, rev_bit, Nat.testBit_two_pow]
  rcases Nat.lt_trichotomy y t with h | h | h
  · simp only [show y < t + 1 by omega, h, decide_true, Bool.true_and, show ¬ t = y by omega, decide_false, Bool.or_false]
    rw [show t + 1 - 1 - y = (t - 1 - y) + 1 by omega, Nat.testBit_succ]
    congr 1
    omega
  · subst h
    simp
  · simp [show ¬ y < t + 1 by omega, show ¬ y < t by omega, show ¬ t = y by omega]
end
end Go.Proofs.YtfbhmkpihmcegaaDoor
