/-
  The document's order of values, and how many of them make a function true. No program in sight. The k-th values, found from the top. No program in sight. Rows of uints of the call's own; the document's All.
-/
import Derived.Test.YtfbhmkpihmcegaaDoorBddMapH
import Derived.Test.YtfbhmkpihmcegaaDoorBddTabM
import Derived.Test.YtfbhmkpihmcegaaDoorBddLaw
import Derived.Laws.Bits64b
namespace Go.Proofs.YtfbhmkpihmcegaaDoor
open Go.RowKit

/-- The values in place k: bit 0 counts the most. -/
def revP (vn k : Nat) : Nat → Nat
  | 0 => 0
  | v + 1 => if k.testBit (vn - 1 - v) then revP vn k v ||| 2 ^ v else revP vn k v
theorem rev_bit (vn k : Nat) : ∀ v y, (revP vn k v).testBit y = (decide (y < v) && k.testBit (vn - 1 - y))
  | 0, y => by simp [revP]
  | v + 1, y => by
    have ih := rev_bit vn k v y
    unfold revP
    split
    · rename_i h
      rw [Nat.testBit_or, ih, Nat.testBit_two_pow]
      by_cases e : v = y
      · subst e; simp [h]
      · rcases Nat.lt_or_ge y v with h2 | h2
        · simp [h2, show y < v + 1 by omega, e]
        · simp [show ¬ y < v by omega, show ¬ y < v + 1 by omega, e]
    · rename_i h
      rw [ih]
      by_cases e : v = y
      · subst e; simp [h]
      · rcases Nat.lt_or_ge y v with h2 | h2
        · simp [h2, show y < v + 1 by omega]
        · simp [show ¬ y < v by omega, show ¬ y < v + 1 by omega]
theorem rev_lt (vn k v : Nat) : revP vn k v < 2 ^ v := by
  refine Nat.lt_pow_two_of_testBit _ fun y hy => ?_
  rw [rev_bit]
  simp [show ¬ y < v by omega]
/-- Those of the first n places of which F is true, in order. -/
def allL (F : FnB) (vn n : Nat) : List Nat := ((List.range n).map fun k => revP vn k vn).filter fun x => F (valN x)
theorem allL_succ (F : FnB) (vn n : Nat) : allL F vn (n + 1) = allL F vn n ++ (if F (valN (revP vn n vn)) then [revP vn n vn] else []) := by
  unfold allL
  rw [List.range_succ, List.map_append, List.filter_append]
  congr 1
  simp only [List.map_cons, List.map_nil, List.filter_cons, List.filter_nil]
theorem allL_le (F : FnB) (vn n : Nat) : (allL F vn n).length ≤ n := by
  unfold allL
  exact Nat.le_trans (List.length_filter_le ..) (by simp)
/-- How many of m places from a on. -/
def cntR (P : Nat → Bool) (a m : Nat) : Nat := ((List.range m).filter fun j => P (a + j)).length
theorem cntR_add (P : Nat → Bool) (a m : Nat) : ∀ m', cntR P a (m + m') = cntR P a m + cntR P (a + m) m'
  | 0 => by simp [cntR]
  | m' + 1 => by
    have ih := cntR_add P a m m'
    unfold cntR at ih ⊢
    rw [← Nat.add_assoc, List.range_succ, List.range_succ, List.filter_append, List.filter_append, List.length_append, List.length_append, ih, Nat.add_assoc]
    congr 2
    simp only [List.filter_cons, List.filter_nil, Nat.add_assoc]
    split <;> rfl
theorem cntR_congr {P Q : Nat → Bool} {a m : Nat} (h : ∀ j, j < m → P (a + j) = Q (a + j)) : cntR P a m = cntR Q a m := by
  unfold cntR
  congr 1
  exact List.filter_congr fun j hj => h j (List.mem_range.1 hj)
theorem allL_cnt (F : FnB) (vn n : Nat) : (allL F vn n).length = cntR (fun k => F (valN (revP vn k vn))) 0 n := by
  unfold allL cntR
  rw [List.filter_map, List.length_map]
  congr 1
  exact List.filter_congr fun j _ => by simp
section
variable {A : Ar} {vn : Nat}
theorem half_bit {p n j : Nat} (hj : j < 2 ^ n) : (p * 2 ^ n + j).testBit n = p.testBit 0 := by
  rw [Nat.mul_comm, Nat.testBit_two_pow_mul_add p hj]
  simp
/-- BRYANT's counting: of so many of the places that share their first t values. -/
theorem cnt_den (hw : WfA A) (hv : VarA A (vn : Int)) (h24 : vn ≤ 24) : ∀ (n t p : Nat) (h : Int), t + n = vn → (t : Int) ≤ topA A h → cntR (fun k => den A h (valN (revP vn k vn))) (p * 2 ^ n) (2 ^ n) = cA A vn h * 2 ^ (min (topA A h) (vn : Int) - t).toNat := by
  intro n
  induction n with
  | zero =>
    intro t p h ht htop
    have hn : gotA A h = none := by
      cases e : gotA A h with
      | none => rfl
      | some d => have := hv _ _ e; rw [top_some e] at htop; omega
    have e1 : (min (topA A h) (vn : Int) - t).toNat = 0 := by omega
    rw [e1, cA_none hn]
    unfold cntR
    simp only [Nat.pow_zero, Nat.mul_one, List.range_one, List.filter_cons, List.filter_nil, den_none hn]
    by_cases h1 : h = 1
    · subst h1; simp
    · simp [h1]
  | succ n ih =>
    intro t p h ht htop
    have e3 : (2 * p) * 2 ^ n + 2 ^ n = (2 * p + 1) * 2 ^ n := by rw [Nat.add_mul, Nat.one_mul]
    have e4 : p * 2 ^ (n + 1) = (2 * p) * 2 ^ n := by rw [Nat.pow_succ, Nat.mul_comm (2 ^ n) 2, ← Nat.mul_assoc, Nat.mul_comm p 2]
    have e5 : 2 ^ (n + 1) = 2 ^ n + 2 ^ n := by rw [Nat.pow_succ]; omega
    rw [e4, e5, cntR_add, e3]
    by_cases htt : topA A h = (t : Int)
    · cases e : gotA A h with
      | none => have := top_none e; omega
      | some d =>
        have hdt : d.var = (t : Int) := (top_some e).symm.trans htt
        have hk0 : d.var < topA A d.low := (hw.low _ _ e).2
        have hk1 : d.var < topA A d.high := (hw.high _ _ e).2
        have half : ∀ (q : Nat), cntR (fun k => den A h (valN (revP vn k vn))) (q * 2 ^ n) (2 ^ n) = cntR (fun k => den A (if q.testBit 0 then d.high else d.low) (valN (revP vn k vn))) (q * 2 ^ n) (2 ^ n) := fun q => cntR_congr fun j hj => by
          rw [den_some hw e, hdt]
          have hb : valN (revP vn (q * 2 ^ n + j) vn) (t : Int) = q.testBit 0 := by
            unfold valN
            rw [Int.toNat_natCast, rev_bit, show vn - 1 - t = n by omega, half_bit hj, decide_eq_true (show t < vn by omega)]
            simp
          rw [hb]
        rw [half (2 * p), half (2 * p + 1), show (2 * p).testBit 0 = false by simp, show (2 * p + 1).testBit 0 = true by simp]
        simp only [Bool.false_eq_true, if_false, if_true]
        rw [ih (t + 1) (2 * p) d.low (by omega) (by omega), ih (t + 1) (2 * p + 1) d.high (by omega) (by omega), cA_some hw e]
        have x0 : (min (topA A d.low) (vn : Int) - ((t + 1 : Nat) : Int)).toNat = kidE A (vn : Int) d.low d.var := by unfold kidE; omega
        have x1 : (min (topA A d.high) (vn : Int) - ((t + 1 : Nat) : Int)).toNat = kidE A (vn : Int) d.high d.var := by unfold kidE; omega
        rw [x0, x1, show (min (topA A h) (vn : Int) - (t : Int)).toNat = 0 by omega]
        simp
    · rw [ih (t + 1) (2 * p) h (by omega) (by omega), ih (t + 1) (2 * p + 1) h (by omega) (by omega)]
      have x0 : (min (topA A h) (vn : Int) - (t : Int)).toNat = (min (topA A h) (vn : Int) - ((t + 1 : Nat) : Int)).toNat + 1 := by omega
      rw [x0, Nat.pow_succ, ← Nat.mul_assoc]
      omega
/-- .. of all places. -/
theorem all_len (hw : WfA A) (hv : VarA A (vn : Int)) (h24 : vn ≤ 24) {h : Int} {F : FnB} (hF : ∀ u, den A h u = F u) : (allL F vn (2 ^ vn)).length = cA A vn h * 2 ^ (min (topA A h) (vn : Int)).toNat := by
  have h1 := cnt_den hw hv h24 vn 0 0 h (by omega) (by have := (hw.topR h).1; omega)
  rw [Nat.zero_mul] at h1
  rw [allL_cnt, ← show cntR (fun k => den A h (valN (revP vn k vn))) 0 (2 ^ vn) = cntR (fun k => F (valN (revP vn k vn))) 0 (2 ^ vn) from cntR_congr fun j _ => hF _, h1]
  congr 2
  omega
end
end Go.Proofs.YtfbhmkpihmcegaaDoor
namespace Go.Proofs.YtfbhmkpihmcegaaDoor

/-- The handle on one side of variable t. -/
def sideA (A : Ar) (h : Int) (t : Nat) (b : Bool) : Int := atA A h (t : Int) b
def sideN (A : Ar) (vn : Nat) (h : Int) (t : Nat) : Nat := cA A vn (sideA A h t false) * 2 ^ kidE A vn (sideA A h t false) t
/-- Where the way down stands: t values are known, those of p. -/
structure KI (A : Ar) (vn : Nat) (F : FnB) (orig t p K : Nat) (h : Int) : Prop where
  tv : t ≤ vn
  pt : p < 2 ^ t
  has : hasA A h = true
  top : (t : Int) ≤ topA A h
  sum : cntR (fun k => F (valN (revP vn k vn))) 0 (p * 2 ^ (vn - t)) + K = orig
  lt : K < cntR (fun k => F (valN (revP vn k vn))) (p * 2 ^ (vn - t)) (2 ^ (vn - t))
  den : ∀ j, j < 2 ^ (vn - t) → F (valN (revP vn (p * 2 ^ (vn - t) + j) vn)) = den A h (valN (revP vn (p * 2 ^ (vn - t) + j) vn))
section
variable {A : Ar} {vn : Nat} {F : FnB} {orig t p K : Nat} {h : Int}
theorem side_cases (h : Int) (t : Nat) : (∃ d, gotA A h = some d ∧ d.var = (t : Int) ∧ sideA A h t false = d.low ∧ sideA A h t true = d.high) ∨ (topA A h ≠ (t : Int) ∨ gotA A h = none) ∧ sideA A h t false = h ∧ sideA A h t true = h := by
  unfold sideA
  cases e : gotA A h with
  | none => exact .inr ⟨.inr rfl, atA_none e false, atA_none e true⟩
  | some d =>
    by_cases hv : d.var = (t : Int)
    · exact .inl ⟨d, rfl, hv, atA_is e hv false, atA_is e hv true⟩
    · exact .inr ⟨.inl (by rw [top_some e]; exact hv), atA_not e hv false, atA_not e hv true⟩
theorem side_has (hw : WfA A) (hh : hasA A h = true) (b : Bool) : hasA A (sideA A h t b) = true := by
  rcases side_cases (A := A) h t with ⟨d, e, _, e0, e1⟩ | ⟨_, e0, e1⟩
  · cases b
    · rw [e0]; exact (hw.low _ _ e).1
    · rw [e1]; exact (hw.high _ _ e).1
  · cases b
    · rw [e0]; exact hh
    · rw [e1]; exact hh
theorem side_top (hw : WfA A) (h24 : t < 24) (ht : (t : Int) ≤ topA A h) (b : Bool) : ((t + 1 : Nat) : Int) ≤ topA A (sideA A h t b) := by
  rcases side_cases (A := A) h t with ⟨d, e, ev, e0, e1⟩ | ⟨hn, e0, e1⟩
  · cases b
    · rw [e0]; have := (hw.low _ _ e).2; omega
    · rw [e1]; have := (hw.high _ _ e).2; omega
  · have : topA A h ≠ (t : Int) := by
      rcases hn with hn | hn
      · exact hn
      · rw [top_none hn]; omega
    cases b
    · rw [e0]; omega
    · rw [e1]; omega
theorem side_den (hw : WfA A) (u : Int → Bool) : den A h u = den A (sideA A h t (u (t : Int))) u := by
  rcases side_cases (A := A) h t with ⟨d, e, ev, e0, e1⟩ | ⟨_, e0, e1⟩
  · rw [den_some hw e, ev]
    cases u (t : Int)
    · rw [e0]; rfl
    · rw [e1]; rfl
  · cases u (t : Int)
    · rw [e0]
    · rw [e1]
theorem two_halves (p n : Nat) : p * 2 ^ (n + 1) = (2 * p) * 2 ^ n ∧ (2 * p) * 2 ^ n + 2 ^ n = (2 * p + 1) * 2 ^ n ∧ 2 ^ (n + 1) = 2 ^ n + 2 ^ n :=
  ⟨by rw [Nat.pow_succ, Nat.mul_comm (2 ^ n) 2, ← Nat.mul_assoc, Nat.mul_comm p 2], by rw [Nat.add_mul, Nat.one_mul], by rw [Nat.pow_succ]; omega⟩
theorem KI.half (H : KI A vn F orig t p K h) (hw : WfA A) (ht : t < vn) (b : Bool) : ∀ j, j < 2 ^ (vn - (t + 1)) → F (valN (revP vn ((2 * p + b.toNat) * 2 ^ (vn - (t + 1)) + j) vn)) = Go.Proofs.YtfbhmkpihmcegaaDoor.den A (sideA A h t b) (valN (revP vn ((2 * p + b.toNat) * 2 ^ (vn - (t + 1)) + j) vn)) := by
  obtain ⟨n, hn⟩ : ∃ n, vn - t = n + 1 := ⟨vn - t - 1, by omega⟩
  obtain ⟨a1, a2, a3⟩ := two_halves p n
  rw [show vn - (t + 1) = n by omega]
  intro j hj
  have hb : valN (revP vn ((2 * p + b.toNat) * 2 ^ n + j) vn) (t : Int) = b := by
    unfold valN
    rw [Int.toNat_natCast, rev_bit, show vn - 1 - t = n by omega, half_bit hj, decide_eq_true (show t < vn by omega)]
    cases b <;> simp
  have hd := H.den
  rw [hn, a1, a3] at hd
  have h1 : F (valN (revP vn ((2 * p + b.toNat) * 2 ^ n + j) vn)) = Go.Proofs.YtfbhmkpihmcegaaDoor.den A h (valN (revP vn ((2 * p + b.toNat) * 2 ^ n + j) vn)) := by
    cases b
    · exact hd j (by omega)
    · have := hd (2 ^ n + j) (by omega)
      rw [← Nat.add_assoc, a2] at this
      exact this
  rw [h1, side_den (t := t) hw, hb]
theorem KI.count (H : KI A vn F orig t p K h) (hw : WfA A) (hv : VarA A (vn : Int)) (h24 : vn ≤ 24) (ht : t < vn) : cntR (fun k => F (valN (revP vn k vn))) (2 * p * 2 ^ (vn - (t + 1))) (2 ^ (vn - (t + 1))) = sideN A vn h t := by
  have h1 := cntR_congr (a := 2 * p * 2 ^ (vn - (t + 1))) (m := 2 ^ (vn - (t + 1))) (P := fun k => F (valN (revP vn k vn))) (Q := fun k => Go.Proofs.YtfbhmkpihmcegaaDoor.den A (sideA A h t false) (valN (revP vn k vn))) (fun j hj => H.half hw ht false j hj)
  rw [h1, cnt_den hw hv h24 (vn - (t + 1)) (t + 1) (2 * p) _ (by omega) (side_top hw (by omega) H.top false)]
  unfold sideN kidE
  congr 2
  omega
theorem KI.low (H : KI A vn F orig t p K h) (hw : WfA A) (hv : VarA A (vn : Int)) (h24 : vn ≤ 24) (ht : t < vn) (hk : K < sideN A vn h t) : KI A vn F orig (t + 1) (2 * p) K (sideA A h t false) := by
  obtain ⟨n, hn⟩ : ∃ n, vn - t = n + 1 := ⟨vn - t - 1, by omega⟩
  obtain ⟨a1, a2, a3⟩ := two_halves p n
  have hc := H.count hw hv h24 ht
  refine ⟨by omega, by rw [Nat.pow_succ]; have := H.pt; omega, side_has hw H.has _, side_top hw (by omega) H.top _, ?_, ?_, H.half hw ht false⟩
  · rw [show vn - (t + 1) = n by omega, ← a1, ← hn]; exact H.sum
  · rw [hc]; exact hk
theorem KI.high (H : KI A vn F orig t p K h) (hw : WfA A) (hv : VarA A (vn : Int)) (h24 : vn ≤ 24) (ht : t < vn) (hk : sideN A vn h t ≤ K) : KI A vn F orig (t + 1) (2 * p + 1) (K - sideN A vn h t) (sideA A h t true) := by
  obtain ⟨n, hn⟩ : ∃ n, vn - t = n + 1 := ⟨vn - t - 1, by omega⟩
  obtain ⟨a1, a2, a3⟩ := two_halves p n
  have hc := H.count hw hv h24 ht
  have hl := H.lt
  have hs := H.sum
  rw [show vn - (t + 1) = n by omega] at hc
  rw [hn, a1] at hs
  rw [hn, a1, a3, cntR_add, a2, hc] at hl
  refine ⟨by omega, by rw [Nat.pow_succ]; have := H.pt; omega, side_has hw H.has _, side_top hw (by omega) H.top _, ?_, ?_, H.half hw ht true⟩
  · rw [show vn - (t + 1) = n by omega, ← a2, cntR_add, Nat.zero_add, hc]
    omega
  · rw [show vn - (t + 1) = n by omega]
    omega
theorem KI.start (hw : WfA A) (hv : VarA A (vn : Int)) (h24 : vn ≤ 24) (hh : hasA A h = true) (hF : ∀ u, Go.Proofs.YtfbhmkpihmcegaaDoor.den A h u = F u) (hK : K < cA A vn h * 2 ^ (min (topA A h) (vn : Int)).toNat) : KI A vn F K 0 0 K h := by
  have h1 := all_len hw hv h24 hF
  rw [allL_cnt] at h1
  refine ⟨Nat.zero_le _, by simp, hh, by have := (hw.topR h).1; omega, by simp [cntR], by simp only [Nat.zero_mul, Nat.sub_zero]; rw [h1]; exact hK, fun j _ => (hF _).symm⟩
theorem allL_pre (F : FnB) (vn n : Nat) : ∀ d, ∃ r, allL F vn (n + d) = allL F vn n ++ r
  | 0 => ⟨[], by simp⟩
  | d + 1 => by
    obtain ⟨r, hr⟩ := allL_pre F vn n d
    exact ⟨r ++ (if F (valN (revP vn (n + d) vn)) then [revP vn (n + d) vn] else []), by rw [← Nat.add_assoc, allL_succ, hr, List.append_assoc]⟩
theorem KI.done (H : KI A vn F orig vn p K h) : (allL F vn (2 ^ vn)).getD orig 0 = revP vn p vn := by
  have hl := H.lt
  have hs := H.sum
  rw [Nat.sub_self, Nat.pow_zero, Nat.mul_one] at hl hs
  have hF : F (valN (revP vn p vn)) = true ∧ K = 0 := by
    unfold cntR at hl
    simp only [List.range_one, List.filter_cons, List.filter_nil, Nat.add_zero] at hl
    cases hf : F (valN (revP vn p vn))
    · simp [hf] at hl
    · simp only [hf, if_true, List.length_singleton] at hl
      exact ⟨rfl, by omega⟩
  obtain ⟨r, hr⟩ := allL_pre F vn (p + 1) (2 ^ vn - (p + 1))
  rw [show p + 1 + (2 ^ vn - (p + 1)) = 2 ^ vn by have := H.pt; omega, allL_succ, hF.1] at hr
  have hlen : (allL F vn p).length = orig := by rw [allL_cnt]; omega
  rw [hr, List.getD_eq_getElem?_getD, List.append_assoc, List.getElem?_append_right (by omega), hlen, Nat.sub_self]
  rfl
theorem rev_low (t p : Nat) : revP (t + 1) (2 * p) (t + 1) = revP t p t := by
  refine Nat.eq_of_testBit_eq fun y => ?_
  rw [rev_bit, rev_bit]
  rcases Nat.lt_trichotomy y t with h | h | h
  · simp only [show y < t + 1 by omega, h, decide_true, Bool.true_and]
    rw [show t + 1 - 1 - y = (t - 1 - y) + 1 by omega, Nat.testBit_succ]
    congr 1
    omega
  · subst h
    simp
  · simp [show ¬ y < t + 1 by omega, show ¬ y < t by omega]
theorem rev_high (t p : Nat) : revP (t + 1) (2 * p + 1) (t + 1) = revP t p t ||| 2 ^ t := by
  refine Nat.eq_of_testBit_eq fun y => ?_
  rw [Nat.testBit_or, rev_bit, rev_bit, Nat.testBit_two_pow]
  rcases Nat.lt_trichotomy y t with h | h | h
  · simp only [show y < t + 1 by omega, h, decide_true, Bool.true_and, show ¬ t = y by omega, decide_false, Bool.or_false]
    rw [show t + 1 - 1 - y = (t - 1 - y) + 1 by omega, Nat.testBit_succ]
    congr 1
    omega
  · subst h
    simp
  · simp [show ¬ y < t + 1 by omega, show ¬ y < t by omega, show ¬ t = y by omega]
end
end Go.Proofs.YtfbhmkpihmcegaaDoor
namespace Go.Proofs.YtfbhmkpihmcegaaDoor
open Go.RowKit

def uintsV (zs : List Nat) : List Value := zs.map fun x : Nat => Value.int .u64 (x : Int)
def OwnU (w : World) (base : Nat) (v : Value) (zs : List Nat) : Prop := w.ownsRow base 63 1 v zs.length (uintsV zs)
section
variable {w w' : World} {base : Nat} {v : Value} {zs : List Nat}
theorem OwnU.below (h : OwnU w base v zs) (hb : Below w.heap.size w w') : OwnU w' base v zs :=
  World.ownsRow.kept h (row := none) ⟨hb.os, hb.tape, hb.output, hb.size, fun i hi _ => hb.block i hi⟩ (by cases v.ownBlock <;> simp)
theorem ownU_nil (w : World) (base : Nat) : OwnU w base (.slice none 0 0) [] := World.ownsRow_nil _ _ _ _
theorem OwnU.len (h : OwnU w base v zs) : ∃ A c, v = .slice A zs.length c := by
  rcases h.2 with ⟨rfl, h0⟩ | ⟨g, cap, cur, rfl, _⟩
  · exact ⟨none, 0, by rw [h0]⟩
  · exact ⟨_, _, rfl⟩
/-- A uint of the row. -/
theorem OwnU.at_ (h : OwnU w base v zs) {k : Nat} (hk : k < zs.length) : ∃ g c, v = .slice (some ⟨g, 0, none⟩) zs.length c ∧ w.cell? ⟨g, k, none⟩ = some (.int .u64 ((zs.getD k 0 : Nat) : Int)) ∧ g < w.heap.size := by
  rcases h.2 with ⟨_, h9⟩ | ⟨g, cap, cur, rfl, hg, hgc, hle, hcm, hcs, hct⟩
  · omega
  · have hgc' : Blk w g 63 cur := hgc
    refine ⟨g, cap, rfl, ?_, hgc'.lt⟩
    have h1 : (cur.toList.take (zs.length * 1))[k]? = some (.int .u64 ((zs.getD k 0 : Nat) : Int)) := by
      rw [hct]
      unfold uintsV
      rw [List.getElem?_map, List.getElem?_eq_getElem hk, List.getD_eq_getElem?_getD, List.getElem?_eq_getElem hk]
      rfl
    rw [List.getElem?_take_of_lt (by omega)] at h1
    rw [hgc'.cell]
    simpa using h1
end
theorem uintInfo : (Tryd.prog.info? 63).map (fun i => (i.zero, i.size, i.bytes)) = some (some (.int .u64 0), 1, 8) := by kernel_rfl
theorem one_newsU (w : World) (x : Nat) (g : Nat) (hc : w.cell? ⟨g, 0, none⟩ = some (.int .u64 (x : Int))) : Reads w (g + 1) 1 (some ⟨g, 0, none⟩) 1 (uintsV [x]) := by
  refine ⟨rfl, fun _ => ⟨_, rfl, Nat.lt_succ_self _, fun j u hu => ?_⟩⟩
  match j, hu with
  | 0, hu => simp [uintsV] at hu; subst hu; simpa [Addr.add] using hc
/-- append of one uint, in a plain region. -/
theorem appU (w : World) {ops : Array Oper} {rest : List Oper} {o : Oper} {a : Act} {Q : Exit → Act → World → Prop} (hgd : o.guard = none) (s x : Operand) (t : TypeId)
    (ho : o.op = .call { callee := .builtin .append, args := #[s, x], argTypes := #[t, t] }) (base : Nat) (ht : Tryd.prog.underlying t = some (.slice 63))
    (v : Value) (zs : List Nat) (hs : a.eval s = v) (hown : OwnU w base v zs) (g c y : Nat) (hx : a.eval x = .slice (some ⟨g, 0, none⟩) 1 c) (hc : w.cell? ⟨g, 0, none⟩ = some (.int .u64 (y : Int)))
    (hl : zs.length ≤ 100000000) (hbase : base ≤ w.heap.size)
    (h : ∀ v' w', OwnU w' base v' (zs ++ [y]) → w.grownBy w' v.ownBlock → wpList Tryd.prog ops Q rest (a.put o.dst v') w') : wpList Tryd.prog ops Q (o :: rest) a w := by
  obtain ⟨i0, hi, hz0, hz1, hz2⟩ := info_parts uintInfo
  refine wpList_append_any w hgd s x t ho base 63 i0 (.int .u64 0) 1 8 ht hi hz0 hz1 hz2 rfl (by decide) v zs.length _ hs hown (g + 1) _ 1 c (uintsV [y]) hx (one_newsU w y g hc) (fun u hu => by obtain ⟨y, _, rfl⟩ := List.mem_map.1 hu; rfl) (by simp only [maxLen]; omega) (by omega) hbase ?_
  intro v' w' ho' hg' hor
  refine h v' w' ?_ hg'
  unfold OwnU
  rw [List.length_append, show uintsV (zs ++ [y]) = uintsV zs ++ uintsV [y] by unfold uintsV; rw [List.map_append]]
  exact ho'
theorem tab_cell2 {w : World} {p sz k : Nat} {F : FnB} (h : Blk w p 4 (boolArr (tabF sz F))) (hk : k < sz) : w.cell? ⟨p, k, none⟩ = some (.bool (F (valN k))) := by
  rw [h.cell k, boolArr_at (by rw [tab_len]; exact hk), tab_at F hk]
structure AllI (w : World) (F : FnB) (vn k : Nat) (vo : Value) (wr : World) : Prop where
  bel : Below w.heap.size w wr
  own : OwnU wr w.heap.size vo (allL F vn k)
def AllP (w : World) (F : FnB) (vn sz : Nat) (e : Ending) (w' : World) : Prop := ∃ v, e = .returned v ∧ AllI w F vn sz v w'
theorem bitB : ∀ s, s < 6 → ∀ k, k < 64 → (bits BinOp.and IntKind.i64 (((k : Nat) : Int) / 2 ^ s) 1 == 1) = Nat.testBit k s := litB
theorem orB (a v : Nat) (ha : a < 64) (hv : v < 6) : bits BinOp.or IntKind.u64 ((a : Nat) : Int) ((2 ^ v : Nat) : Int) = ((a ||| 2 ^ v : Nat) : Int) := by
  have h1 : 2 ^ v ≤ 2 ^ 5 := Nat.pow_le_pow_right (by omega) (by omega)
  exact bits_or_u64_nat a (2 ^ v) (by omega) (by omega)
theorem pow_u (v : Nat) (hv : v < 6) : IntKind.u64.wrap (2 ^ v) = ((2 ^ v : Nat) : Int) := by
  rcases (show v = 0 ∨ v = 1 ∨ v = 2 ∨ v = 3 ∨ v = 4 ∨ v = 5 by omega) with rfl | rfl | rfl | rfl | rfl | rfl <;> decide +kernel
set_option maxRecDepth 100000 in
set_option maxHeartbeats 8000000 in
theorem refAll_any (sz vn p : Nat) (F : FnB) (w : World) (h : Blk w p 4 (boolArr (tabF sz F))) (hs : 2 ^ vn = sz) (h1 : 1 ≤ vn) (h6 : vn ≤ 6) :
    Calls Tryd.prog 38 #[tabV sz p, .int .i64 (vn : Int)] w (AllP w F vn sz) := by
  have hs64 : sz ≤ 64 := by rw [← hs]; exact Nat.le_trans (Nat.pow_le_pow_right (by omega) h6) (by decide)
  have HK := hide h
  have HSZ := Lib.hid hs
  have HO := hide (show AllI w F vn 0 (.slice none 0 0) w from ⟨Below.refl _ _, ownU_nil _ _⟩)
  clear h hs
  unfold tabV
  go_enter Tryd.func38, Tryd.ntmps38
  go_wp2
  go_loopw [5, 11] (fun vo iv wr => ∃ k : Nat, k ≤ sz ∧ iv = .int .i64 k ∧ Hid (AllI w F vn k vo wr)) (fun _ iv _ => sz - (intOf iv).toNat)
  case atStart => exact ⟨0, Nat.zero_le _, rfl, HO⟩
  case round =>
    clear HO
    obtain ⟨k, hk, rfl, hI⟩ := hrel
    by_cases hlt : k < sz
    · have hkI : (k : Int) < (sz : Int) := by omega
      have hk64 : k < 64 := by omega
      go_wp2
      go_loopw [7, 15] (fun xv iv wr2 => ∃ v : Nat, v ≤ vn ∧ iv = .int .i64 v ∧ xv = .int .u64 ((revP vn k v : Nat) : Int) ∧ wr2 = wr) (fun _ iv _ => vn - (intOf iv).toNat)
      case atStart => exact ⟨0, Nat.zero_le _, rfl, rfl, rfl⟩
      case round =>
        obtain ⟨v, hv, rfl, rfl, hw⟩ := hrel
        subst hw
        by_cases hvl : v < vn
        · have hvI : (v : Int) < (vn : Int) := by omega
          have hbit := bitB (vn - 1 - v) (by omega) k hk64
          have hmin : min (vn - 1 - v) 64 = vn - 1 - v := by omega
          have hmin2 : min v 64 = v := by omega
          have hrl := rev_lt vn k v
          have hp5 : 2 ^ v ≤ 2 ^ 5 := Nat.pow_le_pow_right (by omega) (by omega)
          have hor := orB (revP vn k v) v (by omega) (by omega)
          have he : ((2 ^ v : Nat) : Int) = (2 : Int) ^ v := by norm_cast
          rw [he] at hor
          have hpu := pow_u v (by omega)
          rw [he] at hpu
          clear he
          have HR := Lib.hid (show revP vn k (v + 1) = if k.testBit (vn - 1 - v) then revP vn k v ||| 2 ^ v else revP vn k v from rfl)
          cases hb : k.testBit (vn - 1 - v)
          all_goals
            rw [hb] at hbit HR
            go_wp2
            go_roundw
            case rel => exact ⟨v + 1, by omega, by go_num, by rw [HR.out]; rfl, by first | rfl | trivial⟩
            case measure => simp [intOf]; omega
        · obtain rfl : v = vn := by omega
          have hx := rev_lt v k v
          rw [HSZ.out] at hx
          have hxI : ((revP v k v : Nat) : Int) < (sz : Int) := by omega
          have ct := tab_cell2 (HK.out.below hI.out.bel HK.out.lt) hx
          have HAS := Lib.hid (allL_succ F v k)
          have hle := allL_le F v k
          generalize revP v k v = x at ct hx hxI HAS ⊢
          cases hF : F (valN x)
          · rw [hF] at ct HAS
            have HN := hide (show AllI w F v (k + 1) _ wr from ⟨hI.out.bel, by rw [HAS.out]; simpa using hI.out.own⟩)
            clear hF HAS hI
            go_wp2
            go_roundw
            case rel => exact ⟨k + 1, by omega, by go_num, HN⟩
            case measure => simp [intOf]; omega
          · rw [hF] at ct HAS
            have hal := (Below.refl wr.heap.size wr).alloc (Nat.le_refl _) (.cells #[.int .u64 (x : Int)] 63)
            have HOA := hide (hI.out.own.below hal)
            have HCA := hide ((Blk.new wr 63 #[.int .u64 (x : Int)]).cell 0)
            have HBA := hide (hI.out.bel.trans (hal.mono hI.out.bel.size))
            clear hal hF hI
            go_wp2_with (first
              | (at_builtin; refine appU _ rfl _ _ _ rfl w.heap.size Tryd.underlying80 _ (allL F v k) rfl HOA.out wr.heap.size 1 x rfl HCA.out (by omega) HBA.out.size ?_; intro v9 w9 ho9 hg9; have HN9 := hide (show AllI w F v (k + 1) v9 w9 from ⟨HBA.out.grown hg9 HBA.out.size (fun j hj => (World.ownsRow.lt HOA.out j hj).1), by rw [HAS.out]; exact ho9⟩); clear ho9 hg9)
              | fail)
            go_roundw
            case rel => exact ⟨k + 1, by omega, by go_num, HN9⟩
            case measure => simp [intOf]; omega
    · obtain rfl : k = sz := by omega
      go_wp2
      go_ret
      exact ⟨_, rfl, hI.out⟩
end Go.Proofs.YtfbhmkpihmcegaaDoor
