/-
  solspacebig's trim and words.
-/
import Derived.Test.YtpghgfenafhhbaaDoorNatMul
namespace Go.Proofs.YtpghgfenafhhbaaDoor
open Go.RowKit

/-- The number in a bare row of words is N. -/
def BigV (w : World) (v : Value) (N : Nat) : Prop := NatV w (.agg #[v]) N
theorem BigV.below {w w' : World} {v : Value} {N : Nat} (h : BigV w v N) (hb : Below w.heap.size w w') : BigV w' v N := NatV.below h hb
theorem agg_one {u v : Value} (h : Value.agg #[u] = .agg #[v]) : u = v := by
  injection h with h
  have := congrArg (fun a => a[0]?) h
  simpa using this
theorem BigV.len {w : World} {v : Value} {N k : Nat} (h : BigV w v N) (hN : N < 4294967296 ^ k) : ∃ A n c xs, v = .slice A n c ∧ n ≤ c ∧ Lim w w.heap.size A n xs ∧ TrimL xs ∧ valL xs = N ∧ n ≤ k := by
  obtain ⟨A, n, c, xs, e, h1, h2⟩ := NatV.len h hN
  exact ⟨A, n, c, xs, agg_one e, h1, h2⟩
def NewV (B : Nat) (v : Value) : Prop := ∀ ad n c, v = .slice (some ad) n c → B ≤ ad.block
theorem new_at {B g o n c : Nat} (h : B ≤ g) : NewV B (.slice (some ⟨g, o, none⟩) n c) := fun ad n' c' e => by
  injection e with e
  injection e with e
  rw [← e]
  exact h
theorem new_nil {B n c : Nat} : NewV B (.slice none n c) := fun ad n' c' e => by
  injection e with e
  cases e
theorem NewV.less {B B' : Nat} {v : Value} (h : NewV B' v) (hb : B ≤ B') : NewV B v := fun ad n c e => Nat.le_trans hb (h ad n c e)
def BigPost (w : World) (N : Nat) (e : Ending) (w' : World) : Prop := ∃ v, e = .returned v ∧ BigV w' v N ∧ NewV w.heap.size v ∧ Below w.heap.size w w'
theorem big_nil (w : World) (B : Nat) : Lim w B none 0 [] := ⟨rfl, by simp [maxLen], by simp, rfl, fun h => absurd h (by omega)⟩
theorem BigV.nil (w : World) : BigV w (.slice none 0 0) 0 := ⟨none, 0, 0, [], rfl, Nat.le_refl _, big_nil w _, .inl rfl, rfl⟩

def CutPost (w : World) (A : Option Addr) (c : Nat) (xs : List Nat) (e : Ending) (w' : World) : Prop :=
  ∃ m, m ≤ xs.length ∧ e = .returned (.slice A m c) ∧ TrimL (xs.take m) ∧ valL (xs.take m) = valL xs ∧ w = w'
set_option maxHeartbeats 1000000 in
theorem cut_any (A : Option Addr) (n c : Nat) (xs : List Nat) (w : World) (h : Lim w w.heap.size A n xs) (hc : n ≤ c) :
    Calls Tryd.prog 70 #[.slice A n c] w (CutPost w A c xs) := by
  have HL := Lib.hid h.1
  have hm := h.2.1
  simp only [maxLen] at hm
  have HI := hide h
  clear h
  go_enter Tryd.func70, Tryd.ntmps70
  go_wp2
  go_loopw [3] (fun v wr => ∃ m : Nat, m ≤ n ∧ v = .int .i64 m ∧ wr = w ∧ Hid (MadeI xs m)) (fun v _ => (intOf v).toNat)
  case atStart => exact ⟨n, Nat.le_refl _, rfl, rfl, hide ⟨fun i h1 h2 => by have := HL.out; omega⟩⟩
  case round =>
    obtain ⟨m, hmn, rfl, rfl, hM⟩ := hrel
    rcases Nat.eq_zero_or_pos m with h0 | h0
    · subst h0
      go_wp2
      exact bodyPost_ret (v := .slice A 0 c) (by simp [results, Tryd.results70, go_sem]) rfl ⟨0, Nat.zero_le _, rfl, .inl rfl, valL_take hM.out.zero, rfl⟩
    · obtain ⟨k, rfl⟩ : ∃ k, m = k + 1 := ⟨m - 1, by omega⟩
      obtain ⟨ad, rfl, hb, hc2, hx⟩ := HI.out.at_ (k := k) (by omega)
      have HX := hide (show xs.getD k 0 = 0 → ∀ i, k ≤ i → i < xs.length → xs.getD i 0 = 0 from fun h i h1 h2 => by
        rcases Nat.lt_or_ge k i with h3 | h3
        · exact hM.out.zero i h3 h2
        · obtain rfl : i = k := by omega
          exact h)
      have HY := hide (show xs.getD k 0 ≠ 0 → TrimL (xs.take (k + 1)) from fun h => trim_take (by have := HL.out; omega) (.inr (by simpa using h)))
      generalize xs.getD k 0 = x at hc2 hx HX HY
      by_cases hz : x = 0
      · subst hz
        go_wp2
        go_roundw
        case rel => exact ⟨k, by omega, by first | rfl | go_num, by first | rfl | trivial, hide ⟨HX.out rfl⟩⟩
        case measure => simp [intOf]; try omega
      · have hzb : ((x : Int) == 0) = false := by simp; omega
        go_wp2
        exact bodyPost_ret (v := .slice (some ad) (k + 1) c) (by simp [results, Tryd.results70, go_sem]) rfl ⟨k + 1, by have := HL.out; omega, rfl, HY.out hz, valL_take hM.out.zero, rfl⟩

theorem two_words (w : World) (a b : Nat) (x y : Int) (hx : x = a) (hy : y = b) (ha : a < 4294967296) (hb : b < 4294967296) : Lim (w.alloc (.cells #[.int .u32 x, .int .u32 y] 57)) (w.alloc (.cells #[.int .u32 x, .int .u32 y] 57)).heap.size (some ⟨w.heap.size, 0, none⟩) 2 [a, b] := by
  subst hx hy
  refine ⟨rfl, by simp [maxLen], fun x hx => ?_, rfl, fun _ => ⟨_, rfl, by simp, fun j u hu => ?_⟩⟩
  · simp at hx
    omega
  · match j, hu with
    | 0, hu => simp at hu; subst hu; simp [Addr.add]
    | 1, hu => simp at hu; subst hu; simp [Addr.add]
set_option maxHeartbeats 1000000 in
theorem words_any (N : Nat) (w : World) (hN : N < 18446744073709551616) : Calls Tryd.prog 57 #[.int .u64 N] w (BigPost w N) := by
  have HL := hide (two_words w (N % 4294967296) (N / 4294967296) ((N : Int) % 4294967296) ((N : Int) / 4294967296) (by omega) (by omega) (by omega) (by omega))
  have HM := hide (cut_any (some ⟨w.heap.size, 0, none⟩) 2 2 [(N % 4294967296), (N / 4294967296)] _ HL.out (Nat.le_refl _))
  have HB := hide ((Below.refl w.heap.size w).alloc (Nat.le_refl _) (.cells #[.int .u32 ((N : Int) % 4294967296), .int .u32 ((N : Int) / 4294967296)] 57))
  have HV := Lib.hid (show valL [(N % 4294967296), (N / 4294967296)] = N by simp only [valL]; try omega)
  go_enter Tryd.func57, Tryd.ntmps57
  go_wp2_with fail
  generalize (w.alloc (.cells #[.int .u32 ((N : Int) % 4294967296), .int .u32 ((N : Int) / 4294967296)] 57)) = w1 at HL HM HB ⊢
  refine (HM.out).mono ?_
  rintro e w2 ⟨m, hm, rfl, htr, hval, rfl⟩
  have hm2 : m ≤ 2 := hm
  have HNV := hide (show BigV w1 (.slice (some ⟨w.heap.size, 0, none⟩) m 2) N from ⟨_, m, 2, _, rfl, hm2, HL.out.take hm, htr, by rw [hval, HV.out]⟩)
  clear htr hval
  go_wp2
  exact bodyPost_ret (v := .slice (some ⟨w.heap.size, 0, none⟩) m 2) (by simp [results, Tryd.results57, go_sem]) rfl ⟨_, rfl, HNV.out, new_at (Nat.le_refl _), HB.out⟩
end Go.Proofs.YtpghgfenafhhbaaDoor
