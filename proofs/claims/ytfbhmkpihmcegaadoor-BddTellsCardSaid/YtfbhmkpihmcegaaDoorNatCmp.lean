/-
  solspacebig's trim and words. cmp.Compare at ints and at limbs; count's Cmp; solspacebig's cmp.
-/
import Derived.Test.YtfbhmkpihmcegaaDoorNatMul
import Derived.Test.YtfbhmkpihmcegaaDoorNatPure
import Derived.Deep.QuietTactic
import Derived.BigQuiet
namespace Go.Proofs.YtfbhmkpihmcegaaDoor
open Go.RowKit

/-- The number in a bare row of words is N. -/
def BigV (w : World) (v : Value) (N : Nat) : Prop := NatV w (.agg #[v]) N
theorem BigV.below {w w' : World} {v : Value} {N : Nat} (h : BigV w v N) (hb : Below w.heap.size w w') : BigV w' v N := NatV.below h hb
theorem agg_one {u v : Value} (h : Value.agg #[u] = .agg #[v]) : u = v := by
  injection h with h
  have := congrArg (fun a => a[0]?) h
  simpa using this
theorem BigV.len {w : World} {v : Value} {N k : Nat} (h : BigV w v N) (hN : N < 4294967296 ^ k) : ∃ A n c xs, v = .slice A n c ∧ n ≤ c ∧ Lim w w.heap.size A n xs ∧ TrimL xs ∧ valL xs = N ∧ n ≤ k := by
  obtain ⟨A, n, c, xs, e, h1, h2⟩ := NatV.len h hN
  exact ⟨A, n, c, xs, agg_one e, h1, h2⟩
def NewV (B : Nat) (v : Value) : Prop := ∀ ad n c, v = .slice (some ad) n c → B ≤ ad.block
theorem new_at {B g o n c : Nat} (h : B ≤ g) : NewV B (.slice (some ⟨g, o, none⟩) n c) := fun ad n' c' e => by
  injection e with e
  injection e with e
  rw [← e]
  exact h
theorem new_nil {B n c : Nat} : NewV B (.slice none n c) := fun ad n' c' e => by
  injection e with e
  cases e
theorem NewV.less {B B' : Nat} {v : Value} (h : NewV B' v) (hb : B ≤ B') : NewV B v := fun ad n c e => Nat.le_trans hb (h ad n c e)
def BigPost (w : World) (N : Nat) (e : Ending) (w' : World) : Prop := ∃ v, e = .returned v ∧ BigV w' v N ∧ NewV w.heap.size v ∧ Below w.heap.size w w'
theorem big_nil (w : World) (B : Nat) : Lim w B none 0 [] := ⟨rfl, by simp [maxLen], by simp, rfl, fun h => absurd h (by omega)⟩
theorem BigV.nil (w : World) : BigV w (.slice none 0 0) 0 := ⟨none, 0, 0, [], rfl, Nat.le_refl _, big_nil w _, .inl rfl, rfl⟩

def CutPost (w : World) (A : Option Addr) (c : Nat) (xs : List Nat) (e : Ending) (w' : World) : Prop :=
  ∃ m, m ≤ xs.length ∧ e = .returned (.slice A m c) ∧ TrimL (xs.take m) ∧ valL (xs.take m) = valL xs ∧ w = w'
theorem two_words (w : World) (a b : Nat) (x y : Int) (hx : x = a) (hy : y = b) (ha : a < 4294967296) (hb : b < 4294967296) : Lim (w.alloc (.cells #[.int .u32 x, .int .u32 y] 130)) (w.alloc (.cells #[.int .u32 x, .int .u32 y] 130)).heap.size (some ⟨w.heap.size, 0, none⟩) 2 [a, b] := by
  subst hx hy
  refine ⟨rfl, by simp [maxLen], fun x hx => ?_, rfl, fun _ => ⟨_, rfl, by simp, fun j u hu => ?_⟩⟩
  · simp at hx
    omega
  · match j, hu with
    | 0, hu => simp at hu; subst hu; simp [Addr.add]
    | 1, hu => simp at hu; subst hu; simp [Addr.add]
end Go.Proofs.YtfbhmkpihmcegaaDoor
namespace Go.Proofs.YtfbhmkpihmcegaaDoor
open Go.RowKit

def CmpPost (w : World) (z : Int) (e : Ending) (w' : World) : Prop := e = .returned (.int .i64 z) ∧ w = w'
theorem compInt_any (x y : Nat) (w : World) (_ : x ≤ 9223372036854775807) (hy : y ≤ 9223372036854775807) :
    Calls Tryd.prog 108 #[.int .i64 x, .int .i64 y] w (CmpPost w (cmpZ x y)) := by
  rcases Nat.lt_trichotomy x y with h | h | h
  · rw [cmpZ_lt h]
    go_enter Tryd.func108, Tryd.ntmps108
    go_wp2
    go_ret
    exact ⟨rfl, rfl⟩
  · rw [cmpZ_eq h]
    subst h
    go_enter Tryd.func108, Tryd.ntmps108
    go_wp2
    go_ret
    exact ⟨rfl, rfl⟩
  · rw [cmpZ_gt h]
    have hd : decide ((x : Int) < (y : Int)) = false := decide_eq_false (by omega)
    go_enter Tryd.func108, Tryd.ntmps108
    go_wp2
    go_ret
    exact ⟨rfl, rfl⟩
theorem compLimb_any (x y : Nat) (w : World) (_ : x < 4294967296) (hy : y < 4294967296) :
    Calls Tryd.prog 109 #[.int .u32 x, .int .u32 y] w (CmpPost w (cmpZ x y)) := by
  rcases Nat.lt_trichotomy x y with h | h | h
  · rw [cmpZ_lt h]
    go_enter Tryd.func109, Tryd.ntmps109
    go_wp2
    go_ret
    exact ⟨rfl, rfl⟩
  · rw [cmpZ_eq h]
    subst h
    go_enter Tryd.func109, Tryd.ntmps109
    go_wp2
    go_ret
    exact ⟨rfl, rfl⟩
  · rw [cmpZ_gt h]
    have hd : decide ((x : Int) < (y : Int)) = false := decide_eq_false (by omega)
    go_enter Tryd.func109, Tryd.ntmps109
    go_wp2
    go_ret
    exact ⟨rfl, rfl⟩
theorem cmpN_lt {xs ys : List Nat} {n n2 : Nat} {N M : Nat} (h1 : xs.length = n) (h2 : ys.length = n2) (hlt : ∀ x ∈ xs, x < 4294967296) (ht : TrimL ys) (hv : valL xs = N) (hv2 : valL ys = M) (h : n < n2) : N < M := by
  rw [← hv, ← hv2]
  exact cmp_len hlt ht (by omega)
theorem q3 (w : World) (q a b : Nat) : ∃ m, ((w.drewN q).drewN a).drewN b = w.drewN m := ⟨_, by rw [World.drewN_drewN, World.drewN_drewN]⟩
def QCmp (w : World) (z : Int) (e : Ending) (w' : World) : Prop := e = .returned (.int .i64 z) ∧ ∃ q, w' = w.drewN q

def NCmp (w : World) (z : Int) (e : Ending) (w' : World) : Prop := e = .returned (.int .i64 z) ∧ Below w.heap.size w w'
set_option maxRecDepth 100000 in
set_option maxHeartbeats 4000000 in
theorem natCmp_any (v1 v2 : Value) (N M : Nat) (w : World) (h1 : NatV w v1 N) (h2 : NatV w v2 M) (hN : N < 4294967296 ^ 1000) (hM : M < 4294967296 ^ 1000) :
    Calls Tryd.prog 75 #[v1, v2] w (NCmp w (cmpZ N M)) := by
  obtain ⟨A, n, c, xs, rfl, _, hl, ht, hv, hn⟩ := h1.len hN
  obtain ⟨A2, n2, c2, ys, rfl, _, hl2, ht2, hv2, hn2⟩ := h2.len hM
  have HL1 := hide (fun h => cmpN_lt hl.1 hl2.1 hl.2.2.1 ht2 hv hv2 h)
  have HL2 := hide (fun h => cmpN_lt hl2.1 hl.1 hl2.2.2.1 ht hv2 hv h)
  have HI := hide hl
  have HJ := hide hl2
  have HV := Lib.hid hv
  have HV2 := Lib.hid hv2
  clear h1 h2 hl ht hv hl2 ht2 hv2 hN hM
  have k1 := Blk.new w 66 #[.slice A n c]
  have k2 := Blk.new (w.alloc (.cells #[.slice A n c] 66)) 66 #[.slice A2 n2 c2]
  rw [sizeAl] at k2
  have K1 := hide (k1.alloc (.cells #[.slice A2 n2 c2] 66))
  have K2 := hide k2
  have HBW := hide (((Below.refl w.heap.size w).alloc (Nat.le_refl _) (.cells #[.slice A n c] 66)).alloc (by simp) (.cells #[.slice A2 n2 c2] 66))
  clear k1 k2
  rcases Nat.lt_trichotomy n n2 with hlt | hlt | hlt
  · have HCI := hide (fun w' => compInt_any n n2 w' (by omega) (by omega))
    have HZ := Lib.hid (cmpZ_lt (HL1.out hlt))
    have HZ2 := Lib.hid (cmpZ_lt hlt)
    have hb : ((n : Int) == (n2 : Int)) = false := beq_eq_false_iff_ne.2 (by omega)
    go_enter Tryd.func75, Tryd.ntmps75
    go_wp2_with fail
    refine (HCI.out _).mono ?_
    rintro e w4 ⟨rfl, rfl⟩
    go_wp2
    go_ret
    exact ⟨by rw [HZ.out, ← HZ2.out]; rfl, HBW.out⟩
  · subst hlt
    go_enter Tryd.func75, Tryd.ntmps75
    go_wp2
    obtain ⟨w4, HW4⟩ : ∃ w4, Hid ((w.alloc (.cells #[.slice A n c] 66)).alloc (.cells #[.slice A2 n c2] 66) = w4) := ⟨_, Lib.hid rfl⟩
    rw [HW4.out] at K1 K2 HBW
    rw [HW4.out]
    go_loopw [5] (fun iv wr => ∃ k : Nat, k ≤ n ∧ iv = .int .i64 ((k : Int) - 1) ∧ (∃ q, wr = w4.drewN q) ∧ Hid (CmpI xs ys k)) (fun iv _ => (intOf iv + 1).toNat)
    case atStart => exact ⟨n, Nat.le_refl _, rfl, ⟨0, rfl⟩, hide ⟨by rw [List.drop_eq_nil_of_le (by rw [HI.out.1]; exact Nat.le_refl _), List.drop_eq_nil_of_le (by rw [HJ.out.1]; exact Nat.le_refl _)]⟩⟩
    case round =>
      obtain ⟨k, hk, rfl, ⟨q, rfl⟩, hR⟩ := hrel
      rcases Nat.eq_zero_or_pos k with h0 | h0
      · subst h0
        have hz := hR.out.is
        rw [List.drop_zero, List.drop_zero] at hz
        have HZ := Lib.hid (cmpZ_eq (N := N) (M := M) (by rw [← HV.out, ← HV2.out, hz]))
        clear hz
        go_wp2
        go_ret
        exact ⟨by rw [HZ.out]; rfl, below_drewN HBW.out _⟩
      · obtain ⟨j, rfl⟩ : ∃ j, k = j + 1 := ⟨k - 1, by omega⟩
        rw [show (((j + 1 : Nat) : Int) - 1) = (j : Int) by omega]
        obtain ⟨ad, rfl, ha1, hc1, hx⟩ := HI.out.at_ (k := j) (by omega)
        obtain ⟨ad2, rfl, ha2, hc2, hy⟩ := HJ.out.at_ (k := j) (by omega)
        have hd1 := (HBW.out.cell (p := ad.add j) (by rw [block_of_add]; exact ha1)).trans hc1
        have hd2 := (HBW.out.cell (p := ad2.add j) (by rw [block_of_add]; exact ha2)).trans hc2
        have c1 := K1.out.cell 0
        have c2 := K2.out.cell 0
        have HA := hide (fun h => cmp_at (k := j) (by rw [HI.out.1]; omega) (by rw [HJ.out.1]; omega) HI.out.2.2.1 hR.out.is h)
        have HB := hide (fun h => cmp_at (k := j) (by rw [HJ.out.1]; omega) (by rw [HI.out.1]; omega) HJ.out.2.2.1 hR.out.is.symm h)
        have HC := hide (fun h => drop_same (k := j) (by rw [HI.out.1]; omega) (by rw [HJ.out.1]; omega) hR.out.is h)
        have hjn : (j : Int) < (n : Int) := by omega
        have hj0 : (0 : Int) ≤ (j : Int) := by omega
        rw [HV.out, HV2.out] at HA
        rw [HV.out, HV2.out] at HB
        clear hc1 hc2
        generalize xs.getD j 0 = x at hd1 hx HA HB HC
        generalize ys.getD j 0 = y at hd2 hy HA HB HC
        have HCL := hide (fun w' => compLimb_any x y w' hx hy)
        rcases Nat.lt_trichotomy x y with h | h | h
        · rw [cmpZ_lt h] at HCL
          have HZ := Lib.hid (cmpZ_lt (HA.out h))
          go_wp2
          go_quiet ((go_at_call 109; refine (HCL.out _).mono ?_; rintro e w9 ⟨rfl, rfl⟩; exact ⟨rfl, _, rfl⟩))
          go_wp2
          go_ret
          exact ⟨by rw [HZ.out]; rfl, below_drewN HBW.out _⟩
        · subst h
          rw [cmpZ_eq rfl] at HCL
          have HC2 := hide (HC.out rfl)
          go_wp2
          go_quiet ((go_at_call 109; refine (HCL.out _).mono ?_; rintro e w9 ⟨rfl, rfl⟩; exact ⟨rfl, _, rfl⟩))
          go_wp2
          go_roundw
          case rel => exact ⟨j, by omega, rfl, by first | exact ⟨_, rfl⟩ | exact ⟨_, World.drewN_drewN ..⟩, hide ⟨HC2.out⟩⟩
          case measure => simp [intOf]
        · rw [cmpZ_gt h] at HCL
          have HZ := Lib.hid (cmpZ_gt (HB.out h))
          go_wp2
          go_quiet ((go_at_call 109; refine (HCL.out _).mono ?_; rintro e w9 ⟨rfl, rfl⟩; exact ⟨rfl, _, rfl⟩))
          go_wp2
          go_ret
          exact ⟨by rw [HZ.out]; rfl, below_drewN HBW.out _⟩
  · have HCI := hide (fun w' => compInt_any n n2 w' (by omega) (by omega))
    have HZ := Lib.hid (cmpZ_gt (HL2.out hlt))
    have HZ2 := Lib.hid (cmpZ_gt hlt)
    have hb : ((n : Int) == (n2 : Int)) = false := beq_eq_false_iff_ne.2 (by omega)
    go_enter Tryd.func75, Tryd.ntmps75
    go_wp2_with fail
    refine (HCI.out _).mono ?_
    rintro e w4 ⟨rfl, rfl⟩
    go_wp2
    go_ret
    exact ⟨by rw [HZ.out, ← HZ2.out]; rfl, HBW.out⟩
theorem len_ge {xs ys : List Nat} {n n2 : Nat} (h1 : xs.length = n) (h2 : ys.length = n2) (hlt : ∀ x ∈ xs, x < 4294967296) (ht : TrimL ys) (hge : valL ys ≤ valL xs) : n2 ≤ n := by
  rcases Nat.lt_or_ge n n2 with h | h
  · have := cmp_len hlt ht (by omega)
    omega
  · exact h
end Go.Proofs.YtfbhmkpihmcegaaDoor
