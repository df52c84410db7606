/-
  A space's Free and Vars; plain's At.
-/
import Derived.Test.YtfbhmkpihmcegaaDoorBddOps
import Derived.Test.YtfbhmkpihmcegaaDoorFourRow
import Derived.Lib.EndianBits
namespace Go.Proofs.YtfbhmkpihmcegaaDoor
open Go.RowKit Go.Maps

def FreeP (w : World) (S B gn gu gt gc : Nat) (vars : Int) (A : Ar) (l : List Int) (e : Ending) (w' : World) : Prop :=
  (∃ z, e = .returned (.int .i64 z)) ∧ SpM w' S B gn gu gt gc vars (sweepA A l) 0 ∧ Fr (spB B gn gu gt gc) w w'
section
variable (S B gn gu gt gc m : Nat) (vars : Int) (A : Ar) (w : World)
set_option maxHeartbeats 2000000 in
theorem bdFree_any (A0 : Option Addr) (n c : Nat) (l : List Int) (h : SpM w S B gn gu gt gc vars A m) (hl : RowI w A0 n l) (hi : ∀ x ∈ l, I64 x) (hn : n ≤ 1000000) (hnil : A0 = none → n = 0) :
    Calls Tryd.prog 106 #[.pointer (some ⟨S, 0, none⟩), .slice A0 n c] w (FreeP w S B gn gu gt gc vars A l) := by
  have s0 := h.kS.cell 0
  have HSW := hide (arSweep_any B gn gu gt A A0 n c l w h.ar hl hi hn hnil)
  have H := hide h
  clear h hl hi
  go_enter Tryd.func106, Tryd.ntmps106
  go_wp2_with fail
  refine (HSW.out).mono ?_
  rintro e w1 ⟨rfl, ha, hf⟩
  obtain ⟨f, hc, _⟩ := H.out.cache
  have HC := hide (hc.fr hf H.out.gcA)
  have HK := hide (H.out.kS.fr hf (fun hk => H.out.sA (.inl hk)))
  have HA := hide ha
  have HF := hide hf
  have s2 := HK.out.cell 2
  clear hc ha hf s0
  go_wp2_with (first
    | (refine clearV rfl _ _ rfl Tryd.underlying110 rfl HC.out ?_; intro w2 hm2 hg2; have HM2 := hide hm2; have HG2 := hide hg2; clear hm2 hg2)
    | fail)
  go_ret
  refine ⟨⟨_, rfl⟩, ⟨HK.out.grown HG2.out (fun e => by injection e with e; exact H.out.sA (.inr e)), HA.out.keep fun k hk => HG2.out.block k (HA.out.lt hk) (fun e => by injection e with e; exact H.out.gcA (e ▸ hk)), ⟨_, HM2.out, .none _⟩, H.out.sp.sweep l, H.out.v6⟩, ?_⟩
  exact (HF.out.mono fun k _ hk => .inl hk).grown HG2.out (fun k e => by cases e; exact .inr rfl)
theorem bdVars_any (h : SpM w S B gn gu gt gc vars A m) :
    Calls Tryd.prog 24 #[.pointer (some ⟨S, 0, none⟩)] w (fun e w' => e = .returned (.int .i64 vars) ∧ w = w') := by
  have s1 := h.kS.cell 1
  clear h
  go_enter Tryd.func24, Tryd.ntmps24
  go_wp2
  go_ret
  exact ⟨rfl, rfl⟩
end
/-- A place in a list of so many. -/
def atN (n : Int) (k : Nat) : Nat := (n % 18446744073709551616 % (k : Int)).toNat
theorem atN_lt (n : Int) {k : Nat} (hk : 0 < k) : atN n k < k := by
  unfold atN
  have h1 := Int.emod_nonneg (n % 18446744073709551616) (show (k : Int) ≠ 0 by omega)
  have h2 := Int.emod_lt_of_pos (n % 18446744073709551616) (show (0 : Int) < (k : Int) by omega)
  omega
theorem at_val (n : Int) {k : Nat} (hk : 0 < k) (hk2 : k ≤ 1000000) : wrap64 ((IntKind.u64.wrap n).tmod (k : Int)) = (atN n k : Int) := by
  have h0 : 0 ≤ n % 18446744073709551616 := Int.emod_nonneg n (by omega)
  rw [IntKind.wrap_u64, Int.tmod_eq_emod_of_nonneg h0]
  unfold atN
  have h1 := Int.emod_nonneg (n % 18446744073709551616) (show (k : Int) ≠ 0 by omega)
  have h2 := Int.emod_lt_of_pos (n % 18446744073709551616) (show (0 : Int) < (k : Int) by omega)
  rw [Int.toNat_of_nonneg h1]
  generalize n % 18446744073709551616 % (k : Int) = y at h1 h2
  unfold wrap64
  omega
def AtQ (w : World) (n : Int) (k : Nat) (e : Ending) (w' : World) : Prop := e = .returned (.int .i64 (atN n k : Int)) ∧ w = w'
theorem plainAt_any (n : Int) (k : Nat) (w : World) (hk : 0 < k) (hk2 : k ≤ 1000000) :
    Calls Tryd.prog 104 #[.int .i64 n, .int .i64 (k : Int)] w (AtQ w n k) := by
  go_enter Tryd.func104, Tryd.ntmps104
  go_wp2
  go_ret
  exact ⟨by rw [← at_val n hk hk2]; rfl, rfl⟩
end Go.Proofs.YtfbhmkpihmcegaaDoor
