/-
  A space's Free and Vars; plain's At. The functions that plain steps make. No program in sight.
-/
import Derived.Test.YtdlcldhnbhlikaaGreatDoorBddOps
import Derived.Test.YtdlcldhnbhlikaaGreatDoorFourRow
import Derived.Lib.EndianBits
namespace Go.Proofs.YtdlcldhnbhlikaaGreatDoor
open Go.RowKit Go.Maps

def FreeP (w : World) (S B gn gu gt gc : Nat) (vars : Int) (A : Ar) (l : List Int) (e : Ending) (w' : World) : Prop :=
  (∃ z, e = .returned (.int .i64 z)) ∧ SpM w' S B gn gu gt gc vars (sweepA A l) 0 ∧ Fr (spB B gn gu gt gc) w w'
section
variable (S B gn gu gt gc m : Nat) (vars : Int) (A : Ar) (w : World)
set_option maxHeartbeats 2000000 in
theorem bdFree_any (A0 : Option Addr) (n c : Nat) (l : List Int) (h : SpM w S B gn gu gt gc vars A m) (hl : RowI w A0 n l) (hi : ∀ x ∈ l, I64 x) (hn : n ≤ 1000000) (hnil : A0 = none → n = 0) :
    Calls Tryz.prog 82 #[.pointer (some ⟨S, 0, none⟩), .slice A0 n c] w (FreeP w S B gn gu gt gc vars A l) := by
  have s0 := h.kS.cell 0
  have HSW := hide (arSweep_any B gn gu gt A A0 n c l w h.ar hl hi hn hnil)
  have H := hide h
  clear h hl hi
  go_enter Tryz.func82, Tryz.ntmps82
  go_wp2_with fail
  refine (HSW.out).mono ?_
  rintro e w1 ⟨rfl, ha, hf⟩
  obtain ⟨f, hc, _⟩ := H.out.cache
  have HC := hide (hc.fr hf H.out.gcA)
  have HK := hide (H.out.kS.fr hf (fun hk => H.out.sA (.inl hk)))
  have HA := hide ha
  have HF := hide hf
  have s2 := HK.out.cell 2
  clear hc ha hf s0
  go_wp2_with (first
    | (refine clearV rfl _ _ rfl Tryz.underlying80 rfl HC.out ?_; intro w2 hm2 hg2; have HM2 := hide hm2; have HG2 := hide hg2; clear hm2 hg2)
    | fail)
  go_ret
  refine ⟨⟨_, rfl⟩, ⟨HK.out.grown HG2.out (fun e => by injection e with e; exact H.out.sA (.inr e)), HA.out.keep fun k hk => HG2.out.block k (HA.out.lt hk) (fun e => by injection e with e; exact H.out.gcA (e ▸ hk)), ⟨_, HM2.out, .none _⟩, H.out.sp.sweep l, H.out.v6⟩, ?_⟩
  exact (HF.out.mono fun k _ hk => .inl hk).grown HG2.out (fun k e => by cases e; exact .inr rfl)
theorem bdVars_any (h : SpM w S B gn gu gt gc vars A m) :
    Calls Tryz.prog 38 #[.pointer (some ⟨S, 0, none⟩)] w (fun e w' => e = .returned (.int .i64 vars) ∧ w = w') := by
  have s1 := h.kS.cell 1
  clear h
  go_enter Tryz.func38, Tryz.ntmps38
  go_wp2
  go_ret
  exact ⟨rfl, rfl⟩
end
/-- A place in a list of so many. -/
def atN (n : Int) (k : Nat) : Nat := (n % 18446744073709551616 % (k : Int)).toNat
theorem atN_lt (n : Int) {k : Nat} (hk : 0 < k) : atN n k < k := by
  unfold atN
  have h1 := Int.emod_nonneg (n % 18446744073709551616) (show (k : Int) ≠ 0 by omega)
  have h2 := Int.emod_lt_of_pos (n % 18446744073709551616) (show (0 : Int) < (k : Int) by omega)
  omega
theorem at_val (n : Int) {k : Nat} (hk : 0 < k) (hk2 : k ≤ 1000000) : wrap64 ((IntKind.u64.wrap n).tmod (k : Int)) = (atN n k : Int) := by
  have h0 : 0 ≤ n % 18446744073709551616 := Int.emod_nonneg n (by omega)
  rw [IntKind.wrap_u64, Int.tmod_eq_emod_of_nonneg h0]
  unfold atN
  have h1 := Int.emod_nonneg (n % 18446744073709551616) (show (k : Int) ≠ 0 by omega)
  have h2 := Int.emod_lt_of_pos (n % 18446744073709551616) (show (0 : Int) < (k : Int) by omega)
  rw [Int.toNat_of_nonneg h1]
  generalize n % 18446744073709551616 % (k : Int) = y at h1 h2
  unfold wrap64
  omega
def AtQ (w : World) (n : Int) (k : Nat) (e : Ending) (w' : World) : Prop := e = .returned (.int .i64 (atN n k : Int)) ∧ w = w'
theorem plainAt_any (n : Int) (k : Nat) (w : World) (hk : 0 < k) (hk2 : k ≤ 1000000) :
    Calls Tryz.prog 72 #[.int .i64 n, .int .i64 (k : Int)] w (AtQ w n k) := by
  go_enter Tryz.func72, Tryz.ntmps72
  go_wp2
  go_ret
  exact ⟨by rw [← at_val n hk hk2]; rfl, rfl⟩
end Go.Proofs.YtdlcldhnbhlikaaGreatDoor
namespace Go.Proofs.YtdlcldhnbhlikaaGreatDoor

abbrev FnB := (Int → Bool) → Bool
def fn0 : FnB := fun _ => false
def fn1 : FnB := fun _ => true
def oddB (z : Int) : Bool := !(z.tmod 2 == 0)
def argF (fs : List FnB) (z : Int) : FnB := fs.getD (atN z fs.length) fn0
/-- What a step makes of the functions so far. -/
def stepF (vn : Nat) (d : Four) (fs : List FnB) : FnB :=
  match atN d.what 9 with
  | 0 => fun u => u (atN d.a vn : Int) == oddB d.b
  | 1 => fun u => !argF fs d.a u
  | 2 => fun u => argF fs d.a u && argF fs d.b u
  | 3 => fun u => argF fs d.a u || argF fs d.b u
  | 4 => fun u => argF fs d.a u != argF fs d.b u
  | 5 => fun u => if argF fs d.a u then argF fs d.b u else argF fs d.c u
  | 6 => fun u => argF fs d.a (upd u (atN d.b vn : Int) (oddB d.c))
  | 7 => fun u => argF fs d.a (upd u (atN d.b vn : Int) false) || argF fs d.a (upd u (atN d.b vn : Int) true)
  | _ => fun u => argF fs d.a (upd u (atN d.b vn : Int) false) && argF fs d.a (upd u (atN d.b vn : Int) true)
def funsN (vn : Nat) (q : Nat → Four) : Nat → List FnB
  | 0 => [fn0, fn1]
  | i + 1 => funsN vn q i ++ [stepF vn (q i) (funsN vn q i)]
theorem funs_len (vn : Nat) (q : Nat → Four) : ∀ i, (funsN vn q i).length = i + 2
  | 0 => rfl
  | i + 1 => by
    show (funsN vn q i ++ [stepF vn (q i) (funsN vn q i)]).length = _
    rw [List.length_append, funs_len vn q i, List.length_singleton]
/-- The handles of these functions. -/
structure HsOk (A : Ar) (hs : List Int) (fs : List FnB) : Prop where
  len : hs.length = fs.length
  has : ∀ k, k < hs.length → hasA A (hs.getD k 0) = true
  den : ∀ k, k < hs.length → ∀ u, den A (hs.getD k 0) u = fs.getD k fn0 u
section
variable {A A' : Ar} {vars : Int} {hs : List Int} {fs : List FnB} {h : Int} {F : FnB}
theorem HsOk.start (A : Ar) : HsOk A [0, 1] [fn0, fn1] := by
  refine ⟨rfl, fun k hk => ?_, fun k hk u => ?_⟩
  · rcases (show k = 0 ∨ k = 1 by simp at hk; omega) with rfl | rfl
    · exact has_ends.1
    · exact has_ends.2
  · rcases (show k = 0 ∨ k = 1 by simp at hk; omega) with rfl | rfl
    · exact den_zero A u
    · exact den_one A u
theorem HsOk.ext (H : HsOk A hs fs) (h1 : SpA A vars) (h2 : SpA A' vars) (hx : ExtA A A') : HsOk A' hs fs :=
  ⟨H.len, fun k hk => hx.has (H.has k hk), fun k hk u => by rw [h1.same h2 hx (H.has k hk)]; exact H.den k hk u⟩
theorem HsOk.push (H : HsOk A hs fs) (p : hasA A h = true) (hF : ∀ u, Go.Proofs.YtdlcldhnbhlikaaGreatDoor.den A h u = F u) : HsOk A (hs ++ [h]) (fs ++ [F]) := by
  have hl := H.len
  have g1 : ∀ k, k < hs.length → (hs ++ [h]).getD k 0 = hs.getD k 0 := fun k hk => by
    rw [List.getD_eq_getElem?_getD, List.getD_eq_getElem?_getD, List.getElem?_append_left hk]
  have g2 : ∀ k, k < fs.length → (fs ++ [F]).getD k fn0 = fs.getD k fn0 := fun k hk => by
    rw [List.getD_eq_getElem?_getD, List.getD_eq_getElem?_getD, List.getElem?_append_left hk]
  have g3 : (hs ++ [h]).getD hs.length 0 = h := by simp [List.getD_eq_getElem?_getD]
  have g4 : (fs ++ [F]).getD fs.length fn0 = F := by simp [List.getD_eq_getElem?_getD]
  refine ⟨by simp [hl], fun k hk => ?_, fun k hk u => ?_⟩
  · rw [List.length_append, List.length_singleton] at hk
    rcases Nat.lt_or_ge k hs.length with h1 | h1
    · rw [g1 k h1]; exact H.has k h1
    · rw [show k = hs.length by omega, g3]; exact p
  · rw [List.length_append, List.length_singleton] at hk
    rcases Nat.lt_or_ge k hs.length with h1 | h1
    · rw [g1 k h1, g2 k (by omega)]; exact H.den k h1 u
    · rw [show k = hs.length by omega, g3, hl, g4]; exact hF u
theorem HsOk.mem (H : HsOk A hs fs) {x : Int} (hx : x ∈ hs) : hasA A x = true := by
  obtain ⟨k, hk, rfl⟩ := List.getElem_of_mem hx
  have := H.has k hk
  rw [List.getD_eq_getElem?_getD, List.getElem?_eq_getElem hk] at this
  exact this
theorem getD_mem {hs : List Int} {k : Nat} (hk : k < hs.length) : hs.getD k 0 ∈ hs := by
  rw [List.getD_eq_getElem?_getD, List.getElem?_eq_getElem hk]
  exact List.getElem_mem hk
theorem HsOk.sweep (H : HsOk A hs fs) (h1 : SpA A vars) : HsOk (sweepA A hs) hs fs :=
  ⟨H.len, fun k hk => sweep_has (getD_mem hk) (H.has k hk), fun k hk u => by rw [sweep_den h1 (getD_mem hk) (H.has k hk)]; exact H.den k hk u⟩
/-- A step's argument. -/
theorem HsOk.arg (H : HsOk A hs fs) (h0 : 0 < hs.length) (z : Int) : atN z hs.length < hs.length ∧ hasA A (hs.getD (atN z hs.length) 0) = true ∧ ∀ u, Go.Proofs.YtdlcldhnbhlikaaGreatDoor.den A (hs.getD (atN z hs.length) 0) u = argF fs z u := by
  have h1 := atN_lt z h0
  refine ⟨h1, H.has _ h1, fun u => ?_⟩
  unfold argF
  rw [← H.len]
  exact H.den _ h1 u
end
theorem atN_nine (n : Int) : atN n 9 = 0 ∨ atN n 9 = 1 ∨ atN n 9 = 2 ∨ atN n 9 = 3 ∨ atN n 9 = 4 ∨ atN n 9 = 5 ∨ atN n 9 = 6 ∨ atN n 9 = 7 ∨ atN n 9 = 8 := by
  have := atN_lt n (show 0 < 9 by omega)
  omega
section
variable {vn : Nat} {d : Four} {fs : List FnB}
theorem stepF_0 (h : atN d.what 9 = 0) (u : Int → Bool) : (u (atN d.a vn : Int) == oddB d.b) = stepF vn d fs u := by unfold stepF; rw [h]; rfl
theorem stepF_1 (h : atN d.what 9 = 1) (u : Int → Bool) : (!argF fs d.a u) = stepF vn d fs u := by unfold stepF; rw [h]; rfl
theorem stepF_2 (h : atN d.what 9 = 2) (u : Int → Bool) : (argF fs d.a u && argF fs d.b u) = stepF vn d fs u := by unfold stepF; rw [h]; rfl
theorem stepF_3 (h : atN d.what 9 = 3) (u : Int → Bool) : (argF fs d.a u || argF fs d.b u) = stepF vn d fs u := by unfold stepF; rw [h]; rfl
theorem stepF_4 (h : atN d.what 9 = 4) (u : Int → Bool) : (argF fs d.a u != argF fs d.b u) = stepF vn d fs u := by unfold stepF; rw [h]; rfl
theorem stepF_5 (h : atN d.what 9 = 5) (u : Int → Bool) : (if argF fs d.a u then argF fs d.b u else argF fs d.c u) = stepF vn d fs u := by unfold stepF; rw [h]; rfl
theorem stepF_6 (h : atN d.what 9 = 6) (u : Int → Bool) : argF fs d.a (upd u (atN d.b vn : Int) (oddB d.c)) = stepF vn d fs u := by unfold stepF; rw [h]; rfl
theorem stepF_7 (h : atN d.what 9 = 7) (u : Int → Bool) : (argF fs d.a (upd u (atN d.b vn : Int) false) || argF fs d.a (upd u (atN d.b vn : Int) true)) = stepF vn d fs u := by unfold stepF; rw [h]; rfl
theorem stepF_8 (h : atN d.what 9 = 8) (u : Int → Bool) : (argF fs d.a (upd u (atN d.b vn : Int) false) && argF fs d.a (upd u (atN d.b vn : Int) true)) = stepF vn d fs u := by unfold stepF; rw [h]; rfl
end
end Go.Proofs.YtdlcldhnbhlikaaGreatDoor
