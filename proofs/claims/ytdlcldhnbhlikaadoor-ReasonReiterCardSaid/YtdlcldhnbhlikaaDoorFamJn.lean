/-
  A store's walks: of which no set of the other is a part; each together with each. A store's free and Join, walked. A store's Join, walked: the mix of two families.
-/
import Derived.Test.YtdlcldhnbhlikaaDoorFamOr
namespace Go.Proofs.YtdlcldhnbhlikaaDoor
open Go.RowKit Go.Maps
open Classical in
/-- Those of F of which no set of G is a part. -/
noncomputable def freeG (F G : Nat → Bool) (s : Nat) : Bool := F s && decide (∀ t, G t = true → subN t s = false)
open Classical in
/-- Each of F together with each of G. -/
noncomputable def joinG (F G : Nat → Bool) (s : Nat) : Bool := decide (∃ x y, F x = true ∧ G y = true ∧ x ||| y = s)
def eFree (a b : Int) : Option Int := if b = 0 then some a else if b = 1 then some 0 else if a = 0 then some 0 else if a = b then some 0 else none
def eJoin (a b : Int) : Option Int := if a = 0 then some 0 else if b = 0 then some 0 else if a = 1 then some b else if b = 1 then some a else none
def c3N : Nat → Nat
  | 0 => 0
  | n + 1 => 3 * c3N n + 1
def c4N : Nat → Nat
  | 0 => 0
  | n + 1 => 4 * c4N n + 3 * c2N n + 1
theorem c3N_mono {a b : Nat} (h : a ≤ b) : c3N a ≤ c3N b := by
  induction h with
  | refl => exact Nat.le_refl _
  | step _ ih => show _ ≤ 3 * c3N _ + 1; omega
theorem c4N_mono {a b : Nat} (h : a ≤ b) : c4N a ≤ c4N b := by
  induction h with
  | refl => exact Nat.le_refl _
  | step _ ih => show _ ≤ 4 * c4N _ + 3 * c2N _ + 1; omega
noncomputable def opFree : OpZ := ⟨freeG, eFree, c3N⟩
noncomputable def opJoin : OpZ := ⟨joinG, eJoin, c4N⟩
theorem sub_self (s : Nat) : subN s s = true := subN_iff.2 fun _ h => h
theorem sub_zero_ (s : Nat) : subN 0 s = true := subN_iff.2 fun y h => by rw [Nat.zero_testBit] at h; cases h
theorem freeG_iff {F G : Nat → Bool} {s : Nat} : freeG F G s = true ↔ F s = true ∧ ∀ t, G t = true → subN t s = false := by
  simp [freeG]
theorem joinG_iff {F G : Nat → Bool} {s : Nat} : joinG F G s = true ↔ ∃ x y, F x = true ∧ G y = true ∧ x ||| y = s := by
  simp [joinG]
theorem freeG_none (F G : Nat → Bool) (h : ∀ t, G t = false) (s : Nat) : freeG F G s = F s :=
  Bool.eq_iff_iff.2 (freeG_iff.trans ⟨fun h => h.1, fun e => ⟨e, fun t e => by rw [h t] at e; cases e⟩⟩)
theorem freeG_sub {F G : Nat → Bool} {s t : Nat} (h : F s = true → G t = true ∧ subN t s = true) : freeG F G s = false :=
  Bool.eq_false_iff.2 fun e => by
    obtain ⟨h1, h2⟩ := freeG_iff.1 e
    have := h2 t (h h1).1
    rw [(h h1).2] at this
    cases this
theorem joinG_none {F G : Nat → Bool} (h : (∀ t, F t = false) ∨ ∀ t, G t = false) (s : Nat) : joinG F G s = false :=
  Bool.eq_false_iff.2 fun e => by
    obtain ⟨x, y, h1, h2, _⟩ := joinG_iff.1 e
    rcases h with h | h
    · rw [h x] at h1; cases h1
    · rw [h y] at h2; cases h2
theorem joinG_one {F G : Nat → Bool} (h : ∀ t, F t = (t == 0)) (s : Nat) : joinG F G s = G s :=
  Bool.eq_iff_iff.2 (joinG_iff.trans ⟨fun ⟨x, y, h1, h2, e⟩ => by
    rw [h] at h1
    obtain rfl : x = 0 := by simpa using h1
    rw [Nat.zero_or] at e
    subst e
    exact h2, fun hG => ⟨0, s, by rw [h]; rfl, hG, by simp⟩⟩)
theorem joinG_one' {F G : Nat → Bool} (h : ∀ t, G t = (t == 0)) (s : Nat) : joinG F G s = F s :=
  Bool.eq_iff_iff.2 (joinG_iff.trans ⟨fun ⟨x, y, h1, h2, e⟩ => by
    rw [h] at h2
    obtain rfl : y = 0 := by simpa using h2
    rw [Nat.or_zero] at e
    subst e
    exact h1, fun hG => ⟨s, 0, hG, by rw [h]; rfl, by simp⟩⟩)
theorem okFree : OpOk opFree := by
  refine ⟨fun {A things a b h} hs pa pb he => ?_, fun {A a b} pa pb he => Decidable.byContradiction fun hn => ?_, c3N_mono⟩
  · have hl := topZ_le A a b
    have h24 := topZ_24 hs.wf a b
    change eFree a b = some h at he
    show _ ∧ _ ∧ ∀ s, fam A h s = freeG (fam A a) (fam A b) s
    unfold eFree at he
    split at he
    · rename_i e; subst e; cases he; exact ⟨pa, hl.1, fun s => (freeG_none _ _ (fun t => fam_zero t) s).symm⟩
    · split at he
      · rename_i e; subst e; cases he; exact ⟨has_ends.1, h24, fun s => by rw [fam_zero]; exact (freeG_sub (t := 0) fun _ => ⟨by rw [fam_one]; rfl, sub_zero_ s⟩).symm⟩
      · split at he
        · rename_i e; subst e; cases he; exact ⟨has_ends.1, h24, fun s => by rw [fam_zero]; exact (freeG_sub (t := 0) fun h => by rw [fam_zero] at h; cases h).symm⟩
        · split at he
          · rename_i e; subst e; cases he; exact ⟨has_ends.1, h24, fun s => by rw [fam_zero]; exact (freeG_sub (t := s) fun h => ⟨h, sub_self s⟩).symm⟩
          · cases he
  · obtain ⟨h1 | h1, h2 | h2⟩ := ends_none pa pb hn <;> subst h1 <;> subst h2 <;> cases he
theorem okJoin : OpOk opJoin := by
  refine ⟨fun {A things a b h} hs pa pb he => ?_, fun {A a b} pa pb he => Decidable.byContradiction fun hn => ?_, c4N_mono⟩
  · have hl := topZ_le A a b
    have h24 := topZ_24 hs.wf a b
    change eJoin a b = some h at he
    show _ ∧ _ ∧ ∀ s, fam A h s = joinG (fam A a) (fam A b) s
    unfold eJoin at he
    split at he
    · rename_i e; subst e; cases he; exact ⟨has_ends.1, h24, fun s => by rw [fam_zero]; exact (joinG_none (.inl fun t => fam_zero t) s).symm⟩
    · split at he
      · rename_i e; subst e; cases he; exact ⟨has_ends.1, h24, fun s => by rw [fam_zero]; exact (joinG_none (.inr fun t => fam_zero t) s).symm⟩
      · split at he
        · rename_i e; subst e; cases he; exact ⟨pb, hl.2, fun s => (joinG_one (fun t => fam_one t) s).symm⟩
        · split at he
          · rename_i e; subst e; cases he; exact ⟨pa, hl.1, fun s => (joinG_one' (fun t => fam_one t) s).symm⟩
          · cases he
  · obtain ⟨h1 | h1, h2 | h2⟩ := ends_none pa pb hn <;> subst h1 <;> subst h2 <;> cases he
set_option maxRecDepth 100000 in
theorem endsFree : EndsC opFree 60 := by
  refine ⟨fun args w => enters_of Tryd.func60 (by kernel_rfl) rfl args w, fun a b w => ?_⟩
  show Calls _ _ _ _ (fun e w' => e = .returned (.tuple #[.int .i64 ((eFree a b).getD 0), .bool (eFree a b).isSome]) ∧ w = w')
  by_cases h0 : b = 0
  · have hE : eFree a b = some a := by unfold eFree; rw [if_pos h0]
    have f0 : (b == 0) = true := beq_iff_eq.2 h0
    rw [hE]
    simp only [Option.getD_some, Option.isSome_some]
    clear hE h0
    go_enter Tryd.func60, Tryd.ntmps60
    go_wp2
    go_ret2
    exact ⟨rfl, rfl⟩
  · have f0 : (b == 0) = false := beq_eq_false_iff_ne.2 h0
    by_cases h1 : b = 1
    · have hE : eFree a b = some 0 := by unfold eFree; rw [if_neg h0, if_pos h1]
      have f1 : (b == 1) = true := beq_iff_eq.2 h1
      rw [hE]
      simp only [Option.getD_some, Option.isSome_some]
      clear hE h1
      go_enter Tryd.func60, Tryd.ntmps60
      go_wp2
      go_ret2
      exact ⟨rfl, rfl⟩
    · have f1 : (b == 1) = false := beq_eq_false_iff_ne.2 h1
      by_cases h2 : a = 0
      · have hE : eFree a b = some 0 := by unfold eFree; rw [if_neg h0, if_neg h1, if_pos h2]
        have f2 : (a == 0) = true := beq_iff_eq.2 h2
        rw [hE]
        simp only [Option.getD_some, Option.isSome_some]
        clear hE h2
        go_enter Tryd.func60, Tryd.ntmps60
        go_wp2
        go_ret2
        exact ⟨rfl, rfl⟩
      · have f2 : (a == 0) = false := beq_eq_false_iff_ne.2 h2
        by_cases h3 : a = b
        · have hE : eFree a b = some 0 := by unfold eFree; rw [if_neg h0, if_neg h1, if_neg h2, if_pos h3]
          have f3 : (a == b) = true := beq_iff_eq.2 h3
          rw [hE]
          simp only [Option.getD_some, Option.isSome_some]
          clear hE h3
          go_enter Tryd.func60, Tryd.ntmps60
          go_wp2
          go_ret2
          exact ⟨rfl, rfl⟩
        · have f3 : (a == b) = false := beq_eq_false_iff_ne.2 h3
          have hE : eFree a b = none := by unfold eFree; rw [if_neg h0, if_neg h1, if_neg h2, if_neg h3]
          rw [hE]
          simp only [Option.getD_none, Option.isSome_none]
          clear hE h0 h1 h2 h3
          go_enter Tryd.func60, Tryd.ntmps60
          go_wp2
          go_ret2
          exact ⟨rfl, rfl⟩
set_option maxRecDepth 100000 in
theorem endsJoin : EndsC opJoin 35 := by
  refine ⟨fun args w => enters_of Tryd.func35 (by kernel_rfl) rfl args w, fun a b w => ?_⟩
  show Calls _ _ _ _ (fun e w' => e = .returned (.tuple #[.int .i64 ((eJoin a b).getD 0), .bool (eJoin a b).isSome]) ∧ w = w')
  by_cases h0 : a = 0
  · have hE : eJoin a b = some 0 := by unfold eJoin; rw [if_pos h0]
    have f0 : (a == 0) = true := beq_iff_eq.2 h0
    rw [hE]
    simp only [Option.getD_some, Option.isSome_some]
    clear hE h0
    go_enter Tryd.func35, Tryd.ntmps35
    go_wp2
    go_ret2
    exact ⟨rfl, rfl⟩
  · have f0 : (a == 0) = false := beq_eq_false_iff_ne.2 h0
    by_cases h1 : b = 0
    · have hE : eJoin a b = some 0 := by unfold eJoin; rw [if_neg h0, if_pos h1]
      have f1 : (b == 0) = true := beq_iff_eq.2 h1
      rw [hE]
      simp only [Option.getD_some, Option.isSome_some]
      clear hE h1
      go_enter Tryd.func35, Tryd.ntmps35
      go_wp2
      go_ret2
      exact ⟨rfl, rfl⟩
    · have f1 : (b == 0) = false := beq_eq_false_iff_ne.2 h1
      by_cases h2 : a = 1
      · have hE : eJoin a b = some b := by unfold eJoin; rw [if_neg h0, if_neg h1, if_pos h2]
        have f2 : (a == 1) = true := beq_iff_eq.2 h2
        rw [hE]
        simp only [Option.getD_some, Option.isSome_some]
        clear hE h2
        go_enter Tryd.func35, Tryd.ntmps35
        go_wp2
        go_ret2
        exact ⟨rfl, rfl⟩
      · have f2 : (a == 1) = false := beq_eq_false_iff_ne.2 h2
        by_cases h3 : b = 1
        · have hE : eJoin a b = some a := by unfold eJoin; rw [if_neg h0, if_neg h1, if_neg h2, if_pos h3]
          have f3 : (b == 1) = true := beq_iff_eq.2 h3
          rw [hE]
          simp only [Option.getD_some, Option.isSome_some]
          clear hE h3
          go_enter Tryd.func35, Tryd.ntmps35
          go_wp2
          go_ret2
          exact ⟨rfl, rfl⟩
        · have f3 : (b == 1) = false := beq_eq_false_iff_ne.2 h3
          have hE : eJoin a b = none := by unfold eJoin; rw [if_neg h0, if_neg h1, if_neg h2, if_neg h3]
          rw [hE]
          simp only [Option.getD_none, Option.isSome_none]
          clear hE h0 h1 h2 h3
          go_enter Tryd.func35, Tryd.ntmps35
          go_wp2
          go_ret2
          exact ⟨rfl, rfl⟩

section
variable {A A1 A2 A3 A4 : Ar} {things a b lo hi x y : Int} {c1 c2 c3 c4 : Nat} {t1 t2 t3 : Int} {v : Nat}
/-- free, thing by thing. -/
theorem free_join (hs : SpZ A things) (h24 : v < 24) (ha : (v : Int) ≤ topA A a) (hb : (v : Int) ≤ topA A b) (pa : hasA A a = true) (pb : hasA A b = true)
    (T1 : StpZ A A1 things c1 t1 lo (freeG (fam A (atZ A a v false)) (fam A (atZ A b v false)))) (T2 : StpZ A1 A2 things c2 t2 y (freeG (fam A1 (atZ A a v true)) (fam A1 (atZ A b v false))))
    (T3 : StpZ A2 A3 things c3 t3 hi (freeG (fam A2 y) (fam A2 (atZ A b v true)))) (T4 : StpZ A3 A4 things c4 (v : Int) x (nodeZ A3 ⟨(v : Int), lo, hi⟩)) : StpZ A A4 things (c1 + c2 + c3 + c4) (v : Int) x (freeG (fam A a) (fam A b)) := by
  have p1 := atZ_has hs.wf (v := v) pa true
  have r0 := atZ_has hs.wf (v := v) pb false
  have r1 := atZ_has hs.wf (v := v) pb true
  have e12 := T1.ext.trans T2.ext
  refine ⟨T4.sp, (e12.trans T3.ext).trans T4.ext, ?_, T4.has, T4.top, fun s => ?_⟩
  · have := T1.few; have := T2.few; have := T3.few; have := T4.few; omega
  rw [T4.fam]
  unfold nodeZ
  simp only
  rw [show ((v : Int)).toNat = v by omega, T3.fam, T2.sp.fun_ T3.sp T3.ext ((T2.ext.has T1.has)), T1.sp.fun_ T2.sp T2.ext T1.has, T1.fam, hs.fun_ T2.sp e12 r1]
  have hy : ∀ s, fam A2 y s = freeG (fam A (atZ A a v true)) (fam A (atZ A b v false)) s := fun s => by rw [T2.fam, hs.fun_ T1.sp T1.ext p1, hs.fun_ T1.sp T1.ext r0]
  have hfp := free_part (A := A) (b := b) hs.wf h24 hb s
  have hfa := fam_part hs.wf h24 ha s
  unfold freeP at hfp
  rw [Bool.eq_iff_iff, freeG_iff (F := fam A a), hfa, hfp]
  by_cases hb' : s.testBit v = true
  · rw [if_pos hb', if_pos hb', if_pos hb', freeG_iff, hy, freeG_iff, and_assoc]
  · rw [if_neg hb', if_neg hb', if_neg hb', freeG_iff]
/-- Join, thing by thing. -/
theorem joins_join {F : Nat → Bool} (hs : SpZ A things) (h24 : v < 24) (ha : (v : Int) ≤ topA A a) (hb : (v : Int) ≤ topA A b)
    (T1 : StpZ A A1 things c1 t1 lo (joinG (fam A (atZ A a v false)) (fam A (atZ A b v false)))) (h2 : SpZ A2 things) (x2 : ExtA A1 A2) (hf2 : low3 A2 ≤ low3 A1 + c2) (hF : ∀ s, fam A2 hi s = F s)
    (hJ : ∀ s, F s = ((joinG (fam A (atZ A a v true)) (fam A (atZ A b v true)) s || joinG (fam A (atZ A a v true)) (fam A (atZ A b v false)) s) || joinG (fam A (atZ A a v false)) (fam A (atZ A b v true)) s))
    (T4 : StpZ A2 A4 things c4 (v : Int) x (nodeZ A2 ⟨(v : Int), lo, hi⟩)) : StpZ A A4 things (c1 + c2 + c4) (v : Int) x (joinG (fam A a) (fam A b)) := by
  refine ⟨T4.sp, (T1.ext.trans x2).trans T4.ext, ?_, T4.has, T4.top, fun s => ?_⟩
  · have := T1.few; have := T4.few; omega
  rw [T4.fam]
  unfold nodeZ
  simp only
  rw [show ((v : Int)).toNat = v by omega, hF, hJ, T1.sp.fun_ h2 x2 T1.has, T1.fam]
  have hp := join_part (A := A) (a := a) (b := b) hs.wf h24 ha hb s
  unfold joinP at hp
  rw [Bool.eq_iff_iff, joinG_iff (F := fam A a), hp]
  by_cases hb' : s.testBit v = true
  · rw [if_pos hb', if_pos hb', Bool.or_eq_true, Bool.or_eq_true, joinG_iff, joinG_iff, joinG_iff, or_assoc]
  · rw [if_neg hb', if_neg hb', joinG_iff]
end
end Go.Proofs.YtdlcldhnbhlikaaDoor
namespace Go.Proofs.YtdlcldhnbhlikaaDoor
open Go.RowKit Go.Maps

theorem topZ_gt {A : Ar} {t a b : Int} (h1 : t < topA A a) (h2 : t < topA A b) : t < topZ A a b := by unfold topZ min2; split <;> assumption
theorem c3_kids {t t1 t2 t3 : Int} (h0 : 0 ≤ t) (h1 : t < t1) (h2 : t < t2) (h3 : t < t3) : c3N (kT t1) + c3N (kT t2) + c3N (kT t3) + (if t < 3 then 1 else 0) ≤ c3N (kT t) := by
  by_cases h : t < 3
  · rw [if_pos h]
    obtain ⟨j, hj⟩ : ∃ j, kT t = j + 1 := ⟨kT t - 1, by unfold kT; omega⟩
    have e1 := c3N_mono (show kT t1 ≤ j by unfold kT at *; omega)
    have e2 := c3N_mono (show kT t2 ≤ j by unfold kT at *; omega)
    have e3 := c3N_mono (show kT t3 ≤ j by unfold kT at *; omega)
    rw [hj]
    show _ ≤ 3 * c3N j + 1
    omega
  · rw [if_neg h, show kT t = 0 by unfold kT; omega, show kT t1 = 0 by unfold kT; omega, show kT t2 = 0 by unfold kT; omega, show kT t3 = 0 by unfold kT; omega]
    exact Nat.le_refl _
section
variable (K : Bx) (S B gn gu gt : Nat) (things : Int)
set_option maxRecDepth 100000 in
set_option maxHeartbeats 8000000 in
theorem mixFree_any (hf : K.fm = 61) (t : Int) (ih : AgC opFree K S B gn gu gt things t) : MixC opFree K S B gn gu gt things t := by
  intro a b A m w htop t0 tv he h
  obtain ⟨v, rfl⟩ : ∃ v : Nat, t = v := ⟨t.toNat, by omega⟩
  have h6 := h.wk.fs.t6
  have h24 : v < 24 := by omega
  have hsp := h.wk.fs.sp
  have hl := topZ_le A a b
  rw [htop] at hl
  have ha := hl.1
  have hb := hl.2
  have p0 := atZ_has hsp.wf (v := v) h.pa false
  have p1 := atZ_has hsp.wf (v := v) h.pa true
  have r0 := atZ_has hsp.wf (v := v) h.pb false
  have r1 := atZ_has hsp.wf (v := v) h.pb true
  have u0 := atZ_top hsp.wf h24 ha false
  have u1 := atZ_top hsp.wf h24 ha true
  have z0 := atZ_top hsp.wf h24 hb false
  have z1 := atZ_top hsp.wf h24 hb true
  have q1 := topZ_gt u0 z0
  have q2 := topZ_gt u1 z0
  have hlow : low3 A + c3N (kT v) ≤ 2000 := by have := h.low; rw [htop] at this; exact this
  have hmost := h.most
  rw [htop] at hmost
  have HJ := Lib.hid (fun A1 A2 A3 A4 lo hi x y c1 c2 c3 c4 t1 t2 t3 T1 T2 T3 T4 => @free_join A A1 A2 A3 A4 things a b lo hi x y c1 c2 c3 c4 t1 t2 t3 v hsp h24 ha hb h.pa h.pb T1 T2 T3 T4)
  have hq1 := qM_kids t0 (by omega) q1
  have hq2 := qM_kids t0 (by omega) q2
  have HC := Lib.hid (fun t3 (h3 : (v : Int) < t3) => c3_kids t0 q1 q2 h3)
  have hC0 := HC.out _ q1
  have HR1 := hide (ih (atZ A a v false) (atZ A b v false) A m w q1 ⟨h.wk, p0, r0, (by show low3 A + c3N _ ≤ 2000; omega), by omega⟩)
  unfold WkP
  rw [htop]
  clear h htop he
  unfold againV
  rw [hf]
  go_enter Tryd.func61, Tryd.ntmps61
  go_wp2_with fail
  refine (HR1.out).mono ?_
  rintro e w1 ⟨A1, lo, m1, rfl, hw1, T1, hm1, hf1⟩
  have x1 := topZ_ext T1.ext p1 r0
  have hfew1 : low3 A1 ≤ low3 A + c3N (kT (topZ A (atZ A a v false) (atZ A b v false))) := T1.few
  have HT1 := hide T1
  have HF1 := hide hf1
  have HR2 := hide (ih (atZ A a v true) (atZ A b v false) A1 m1 w1 (by rw [x1]; exact q2) ⟨hw1, T1.ext.has p1, T1.ext.has r0, (by show low3 A1 + c3N _ ≤ 2000; rw [x1]; omega), by rw [x1]; omega⟩)
  clear hw1 T1 hf1 HR1
  go_wp2_with fail
  refine (HR2.out).mono ?_
  rintro e w2 ⟨A2, y, m2, rfl, hw2, T2, hm2, hf2⟩
  rw [x1] at hm2
  have hfew2 : low3 A2 ≤ low3 A1 + c3N (kT (topZ A1 (atZ A a v true) (atZ A b v false))) := T2.few
  rw [x1] at hfew2
  have htop2 := T2.top
  rw [x1] at htop2
  have e12 := HT1.out.ext.trans T2.ext
  have q3 : (v : Int) < topZ A2 y (atZ A b v true) := topZ_gt (by omega) (by rw [e12.top r1]; exact z1)
  have hq3 := qM_kids t0 (by omega) q3
  have hc := HC.out _ q3
  have HT2 := hide T2
  have HF2 := hide (HF1.out.trans hf2)
  have HR3 := hide (ih y (atZ A b v true) A2 m2 w2 q3 ⟨hw2, T2.has, e12.has r1, (by show low3 A2 + c3N _ ≤ 2000; omega), by omega⟩)
  clear hw2 T2 hf2 HR2 HF1
  go_wp2_with fail
  refine (HR3.out).mono ?_
  rintro e w3 ⟨A3, hi, m3, rfl, hw3, T3, hm3, hf3⟩
  have hfew3 : low3 A3 ≤ low3 A2 + c3N (kT (topZ A2 y (atZ A b v true))) := T3.few
  have htop3 := T3.top
  have hlo : hasA A2 lo = true := HT2.out.ext.has HT1.out.has
  have HN := hide (fzNode_any S B gn gu gt things A3 w3 lo hi (v : Int) hw3.fs t0 tv (T3.ext.has hlo) (by rw [T3.ext.top hlo, HT2.out.ext.top HT1.out.has]; have := HT1.out.top; omega) T3.has (by omega) (by omega))
  have HW3 := hide hw3
  have HT3 := hide T3
  have HF3 := hide (HF2.out.trans hf3)
  have c6 := hw3.k2.cell 0
  clear hw3 T3 hf3 HR3 HF2
  go_wp2_with fail
  refine (HN.out).mono ?_
  rintro e w4 ⟨A4, x, rfl, hs4, T4, hf4⟩
  have HS4 := hide hs4
  have HT4 := hide T4
  have HF4 := hide hf4
  clear hs4 T4 hf4 HN c6
  go_wp2
  go_ret2
  have HX := HJ.out A1 A2 A3 A4 lo hi x y _ _ _ _ _ _ _ HT1.out HT2.out HT3.out HT4.out
  refine ⟨A4, x, m3, rfl, HW3.out.arena HS4.out HT4.out.ext HF4.out, StpZ.mono HX ?_ (Int.le_refl _) (fun _ => rfl), by omega, HF3.out.trans (HF4.out.mono fun k _ hk => .inl hk)⟩
  show c3N (kT (topZ A (atZ A a v false) (atZ A b v false))) + c3N (kT (topZ A1 (atZ A a v true) (atZ A b v false))) + c3N (kT (topZ A2 y (atZ A b v true))) + _ ≤ c3N (kT v)
  rw [x1]
  exact hc
end
end Go.Proofs.YtdlcldhnbhlikaaDoor
namespace Go.Proofs.YtdlcldhnbhlikaaDoor
open Go.RowKit Go.Maps

/-- What the first ways of three have, taken together. -/
noncomputable def jnF (A : Ar) (a0 a1 b0 b1 : Int) : Nat → Nat → Bool
  | 0, _ => false
  | 1, s => joinG (fam A a1) (fam A b1) s
  | 2, s => joinG (fam A a1) (fam A b1) s || joinG (fam A a1) (fam A b0) s
  | _, s => (joinG (fam A a1) (fam A b1) s || joinG (fam A a1) (fam A b0) s) || joinG (fam A a0) (fam A b1) s
structure JnI (K : Bx) (S B gn gu gt : Nat) (things : Int) (A1 : Ar) (m1 : Nat) (w : World) (t : Int) (M C px j : Nat) (cs : Array Value) (F : Nat → Bool) (hv : Value) (wr : World) : Prop where
  is : ∃ Aj hj mj, hv = .int .i64 hj ∧ WkI opJoin K S B gn gu gt things Aj mj wr ∧ ExtA A1 Aj ∧ low3 Aj ≤ low3 A1 + j * C ∧ hasA Aj hj = true ∧ t < topA Aj hj ∧ (∀ s, fam Aj hj s = F s) ∧ mj ≤ m1 + j * M
  fr : Fr (wkB K B gn gu gt) w wr
  px_ : Blk wr px 68 cs
section
variable (K : Bx) (S B gn gu gt : Nat) (things : Int)
set_option maxRecDepth 100000 in
set_option maxHeartbeats 8000000 in
theorem mixJoin_any (hf : K.fm = 36) (t : Int) (ih : AgC opJoin K S B gn gu gt things t) : MixC opJoin K S B gn gu gt things t := by
  intro a b A m w htop t0 tv he h
  obtain ⟨v, rfl⟩ : ∃ v : Nat, t = v := ⟨t.toNat, by omega⟩
  have h6 := h.wk.fs.t6
  have h24 : v < 24 := by omega
  have hsp := h.wk.fs.sp
  have hl := topZ_le A a b
  rw [htop] at hl
  have ha := hl.1
  have hb := hl.2
  have p0 := atZ_has hsp.wf (v := v) h.pa false
  have p1 := atZ_has hsp.wf (v := v) h.pa true
  have r0 := atZ_has hsp.wf (v := v) h.pb false
  have r1 := atZ_has hsp.wf (v := v) h.pb true
  have u0 := atZ_top hsp.wf h24 ha false
  have u1 := atZ_top hsp.wf h24 ha true
  have z0 := atZ_top hsp.wf h24 hb false
  have z1 := atZ_top hsp.wf h24 hb true
  have q1 := topZ_gt u0 z0
  have hlow : low3 A + c4N (kT v) ≤ 2000 := by have := h.low; rw [htop] at this; exact this
  have hmost := h.most
  rw [htop] at hmost
  obtain ⟨n, hn⟩ : ∃ n, n = kT (v : Int) - 1 := ⟨_, rfl⟩
  have hkn : ∀ t', (v : Int) < t' → kT t' ≤ n := fun t' ht => by unfold kT at *; omega
  have hcn : c4N n + (3 * (c4N n + c2N n) + (if (v : Int) < 3 then 1 else 0)) ≤ c4N (kT (v : Int)) := by
    by_cases h3 : (v : Int) < 3
    · rw [if_pos h3, show kT (v : Int) = n + 1 by unfold kT at *; omega]
      show _ ≤ 4 * c4N n + 3 * c2N n + 1
      omega
    · rw [if_neg h3, show kT (v : Int) = 0 by unfold kT; omega, show n = 0 by rw [hn]; unfold kT; omega]
      exact Nat.le_refl _
  obtain ⟨M, hM⟩ : ∃ M, M = qM (kM ((v : Int) + 1)) := ⟨_, rfl⟩
  have hqM : ∀ t', (v : Int) < t' → qM (kM t') ≤ M := fun t' ht => by rw [hM]; exact qM_mono (by unfold kM; omega)
  have hM1 : 4 * M + 1 ≤ qM (kM (v : Int)) := by rw [hM]; exact qM_kids t0 (by omega) (by omega)
  have e4 := c4N_mono (hkn _ q1)
  have eM := hqM _ q1
  have HR1 := hide (ih (atZ A a v false) (atZ A b v false) A m w q1 ⟨h.wk, p0, r0, (by show low3 A + c4N _ ≤ 2000; omega), by omega⟩)
  have HPA := hide (And.intro h.pa h.pb)
  unfold WkP
  rw [htop]
  clear h htop he
  unfold againV
  rw [hf]
  go_enter Tryd.func36, Tryd.ntmps36
  go_wp2_with fail
  refine (HR1.out).mono ?_
  rintro e w1 ⟨A1, lo, m1, rfl, hw1, T1, hm1, hf1⟩
  have hfew1 : low3 A1 ≤ low3 A + c4N (kT (topZ A (atZ A a v false) (atZ A b v false))) := T1.few
  have HT1 := hide T1
  generalize hA0 : atZ A a v false = a0 at *
  generalize hA1 : atZ A a v true = a1 at *
  generalize hB0 : atZ A b v false = b0 at *
  generalize hB1 : atZ A b v true = b1 at *
  have hal := (Below.refl w1.heap.size w1).alloc (Nat.le_refl _) (.cells #[.int .i64 a1, .int .i64 b1, .int .i64 a1, .int .i64 b0, .int .i64 a0, .int .i64 b1] 68)
  have HJ0 := hide (show JnI K S B gn gu gt things A1 m1 w v M (c4N n + c2N n) w1.heap.size 0 #[.int .i64 a1, .int .i64 b1, .int .i64 a1, .int .i64 b0, .int .i64 a0, .int .i64 b1] (jnF A a0 a1 b0 b1 0) (.int .i64 0) (w1.alloc (.cells #[.int .i64 a1, .int .i64 b1, .int .i64 a1, .int .i64 b0, .int .i64 a0, .int .i64 b1] 68)) from
    ⟨⟨A1, 0, m1, rfl, hw1.below hal, .refl _, by omega, has_ends.1, by rw [top_zero]; omega, fun s => fam_zero s, by omega⟩, hf1.trans (.of_below hal (Nat.le_refl _)), Blk.new _ _ _⟩)
  clear hw1 T1 hf1 HR1 hal
  go_wp2
  generalize (w1.alloc (.cells #[.int .i64 a1, .int .i64 b1, .int .i64 a1, .int .i64 b0, .int .i64 a0, .int .i64 b1] 68)) = w2 at HJ0 ⊢
  generalize w1.heap.size = px at HJ0 ⊢
  generalize hcs : (#[.int .i64 a1, .int .i64 b1, .int .i64 a1, .int .i64 b0, .int .i64 a0, .int .i64 b1] : Array Value) = cs at HJ0
  go_loopw [17, 43] (fun hv iv wr => ∃ j : Nat, j ≤ 3 ∧ iv = .int .i64 j ∧ Hid (JnI K S B gn gu gt things A1 m1 w v M (c4N n + c2N n) px j cs (jnF A a0 a1 b0 b1 j) hv wr)) (fun _ iv _ => 3 - (intOf iv).toNat)
  case atStart => exact ⟨0, by omega, rfl, HJ0⟩
  case round =>
    clear HJ0
    obtain ⟨j, hj, rfl, hJ⟩ := hrel
    by_cases hj3 : j < 3
    · obtain ⟨p, q, k0, k1, pp, pq, tp, tq, hF⟩ : ∃ p q : Int, wr.cell? ⟨px, j * 2, none⟩ = some (.int .i64 p) ∧ wr.cell? ⟨px, j * 2 + 1, none⟩ = some (.int .i64 q) ∧ hasA A p = true ∧ hasA A q = true ∧ (v : Int) < topA A p ∧ (v : Int) < topA A q ∧
          ∀ s, jnF A a0 a1 b0 b1 (j + 1) s = (jnF A a0 a1 b0 b1 j s || joinG (fam A p) (fam A q) s) := by
        have hk := hJ.out.px_
        rw [← hcs] at hk
        rcases (show j = 0 ∨ j = 1 ∨ j = 2 by omega) with rfl | rfl | rfl
        · exact ⟨a1, b1, hk.cell 0, hk.cell 1, p1, r1, u1, z1, fun s => rfl⟩
        · exact ⟨a1, b0, hk.cell 2, hk.cell 3, p1, r0, u1, z0, fun s => rfl⟩
        · exact ⟨a0, b1, hk.cell 4, hk.cell 5, p0, r1, u0, z1, fun s => rfl⟩
      have hjI : (j : Int) < 3 := by omega
      obtain ⟨Aj, hh, mj, rfl, hwk, hx, hl3, phh, thh, hfh, hmj⟩ := hJ.out.is
      have hal := (Below.refl wr.heap.size wr).alloc (Nat.le_refl _) (.cells #[.int .i64 p, .int .i64 q] 68)
      have hxA := HT1.out.ext.trans hx
      have hsj := hwk.fs.sp
      have hzz := topZ_ext hxA pp pq
      have hgt := topZ_gt tp tq
      have hc4 := c4N_mono (hkn _ hgt)
      have hqq := hqM _ hgt
      have hjc : j * (c4N n + c2N n) ≤ 2 * (c4N n + c2N n) := Nat.mul_le_mul_right _ (by omega)
      have hjm : j * M ≤ 2 * M := Nat.mul_le_mul_right _ (by omega)
      have HR := hide (ih p q Aj mj _ (by rw [hzz]; exact hgt) ⟨hwk.below hal, hxA.has pp, hxA.has pq, (by show low3 Aj + c4N _ ≤ 2000; rw [hzz]; omega), by rw [hzz]; omega⟩)
      have HWK := hide (hwk.below hal)
      have HPX := hide (hJ.out.px_.below hal hJ.out.px_.lt)
      have HFR := hide (hJ.out.fr.trans (.of_below hal (Nat.le_refl _)))
      have HAJ := Lib.hid (And.intro hx (And.intro hl3 (And.intro phh (And.intro thh (And.intro hfh hmj)))))
      clear hwk hx hl3 phh thh hfh hmj hJ hal
      go_wp2_with fail
      refine (HR.out).mono ?_
      rintro e w3 ⟨A', x, m', rfl, hw3, T, hm3, hf3⟩
      rw [hzz] at hm3
      have hT3 : low3 A' ≤ low3 Aj + c4N (kT (topZ Aj p q)) := T.few
      rw [hzz] at hT3
      have htx := T.top
      rw [hzz] at htx
      obtain ⟨hx, hl3, phh, thh, hfh, hmj⟩ := HAJ.out
      have hz2 : (v : Int) < topZ A' hh x := topZ_gt (by rw [T.ext.top phh]; exact thh) (by omega)
      have hc2 := c2N_mono (hkn _ hz2)
      have HO := hide (fzOr_in S B gn gu gt things A' w3 hh x hw3.fs (T.ext.has phh) T.has (by omega))
      have HW3 := hide hw3
      have HT3 := hide T
      have HPX3 := hide (HWK.out.box hf3 HPX.out (by decide) (by decide) (by decide) (by decide))
      have HFR3 := hide (HFR.out.trans hf3)
      have c6 := hw3.k2.cell 0
      clear hw3 T hf3 HR HWK HPX HFR k0 k1
      go_wp2_with fail
      refine (HO.out).mono ?_
      rintro e w4 ⟨A'', y, rfl, hs4, T4, hf4⟩
      have hT4 : low3 A'' ≤ low3 A' + c2N (kT (topZ A' hh x)) := T4.few
      have hf4' : Fr (wkB K B gn gu gt) w3 w4 := hf4.mono fun k _ hk => .inl hk
      have HN := hide (show JnI K S B gn gu gt things A1 m1 w v M (c4N n + c2N n) px (j + 1) cs (jnF A a0 a1 b0 b1 (j + 1)) (.int .i64 y) w4 from by
        refine ⟨⟨A'', y, m', rfl, HW3.out.arena hs4 T4.ext hf4, (hx.trans HT3.out.ext).trans T4.ext, ?_, T4.has, ?_, fun s => ?_, ?_⟩, HFR3.out.trans hf4', HW3.out.box hf4' HPX3.out (by decide) (by decide) (by decide) (by decide)⟩
        · rw [Nat.succ_mul]; omega
        · have := T4.top; omega
        · rw [T4.fam, hF s]
          show (fam A' hh s || fam A' x s) = _
          rw [hsj.same HT3.out.sp HT3.out.ext phh, hfh, HT3.out.fam]
          show (_ || joinG (fam Aj p) (fam Aj q) s) = _
          rw [hsp.fun_ hsj hxA pp, hsp.fun_ hsj hxA pq]
        · rw [Nat.succ_mul]; omega)
      clear hs4 T4 hf4 hf4' HO HW3 HT3 HPX3 HFR3 HAJ c6
      go_wp2
      go_roundw
      case rel => exact ⟨j + 1, by omega, by go_num, HN⟩
      case measure => simp [intOf]; omega
    · obtain rfl : j = 3 := by omega
      obtain ⟨Aj, hh, mj, rfl, hwk, hx, hl3, phh, thh, hfh, hmj⟩ := hJ.out.is
      have hlo : hasA Aj lo = true := hx.has HT1.out.has
      have HN := hide (fzNode_any S B gn gu gt things Aj wr lo hh (v : Int) hwk.fs t0 tv hlo (by rw [hx.top HT1.out.has]; have := HT1.out.top; omega) phh thh (by omega))
      have HWK := hide hwk
      have HFR := hide hJ.out.fr
      have c6 := hwk.k2.cell 0
      have HAJ := Lib.hid (And.intro hx (And.intro hl3 (And.intro hfh hmj)))
      clear hwk hx hl3 phh thh hfh hmj hJ
      go_wp2_with fail
      refine (HN.out).mono ?_
      rintro e w4 ⟨A4, x, rfl, hs4, T4, hf4⟩
      have HS4 := hide hs4
      have HT4 := hide T4
      have HF4 := hide hf4
      clear hs4 T4 hf4 HN c6
      go_wp2
      go_ret2
      obtain ⟨hx, hl3, hfh, hmj⟩ := HAJ.out
      subst hA0 hA1 hB0 hB1
      have HX := joins_join (F := jnF A (atZ A a v false) (atZ A a v true) (atZ A b v false) (atZ A b v true) 3) hsp h24 ha hb HT1.out HWK.out.fs.sp hx hl3 hfh (fun s => rfl) HT4.out
      refine ⟨A4, x, mj, rfl, HWK.out.arena HS4.out HT4.out.ext HF4.out, StpZ.mono HX ?_ (Int.le_refl _) (fun _ => rfl), by omega, HFR.out.trans (HF4.out.mono fun k _ hk => .inl hk)⟩
      show c4N (kT (topZ A (atZ A a v false) (atZ A b v false))) + 3 * (c4N n + c2N n) + _ ≤ c4N (kT v)
      omega
end
end Go.Proofs.YtdlcldhnbhlikaaDoor
