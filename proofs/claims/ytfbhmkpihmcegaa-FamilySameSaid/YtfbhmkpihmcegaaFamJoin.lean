/-
  A store's walks: of which no set of the other is a part; each together with each.
-/
import Derived.Test.YtfbhmkpihmcegaaFamOr
namespace Go.Proofs.Ytfbhmkpihmcegaa
open Go.RowKit Go.Maps
open Classical in
/-- Those of F of which no set of G is a part. -/
noncomputable def freeG (F G : Nat → Bool) (s : Nat) : Bool := F s && decide (∀ t, G t = true → subN t s = false)
open Classical in
/-- Each of F together with each of G. -/
noncomputable def joinG (F G : Nat → Bool) (s : Nat) : Bool := decide (∃ x y, F x = true ∧ G y = true ∧ x ||| y = s)
def eFree (a b : Int) : Option Int := if b = 0 then some a else if b = 1 then some 0 else if a = 0 then some 0 else if a = b then some 0 else none
def eJoin (a b : Int) : Option Int := if a = 0 then some 0 else if b = 0 then some 0 else if a = 1 then some b else if b = 1 then some a else none
def c3N : Nat → Nat
  | 0 => 0
  | n + 1 => 3 * c3N n + 1
def c4N : Nat → Nat
  | 0 => 0
  | n + 1 => 4 * c4N n + 3 * c2N n + 1
theorem c3N_mono {a b : Nat} (h : a ≤ b) : c3N a ≤ c3N b := by
  induction h with
  | refl => exact Nat.le_refl _
  | step _ ih => show _ ≤ 3 * c3N _ + 1; omega
theorem c4N_mono {a b : Nat} (h : a ≤ b) : c4N a ≤ c4N b := by
  induction h with
  | refl => exact Nat.le_refl _
  | step _ ih => show _ ≤ 4 * c4N _ + 3 * c2N _ + 1; omega
noncomputable def opFree : OpZ := ⟨freeG, eFree, c3N⟩
noncomputable def opJoin : OpZ := ⟨joinG, eJoin, c4N⟩
theorem sub_self (s : Nat) : subN s s = true := subN_iff.2 fun _ h => h
theorem sub_zero_ (s : Nat) : subN 0 s = true := subN_iff.2 fun y h => by rw [Nat.zero_testBit] at h; cases h
theorem freeG_iff {F G : Nat → Bool} {s : Nat} : freeG F G s = true ↔ F s = true ∧ ∀ t, G t = true → subN t s = false := by
  simp [freeG]
theorem joinG_iff {F G : Nat → Bool} {s : Nat} : joinG F G s = true ↔ ∃ x y, F x = true ∧ G y = true ∧ x ||| y = s := by
  simp [joinG]
theorem freeG_none (F G : Nat → Bool) (h : ∀ t, G t = false) (s : Nat) : freeG F G s = F s :=
  Bool.eq_iff_iff.2 (freeG_iff.trans ⟨fun h => h.1, fun e => ⟨e, fun t e => by rw [h t] at e; cases e⟩⟩)
theorem freeG_sub {F G : Nat → Bool} {s t : Nat} (h : F s = true → G t = true ∧ subN t s = true) : freeG F G s = false :=
  Bool.eq_false_iff.2 fun e => by
    obtain ⟨h1, h2⟩ := freeG_iff.1 e
    have := h2 t (h h1).1
    rw [(h h1).2] at this
    cases this
theorem joinG_none {F G : Nat → Bool} (h : (∀ t, F t = false) ∨ ∀ t, G t = false) (s : Nat) : joinG F G s = false :=
  Bool.eq_false_iff.2 fun e => by
    obtain ⟨x, y, h1, h2, _⟩ := joinG_iff.1 e
    rcases h with h | h
    · rw [h x] at h1; cases h1
    · rw [h y] at h2; cases h2
theorem joinG_one {F G : Nat → Bool} (h : ∀ t, F t = (t == 0)) (s : Nat) : joinG F G s = G s :=
  Bool.eq_iff_iff.2 (joinG_iff.trans ⟨fun ⟨x, y, h1, h2, e⟩ => by
    rw [h] at h1
    obtain rfl : x = 0 := by simpa using h1
    rw [Nat.zero_or] at e
    subst e
    exact h2, fun hG => ⟨0, s, by rw [h]; rfl, hG, by simp⟩⟩)
theorem joinG_one' {F G : Nat → Bool} (h : ∀ t, G t = (t == 0)) (s : Nat) : joinG F G s = F s :=
  Bool.eq_iff_iff.2 (joinG_iff.trans ⟨fun ⟨x, y, h1, h2, e⟩ => by
    rw [h] at h2
    obtain rfl : y = 0 := by simpa using h2
    rw [Nat.or_zero] at e
    subst e
    exact h1, fun hG => ⟨s, 0, hG, by rw [h]; rfl, by simp⟩⟩)
theorem okFree : OpOk opFree := by
  refine ⟨fun {A things a b h} hs pa pb he => ?_, fun {A a b} pa pb he => Decidable.byContradiction fun hn => ?_, c3N_mono⟩
  · have hl := topZ_le A a b
    have h24 := topZ_24 hs.wf a b
    change eFree a b = some h at he
    show _ ∧ _ ∧ ∀ s, fam A h s = freeG (fam A a) (fam A b) s
    unfold eFree at he
    split at he
    · rename_i e; subst e; cases he; exact ⟨pa, hl.1, fun s => (freeG_none _ _ (fun t => fam_zero t) s).symm⟩
    · split at he
      · rename_i e; subst e; cases he; exact ⟨has_ends.1, h24, fun s => by rw [fam_zero]; exact (freeG_sub (t := 0) fun _ => ⟨by rw [fam_one]; rfl, sub_zero_ s⟩).symm⟩
      · split at he
        · rename_i e; subst e; cases he; exact ⟨has_ends.1, h24, fun s => by rw [fam_zero]; exact (freeG_sub (t := 0) fun h => by rw [fam_zero] at h; cases h).symm⟩
        · split at he
          · rename_i e; subst e; cases he; exact ⟨has_ends.1, h24, fun s => by rw [fam_zero]; exact (freeG_sub (t := s) fun h => ⟨h, sub_self s⟩).symm⟩
          · cases he
  · obtain ⟨h1 | h1, h2 | h2⟩ := ends_none pa pb hn <;> subst h1 <;> subst h2 <;> cases he
theorem okJoin : OpOk opJoin := by
  refine ⟨fun {A things a b h} hs pa pb he => ?_, fun {A a b} pa pb he => Decidable.byContradiction fun hn => ?_, c4N_mono⟩
  · have hl := topZ_le A a b
    have h24 := topZ_24 hs.wf a b
    change eJoin a b = some h at he
    show _ ∧ _ ∧ ∀ s, fam A h s = joinG (fam A a) (fam A b) s
    unfold eJoin at he
    split at he
    · rename_i e; subst e; cases he; exact ⟨has_ends.1, h24, fun s => by rw [fam_zero]; exact (joinG_none (.inl fun t => fam_zero t) s).symm⟩
    · split at he
      · rename_i e; subst e; cases he; exact ⟨has_ends.1, h24, fun s => by rw [fam_zero]; exact (joinG_none (.inr fun t => fam_zero t) s).symm⟩
      · split at he
        · rename_i e; subst e; cases he; exact ⟨pb, hl.2, fun s => (joinG_one (fun t => fam_one t) s).symm⟩
        · split at he
          · rename_i e; subst e; cases he; exact ⟨pa, hl.1, fun s => (joinG_one' (fun t => fam_one t) s).symm⟩
          · cases he
  · obtain ⟨h1 | h1, h2 | h2⟩ := ends_none pa pb hn <;> subst h1 <;> subst h2 <;> cases he
set_option maxRecDepth 100000 in
theorem endsFree : EndsC opFree 79 := by
  refine ⟨fun args w => enters_of Try.func79 (by kernel_rfl) rfl args w, fun a b w => ?_⟩
  show Calls _ _ _ _ (fun e w' => e = .returned (.tuple #[.int .i64 ((eFree a b).getD 0), .bool (eFree a b).isSome]) ∧ w = w')
  by_cases h0 : b = 0
  · have hE : eFree a b = some a := by unfold eFree; rw [if_pos h0]
    have f0 : (b == 0) = true := beq_iff_eq.2 h0
    rw [hE]
    simp only [Option.getD_some, Option.isSome_some]
    clear hE h0
    go_enter Try.func79, Try.ntmps79
    go_wp2
    go_ret2
    exact ⟨rfl, rfl⟩
  · have f0 : (b == 0) = false := beq_eq_false_iff_ne.2 h0
    by_cases h1 : b = 1
    · have hE : eFree a b = some 0 := by unfold eFree; rw [if_neg h0, if_pos h1]
      have f1 : (b == 1) = true := beq_iff_eq.2 h1
      rw [hE]
      simp only [Option.getD_some, Option.isSome_some]
      clear hE h1
      go_enter Try.func79, Try.ntmps79
      go_wp2
      go_ret2
      exact ⟨rfl, rfl⟩
    · have f1 : (b == 1) = false := beq_eq_false_iff_ne.2 h1
      by_cases h2 : a = 0
      · have hE : eFree a b = some 0 := by unfold eFree; rw [if_neg h0, if_neg h1, if_pos h2]
        have f2 : (a == 0) = true := beq_iff_eq.2 h2
        rw [hE]
        simp only [Option.getD_some, Option.isSome_some]
        clear hE h2
        go_enter Try.func79, Try.ntmps79
        go_wp2
        go_ret2
        exact ⟨rfl, rfl⟩
      · have f2 : (a == 0) = false := beq_eq_false_iff_ne.2 h2
        by_cases h3 : a = b
        · have hE : eFree a b = some 0 := by unfold eFree; rw [if_neg h0, if_neg h1, if_neg h2, if_pos h3]
          have f3 : (a == b) = true := beq_iff_eq.2 h3
          rw [hE]
          simp only [Option.getD_some, Option.isSome_some]
          clear hE h3
          go_enter Try.func79, Try.ntmps79
          go_wp2
          go_ret2
          exact ⟨rfl, rfl⟩
        · have f3 : (a == b) = false := beq_eq_false_iff_ne.2 h3
          have hE : eFree a b = none := by unfold eFree; rw [if_neg h0, if_neg h1, if_neg h2, if_neg h3]
          rw [hE]
          simp only [Option.getD_none, Option.isSome_none]
          clear hE h0 h1 h2 h3
          go_enter Try.func79, Try.ntmps79
          go_wp2
          go_ret2
          exact ⟨rfl, rfl⟩
set_option maxRecDepth 100000 in
theorem endsJoin : EndsC opJoin 60 := by
  refine ⟨fun args w => enters_of Try.func60 (by kernel_rfl) rfl args w, fun a b w => ?_⟩
  show Calls _ _ _ _ (fun e w' => e = .returned (.tuple #[.int .i64 ((eJoin a b).getD 0), .bool (eJoin a b).isSome]) ∧ w = w')
  by_cases h0 : a = 0
  · have hE : eJoin a b = some 0 := by unfold eJoin; rw [if_pos h0]
    have f0 : (a == 0) = true := beq_iff_eq.2 h0
    rw [hE]
    simp only [Option.getD_some, Option.isSome_some]
    clear hE h0
    go_enter Try.func60, Try.ntmps60
    go_wp2
    go_ret2
    exact ⟨rfl, rfl⟩
  · have f0 : (a == 0) = false := beq_eq_false_iff_ne.2 h0
    by_cases h1 : b = 0
    · have hE : eJoin a b = some 0 := by unfold eJoin; rw [if_neg h0, if_pos h1]
      have f1 : (b == 0) = true := beq_iff_eq.2 h1
      rw [hE]
      simp only [Option.getD_some, Option.isSome_some]
      clear hE h1
      go_enter Try.func60, Try.ntmps60
      go_wp2
      go_ret2
      exact ⟨rfl, rfl⟩
    · have f1 : (b == 0) = false := beq_eq_false_iff_ne.2 h1
      by_cases h2 : a = 1
      · have hE : eJoin a b = some b := by unfold eJoin; rw [if_neg h0, if_neg h1, if_pos h2]
        have f2 : (a == 1) = true := beq_iff_eq.2 h2
        rw [hE]
        simp only [Option.getD_some, Option.isSome_some]
        clear hE h2
        go_enter Try.func60, Try.ntmps60
        go_wp2
        go_ret2
        exact ⟨rfl, rfl⟩
      · have f2 : (a == 1) = false := beq_eq_false_iff_ne.2 h2
        by_cases h3 : b = 1
        · have hE : eJoin a b = some a := by unfold eJoin; rw [if_neg h0, if_neg h1, if_neg h2, if_pos h3]
          have f3 : (b == 1) = true := beq_iff_eq.2 h3
          rw [hE]
          simp only [Option.getD_some, Option.isSome_some]
          clear hE h3
          go_enter Try.func60, Try.ntmps60
          go_wp2
          go_ret2
          exact ⟨rfl, rfl⟩
        · have f3 : (b == 1) = false := beq_eq_false_iff_ne.2 h3
          have hE : eJoin a b = none := by unfold eJoin; rw [if_neg h0, if_neg h1, if_neg h2, if_neg h3]
          rw [hE]
          simp only [Option.getD_none, Option.isSome_none]
          clear hE h0 h1 h2 h3
          go_enter Try.func60, Try.ntmps60
          go_wp2
          go_ret2
          exact ⟨rfl, rfl⟩

section
variable {A A1 A2 A3 A4 : Ar} {things a b lo hi x y : Int} {c1 c2 c3 c4 : Nat} {t1 t2 t3 : Int} {v : Nat}
/-- free, thing by thing. -/
theorem free_join (hs : SpZ A things) (h24 : v < 24) (ha : (v : Int) ≤ topA A a) (hb : (v : Int) ≤ topA A b) (pa : hasA A a = true) (pb : hasA A b = true)
    (T1 : StpZ A A1 things c1 t1 lo (freeG (fam A (atZ A a v false)) (fam A (atZ A b v false)))) (T2 : StpZ A1 A2 things c2 t2 y (freeG (fam A1 (atZ A a v true)) (fam A1 (atZ A b v false))))
    (T3 : StpZ A2 A3 things c3 t3 hi (freeG (fam A2 y) (fam A2 (atZ A b v true)))) (T4 : StpZ A3 A4 things c4 (v : Int) x (nodeZ A3 ⟨(v : Int), lo, hi⟩)) : StpZ A A4 things (c1 + c2 + c3 + c4) (v : Int) x (freeG (fam A a) (fam A b)) := by
  have p1 := atZ_has hs.wf (v := v) pa true
  have r0 := atZ_has hs.wf (v := v) pb false
  have r1 := atZ_has hs.wf (v := v) pb true
  have e12 := T1.ext.trans T2.ext
  refine ⟨T4.sp, (e12.trans T3.ext).trans T4.ext, ?_, T4.has, T4.top, fun s => ?_⟩
  · have := T1.few; have := T2.few; have := T3.few; have := T4.few; omega
  rw [T4.fam]
  unfold nodeZ
  simp only
  rw [show ((v : Int)).toNat = v by omega, T3.fam, T2.sp.fun_ T3.sp T3.ext ((T2.ext.has T1.has)), T1.sp.fun_ T2.sp T2.ext T1.has, T1.fam, hs.fun_ T2.sp e12 r1]
  have hy : ∀ s, fam A2 y s = freeG (fam A (atZ A a v true)) (fam A (atZ A b v false)) s := fun s => by rw [T2.fam, hs.fun_ T1.sp T1.ext p1, hs.fun_ T1.sp T1.ext r0]
  have hfp := free_part (A := A) (b := b) hs.wf h24 hb s
  have hfa := fam_part hs.wf h24 ha s
  unfold freeP at hfp
  rw [Bool.eq_iff_iff, freeG_iff (F := fam A a), hfa, hfp]
  by_cases hb' : s.testBit v = true
  · rw [if_pos hb', if_pos hb', if_pos hb', freeG_iff, hy, freeG_iff, and_assoc]
  · rw [if_neg hb', if_neg hb', if_neg hb', freeG_iff]
/-- Join, thing by thing. -/
theorem joins_join {F : Nat → Bool} (hs : SpZ A things) (h24 : v < 24) (ha : (v : Int) ≤ topA A a) (hb : (v : Int) ≤ topA A b)
    (T1 : StpZ A A1 things c1 t1 lo (joinG (fam A (atZ A a v false)) (fam A (atZ A b v false)))) (h2 : SpZ A2 things) (x2 : ExtA A1 A2) (hf2 : low3 A2 ≤ low3 A1 + c2) (hF : ∀ s, fam A2 hi s = F s)
    (hJ : ∀ s, F s = ((joinG (fam A (atZ A a v true)) (fam A (atZ A b v true)) s || joinG (fam A (atZ A a v true)) (fam A (atZ A b v false)) s) || joinG (fam A (atZ A a v false)) (fam A (atZ A b v true)) s))
    (T4 : StpZ A2 A4 things c4 (v : Int) x (nodeZ A2 ⟨(v : Int), lo, hi⟩)) : StpZ A A4 things (c1 + c2 + c4) (v : Int) x (joinG (fam A a) (fam A b)) := by
  refine ⟨T4.sp, (T1.ext.trans x2).trans T4.ext, ?_, T4.has, T4.top, fun s => ?_⟩
  · have := T1.few; have := T4.few; omega
  rw [T4.fam]
  unfold nodeZ
  simp only
  rw [show ((v : Int)).toNat = v by omega, hF, hJ, T1.sp.fun_ h2 x2 T1.has, T1.fam]
  have hp := join_part (A := A) (a := a) (b := b) hs.wf h24 ha hb s
  unfold joinP at hp
  rw [Bool.eq_iff_iff, joinG_iff (F := fam A a), hp]
  by_cases hb' : s.testBit v = true
  · rw [if_pos hb', if_pos hb', Bool.or_eq_true, Bool.or_eq_true, joinG_iff, joinG_iff, joinG_iff, or_assoc]
  · rw [if_neg hb', if_neg hb', joinG_iff]
end
end Go.Proofs.Ytfbhmkpihmcegaa
