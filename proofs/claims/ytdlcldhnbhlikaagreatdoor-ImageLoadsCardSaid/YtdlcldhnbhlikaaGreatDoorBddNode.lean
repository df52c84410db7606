/-
  A space of functions in memory. A space's node, Lit and at.
-/
import Derived.Test.YtdlcldhnbhlikaaGreatDoorBddLaw
import Derived.Test.YtdlcldhnbhlikaaGreatDoorBddMap
import Derived.Test.YtdlcldhnbhlikaaGreatDoorArenaSweep
import Derived.Test.YtdlcldhnbhlikaaGreatDoorArenaMake2
namespace Go.Proofs.YtdlcldhnbhlikaaGreatDoor
open Go.RowKit Go.Maps

/-- A space's blocks that its steps write. -/
def spB (B gn gu gt gc : Nat) (k : Nat) : Prop := arB B gn gu gt k ∨ k = gc
abbrev CacheM (w : World) (gc : Nat) (f : Int × Int × Int → Option Int) (m : Nat) : Prop := MapV 229 keyCL okC w gc f m
/-- The space in block S, over the arena A. -/
structure SpM (w : World) (S B gn gu gt gc : Nat) (vars : Int) (A : Ar) (m : Nat) : Prop where
  kS : Blk w S 82 #[.pointer (some ⟨B, 0, none⟩), .int .i64 vars, .map (some gc)]
  ar : ArM w B gn gu gt A
  cache : ∃ f, CacheM w gc f m ∧ CacheOk A f
  sp : SpA A vars
  v6 : 0 ≤ vars ∧ vars ≤ 6
theorem blk_mapV {kt : TypeId} {α : Type} {lit : α → Lit} {ok : α → Prop} {w : World} {b g m : Nat} {t : TypeId} {cs : Array Value} {f : α → Option Int} (h : Blk w b t cs) (hm : MapV kt lit ok w g f m) : b ≠ g := by
  rintro rfl
  obtain ⟨D, ⟨es, clock, hb, _⟩, _⟩ := hm
  have := h.symm.trans hb
  cases this
section
variable {w w' : World} {S B gn gu gt gc m : Nat} {vars : Int} {A A' : Ar}
theorem SpM.lt (h : SpM w S B gn gu gt gc vars A m) {k : Nat} (hk : spB B gn gu gt gc k) : k < w.heap.size := by
  obtain ⟨f, hc, _⟩ := h.cache
  rcases hk with hk | rfl
  · exact h.ar.lt hk
  · exact hc.lt
theorem SpM.gcA (h : SpM w S B gn gu gt gc vars A m) : ¬ arB B gn gu gt gc := by
  obtain ⟨f, hc, _⟩ := h.cache
  obtain ⟨ns, us, tab, _, h2, h3, h4, h5⟩ := h.ar.is
  rintro (e | e | e | e)
  · exact blk_mapV h2 hc e.symm
  · exact blk_mapV h3 hc e.symm
  · exact blk_mapV h4 hc e.symm
  · exact blk_mapV h5 hc e.symm
theorem SpM.sA (h : SpM w S B gn gu gt gc vars A m) : ¬ spB B gn gu gt gc S := by
  obtain ⟨f, hc, _⟩ := h.cache
  obtain ⟨ns, us, tab, _, h2, h3, h4, h5⟩ := h.ar.is
  rintro ((e | e | e | e) | e)
  · exact h.kS.ne_ h2 (by decide) e
  · exact h.kS.ne_ h3 (by decide) e
  · exact h.kS.ne_ h4 (by decide) e
  · exact h.kS.ne_ h5 (by decide) e
  · exact blk_mapV h.kS hc e
theorem SpM.keep (h : SpM w S B gn gu gt gc vars A m) (hk : ∀ k, spB B gn gu gt gc k ∨ k = S → w'.heap[k]? = w.heap[k]?) : SpM w' S B gn gu gt gc vars A m := by
  obtain ⟨f, hc, ho⟩ := h.cache
  exact ⟨(hk S (.inr rfl)).trans h.kS, h.ar.keep fun k hkk => hk k (.inl (.inl hkk)), ⟨f, hc.same (hk gc (.inl (.inr rfl))), ho⟩, h.sp, h.v6⟩
theorem SpM.below (h : SpM w S B gn gu gt gc vars A m) (hb : Below w.heap.size w w') : SpM w' S B gn gu gt gc vars A m :=
  h.keep fun k hk => hb.block k (hk.elim (fun h1 => h.lt h1) fun e => by rw [e]; exact h.kS.lt)
/-- A new arena, in its own blocks. -/
theorem SpM.arena (h : SpM w S B gn gu gt gc vars A m) (ha : ArM w' B gn gu gt A') (hp : SpA A' vars) (hx : ExtA A A') (hf : Fr (arB B gn gu gt) w w') : SpM w' S B gn gu gt gc vars A' m := by
  have hgc := h.gcA
  have hsA := h.sA
  obtain ⟨f, hc, ho⟩ := h.cache
  exact ⟨h.kS.fr hf (fun hk => hsA (.inl hk)), ha, ⟨f, hc.fr hf hgc, ho.ext h.sp hp hx⟩, hp, h.v6⟩
theorem fr_mono {P Q : Nat → Prop} (h : Fr P w w') (hPQ : ∀ k, P k → Q k) : Fr Q w w' := h.mono fun k _ hk => hPQ k hk
/-- A function's handle: what a step of a space answers. -/
def StpP (w : World) (S B gn gu gt gc : Nat) (vars : Int) (A : Ar) (m cl cm : Nat) (t : Int) (F : (Int → Bool) → Bool) (e : Ending) (w' : World) : Prop :=
  ∃ A' h m', e = .returned (.tuple #[.int .i64 h, .nilIface]) ∧ SpM w' S B gn gu gt gc vars A' m' ∧ StpA A A' vars cl t h F ∧ m' ≤ m + cm ∧ Fr (spB B gn gu gt gc) w w'
end
end Go.Proofs.YtdlcldhnbhlikaaGreatDoor
namespace Go.Proofs.YtdlcldhnbhlikaaGreatDoor
open Go.RowKit Go.Maps

section
variable {w w' : World} {S B gn gu gt gc m : Nat} {vars : Int} {A A' : Ar}
theorem StpP.mono {cl cl' cm cm' : Nat} {t t' : Int} {F F' : (Int → Bool) → Bool} {e : Ending} (h : StpP w S B gn gu gt gc vars A m cl cm t F e w') (h1 : cl ≤ cl') (h2 : cm ≤ cm') (h3 : t' ≤ t) (h4 : ∀ v, F v = F' v) :
    StpP w S B gn gu gt gc vars A m cl' cm' t' F' e w' := by
  obtain ⟨A', x, m', e1, e2, e3, e4, e5⟩ := h
  exact ⟨A', x, m', e1, e2, ⟨e3.sp, e3.ext, by have := e3.few; omega, e3.has, by have := e3.top; omega, fun v => (e3.den v).trans (h4 v)⟩, by omega, e5⟩
theorem StpA.refl (h : SpA A vars) {x : Int} (p : hasA A x = true) {t : Int} (ht : t ≤ topA A x) (c : Nat) {F : (Int → Bool) → Bool} (hF : ∀ v, Go.Proofs.YtdlcldhnbhlikaaGreatDoor.den A x v = F v) : StpA A A vars c t x F :=
  ⟨h, .refl A, Nat.le_add_right _ _, p, ht, hF⟩
/-- An answer that is there already. -/
theorem StpP.here (h : SpM w S B gn gu gt gc vars A m) (h' : Below w.heap.size w w') {x : Int} (p : hasA A x = true) {t : Int} (ht : t ≤ topA A x) (cl cm : Nat) {F : (Int → Bool) → Bool} (hF : ∀ v, den A x v = F v) :
    StpP w S B gn gu gt gc vars A m cl cm t F (.returned (.tuple #[.int .i64 x, .nilIface])) w' :=
  ⟨A, x, m, rfl, h.below h', .refl h.sp p ht cl hF, Nat.le_add_right _ _, .of_below h' (Nat.le_refl _)⟩
theorem i64_small {t : Int} (h0 : 0 ≤ t) (h1 : t ≤ 1000000) : I64 t := by unfold I64; omega
theorem node_post (h : SpM w S B gn gu gt gc vars A m) {n : Nd} (hm : MayA A n) (hv : n.var < vars) (hne : n.low ≠ n.high) (hl : low3 A + (if n.var < 3 then 1 else 0) ≤ 2000) {e : Ending} (hp : MakePost w B gn gu gt A n e w') :
    StpP w S B gn gu gt gc vars A m (if n.var < 3 then 1 else 0) 0 n.var (fun v => if v n.var then den A n.high v else den A n.low v) e w' := by
  obtain ⟨rfl, ha, hf⟩ := hp
  obtain ⟨e0, hs⟩ := mk_ok h.sp h.v6.2 hl hm hv hne
  rw [e0, errV_zero]
  exact ⟨_, _, m, rfl, h.arena ha hs.sp hs.ext hf, hs, Nat.le_refl _, fr_mono hf (fun k hk => .inl hk)⟩
end
/-- What node answers. -/
def NodeP (w : World) (S B gn gu gt gc m : Nat) (vars : Int) (A : Ar) (lo hi t : Int) (e : Ending) (w' : World) : Prop :=
  StpP w S B gn gu gt gc vars A m (if t < 3 then 1 else 0) 0 t (fun v => if v t then den A hi v else den A lo v) e w'
/-- What Lit answers. -/
def LitP (w : World) (S B gn gu gt gc m : Nat) (vars : Int) (A : Ar) (t : Int) (is : Bool) (e : Ending) (w' : World) : Prop :=
  StpP w S B gn gu gt gc vars A m (if t < 3 then 1 else 0) 0 t (fun v => v t == is) e w'
section
variable (S B gn gu gt gc m : Nat) (vars : Int) (A : Ar) (w : World)
set_option maxHeartbeats 1000000 in
theorem bdNode_any (lo hi t : Int) (h : SpM w S B gn gu gt gc vars A m) (t0 : 0 ≤ t) (tv : t < vars) (pl : hasA A lo = true) (tl : t < topA A lo) (ph : hasA A hi = true) (th : t < topA A hi) (hl : low3 A + (if t < 3 then 1 else 0) ≤ 2000) :
    Calls Tryz.prog 117 #[.pointer (some ⟨S, 0, none⟩), .int .i64 t, .int .i64 lo, .int .i64 hi] w
      (NodeP w S B gn gu gt gc m vars A lo hi t) := by
  have hv6 := h.v6
  by_cases he : lo = hi
  · subst he
    have HP := hide (StpP.here (w' := w) h (Below.refl _ _) pl (Int.le_of_lt tl) (if t < 3 then 1 else 0) 0 (F := fun v => if v t then den A lo v else den A lo v) (fun v => by cases v t <;> rfl))
    clear h
    go_enter Tryz.func117, Tryz.ntmps117
    go_wp2
    go_ret2
    exact HP.out
  · have hneb : (lo == hi) = false := beq_eq_false_iff_ne.2 he
    have s0 := h.kS.cell 0
    have HMK := hide (arMake_any B gn gu gt A ⟨t, lo, hi⟩ w h.ar ⟨i64_small t0 (show t ≤ 1000000 by omega), h.sp.i64 pl, h.sp.i64 ph⟩)
    have HP := hide (fun (e : Ending) (w' : World) (hp : MakePost w B gn gu gt A ⟨t, lo, hi⟩ e w') => node_post (n := ⟨t, lo, hi⟩) h ⟨⟨t0, by show t < 24; omega⟩, ⟨pl, tl⟩, ⟨ph, th⟩⟩ tv he hl hp)
    clear h
    go_enter Tryz.func117, Tryz.ntmps117
    go_wp2_with fail
    refine (HMK.out).mono ?_
    rintro e w1 hp
    have hq := hide (show NodeP w S B gn gu gt gc m vars A lo hi t e w1 from HP.out e w1 hp)
    obtain ⟨rfl, _, _⟩ := hp
    go_wp2
    go_ret2
    exact hq.out
theorem got_two {A : Ar} {x : Int} (h : x < 2) : gotA A x = none := by
  unfold gotA
  rw [if_neg (by omega)]
theorem den_zero (A : Ar) (v : Int → Bool) : den A 0 v = false := den_none (got_two (by omega))
theorem den_one (A : Ar) (v : Int → Bool) : den A 1 v = true := den_none (got_two (by omega))
set_option maxHeartbeats 1000000 in
theorem bdLit_any (t : Int) (is : Bool) (h : SpM w S B gn gu gt gc vars A m) (t0 : 0 ≤ t) (tv : t < vars) (hl : low3 A + (if t < 3 then 1 else 0) ≤ 2000) :
    Calls Tryz.prog 73 #[.pointer (some ⟨S, 0, none⟩), .int .i64 t, .bool is] w (LitP w S B gn gu gt gc m vars A t is) := by
  have hv6 := h.v6
  have s1 := h.kS.cell 1
  have e0 : topA A 0 = 24 := top_none (got_two (by omega))
  have e1 : topA A 1 = 24 := top_none (got_two (by omega))
  have hb1 : decide (t < 0) = false := decide_eq_false (by omega)
  have hb2 : decide (vars ≤ t) = false := decide_eq_false (by omega)
  cases is
  · have HN := hide ((bdNode_any S B gn gu gt gc m vars A w 1 0 t h t0 tv has_ends.2 (by omega) has_ends.1 (by omega) hl).mono (fun e w' hp => show LitP w S B gn gu gt gc m vars A t false e w' from StpP.mono hp (Nat.le_refl _) (Nat.le_refl _) (Int.le_refl _) (F' := fun v => v t == false) (fun v => by
      simp only [den_zero, den_one]
      cases v t <;> rfl)))
    clear h
    go_enter Tryz.func73, Tryz.ntmps73
    go_wp2_with fail
    refine (HN.out).mono ?_
    rintro e w1 hp
    have hq := hide hp
    obtain ⟨A', x, m', rfl, -⟩ := hp
    go_wp2
    go_ret2
    exact hq.out
  · have HN := hide ((bdNode_any S B gn gu gt gc m vars A w 0 1 t h t0 tv has_ends.1 (by omega) has_ends.2 (by omega) hl).mono (fun e w' hp => show LitP w S B gn gu gt gc m vars A t true e w' from StpP.mono hp (Nat.le_refl _) (Nat.le_refl _) (Int.le_refl _) (F' := fun v => v t == true) (fun v => by
      simp only [den_zero, den_one]
      cases v t <;> rfl)))
    clear h
    go_enter Tryz.func73, Tryz.ntmps73
    go_wp2_with fail
    refine (HN.out).mono ?_
    rintro e w1 hp
    have hq := hide hp
    obtain ⟨A', x, m', rfl, -⟩ := hp
    go_wp2
    go_ret2
    exact hq.out
def AtP (w : World) (A : Ar) (x t : Int) (e : Ending) (w' : World) : Prop := e = .returned (.tuple #[.int .i64 (atA A x t false), .int .i64 (atA A x t true)]) ∧ Below w.heap.size w w'
set_option maxHeartbeats 1000000 in
theorem bdAt_any (x t : Int) (h : SpM w S B gn gu gt gc vars A m) (hx : I64 x) :
    Calls Tryz.prog 151 #[.pointer (some ⟨S, 0, none⟩), .int .i64 x, .int .i64 t] w (AtP w A x t) := by
  have s0 := h.kS.cell 0
  cases hg : gotA A x with
  | none =>
    have HGT := hide (arGet_none B gn gu gt A x w h.ar hx hg)
    have HA := Lib.hid (fun b => atA_none (t := t) hg b)
    clear h hx hg
    go_enter Tryz.func151, Tryz.ntmps151
    go_wp2_with fail
    refine (HGT.out).mono ?_
    rintro e w1 ⟨rfl, hb⟩
    go_wp2
    go_ret2
    exact ⟨by rw [HA.out, HA.out]; rfl, hb.alloc hb.size _⟩
  | some n =>
    have HGT := hide (arGet_some B gn gu gt A x n w h.ar hx hg)
    by_cases hv : n.var = t
    · have HA := Lib.hid (fun b => atA_is hg hv b)
      have hvb : (n.var == t) = true := beq_iff_eq.2 hv
      clear h hx hg
      go_enter Tryz.func151, Tryz.ntmps151
      go_wp2_with fail
      refine (HGT.out).mono ?_
      rintro e w1 ⟨rfl, hb⟩
      go_wp2
      go_quiet (fail)
      go_wp2
      go_ret2
      exact ⟨by rw [HA.out, HA.out]; rfl, below_drewN (hb.alloc hb.size _) _⟩
    · have HA := Lib.hid (fun b => atA_not hg hv b)
      have hvb : (n.var == t) = false := beq_eq_false_iff_ne.2 hv
      clear h hx hg
      go_enter Tryz.func151, Tryz.ntmps151
      go_wp2_with fail
      refine (HGT.out).mono ?_
      rintro e w1 ⟨rfl, hb⟩
      go_wp2
      go_ret2
      exact ⟨by rw [HA.out, HA.out]; rfl, hb.alloc hb.size _⟩
end
end Go.Proofs.YtdlcldhnbhlikaaGreatDoor
