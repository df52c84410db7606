/-
  A store's steps, as they are called; the least sets.
-/
import Derived.Test.YtfbhmkpihmcegaaFamJn
namespace Go.Proofs.Ytfbhmkpihmcegaa
open Go.RowKit Go.Maps

open Classical in
/-- Those sets of which no other one is a part. -/
noncomputable def leastG (F : Nat → Bool) (s : Nat) : Bool := F s && decide (∀ t, F t = true → subN t s = true → t = s)
theorem leastG_iff {F : Nat → Bool} {s : Nat} : leastG F s = true ↔ F s = true ∧ ∀ t, F t = true → subN t s = true → t = s := by
  simp [leastG]
theorem sub_le {t s : Nat} (h : subN t s = true) : t ≤ s := by
  unfold subN at h
  rw [beq_iff_eq] at h
  rw [← h]
  exact Nat.and_le_right
theorem sub_trans {a b c : Nat} (h1 : subN a b = true) (h2 : subN b c = true) : subN a c = true := subN_iff.2 fun y h => subN_iff.1 h2 y (subN_iff.1 h1 y h)
/-- Below each set there is a least one. -/
theorem least_ex (F : Nat → Bool) : ∀ (n t : Nat), t ≤ n → F t = true → ∃ u, leastG F u = true ∧ subN u t = true := by
  intro n
  induction n with
  | zero =>
    intro t ht hF
    exact ⟨t, leastG_iff.2 ⟨hF, fun u _ hs => by have := sub_le hs; omega⟩, sub_self t⟩
  | succ n ih =>
    intro t ht hF
    by_cases h : leastG F t = true
    · exact ⟨t, h, sub_self t⟩
    · have h2 : ¬ ∀ u, F u = true → subN u t = true → u = t := fun e => h (leastG_iff.2 ⟨hF, e⟩)
      have h2 : ∃ u, ¬ (F u = true → subN u t = true → u = t) := Classical.byContradiction fun e => h2 fun u => Classical.byContradiction fun e2 => e ⟨u, e2⟩
      obtain ⟨u, h2⟩ := h2
      have h3 : F u = true := Classical.byContradiction fun e => h2 fun e2 => absurd e2 e
      have h4 : subN u t = true := Classical.byContradiction fun e => h2 fun _ e2 => absurd e2 e
      have h5 : u ≠ t := fun e => h2 fun _ _ => e
      have := sub_le h4
      obtain ⟨x, h6, h7⟩ := ih u (by omega) h3
      exact ⟨x, h6, sub_trans h7 h4⟩
theorem sub_clr_not {t s v : Nat} (ht : t.testBit v = false) : subN t (clrN s v) = subN t s := by
  rw [Bool.eq_iff_iff, subN_iff, subN_iff]
  constructor
  · intro h y hy
    have := h y hy
    rw [clr_bit, Bool.and_eq_true] at this
    exact this.1
  · intro h y hy
    rw [clr_bit, h y hy]
    by_cases e : v = y
    · subst e; rw [ht] at hy; cases hy
    · simp [e]
theorem put_inj {t s v : Nat} (hs : s.testBit v = true) (h : t = clrN s v) : putN t v = s := by rw [h, put_clr hs]
/-- The least sets, thing by thing. -/
theorem least_part {F FL FH : Nat → Bool} {v : Nat} (hF : ∀ s, F s = if s.testBit v then FH (clrN s v) else FL s) (nL : ∀ t, FL t = true → t.testBit v = false) (nH : ∀ t, FH t = true → t.testBit v = false) (s : Nat) :
    leastG F s = if s.testBit v then freeG (leastG FH) (leastG FL) (clrN s v) else leastG FL s := by
  by_cases hb : s.testBit v = true
  · rw [if_pos hb, Bool.eq_iff_iff, leastG_iff, freeG_iff, leastG_iff, hF, if_pos hb]
    constructor
    · rintro ⟨h1, h2⟩
      refine ⟨⟨h1, fun t ht hs => ?_⟩, fun t ht => ?_⟩
      · have e := h2 (putN t v) (by rw [hF, if_pos (by rw [put_bit]; simp), clr_put (nH t ht)]; exact ht) (by rw [sub_clr hb, clr_put (nH t ht)]; exact hs)
        rw [← e, clr_put (nH t ht)]
      · cases hs : subN t (clrN s v) with
        | false => rfl
        | true =>
          have ht2 := (leastG_iff.1 ht).1
          rw [sub_clr_not (nL t ht2)] at hs
          have e := h2 t (by rw [hF, if_neg (by rw [nL t ht2]; simp)]; exact ht2) hs
          rw [← e, nL t ht2] at hb
          cases hb
    · rintro ⟨⟨h1, h2⟩, h3⟩
      refine ⟨h1, fun t ht hs => ?_⟩
      rw [hF] at ht
      by_cases hbt : t.testBit v = true
      · rw [if_pos hbt] at ht
        rw [sub_clr hb] at hs
        have e := h2 _ ht hs
        rw [← put_clr hbt, e, put_clr hb]
      · rw [if_neg hbt] at ht
        obtain ⟨u, hu, hs2⟩ := least_ex FL t t (Nat.le_refl _) ht
        have hu2 := (leastG_iff.1 hu).1
        have := h3 u hu
        rw [sub_clr_not (nL u hu2), sub_trans hs2 hs] at this
        cases this
  · have hb' : s.testBit v = false := by simpa using hb
    rw [if_neg hb, Bool.eq_iff_iff, leastG_iff, leastG_iff, hF, if_neg hb]
    constructor
    · rintro ⟨h1, h2⟩
      exact ⟨h1, fun t ht hs => h2 t (by rw [hF, if_neg (by rw [nL t ht]; simp)]; exact ht) hs⟩
    · rintro ⟨h1, h2⟩
      refine ⟨h1, fun t ht hs => h2 t ?_ hs⟩
      rw [hF, if_neg (by rw [sub_not hb' hs]; simp)] at ht
      exact ht
section
variable {A A1 A2 A3 A4 : Ar} {things h lo hi x y : Int} {c1 c2 c3 c4 : Nat} {t1 t2 t3 : Int} {d : Nd}
theorem least_join (hs : SpZ A things) (hg : gotA A h = some d)
    (T1 : StpZ A A1 things c1 t1 lo (leastG (fam A d.low))) (T2 : StpZ A1 A2 things c2 t2 hi (leastG (fam A1 d.high)))
    (T3 : StpZ A2 A3 things c3 t3 y (freeG (fam A2 hi) (fam A2 lo))) (T4 : StpZ A3 A4 things c4 d.var x (nodeZ A3 ⟨d.var, lo, y⟩)) : StpZ A A4 things (c1 + c2 + c3 + c4) d.var x (leastG (fam A h)) := by
  have hl := hs.wf.low _ _ hg
  have hh := hs.wf.high _ _ hg
  have hd := hs.wf.dep hg
  have htp := top_some hg
  refine ⟨T4.sp, ((T1.ext.trans T2.ext).trans T3.ext).trans T4.ext, ?_, T4.has, T4.top, fun s => ?_⟩
  · have := T1.few; have := T2.few; have := T3.few; have := T4.few; omega
  have h0 : 0 ≤ d.var := by have := (hs.wf.topR h).1; omega
  have e1 : fam A3 lo = leastG (fam A d.low) := by
    rw [T2.sp.fun_ T3.sp T3.ext (T2.ext.has T1.has), T1.sp.fun_ T2.sp T2.ext T1.has]
    exact funext T1.fam
  have e2 : fam A2 hi = leastG (fam A d.high) := by
    rw [← hs.fun_ T1.sp T1.ext hh.1]
    exact funext T2.fam
  have e3 : fam A2 lo = leastG (fam A d.low) := by
    rw [T1.sp.fun_ T2.sp T2.ext T1.has]
    exact funext T1.fam
  rw [T4.fam]
  unfold nodeZ
  simp only
  rw [T3.fam, e1, e2, e3]
  exact (least_part (F := fam A h) (FL := fam A d.low) (FH := fam A d.high) (v := d.var.toNat) (fun s => fam_some hs.wf hg) (fun t ht => fam_top hs.wf _ _ t (Nat.le_refl _) ht _ (by omega)) (fun t ht => fam_top hs.wf _ _ t (Nat.le_refl _) ht _ (by omega)) s).symm
theorem least_end (hg : gotA A h = none) (s : Nat) : leastG (fam A h) s = fam A h s := by
  rw [Bool.eq_iff_iff, leastG_iff]
  refine ⟨fun e => e.1, fun e => ⟨e, fun t ht _ => ?_⟩⟩
  rw [fam_none hg] at e ht
  simp at e ht
  rw [e.2, ht.2]
end
def lsN : Nat → Nat
  | 0 => 0
  | n + 1 => 2 * lsN n + c3N n + 1
theorem lsN_mono {a b : Nat} (h : a ≤ b) : lsN a ≤ lsN b := by
  induction h with
  | refl => exact Nat.le_refl _
  | step _ ih => show _ ≤ 2 * lsN _ + c3N _ + 1; omega
theorem ls_kids {t t1 t2 t3 : Int} (h0 : 0 ≤ t) (h1 : t < t1) (h2 : t < t2) (h3 : t < t3) : lsN (kT t1) + lsN (kT t2) + c3N (kT t3) + (if t < 3 then 1 else 0) ≤ lsN (kT t) := by
  by_cases h : t < 3
  · rw [if_pos h]
    obtain ⟨j, hj⟩ : ∃ j, kT t = j + 1 := ⟨kT t - 1, by unfold kT; omega⟩
    have e1 := lsN_mono (show kT t1 ≤ j by unfold kT at *; omega)
    have e2 := lsN_mono (show kT t2 ≤ j by unfold kT at *; omega)
    have e3 := c3N_mono (show kT t3 ≤ j by unfold kT at *; omega)
    rw [hj]
    show _ ≤ 2 * lsN j + c3N j + 1
    omega
  · rw [if_neg h, show kT t = 0 by unfold kT; omega, show kT t1 = 0 by unfold kT; omega, show kT t2 = 0 by unfold kT; omega, show kT t3 = 0 by unfold kT; omega]
    exact Nat.le_refl _
section
variable (S B gn gu gt : Nat) (things : Int) (A : Ar) (w : World)
theorem mxFree : MxOk opFree 79 80 S B gn gu gt things :=
  ⟨okFree, endsFree, fun args w => enters_of Try.func80 (by kernel_rfl) rfl args w, fun K _ hf t ih => mixFree_any K S B gn gu gt things hf t ih⟩
theorem mxJoin : MxOk opJoin 60 61 S B gn gu gt things :=
  ⟨okJoin, endsJoin, fun args w => enters_of Try.func61 (by kernel_rfl) rfl args w, fun K _ hf t ih => mixJoin_any K S B gn gu gt things hf t ih⟩
set_option maxRecDepth 100000 in
set_option maxHeartbeats 2000000 in
theorem fzLess_in (a b : Int) (h : FsM w S B gn gu gt things A) (pa : hasA A a = true) (pb : hasA A b = true) (hl : low3 A + c2N (kT (topZ A a b)) ≤ 2000) :
    Calls Try.prog 74 #[.pointer (some ⟨S, 0, none⟩), .int .i64 a, .int .i64 b] w (OpZP opLess w S B gn gu gt things A a b) := by
  have hmf : ∀ (fn : Fn) (first cap : Array Value) (w : World), (Instr.makeFunc fn first cap).run Try.prog w = .ok (.func fn first cap) w := by intros; rfl
  have hal := (Below.refl w.heap.size w).alloc (Nat.le_refl _) (.cells #[.pointer (some ⟨S, 0, none⟩)] 39)
  have HC := hide (fzWalk_any S B gn gu gt things A _ opLess 85 86 a b w.heap.size (mxLess S B gn gu gt things) (h.below hal) (Blk.new w _ _) pa pb hl)
  have HD := hide hal
  clear h hal
  go_enter Try.func74, Try.ntmps74
  go_wp2_with fail
  refine (HC.out).mono ?_
  rintro e w7 hq
  have HQ := hide (show OpZP opLess w S B gn gu gt things A a b e w7 from ZP.from_ HD.out hq)
  obtain ⟨A', x, rfl, -⟩ := hq
  go_wp2
  go_ret2
  exact HQ.out
set_option maxRecDepth 100000 in
set_option maxHeartbeats 2000000 in
theorem fzFree_in (a b : Int) (h : FsM w S B gn gu gt things A) (pa : hasA A a = true) (pb : hasA A b = true) (hl : low3 A + c3N (kT (topZ A a b)) ≤ 2000) :
    Calls Try.prog 62 #[.pointer (some ⟨S, 0, none⟩), .int .i64 a, .int .i64 b] w (OpZP opFree w S B gn gu gt things A a b) := by
  have hmf : ∀ (fn : Fn) (first cap : Array Value) (w : World), (Instr.makeFunc fn first cap).run Try.prog w = .ok (.func fn first cap) w := by intros; rfl
  have hal := (Below.refl w.heap.size w).alloc (Nat.le_refl _) (.cells #[.pointer (some ⟨S, 0, none⟩)] 39)
  have HC := hide (fzWalk_any S B gn gu gt things A _ opFree 79 80 a b w.heap.size (mxFree S B gn gu gt things) (h.below hal) (Blk.new w _ _) pa pb hl)
  have HD := hide hal
  clear h hal
  go_enter Try.func62, Try.ntmps62
  go_wp2_with fail
  refine (HC.out).mono ?_
  rintro e w7 hq
  have HQ := hide (show OpZP opFree w S B gn gu gt things A a b e w7 from ZP.from_ HD.out hq)
  obtain ⟨A', x, rfl, -⟩ := hq
  go_wp2
  go_ret2
  exact HQ.out
theorem has_call_z (x : Int) (h : FsM w S B gn gu gt things A) (p : hasA A x = true) : Calls Try.prog 20 #[.pointer (some ⟨B, 0, none⟩), .int .i64 x] w (fun e w' => e = .returned (.bool true) ∧ w = w') :=
  (arHas_any B gn gu gt A x w h.ar (h.i64 p)).mono (fun e w' ⟨e1, e2⟩ => ⟨by rw [e1, p], e2⟩)
set_option maxHeartbeats 2000000 in
theorem fzBoth_ok (a b : Int) (h : FsM w S B gn gu gt things A) (pa : hasA A a = true) (pb : hasA A b = true) :
    Calls Try.prog 59 #[.pointer (some ⟨S, 0, none⟩), .int .i64 a, .int .i64 b] w (fun e w' => e = .returned .nilIface ∧ w = w') := by
  have s0 := h.kS.cell 0
  have HA := hide (has_call_z S B gn gu gt things A w a h pa)
  have HB := hide (has_call_z S B gn gu gt things A w b h pb)
  clear h
  go_enter Try.func59, Try.ntmps59
  go_wp2_with fail
  refine (HA.out).mono ?_
  rintro e w1 ⟨rfl, rfl⟩
  go_wp2_with fail
  refine (HB.out).mono ?_
  rintro e w1 ⟨rfl, rfl⟩
  go_wp2
  go_ret
  exact ⟨rfl, rfl⟩
set_option maxRecDepth 100000 in
set_option maxHeartbeats 2000000 in
theorem fzOr_any (a b : Int) (h : FsM w S B gn gu gt things A) (pa : hasA A a = true) (pb : hasA A b = true) (hl : low3 A + c2N (kT (topZ A a b)) ≤ 2000) :
    Calls Try.prog 49 #[.pointer (some ⟨S, 0, none⟩), .int .i64 a, .int .i64 b] w (OpZP opOr w S B gn gu gt things A a b) := by
  have HB := hide (fzBoth_ok S B gn gu gt things A w a b h pa pb)
  have HC := hide (fzOr_in S B gn gu gt things A w a b h pa pb hl)
  clear h
  go_enter Try.func49, Try.ntmps49
  go_wp2_with fail
  refine (HB.out).mono ?_
  rintro e w1 ⟨rfl, rfl⟩
  go_wp2_with fail
  refine (HC.out).mono ?_
  rintro e w7 hq
  have HQ := hide hq
  obtain ⟨A', x, rfl, -⟩ := hq
  go_wp2
  go_ret2
  exact HQ.out
set_option maxRecDepth 100000 in
set_option maxHeartbeats 2000000 in
theorem fzLess_any (a b : Int) (h : FsM w S B gn gu gt things A) (pa : hasA A a = true) (pb : hasA A b = true) (hl : low3 A + c2N (kT (topZ A a b)) ≤ 2000) :
    Calls Try.prog 51 #[.pointer (some ⟨S, 0, none⟩), .int .i64 a, .int .i64 b] w (OpZP opLess w S B gn gu gt things A a b) := by
  have HB := hide (fzBoth_ok S B gn gu gt things A w a b h pa pb)
  have HC := hide (fzLess_in S B gn gu gt things A w a b h pa pb hl)
  clear h
  go_enter Try.func51, Try.ntmps51
  go_wp2_with fail
  refine (HB.out).mono ?_
  rintro e w1 ⟨rfl, rfl⟩
  go_wp2_with fail
  refine (HC.out).mono ?_
  rintro e w7 hq
  have HQ := hide hq
  obtain ⟨A', x, rfl, -⟩ := hq
  go_wp2
  go_ret2
  exact HQ.out
set_option maxRecDepth 100000 in
set_option maxHeartbeats 2000000 in
theorem fzWithout_any (a b : Int) (h : FsM w S B gn gu gt things A) (pa : hasA A a = true) (pb : hasA A b = true) (hl : low3 A + c3N (kT (topZ A a b)) ≤ 2000) :
    Calls Try.prog 52 #[.pointer (some ⟨S, 0, none⟩), .int .i64 a, .int .i64 b] w (OpZP opFree w S B gn gu gt things A a b) := by
  have HB := hide (fzBoth_ok S B gn gu gt things A w a b h pa pb)
  have HC := hide (fzFree_in S B gn gu gt things A w a b h pa pb hl)
  clear h
  go_enter Try.func52, Try.ntmps52
  go_wp2_with fail
  refine (HB.out).mono ?_
  rintro e w1 ⟨rfl, rfl⟩
  go_wp2_with fail
  refine (HC.out).mono ?_
  rintro e w7 hq
  have HQ := hide hq
  obtain ⟨A', x, rfl, -⟩ := hq
  go_wp2
  go_ret2
  exact HQ.out
set_option maxRecDepth 100000 in
set_option maxHeartbeats 2000000 in
theorem fzAnd_any (a b : Int) (h : FsM w S B gn gu gt things A) (pa : hasA A a = true) (pb : hasA A b = true) (hl : low3 A + c2N (kT (topZ A a b)) ≤ 2000) :
    Calls Try.prog 50 #[.pointer (some ⟨S, 0, none⟩), .int .i64 a, .int .i64 b] w (OpZP opAnd w S B gn gu gt things A a b) := by
  have hmf : ∀ (fn : Fn) (first cap : Array Value) (w : World), (Instr.makeFunc fn first cap).run Try.prog w = .ok (.func fn first cap) w := by intros; rfl
  have hal := (Below.refl w.heap.size w).alloc (Nat.le_refl _) (.cells #[.pointer (some ⟨S, 0, none⟩)] 39)
  have HB := hide (fzBoth_ok S B gn gu gt things A _ a b (h.below hal) pa pb)
  have HC := hide (fzWalk_any S B gn gu gt things A _ opAnd 72 73 a b w.heap.size (mxAnd S B gn gu gt things) (h.below hal) (Blk.new w _ _) pa pb hl)
  have HD := hide hal
  clear h hal
  go_enter Try.func50, Try.ntmps50
  go_wp2_with fail
  refine (HB.out).mono ?_
  rintro e w1 ⟨rfl, rfl⟩
  go_wp2_with fail
  refine (HC.out).mono ?_
  rintro e w7 hq
  have HQ := hide (show OpZP opAnd w S B gn gu gt things A a b e w7 from ZP.from_ HD.out hq)
  obtain ⟨A', x, rfl, -⟩ := hq
  go_wp2
  go_ret2
  exact HQ.out
set_option maxRecDepth 100000 in
set_option maxHeartbeats 2000000 in
theorem fzJoin_any (a b : Int) (h : FsM w S B gn gu gt things A) (pa : hasA A a = true) (pb : hasA A b = true) (hl : low3 A + c4N (kT (topZ A a b)) ≤ 2000) :
    Calls Try.prog 27 #[.pointer (some ⟨S, 0, none⟩), .int .i64 a, .int .i64 b] w (OpZP opJoin w S B gn gu gt things A a b) := by
  have hmf : ∀ (fn : Fn) (first cap : Array Value) (w : World), (Instr.makeFunc fn first cap).run Try.prog w = .ok (.func fn first cap) w := by intros; rfl
  have hal := (Below.refl w.heap.size w).alloc (Nat.le_refl _) (.cells #[.pointer (some ⟨S, 0, none⟩)] 39)
  have HB := hide (fzBoth_ok S B gn gu gt things A _ a b (h.below hal) pa pb)
  have HC := hide (fzWalk_any S B gn gu gt things A _ opJoin 60 61 a b w.heap.size (mxJoin S B gn gu gt things) (h.below hal) (Blk.new w _ _) pa pb hl)
  have HD := hide hal
  clear h hal
  go_enter Try.func27, Try.ntmps27
  go_wp2_with fail
  refine (HB.out).mono ?_
  rintro e w1 ⟨rfl, rfl⟩
  go_wp2_with fail
  refine (HC.out).mono ?_
  rintro e w7 hq
  have HQ := hide (show OpZP opJoin w S B gn gu gt things A a b e w7 from ZP.from_ HD.out hq)
  obtain ⟨A', x, rfl, -⟩ := hq
  go_wp2
  go_ret2
  exact HQ.out
end
end Go.Proofs.Ytfbhmkpihmcegaa
